/- LawTopStored: a part of the proofs about what is clipped and stored: how the program's functions run, and what they compute, for every input. -/
import Derived.Test.YtabmlonaohfncaaDoorV12
set_option linter.all false
set_option linter.unusedVariables false
set_option maxRecDepth 20000
set_option maxHeartbeats 8000000
set_option synthInstance.maxSize 1000
namespace Go.E3
open Go Go.Ear Go.Proofs
theorem exV_bd {l : List Int} {r : Rcp} (ok : r.Ok) (h1 : l.length ≤ 300) (h4 : bdL 32768 l) : (exV l r).length ≤ 1000 ∧ ∀ x ∈ exV l r, x.length ≤ 1000 := by
  have hvok := vs0_ok ok h1 h4
  obtain ⟨n, K, hv⟩ : ∃ n K, VsOk n K (difV r (vs0 l r)) := dif_ok hvok (by
    have he := ok.edges.2
    have hc := ok.cep
    have hp := padI_bd (m := (r.edges.length : Int) - 1) (by omega)
    unfold vn; split <;> omega) (by omega)
  have hl := hv.l
  have hn := hv.hn
  have hx : ∀ x ∈ difV r (vs0 l r), x.length ≤ 1000 := fun x hx => by
    obtain ⟨t, ht, rfl⟩ := List.getElem_of_mem hx
    have := hv.at_ t ht
    rw [List.getD_eq_getElem?_getD, List.getElem?_eq_getElem ht] at this
    have : (difV r (vs0 l r))[t].length = n := this
    omega
  unfold exV cenV
  generalize difV r (vs0 l r) = V at *
  split
  · refine ⟨by unfold cenL; rw [List.length_map]; exact hl, fun x hm => ?_⟩
    unfold cenL at hm
    obtain ⟨y, hy, rfl⟩ := List.mem_map.1 hm
    rw [cmL_len]; exact hx y hy
  · exact ⟨hl, hx⟩
theorem topStored_c {rate : Int} {l : List Int} {g : Gt} {r : Rcp} {B : List Res} [hg : HG B] : CtB Tryd.prog 4 [rcv rate l, gtv g, rcpv r] B True (bv true) := by
  refine (ctB Tryd.call4 Tryd.func4 Tryd.ntmps4 rfl Tryd.results4 rfl [] fun h0 w0 _ => ?_)
  repeat first | refine nx ?_ | intro _
  refine gIf (fun c => ?_) fun c => ?_
  · repeat first | refine nx ?_ | intro _
    trivial
  have he : recE rate l = 0 := Classical.byContradiction fun h => c (.inr h)
  have hl : l.length ≤ 300 := by omega
  have hed : r.edges.length ≤ 40 := by omega
  obtain ⟨hr, hany⟩ := recE_any he
  have hf := packF hr hl
  haveI := unpack_b hf he hl hr
  have hsl := sgL_len (g := g) hl
  have hex : (if recE rate l = 0 ∧ r.Ok then exV l r else []).length ≤ 1000 ∧ ∀ x ∈ (if recE rate l = 0 ∧ r.Ok then exV l r else []), x.length ≤ 1099511627776 := by
    by_cases ok : r.Ok
    · rw [if_pos ⟨he, ok⟩]
      have := exV_bd ok hl (recE_bd he).2
      exact ⟨this.1, fun x hx => by have := this.2 x hx; omega⟩
    · rw [if_neg fun h => ok h.2]; simp
  obtain ⟨hex1, hex2⟩ := hex
  repeat first | refine nx ?_ | intro _
  refine gIf (fun c => absurd c (by simp)) fun c => ?_
  repeat first | refine nx ?_ | intro _
  simp
end Go.E3
