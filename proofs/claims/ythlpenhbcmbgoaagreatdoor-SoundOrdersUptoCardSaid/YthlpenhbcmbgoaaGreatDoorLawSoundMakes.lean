/- LawSoundMakes: a part of the proofs about what is clipped and stored: how the program's functions run, and what they compute, for every input. -/
import Derived.Test.YthlpenhbcmbgoaaGreatDoorA56
set_option linter.all false
set_option linter.unusedVariables false
set_option maxRecDepth 20000
set_option maxHeartbeats 8000000
set_option synthInstance.maxSize 1000
namespace Go.E3
open Go Go.Ear Go.Proofs
theorem mk_lx {l : List En} (h0 : okL l = true) (hl : l.length ≤ 20) (hx : LxS l) (h5 : ∀ e ∈ l, bf e.f ≤ 5) : LxS (mkL l) ∧ (mkL l).length ≤ 20 := by
  have m := mkL_ok h0 hl
  obtain ⟨a1, a2⟩ := mk_of h0 m
  refine ⟨⟨by omega, fun x hx2 => ?_⟩, by omega⟩
  obtain ⟨⟨e, he, e2⟩, p1, p2, p3⟩ := a1 x hx2
  have hw : x.w = e.w := congrArg Prod.fst e2
  have hph : x.ph = e.ph := congrArg Prod.snd e2
  have hfe := m.2 x hx2
  have ft : FtF (frK x.f.rat) := inferInstance
  refine ⟨by rw [hw, hph]; exact (hx.2 e he).1, ?_, by rw [hfe]; exact ft.h⟩
  rw [hfe, bf_frK]
  have ht : x.f.rat = tot (mkB l) (keyE x) / totW l x.w := by
    rw [m.1.rt x hx2, tot_dvB]; rfl
  have hb1 := bq_totF (B := 5) (b := mkB l) (fun y hy => by
    obtain ⟨z, hz, rfl⟩ := List.mem_map.1 hy
    exact Nat.le_trans (bq_rat (hx.2 z hz).2.2) (h5 z hz)) (by unfold mkB; rw [List.length_map]; exact hl) (keyE x)
  have hb2 : bq (totW l x.w) ≤ 20 * (5 + 1) + 1 := by
    rw [← tot_sM]
    refine bq_totF (B := 5) (fun y hy => ?_) (by unfold sM; rw [List.length_map, List.length_take]; omega) _
    obtain ⟨e, he, rfl⟩ := List.mem_map.1 hy
    have he := List.mem_of_mem_take he
    exact Nat.le_trans (bq_rat (hx.2 e he).2.2) (h5 e he)
  rw [ht]
  have hb3 := bq_div (tot (mkB l) (keyE x)) (totW l x.w)
  omega
theorem soundMakes_c {l : List En} {S : SV} {B : List Res} [i : Vw (lv rE) S l] [hg : HG B] (ul : UpE l) : CtB Tryz.prog 12 [S] B True (bv true) := by
  refine cB1 i (ctB Tryz.call12 Tryz.func12 Tryz.ntmps12 rfl Tryz.results12 rfl [] fun h0 w0 _ => ?_)
  have hll := ul.1
  repeat first | refine nx ?_ | intro _
  refine gIf (fun c => ?_) fun c => ?_
  · repeat first | refine nx ?_ | intro _
    trivial
  · have hf : fitB l 20 = true := by simpa using c
    obtain ⟨hlx, hsm⟩ := fit_lx hf ul
    have hln := fit_len hf
    have h5 : ∀ e ∈ l, bf e.f ≤ 5 := fun e he => by
      obtain ⟨_, a, b⟩ := hsm e he
      show max (max e.f.n.length e.f.d.length) 1 ≤ 5
      omega
    have h40 : ∀ e ∈ l, bf e.f ≤ 40 := fun e he => Nat.le_trans (h5 e he) (by decide)
    have hs1 : LxS l ∧ (l.length ≤ 20 ∨ 1000 < l.length) := ⟨hlx, by omega⟩
    have hs2 : (LxS l ∧ ∀ e ∈ l, bf e.f ≤ 40) ∧ (l.length ≤ 20 ∨ 1000 < l.length) := ⟨⟨hlx, h40⟩, by omega⟩
    by_cases h0 : okL l = true
    · have hl : l.length ≤ 20 := by have := (okL_iff.1 h0).1; omega
      obtain ⟨hml, hm20⟩ := mk_lx h0 hl hlx h5
      have hms : LxS (mkL l) ∧ LxS (mkL l) := ⟨hml, hml⟩
      have hv := mk_val h0 (mkL_ok h0 hl)
      have hsb := slB_self (mkL l)
      have he : mkE l = 0 := if_pos h0
      repeat first | refine nx ?_ | intro _
      rw [he, h0]
      refine gIf (fun c => absurd c (by simp)) fun c => ?_
      repeat first | refine nx ?_ | intro _
      rw [hsb, hv]; rfl
    · have he : mkE l = 2 := if_neg h0
      have hn := mkL_no h0
      have h0 := Bool.eq_false_iff.2 h0
      repeat first | refine nx ?_ | intro _
      rw [he, h0, hn]
      refine gIf (fun c => ?_) fun c => absurd c (by simp)
      repeat first | refine nx ?_ | intro _
      rfl
end Go.E3
