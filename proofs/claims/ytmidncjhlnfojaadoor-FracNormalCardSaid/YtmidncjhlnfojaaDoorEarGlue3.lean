/- About package frac: EarGlue3. -/
import Derived.Test.YtmidncjhlnfojaaDoorEarGlue2
import Derived.Test.YtmidncjhlnfojaaDoorEarFrac
set_option linter.all false
set_option linter.unusedSimpArgs false
namespace Go.Ear
open Go.ChangeShapes Go.WideShapes Go.RowKit Go.Joins Go.Deep Go.ChangeAt Go.Proofs
set_option maxRecDepth 100000
section
variable {H : Type} {enc : TypeId × Value → H} {P : Program}
theorem openCellsF {t ts e tb : TypeId} {f0 f1 f2 : Field} {W : World} {n : Nat} {cs : List Value} {x : DataW H × List MemPlace} (hs : P.underlying t = some (.struct #[f0, f1, f2])) (hone : oneCellFields P #[f0, f1, f2] = true) (hC : P.cellsOf t = 3)
    (h0 : f0.type = tb) (h1 : f1.type = ts) (h2 : f2.type = ts) (hb : P.underlying tb = some .bool) (ht : P.underlying ts = some (.slice e)) (he : P.underlying e = some (.int .u32)) (hc : P.cellsOf e = 1)
    (h : DataW.trod enc P W 0 (fun _ => true) true n t cs = some x) : ∃ f, cs.length = 3 ∧ F (PHof W) (.agg cs.toArray) f := by
  obtain ⟨y0, y1, y2, m, _, hl, g0, g1, g2⟩ := trod_struct3 hs h
  obtain ⟨o0, k0⟩ := hone_of hone 0 f0 rfl
  obtain ⟨o1, k1⟩ := hone_of hone 1 f1 rfl
  obtain ⟨o2, k2⟩ := hone_of hone 2 f2 rfl
  rw [hC] at hl
  match cs, hl with
  | [c0, c1, c2], _ =>
    rw [o0, k0] at g0; rw [o1, k1] at g1; rw [o2, k2] at g2
    rw [h0] at g0; rw [h1] at g1; rw [h2] at g2
    obtain ⟨s, e0, _⟩ := DataW.trod_bool hb g0
    cases e0
    obtain ⟨l1, u1⟩ := openU ht he hc g1
    obtain ⟨l2, u2⟩ := openU ht he hc g2
    exact ⟨⟨s, l1, l2⟩, rfl, c1, c2, rfl, u1, u2⟩
theorem openL {t t1 ts e tb : TypeId} {f0 f1 f2 : Field} {W : World} {fuel : Nat} {v : Value} {x : DataW H × List MemPlace} (htl : P.underlying t = some (.slice t1)) (hs : P.underlying t1 = some (.struct #[f0, f1, f2])) (hone : oneCellFields P #[f0, f1, f2] = true) (hC : P.cellsOf t1 = 3)
    (h0 : f0.type = tb) (h1 : f1.type = ts) (h2 : f2.type = ts) (hb : P.underlying tb = some .bool) (ht : P.underlying ts = some (.slice e)) (he : P.underlying e = some (.int .u32)) (hc : P.cellsOf e = 1)
    (h : DataW.trod enc P W 0 (fun _ => true) true fuel t [v] = some x) : ∃ l, LR rpF (PHof W) v l := by
  rcases open_slice htl h with ⟨hcs, _⟩ | ⟨a, len, cap, m, n, D, Pl, hcs, _, hlc, _, hm, _, hx⟩
  · cases hcs
    exact ⟨[], LR.nil rpF _ _ _⟩
  · cases hcs
    simp only [if_true] at hm
    subst hm
    rw [hC] at hx
    have hx' : ∀ i, ∃ (cs : List Value) (f : Fr), i < len → W.cells? 0 (a.add (i * 3)) 3 = some cs ∧ cs.length = 3 ∧ F (PHof W) (.agg cs.toArray) f := fun i => by
      by_cases hi : i < len
      · obtain ⟨cs, g1, g2⟩ := hx i (by omega)
        obtain ⟨f, g3, g4⟩ := openCellsF hs hone hC h0 h1 h2 hb ht he hc g2
        exact ⟨cs, f, fun _ => ⟨g1, g3, g4⟩⟩
      · exact ⟨[], fr0, fun h => absurd h hi⟩
    obtain ⟨css, hx2⟩ := Classical.axiomOfChoice hx'
    obtain ⟨fs, hx3⟩ := Classical.axiomOfChoice hx2
    have hrows : ∀ (is : List Nat), (∀ i ∈ is, i < len) → Rows rpF (PHof W) (is.map css) (is.map fs) := by
      intro is
      induction is with
      | nil => intro _; trivial
      | cons i is ih => intro hi; exact ⟨(hx3 i (hi i (by simp))).2.2, ih fun j hj => hi j (by simp [hj])⟩
    refine ⟨(List.range len).map fs, (List.range len).map css, ?_, hrows _ fun i hi => by simpa using hi⟩
    have hlen : ((List.range len).map css).length = len := by simp
    refine ⟨some a, m, by rw [hlen], by rw [hlen]; exact hlc, ?_, ?_⟩
    · intro cs hcs
      obtain ⟨i, hi, rfl⟩ := List.mem_map.1 hcs
      exact (hx3 i (by simpa using hi)).2.1
    · by_cases hz : len = 0
      · left; subst hz; rfl
      · right
        have c0 := (World.cells?_some (hx3 0 (by omega)).1).2.2
        obtain ⟨b, off, sp⟩ := a
        have l0 := (hx3 0 (by omega)).2.1
        have c00 := c0 0 (by omega)
        rw [show 0 * 3 = 0 from rfl, show ((⟨b, off, sp⟩ : Addr).add 0).add 0 = ⟨b, off, sp⟩ from rfl] at c00
        rw [List.getElem?_eq_getElem (show 0 < (css 0).length by omega)] at c00
        have hbk : ∃ arr e fz, W.heap[b]? = some (.cells arr e fz) := by
          unfold World.cell? at c00
          rw [show (⟨b, off, sp⟩ : Addr).block = b from rfl] at c00
          cases hb : W.heap[b]? with
          | none => rw [hb] at c00; cases c00
          | some o =>
            cases o with
            | cells arr e fz => exact ⟨_, _, _, rfl⟩
            | _ => rw [hb] at c00; cases c00
        obtain ⟨arr, e', fz, hb⟩ := hbk
        have hsp : sp = none := by
          cases sp with
          | none => rfl
          | some y =>
            exfalso
            unfold World.cell? at c00
            rw [show (⟨b, off, some y⟩ : Addr).block = b from rfl, hb] at c00
            exact absurd c00 (by simp)
        subst hsp
        have hcl : ∀ i j, i < len → j < 3 → arr[off + i * 3 + j]? = (css i)[j]? := fun i j hi hj => by
          have h9 := (World.cells?_some (hx3 i hi).1).2.2 j hj
          rw [addr_add, addr_add] at h9
          unfold World.cell? at h9
          rw [show (⟨b, off + i * 3 + j, none⟩ : Addr).block = b from rfl, hb] at h9
          simpa using h9
        refine ⟨b, off, arr, e', fz, rfl, hb, ?_, ?_⟩
        · rw [hlen]
          have h9 := hcl (len - 1) 2 (by omega) (by omega)
          have h8 := (hx3 (len - 1) (by omega)).2.1
          rw [List.getElem?_eq_getElem (show 2 < (css (len - 1)).length by omega)] at h9
          have := (Array.getElem?_eq_some_iff.1 h9).1
          show off + len * 3 ≤ _
          omega
        · intro i cs hcs
          have hi : i < len := by have := (List.getElem?_eq_some_iff.1 hcs).1; simpa using this
          have hcs' : css i = cs := by
            rw [List.getElem?_map, List.getElem?_eq_getElem (by simpa using hi)] at hcs
            simpa using hcs
          subst hcs'
          have h8 := (hx3 i hi).2.1
          show cut arr (off + i * 3) 3 = css i
          apply List.ext_getElem?
          intro j
          unfold cut
          rw [List.getElem?_take]
          split
          · rename_i hj
            rw [List.getElem?_drop, ← hcl i j hi hj]; simp
          · rw [List.getElem?_eq_none (by omega)]
end
open Go.Proofs.YtmidncjhlnfojaaDoor in
theorem openList {H : Type} {enc : TypeId × Value → H} {r : Reach} {b0 : Nat} {v : Value} {d : DataW H} {p : List MemPlace} {W : World}
    (hv : Value.okWide Tryd.prog W r b0 50 v) (h : DataW.Trod enc Tryd.prog W 0 (fun _ => true) true 50 v d p) : ∃ l, LR rpF (PHof W) v l := by
  obtain ⟨a0, len, cap, rfl⟩ := okWide_slice Tryd.underlying50 hv
  obtain ⟨fuel, hf⟩ := h
  exact openL Tryd.underlying50 Tryd.underlying24 (by kernel_rfl) cells24 rfl rfl rfl Tryd.underlying4 Tryd.underlying22 Tryd.underlying51 cells51 hf
end Go.Ear
