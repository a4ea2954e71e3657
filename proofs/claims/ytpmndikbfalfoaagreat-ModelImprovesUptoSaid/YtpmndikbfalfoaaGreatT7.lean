/- T7: a part of the proofs about package model: how the program's functions run, and what they compute, for every input. -/
import Derived.Test.YtpmndikbfalfoaaGreatT6
import Derived.Test.YtpmndikbfalfoaaGreatPA
set_option linter.all false
set_option linter.unusedVariables false
set_option maxRecDepth 20000
namespace Go.E3
open Go Go.Ear Go.Proofs
def DsQ (l : List Rat) : Prop := (∀ i, 0 ≤ l.getD i 0) ∧ sumR l = 1
theorem dsQ_iff {l : List Rat} : distF (l.map frK) = true ↔ DsQ l := dist_K
theorem dsQ_rats {l : List Fr} (h : distF l = true) : DsQ (ratsL l) := by
  have ⟨h1, h2⟩ := dist_iff.1 h
  have e : ∀ i, (ratsL l).getD i 0 = (l.getD i fr0).rat := fun i => by
    unfold ratsL
    rw [List.getD_eq_getElem?_getD, List.getElem?_map, List.getD_eq_getElem?_getD]
    cases l[i]? with
    | none => show (0 : Rat) = fr0.rat; decide +kernel
    | some x => rfl
  refine ⟨fun i => by rw [e]; exact h1 i, ?_⟩
  rw [← h2, sumF_sum]
  unfold sumR
  rw [show (ratsL l).length = l.length from List.length_map _]
  exact sumTo_congr _ fun i _ => e i
theorem shrQ_ds {a b : List Fr} (hb : distF b = true) : DsQ (shrQ a b) := by
  unfold shrQ
  split
  · rename_i h
    unfold normE at h
    split at h
    · cases h
    · split at h
      · cases h
      · rename_i h1 h2
        exact dsQ_iff.1 (norm_dist (by simpa using h1) h2)
  · exact dsQ_rats hb
theorem chM_VK {n k : Nat} {s : List Rat} {l y : Nat → List Rat} (n1 : 1 ≤ n) (k1 : 1 ≤ k) (hs : s.length = n ∧ DsQ s) (hl : ∀ i, i < n → (l i).length = n + 1 ∧ DsQ (l i)) (hy : ∀ i, i < n → (y i).length = k ∧ DsQ (y i)) : VK n k s ((List.range n).map fun i => (l i).take n) ((List.range n).map fun i => (l i).getD n 0) ((List.range n).map y) := by
  have htk : ∀ i j, j < n → ((l i).take n).getD j 0 = (l i).getD j 0 := fun i j hj => by
    rw [List.getD_eq_getElem?_getD, List.getElem?_take, if_pos hj, List.getD_eq_getElem?_getD]
  refine ⟨n1, k1, ⟨hs.1, by simp, by simp, by simp⟩, fun i hi => ?_, ⟨fun i _ => hs.2.1 i, hs.2.2⟩, fun i hi => ?_, fun i hi => ?_⟩
  · rw [range_getD _ _ hi, range_getD _ _ hi]
    exact ⟨by rw [List.length_take, (hl i hi).1]; omega, (hy i hi).1⟩
  · rw [range_getD _ _ hi, range_getD _ _ hi]
    have ⟨h1, h2, h3⟩ := hl i hi
    refine ⟨fun j hj => by rw [htk i j hj]; exact h2 j, h2 n, ?_⟩
    rw [← h3]
    unfold sumR
    rw [h1, sumTo_succ, List.length_take, h1, Nat.min_eq_left (Nat.le_succ n)]
    congr 1
    exact sumTo_congr _ fun j hj => htk i j hj
  · rw [range_getD _ _ hi]
    exact (hy i hi).2
@[reducible] def cMd' (c : CtF) : Md := ⟨c.start, c.move, c.fin, c.say⟩
theorem shrQ_bq {a b : List Fr} (fa : FtS a) (fb : FtS b) (i : Nat) : bq ((shrQ a b).getD i 0) ≤ 2 * wts a + wts b + 4 := by
  have h0 : bq (0 : Rat) = 1 := bq_zero
  unfold shrQ
  split
  · unfold normF
    split
    · show bq (0 : Rat) ≤ _; omega
    · rw [List.getD_eq_getElem?_getD, List.getElem?_map]
      cases hi : a[i]? with
      | none => show bq (0 : Rat) ≤ _; omega
      | some x =>
        show bq (x.rat * (sumF a)⁻¹) ≤ _
        have hx : a.getD i fr0 = x := by rw [List.getD_eq_getElem?_getD, hi]; rfl
        have h1 := bf_getD a i
        have h2 := fa.bqg i
        rw [hx] at h1 h2
        have h3 := bq_mul x.rat (sumF a)⁻¹
        have h4 := bq_inv' (sumF a)
        have h5 : bq (sumF a) ≤ 1 + wts a := by rw [← bq_zero]; exact bq_foldA a 0 fa.bq
        omega
  · unfold ratsL
    rw [List.getD_eq_getElem?_getD, List.getElem?_map]
    cases hi : b[i]? with
    | none => show bq (0 : Rat) ≤ _; omega
    | some x =>
      show bq x.rat ≤ _
      have hx : b.getD i fr0 = x := by rw [List.getD_eq_getElem?_getD, hi]; rfl
      have h1 := bf_getD b i
      have h2 := fb.bqg i
      rw [hx] at h1 h2
      omega
theorem chM_W {n W : Nat} {s : List Rat} {l y : Nat → List Rat} (hW : 1 ≤ W) (hs : ∀ i, bq (s.getD i 0) ≤ W) (hl : ∀ i j, i < n → bq ((l i).getD j 0) ≤ W) (hy : ∀ i j, i < n → bq ((y i).getD j 0) ≤ W) : MdW W (chM n s l y) := by
  have h0 : bq (0 : Rat) = 1 := bq_zero
  refine mdK_W hs (fun i j => ?_) (fun i => ?_) fun i j => ?_
  · by_cases hi : i < n
    · rw [range_getD _ _ hi, List.getD_eq_getElem?_getD, List.getElem?_take]
      split
      · rw [← List.getD_eq_getElem?_getD]; exact hl i j hi
      · show bq (0 : Rat) ≤ _; omega
    · have e : ∀ f : Nat → List Rat, ((List.range n).map f).getD i [] = [] := fun f => by rw [List.getD_eq_getElem?_getD, List.getElem?_eq_none (by simp; omega)]; rfl
      rw [e]
      show bq (0 : Rat) ≤ _; omega
  · by_cases hi : i < n
    · rw [range_getD _ _ hi]; exact hl i n hi
    · rw [List.getD_eq_getElem?_getD, List.getElem?_eq_none (by simp; omega)]
      show bq (0 : Rat) ≤ _; omega
  · by_cases hi : i < n
    · rw [range_getD _ _ hi]; exact hy i j hi
    · have e : ∀ f : Nat → List Rat, ((List.range n).map f).getD i [] = [] := fun f => by rw [List.getD_eq_getElem?_getD, List.getElem?_eq_none (by simp; omega)]; rfl
      rw [e]
      show bq (0 : Rat) ≤ _; omega
theorem RwM.of {K : Nat} {m : Md} (hv : validM m = true) (hl : longM m = false) (hb : MdB K m) : RwM K m := by
  have h1 := valid_len hv
  have h40 : m.start.length ≤ 40 := by
    unfold longM at hl
    simp only [Bool.or_eq_false_iff, decide_eq_false_iff_not] at hl; omega
  refine ⟨⟨by omega, h40⟩, ⟨by omega, by omega, by omega⟩, hb.start, hb.fin, fun i hi => ?_, fun i hi => ?_⟩
  · have := valid_row hv hi; exact ⟨this.1, wts_getD hb.move i⟩
  · have := valid_row hv hi; exact ⟨by omega, wts_getD hb.say i⟩
section
variable {m : Md} {c : CtF} {d : Int}
theorem ree_ok {K : Nat} (ft : FtM m) (fc : FtC c) (hv : validM m = true) (hl : longM m = false) (r : RwM K m) (q : RwC K m c) : VK m.start.length (symb m) (shrQ c.start m.start) ((List.range m.start.length).map fun i => (shrQ (lvC c i) (lvM m i)).take m.start.length) ((List.range m.start.length).map fun i => (shrQ (lvC c i) (lvM m i)).getD m.start.length 0) ((List.range m.start.length).map fun i => shrQ (c.say.getD i []) (m.say.getD i [])) ∧ MdW (6 * K + 20) (reeM m c) := by
  have hd : distF m.start = true := (validM_iff.1 hv).2.1
  have h1 := r.n.1
  have hk : 1 ≤ symb m := (valid_row hv (show 0 < m.start.length by omega)).2.2.1
  refine ⟨chM_VK h1 hk ⟨shrQ_len q.l.1 rfl, shrQ_ds hd⟩ (fun i hi => ?_) (fun i hi => ?_), chM_W (by omega) (fun i => ?_) (fun i j hi => ?_) fun i j hi => ?_⟩
  · have hr := valid_row hv hi
    exact ⟨shrQ_len (q.lv hi).1 (r.lv hi).1, shrQ_ds hr.2.2.2.1⟩
  · have hr := valid_row hv hi
    exact ⟨shrQ_len ((q.y i hi).1.trans hr.2.1) hr.2.1, shrQ_ds hr.2.2.2.2⟩
  · have := shrQ_bq (a := c.start) (b := m.start) fc.h.1 ft.h.1 i
    have := q.s; have := r.s; omega
  · have := shrQ_bq (a := lvC c i) (b := lvM m i) inferInstance inferInstance j
    have := (q.lv hi).2.1; have := (r.lv hi).2; omega
  · have := shrQ_bq (a := c.say.getD i []) (b := m.say.getD i []) inferInstance inferInstance j
    have := (q.y i hi).2; have := (r.y i hi).2; omega
end
theorem RwC.weak {K K' : Nat} {m : Md} {c : CtF} (r : RwC K m c) (h : K ≤ K') : RwC K' m c := ⟨r.l, Nat.le_trans r.s h, Nat.le_trans r.f h, fun i hi => ⟨(r.mv i hi).1, Nat.le_trans (r.mv i hi).2 h⟩, fun i hi => ⟨(r.y i hi).1, Nat.le_trans (r.y i hi).2 h⟩⟩
theorem _root_.Go.Ear.VK.all {n k W : Nat} {S : List Rat} {M : List (List Rat)} {E : List Rat} {Y : List (List Rat)} (v : VK n k S M E Y) (w : MdW W (Go.Ear.mdK S M E Y)) (hn : n ≤ 40) (hk : k ≤ 64) (hW : (W + 1) * 70 ≤ 10000000) : MdB 10000000 (Go.Ear.mdK S M E Y) ∧ MdC (Go.Ear.mdK S M E Y) ∧ checkE [Go.Ear.mdK S M E Y] [] = 0 := by
  have h1 := v.B (by omega) (by omega) w hW
  refine ⟨h1, ⟨h1.weak (by decide), ?_⟩, checkE_nil (fun m hm => by rw [List.mem_singleton.1 hm]; exact v.valid) fun m hm => by rw [List.mem_singleton.1 hm]; exact v.long hn hk⟩
  have e1 : (Go.Ear.mdK S M E Y).move.length = n := by show (M.map _).length = n; rw [List.length_map]; exact v.l.2.1
  have e2 : (Go.Ear.mdK S M E Y).say.length = n := by show (Y.map _).length = n; rw [List.length_map]; exact v.l.2.2.2
  rw [e1, e2]; omega
end Go.E3
