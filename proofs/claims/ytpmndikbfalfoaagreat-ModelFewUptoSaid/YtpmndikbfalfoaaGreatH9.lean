/- H9: a part of the proofs about package model: how the program's functions run, and what they compute, for every input. -/
import Derived.Test.YtpmndikbfalfoaaGreatH8
set_option linter.all false
set_option linter.unusedVariables false
set_option maxRecDepth 20000
set_option maxHeartbeats 8000000
set_option synthInstance.maxSize 1000
namespace Go.E3
open Go Go.Ear Go.Proofs
section
variable {m : Md} {o : List Int} {S T : SV}
instance rlast_c {f : List (List Rat)} {U : SV} [i : VM S m] [j : Vw kkR U f] : Ct Tryz.prog 108 [S, U] (f.length ≤ 1048576 ∧ m.start.length ≤ 40 ∧ m.start.length ≤ m.fin.length ∧ MdB 100000 m ∧ MdW 5000 m ∧ (0 < f.length → m.start.length ≤ (f.getD (f.length - 1) []).length) ∧ ∀ i, bq ((f.getD (f.length - 1) []).getD i 0) ≤ 300000) (kk (likT ⟨m, []⟩ f)) := by
  haveI := i.t
  refine ct2 i.v j (ctI Tryz.call108 Tryz.func108 Tryz.ntmps108 rfl Tryz.results108 rfl [] fun h0 w0 ⟨h1, h2, h3, hb, hw, h4, h5⟩ => ?_)
  have hm : (f.map (·.map frK)).length = f.length := List.length_map _
  repeat first | refine nx ?_ | intro _
  rw [hm]
  refine gIf (fun c => ?_) fun c => ?_
  · repeat first | refine nx ?_ | intro _
    unfold likT; rw [if_pos c, frK_zero]; (repeat' (first | refine And.intro ?_ ?_ | trivial | rfl | omega))
  have hl := h4 (Nat.pos_of_ne_zero c)
  rw [← len_KR] at hl
  have hl2 : m.start.length ≤ ((f.map (·.map frK)).getD ((f.map (·.map frK)).length - 1) []).length := by rw [hm]; exact hl
  repeat first | refine nx ?_ | intro _
  rename_i v4 v5
  refine gLp (fun i : Nat => [(6, iv i)]) (fun i => [rV v5 [bv (frK (sumTo (fun i => (f.getD (f.length - 1) []).getD i 0 * (m.fin.getD i fr0).rat) i)).neg, lv rU (frK (sumTo (fun i => (f.getD (f.length - 1) []).getD i 0 * (m.fin.getD i fr0).rat) i)).n, lv rU (frK (sumTo (fun i => (f.getD (f.length - 1) []).getD i 0 * (m.fin.getD i fr0).rat) i)).d] 31]) (fun i => i ≤ m.start.length ∧ bq (sumTo (fun i => (f.getD (f.length - 1) []).getD i 0 * (m.fin.getD i fr0).rat) i) ≤ 1 + i * 305001) (fun i => m.start.length - i) 0 ⟨Nat.zero_le _, by show bq 0 ≤ _; rw [bq_zero]; decide⟩ (fun i ⟨hi, hq⟩ => ?_) (h2 := by rw [show ∀ f : Nat → Rat, sumTo f 0 = 0 from fun _ => rfl, frK_zero]; (repeat' (first | refine And.intro ?_ ?_ | trivial | rfl | omega)))
  repeat first | refine nx ?_ | intro _
  refine gIf (fun c1 => ?_) fun c1 => ?_
  · have h6 := h5 i
    have h7 := hb.fb i
    have h8 : bq ((f.getD (f.length - 1) []).getD i 0 * (m.fin.getD i fr0).rat) ≤ 305000 := Nat.le_trans (bq_mul _ _) (Nat.add_le_add h6 (hw.fi i))
    have h9 : bq (sumTo (fun i => (f.getD (f.length - 1) []).getD i 0 * (m.fin.getD i fr0).rat) (i + 1)) ≤ 1 + (i + 1) * 305001 := by
      have := bq_add (sumTo (fun i => (f.getD (f.length - 1) []).getD i 0 * (m.fin.getD i fr0).rat) i) ((f.getD (f.length - 1) []).getD i 0 * (m.fin.getD i fr0).rat)
      rw [sumTo_succ]; omega
    have h6' : bq ((f.getD ((f.map (·.map frK)).length - 1) []).getD i 0) ≤ 300000 := by rw [hm]; exact h6
    have h8' : bq ((f.getD ((f.map (·.map frK)).length - 1) []).getD i 0 * (m.fin.getD i fr0).rat) ≤ 305000 := by rw [hm]; exact h8
    repeat first | refine nx ?_ | intro _
    rw [hm]
    exact gBk (i + 1) ⟨by omega, h9⟩ (by omega)
  · have ei : i = m.start.length := by omega
    subst ei
    repeat first | refine nx ?_ | intro _
    unfold likT; rw [if_neg c]; (repeat' (first | refine And.intro ?_ ?_ | trivial | rfl | omega))
theorem rfw_fwd {t : Tr} {keep : Int} (h : (t.m.start.length : Int) ≤ keep) : ∀ k, rfw t keep k = fwd t k
  | 0 => by
    rw [rfw, keptR_all (by simpa using h)]; rfl
  | k + 1 => by
    rw [rfw, keptR_all (by simpa using h), fwd, rfw_fwd h k]
    refine List.map_congr_left fun i _ => Rat.mul_comm _ _
theorem rfwN_fwd {t : Tr} {keep : Int} (h : (t.m.start.length : Int) ≤ keep) : rfwN t keep t.o.length = fwdAll t := by
  unfold rfwN fwdAll
  exact List.map_congr_left fun k _ => rfw_fwd h k
theorem RfB.of {t : Tr} {keep : Int} {S W N : Nat} (h : MdW W t.m) (hs : t.m.start.length ≤ S) (hW : 1 ≤ W) (hS : 1 ≤ S) (hn : t.o.length ≤ N + 1) (hb : fB S W N ≤ 300000) : RfB t keep := by
  have key : ∀ k i, bq ((rawF t keep k).getD i 0) ≤ fB S W k := by
    intro k
    induction k with
    | zero =>
      intro i
      by_cases hi : i < t.m.start.length
      · rw [rawF, range_getD _ _ hi, rawI, if_pos rfl]
        have := bq_mul (t.m.start.getD i fr0).rat (sayT t i 0); have := h.st i; have h2 : bq (sayT t i 0) ≤ W := h.sy i (t.o.getD 0 0).toNat
        show _ ≤ 2 * W; omega
      · rw [out_bq (by rw [rawF_len]; omega)]; show 1 ≤ 2 * W; omega
    | succ k ih =>
      intro i
      by_cases hi : i < t.m.start.length
      · rw [rawF, range_getD _ _ hi, rawI, if_neg (by omega)]
        have h1 := bq_mul (sumTo (fun j => (rfw t keep (k + 1 - 1)).getD j 0 * moveT t j i) t.m.start.length) (sayT t i (k + 1))
        have h2 : bq (sayT t i (k + 1)) ≤ W := h.sy i (t.o.getD (k + 1) 0).toNat
        have hB : 1 ≤ fB S W k := by cases k <;> (unfold fB; omega)
        have h3 := bq_sumTo (q := fun j => (rfw t keep (k + 1 - 1)).getD j 0 * moveT t j i) (B := fB S W k + W) t.m.start.length fun j _ => by
          have h5 : bq ((rfw t keep k).getD j 0) ≤ fB S W k := by rw [rfw_raw]; exact keptR_bq hB ih j
          have h6 : bq (moveT t j i) ≤ W := h.mv j i
          exact Nat.le_trans (bq_mul _ _) (Nat.add_le_add h5 h6)
        have h4 := Nat.mul_le_mul_right (fB S W k + W + 1) hs
        show _ ≤ W + (1 + S * (fB S W k + W + 1))
        omega
      · rw [out_bq (by rw [rawF_len]; omega)]; show 1 ≤ W + _; omega
  exact fun k i hk => Nat.le_trans (key k i) (Nat.le_trans (fB_mono hS (by omega)) hb)
instance rLik_c [i : VM S m] [j : Vw (lv rI) T o] : Ct Tryz.prog 44 [S, T] (TOk ⟨m, o⟩ ∧ MdB 100000 m ∧ MdW 100 m ∧ RfB ⟨m, o⟩ (m.start.length : Int) ∧ FwB ⟨m, o⟩) (kk (lk ⟨m, o⟩)) := by
  haveI := i.t
  refine ct2 i.v j (ctI Tryz.call44 Tryz.func44 Tryz.ntmps44 rfl Tryz.results44 rfl [] fun h0 w0 ⟨tk, hb, hw, hf, hfw⟩ => ?_)
  have hw5 : MdW 5000 m := MdW.up hw (by decide)
  have hn := tk.n
  have h40 := tk.s40
  have hfn := ge_of tk.fin
  dsimp only at hn h40 hfn
  have hr : rfwN ⟨m, o⟩ (m.start.length : Int) o.length = fwdAll ⟨m, o⟩ := rfwN_fwd (t := ⟨m, o⟩) (Int.le_refl _)
  have hl : (rfwN ⟨m, o⟩ (m.start.length : Int) o.length).length ≤ 1048576 ∧ m.start.length ≤ 40 ∧ m.start.length ≤ m.fin.length ∧ MdB 100000 m ∧ MdW 5000 m ∧ (0 < (rfwN ⟨m, o⟩ (m.start.length : Int) o.length).length → m.start.length ≤ ((rfwN ⟨m, o⟩ (m.start.length : Int) o.length).getD ((rfwN ⟨m, o⟩ (m.start.length : Int) o.length).length - 1) []).length) ∧ ∀ i, bq (((rfwN ⟨m, o⟩ (m.start.length : Int) o.length).getD ((rfwN ⟨m, o⟩ (m.start.length : Int) o.length).length - 1) []).getD i 0) ≤ 300000 := by
    rw [hr, fwdAll_len]
    exact ⟨by show o.length ≤ _; omega, by omega, hfn, hb, hw5, fun h => by rw [fwdRow_len (t := ⟨m, o⟩) (by show o.length - 1 < o.length; have : 0 < o.length := h; omega)]; exact Nat.le_refl _, fun i => hfw.all _ i⟩
  repeat first | refine nx ?_ | intro _
  rw [hr]; (repeat' (first | refine And.intro ?_ ?_ | trivial | rfl | omega))
end
end Go.E3
