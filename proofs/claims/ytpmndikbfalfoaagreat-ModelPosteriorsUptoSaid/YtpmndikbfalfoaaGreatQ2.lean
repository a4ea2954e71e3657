/- Q2: a part of the proofs about package model: how the program's functions run, and what they compute, for every input. -/
import Derived.Test.YtpmndikbfalfoaaGreatQ1
import Derived.Test.YtpmndikbfalfoaaGreatH12
set_option linter.all false
set_option linter.unusedVariables false
set_option maxRecDepth 20000
set_option maxHeartbeats 16000000
set_option synthInstance.maxSize 1000
namespace Go.E3
open Go Go.Ear Go.Proofs
theorem gZlO {P : Program} {n : Nat} {X : Fix} {ms : List Nat} {loc env : EL} {B : List Res} {ol rest : List Oper} {k : Kt} {α : Type} {r : Rp α} {e : TypeId} {ls : List (List α)} (vs : List Value) [hz : HZ B vs α r e ls] (g : vs.length = ls.length → GO P n X ms loc env B ol rest k) : GO P n X ms loc env B ol rest k := ⟨fun q ρ h w s => (g (hz.h s.ow).1).p q ρ h w s⟩
section
variable {m : Md} {o : List Int} {S T : SV}
instance (priority := 20000) rlast_b {f : List (List Rat)} {v : Value} {vs : List Value} {B : List Res} [i : VM S m] [ha : HA B v Value rW 22 vs] [hz : HZ B vs Fr rF 31 (f.map (·.map frK))] : CtB Tryz.prog 108 [S, ov v] B (vs.length = f.length ∧ f.length ≤ 1048576 ∧ m.start.length ≤ 40 ∧ m.start.length ≤ m.fin.length ∧ MdB 100000 m ∧ MdW 100 m ∧ (0 < f.length → m.start.length ≤ (f.getD (f.length - 1) []).length) ∧ ∀ i, bq ((f.getD (f.length - 1) []).getD i 0) ≤ 300000) (kk (likT ⟨m, []⟩ f)) := by
  haveI := i.t
  refine cB1 i.v (ctB Tryz.call108 Tryz.func108 Tryz.ntmps108 rfl Tryz.results108 rfl [] fun h0 w0 ⟨hvl, h1, h2, h3, hb, hw, h4, h5⟩ => ?_)
  have hm : (f.map (·.map frK)).length = f.length := List.length_map _
  repeat first | refine nx ?_ | intro _
  rw [hvl]
  refine gIf (fun c => ?_) fun c => ?_
  · repeat first | refine nx ?_ | intro _
    unfold likT; rw [if_pos c, frK_zero]; (repeat' (first | refine And.intro ?_ ?_ | trivial | rfl | omega))
  have hl := h4 (Nat.pos_of_ne_zero c)
  rw [← len_KR] at hl
  repeat first | refine nx ?_ | intro _
  rename_i v4 v5
  refine gLp (fun i : Nat => [(6, iv i)]) (fun i => [rV v5 [bv (frK (sumTo (fun i => (f.getD (f.length - 1) []).getD i 0 * (m.fin.getD i fr0).rat) i)).neg, lv rU (frK (sumTo (fun i => (f.getD (f.length - 1) []).getD i 0 * (m.fin.getD i fr0).rat) i)).n, lv rU (frK (sumTo (fun i => (f.getD (f.length - 1) []).getD i 0 * (m.fin.getD i fr0).rat) i)).d] 31]) (fun i => i ≤ m.start.length ∧ bq (sumTo (fun i => (f.getD (f.length - 1) []).getD i 0 * (m.fin.getD i fr0).rat) i) ≤ 1 + i * 300101) (fun i => m.start.length - i) 0 ⟨Nat.zero_le _, by show bq 0 ≤ _; rw [bq_zero]; decide⟩ (fun i ⟨hi, hq⟩ => ?_) (h2 := by rw [show ∀ f : Nat → Rat, sumTo f 0 = 0 from fun _ => rfl, frK_zero]; (repeat' (first | refine And.intro ?_ ?_ | trivial | rfl | omega)))
  repeat first | refine nx ?_ | intro _
  refine gIf (fun c1 => ?_) fun c1 => ?_
  · have h6 := h5 i
    have h7 := hb.fb i
    have h8 : bq ((f.getD (f.length - 1) []).getD i 0 * (m.fin.getD i fr0).rat) ≤ 300100 := Nat.le_trans (bq_mul _ _) (Nat.add_le_add h6 (hw.fi i))
    have h9 : bq (sumTo (fun i => (f.getD (f.length - 1) []).getD i 0 * (m.fin.getD i fr0).rat) (i + 1)) ≤ 1 + (i + 1) * 300101 := by
      have := bq_add (sumTo (fun i => (f.getD (f.length - 1) []).getD i 0 * (m.fin.getD i fr0).rat) i) ((f.getD (f.length - 1) []).getD i 0 * (m.fin.getD i fr0).rat)
      rw [sumTo_succ]; omega
    have h6' : bq ((f.getD (vs.length - 1) []).getD i 0) ≤ 300000 := by rw [hvl]; exact h6
    have h8' : bq ((f.getD (vs.length - 1) []).getD i 0 * (m.fin.getD i fr0).rat) ≤ 300100 := by rw [hvl]; exact h8
    have hl3 : m.start.length ≤ ((f.map (·.map frK)).getD (vs.length - 1) []).length := by rw [hvl]; exact hl
    repeat first | refine nx ?_ | intro _
    rw [hvl]
    exact gBk (i + 1) ⟨by omega, h9⟩ (by omega)
  · have ei : i = m.start.length := by omega
    subst ei
    repeat first | refine nx ?_ | intro _
    unfold likT; rw [if_neg c]; (repeat' (first | refine And.intro ?_ ?_ | trivial | rfl | omega))
def pfR (t : Tr) (k i : Nat) : List (List Rat) := (List.range t.o.length).map fun r => if r < k then postR t r else if r = k then upTo (postR t r) (fwd t r) i else fwd t r
theorem pfR_len (t : Tr) (k i : Nat) : (pfR t k i).length = t.o.length := by simp [pfR]
theorem pfR_zero (t : Tr) : pfR t 0 0 = fwdAll t := by
  unfold pfR fwdAll
  refine List.map_congr_left fun r _ => ?_
  rw [if_neg (by omega), upTo_zero, ite_self]
theorem pfR_at {t : Tr} {k i : Nat} (hk : k < t.o.length) : (pfR t k i).getD k [] = upTo (postR t k) (fwd t k) i := by rw [pfR, range_getD _ _ hk, if_neg (by omega), if_pos rfl]
theorem pfR_next (t : Tr) (k : Nat) : pfR t k t.m.start.length = pfR t (k + 1) 0 := by
  refine List.map_congr_left fun r _ => ?_
  by_cases h1 : r < k
  · rw [if_pos h1, if_pos (by omega)]
  · by_cases h2 : r = k
    · rw [if_neg h1, if_pos h2, if_pos (by omega), upTo_end (by rw [postR_len, fwd_len]) (by rw [fwd_len]; exact Nat.le_refl _)]
    · rw [if_neg h1, if_neg h2, if_neg (by omega), upTo_zero, ite_self]
theorem pfR_end (t : Tr) (i : Nat) : pfR t t.o.length i = postT t := List.map_congr_left fun r hr => if_pos (List.mem_range.1 hr)
theorem pfR_get {t : Tr} {k i : Nat} (hk : k < t.o.length) (hi : i < t.m.start.length) : ((pfR t k i).getD k []).getD i 0 = (fwd t k).getD i 0 := by
  rw [pfR_at hk, upTo_get (by rw [postR_len, fwd_len]) (by rw [fwd_len]; exact hi)]
theorem pfR_set {t : Tr} {k i : Nat} (hk : k < t.o.length) (hi : i < t.m.start.length) : (pfR t k i).set k (((pfR t k i).getD k []).set i (pY t i k)) = pfR t k (i + 1) := by
  refine ext_getD [] (by rw [List.length_set, pfR_len, pfR_len]) fun r hr => ?_
  rw [List.length_set, pfR_len] at hr
  by_cases e : k = r
  · subst e
    rw [getD_set_is (by rw [pfR_len]; exact hr), pfR_at hr, pfR_at hr, upTo_set (d := 0) (by rw [postR_len, fwd_len]) (by rw [fwd_len]; exact hi) (by rw [postR, range_getD _ _ hi])]
  · rw [getD_set_ne' e, pfR, range_getD _ _ hr, pfR, range_getD _ _ hr]
    by_cases h1 : r < k
    · rw [if_pos h1, if_pos h1]
    · rw [if_neg h1, if_neg h1, if_neg (fun x => e x.symm), if_neg (fun x => e x.symm)]
instance rPosterior_c [i : VM S m] [j : Vw (lv rI) T o] : Ct Tryz.prog 51 [S, T] (TOk ⟨m, o⟩ ∧ MdB 100000 m ∧ MdW 100 m ∧ RfB ⟨m, o⟩ (m.start.length : Int) ∧ FwB ⟨m, o⟩ ∧ BwB ⟨m, o⟩ ∧ bq (lk ⟨m, o⟩) ≤ 60000000) (.tp [kkR (bif decide (lk ⟨m, o⟩ = 0) then [] else postT ⟨m, o⟩), bv (!decide (lk ⟨m, o⟩ = 0))]) := by
  haveI := i.t
  refine ct2 i.v j (ctI Tryz.call51 Tryz.func51 Tryz.ntmps51 rfl Tryz.results51 rfl [16] fun h0 w0 ⟨tk, hb, hw, hrf, hf, hbw, hlq⟩ => ?_)
  have hn := tk.n
  have h40 := tk.s40
  have hfn := ge_of tk.fin
  dsimp only at hn h40 hfn
  have hr : rfwN ⟨m, o⟩ (m.start.length : Int) o.length = fwdAll ⟨m, o⟩ := rfwN_fwd (t := ⟨m, o⟩) (Int.le_refl _)
  repeat first | refine gDwL 11 (fun _ => false) 9 (by rfl) (by kernel_rfl) ?_ | refine nx ?_ | intro _
  rename_i ν
  generalize (ν 16).v = f
  generalize (ν 16).l = vs
  rw [hr]
  have hfl := fwdAll_len ⟨m, o⟩
  have hbl := bwdAll_len ⟨m, o⟩
  dsimp only at hfl hbl
  refine gZlO vs fun hvs => ?_
  rw [List.length_map, hfl] at hvs
  have a1 : vs.length = (fwdAll ⟨m, o⟩).length := by rw [hfl]; exact hvs
  have a2 : (fwdAll ⟨m, o⟩).length ≤ 1048576 := by omega
  have a3 : 0 < (fwdAll ⟨m, o⟩).length → m.start.length ≤ ((fwdAll ⟨m, o⟩).getD ((fwdAll ⟨m, o⟩).length - 1) []).length := fun h => by
    rw [hfl] at h ⊢; rw [fwdRow_len (t := ⟨m, o⟩) (by show _ < o.length; omega)]; exact Nat.le_refl _
  have a4 : ∀ i, bq (((fwdAll ⟨m, o⟩).getD ((fwdAll ⟨m, o⟩).length - 1) []).getD i 0) ≤ 300000 := fun i => hf.all _ i
  have hlk : likT ⟨m, []⟩ (fwdAll ⟨m, o⟩) = lk ⟨m, o⟩ := rfl
  repeat first | refine nx ?_ | intro _
  rw [hlk]
  repeat first | refine nx ?_ | intro _
  refine gIf (fun c => ?_) fun c => ?_
  · have hz : lk ⟨m, o⟩ = 0 := sgQ_zero.1 c
    repeat first | refine nx ?_ | intro _
    simp only [decide_eq_true hz, cond_true]; (repeat' (first | refine And.intro ?_ ?_ | trivial | rfl | omega))
  have hz : ¬ lk ⟨m, o⟩ = 0 := fun e => c (sgQ_zero.2 e)
  simp only [decide_eq_false hz, cond_false]
  clear c a1 a2 a3 a4
  rw [← pfR_zero ⟨m, o⟩]
  repeat first | refine nx ?_ | intro _
  refine gLp (fun s : Nat × List Value => [(9, iv s.1)]) (fun s => [rA rW 22 f s.2, rZ rF 31 s.2 ((pfR ⟨m, o⟩ s.1 0).map (·.map frK))]) (fun s => s.1 ≤ o.length ∧ s.2.length = o.length) (fun s => o.length - s.1) (0, vs) ⟨Nat.zero_le _, hvs⟩ (fun ⟨k, vs⟩ ⟨hk, hvs⟩ => ?_)
  dsimp only at hk hvs ⊢
  repeat first | refine nx ?_ | intro _
  refine gIf (fun ck => ?_) fun ck => ?_
  · repeat first | refine nx ?_ | intro _
    refine gLp (fun s : Nat × List Value => [(10, iv s.1)]) (fun s => [rA rW 22 f s.2, rZ rF 31 s.2 ((pfR ⟨m, o⟩ k s.1).map (·.map frK))]) (fun s => s.1 ≤ m.start.length ∧ s.2.length = o.length) (fun s => m.start.length - s.1) (0, vs) ⟨Nat.zero_le _, hvs⟩ (fun ⟨i, vs⟩ ⟨hi, hvs⟩ => ?_)
    dsimp only at hi hvs ⊢
    repeat first | refine nx ?_ | intro _
    refine gIf (fun ci => ?_) fun ci => ?_
    · have ck : k < o.length := by omega
      have f1 : bq ((fwd ⟨m, o⟩ k).getD i 0) ≤ 300000 := hf k i ck
      have f2 := hbw.all k i
      have hpg := pfR_get (t := ⟨m, o⟩) (k := k) (i := i) ck ci
      have f3 := Nat.le_trans (bq_mul ((fwd ⟨m, o⟩ k).getD i 0) (((bwdAll ⟨m, o⟩).getD k []).getD i 0)) (Nat.add_le_add f1 f2)
      rw [← hpg] at f1 f3
      have hpl := pfR_len ⟨m, o⟩ k i
      dsimp only at hpl
      have hpl2 : ((pfR ⟨m, o⟩ k i).map (·.map frK)).length = o.length := by rw [List.length_map]; exact hpl
      have hrl : m.start.length ≤ (((pfR ⟨m, o⟩ k i).map (·.map frK)).getD k []).length := by rw [len_KR, pfR_at (t := ⟨m, o⟩) ck, upTo_len (by rw [postR_len, fwd_len])]; rw [fwd_len]; exact Nat.le_refl _
      have f5 : m.start.length ≤ (((bwdAll ⟨m, o⟩).map (·.map frK)).getD k []).length := by rw [len_KR, bwdRow_len (t := ⟨m, o⟩) ck]; exact Nat.le_refl _
      have f7 : ((bwdAll ⟨m, o⟩).map (·.map frK)).length = o.length := by rw [List.length_map]; exact hbl
      have hY := pY_eq (t := ⟨m, o⟩) (i := i) ck
      have hps := pfR_set (t := ⟨m, o⟩) (k := k) (i := i) ck ci
      repeat first | refine gDz 24 22 (by rfl) (by kernel_rfl) ?_ | refine nx ?_ | intro _
      rw [hpg, ← fwdAll_at (t := ⟨m, o⟩) ck, hY, map_getDR, ← List.map_set, ← List.map_set, hps]
      exact gBk (i + 1, vs) ⟨by dsimp only; omega, hvs⟩ (by dsimp only; omega)
    · have ei : i = m.start.length := by omega
      subst ei
      rw [pfR_next ⟨m, o⟩ k]
      repeat first | refine nx ?_ | intro _
      exact gBk (k + 1, vs) ⟨by dsimp only; omega, hvs⟩ (by dsimp only; omega)
  · have ek : k = o.length := by omega
    subst ek
    rw [pfR_end ⟨m, o⟩]
    refine gFzM f ?_
    repeat first | refine nx ?_ | intro _
    (repeat' (first | refine And.intro ?_ ?_ | trivial | rfl | omega))
end
end Go.E3
