/- H12: a part of the proofs about package model: how the program's functions run, and what they compute, for every input. -/
import Derived.Test.YtpmndikbfalfoaaGreatH11
import Derived.Test.YtpmndikbfalfoaaGreatEarT14
import Derived.Test.YtpmndikbfalfoaaGreatPA
set_option linter.all false
set_option linter.unusedVariables false
set_option maxRecDepth 20000
set_option maxHeartbeats 8000000
set_option synthInstance.maxSize 1000
namespace Go.E3
open Go Go.Ear Go.Proofs
theorem cO2 {α β : Type} {v : α → SV} {x : α} {v2 : β → SV} {y : β} {P : Program} {f : FuncId} {sd : Prop} {S T : SV} {R : Gh → List Res} {l : List SV} (i : Vw v S x) (j : Vw v2 T y) (c : CtO P f (v x :: v2 y :: l) sd R) : CtO P f (S :: T :: l) sd R := c.az fun {h vs} u => by
  match vs, u with
  | _ :: _ :: _, ⟨a, b, c⟩ => exact ⟨i.h a, j.h b, c⟩
section
variable {row : List Rat} {keep : Int} {S : SV}
instance (priority := 20000) rkept_o [i : Vw kkL S row] : CtO Tryz.prog 107 [S, iv keep] (row.length ≤ 1048576 ∧ ∀ i, bq (row.getD i 0) ≤ 60000000) (fun g => [rA rF 31 g.v ((keptR row keep).map frK)]) := by
  refine cO1 i (ctO Tryz.call107 Tryz.func107 Tryz.ntmps107 rfl Tryz.results107 rfl [12] fun h0 w0 ⟨hl, hb⟩ => ?_)
  have hm : (row.map frK).length = row.length := List.length_map _
  repeat first | refine nx ?_ | intro _
  rw [hm]
  rename_i γ
  have hkl : ((keptR row keep).map frK).length = row.length := by rw [List.length_map, keptR_len]
  refine gLp (fun i : Nat => [(6, iv i)]) (fun i => [rA rF 31 γ.v (Go.Ear.rowAt ((keptR row keep).map frK) fr0 row.length i)]) (fun i => i ≤ row.length) (fun i => row.length - i) 0 (Nat.zero_le _) (fun i hi => ?_) (h2 := by rw [Go.Ear.rowAt_zero]; (repeat' (first | refine And.intro ?_ ?_ | trivial | rfl | omega)))
  repeat first | refine nx ?_ | intro _
  rw [hm]
  refine gIf (fun c => ?_) fun c => ?_
  · have hbi := hb i
    have hkd : (keptR row keep).getD i 0 = if (befN row i row.length : Int) < keep then row.getD i 0 else 0 := by rw [keptR, range_getD _ _ c]
    repeat first | refine nx ?_ | intro _
    refine gLp (fun j : Nat => [(8, iv j), (7, iv (befN row i j))]) (fun _ => []) (fun j => j ≤ row.length) (fun j => row.length - j) 0 (Nat.zero_le _) (fun j hj => ?_)
    have hbj := hb j
    have hbe := befN_le row i j
    repeat first | refine nx ?_ | intro _
    rw [hm]
    refine gIf (fun c1 => ?_) fun c1 => ?_
    · repeat first | refine nx ?_ | intro _
      refine gIf (fun c2 => ?_) fun c2 => ?_
      · have hs : row.getD i 0 < row.getD j 0 ∨ (row.getD j 0 = row.getD i 0 ∧ j < i) := by
          rcases c2 with c2 | c2
          · exact .inl (rat_sub_pos.1 (sgQ_pos.1 c2))
          · exact .inr ⟨rat_sub_zero.1 (sgQ_zero.1 c2.1), by have := c2.2; omega⟩
        repeat first | refine nx ?_ | intro _
        exact gBk (j + 1) (by omega) (by omega) (h1 := by rw [befN, if_pos hs]; (repeat' (first | refine And.intro ?_ ?_ | trivial | rfl | omega)))
      · have hs : ¬ (row.getD i 0 < row.getD j 0 ∨ (row.getD j 0 = row.getD i 0 ∧ j < i)) := fun e => by
          rcases e with e | e
          · exact c2 (.inl (sgQ_pos.2 (rat_sub_pos.2 e)))
          · exact c2 (.inr ⟨sgQ_zero.2 (rat_sub_zero.2 e.1), by have := e.2; omega⟩)
        repeat first | refine nx ?_ | intro _
        exact gBk (j + 1) (by omega) (by omega) (h1 := by rw [befN, if_neg hs]; (repeat' (first | refine And.intro ?_ ?_ | trivial | rfl | omega)))
    · have ej : j = row.length := by omega
      subst ej
      repeat first | refine nx ?_ | intro _
      refine gIf (fun c2 => ?_) fun c2 => ?_
      · rw [if_pos c2] at hkd
        have hrl : (Go.Ear.rowAt ((keptR row keep).map frK) fr0 row.length i).length = row.length := Go.Ear.rowAt_len hkl hi
        repeat first | refine nx ?_ | intro _
        rw [Go.Ear.rowAt_set hkl c (by rw [getD_K, hkd])]
        exact gBk (i + 1) (by omega) (by omega)
      · rw [if_neg c2] at hkd
        repeat first | refine nx ?_ | intro _
        exact gBk (i + 1) (by omega) (by omega) (h2 := by rw [rowAt_skip hkl c (by rw [getD_K, hkd, frK_zero])]; (repeat' (first | refine And.intro ?_ ?_ | trivial | rfl | omega)))
  · rw [Go.Ear.rowAt_end hkl (by omega)]
    repeat first | refine nx ?_ | intro _
    trivial
end
section
variable {m : Md} {o : List Int} {S T : SV} {keep : Int}
instance (priority := 20000) rForward_o [i : VM S m] [j : Vw (lv rI) T o] : CtO Tryz.prog 42 [S, T, iv keep] (TOk ⟨m, o⟩ ∧ MdB 100000 m ∧ MdW 5000 m ∧ RfB ⟨m, o⟩ keep) (fun g => [rA rW 22 g.v g.l, rZ rF 31 g.l ((rfwN ⟨m, o⟩ keep o.length).map (·.map frK))]) := by
  haveI := i.t
  refine cO2 i.v j (ctO Tryz.call42 Tryz.func42 Tryz.ntmps42 rfl Tryz.results42 rfl [24, 81] fun h0 w0 ⟨tk, hb, hw, hf⟩ => ?_)
  have hs1 := tk.s1
  have hn := tk.n
  have h40 := tk.s40
  have hmv := ge_of tk.mv
  have hsy := ge_of tk.say
  dsimp only at hs1 hn h40 hmv hsy
  repeat first | refine nx ?_ | intro _
  refine gNm rF 22 31 ?_
  refine gLp (fun s : Nat × Value × List Value => [(9, iv s.1), (8, ov s.2.1)]) (fun s => [rA rW 22 s.2.1 s.2.2, rZ rF 31 s.2.2 ((rfwN ⟨m, o⟩ keep s.1).map (·.map frK))]) (fun s => s.1 ≤ o.length) (fun s => o.length - s.1) (0, vnil, []) (Nat.zero_le _) (fun ⟨t, v, vs⟩ ht => ?_)
  dsimp only at ht ⊢
  refine gZl vs fun hvs => ?_
  rw [List.length_map, rfwN_len] at hvs
  have hnl : ((rfwN ⟨m, o⟩ keep t).map (·.map frK)).length = t := by rw [List.length_map, rfwN_len]
  repeat first | refine nx ?_ | intro _
  refine gIf (fun c => ?_) fun c => ?_
  · repeat first | refine nx ?_ | intro _
    rename_i γ
    have hrl : ((rawF ⟨m, o⟩ keep t).map frK).length = m.start.length := by rw [List.length_map, rawF_len]
    refine gLp (fun i : Nat => [(11, iv i)]) (fun i => [rA rF 31 γ.v (Go.Ear.rowAt ((rawF ⟨m, o⟩ keep t).map frK) fr0 m.start.length i)]) (fun i => i ≤ m.start.length) (fun i => m.start.length - i) 0 (Nat.zero_le _) (fun i hi => ?_) (h2 := by rw [Go.Ear.rowAt_zero]; (repeat' (first | refine And.intro ?_ ?_ | trivial | rfl | omega)))
    have hql : (Go.Ear.rowAt ((rawF ⟨m, o⟩ keep t).map frK) fr0 m.start.length i).length = m.start.length := Go.Ear.rowAt_len hrl hi
    repeat first | refine nx ?_ | intro _
    refine gIf (fun c1 => ?_) fun c1 => ?_
    · have hsi := tk.sayi i t c1 c
      have hws := hb.syb i (o.getD t 0).toNat
      have hsb := hb.sb i
      have hgq := ge_of hql
      have hri : (rawF ⟨m, o⟩ keep t).getD i 0 = rawI ⟨m, o⟩ keep t i := range_getD _ _ c1
      dsimp only at hsi
      clear hql
      repeat first | refine nx ?_ | intro _
      refine gIf (fun c2 => ?_) fun c2 => ?_
      · have hwv := fun j => hb.mvb j i
        have hw2 := fun j => hw.mv j i
        have hfl := fun j => hf.w (t - 1) j (show t - 1 < o.length by omega)
        have hat : (rfwN ⟨m, o⟩ keep t).getD (t - 1) [] = rfw ⟨m, o⟩ keep (t - 1) := rfwN_at (by omega)
        have hal : m.start.length ≤ (((rfwN ⟨m, o⟩ keep t).map (·.map frK)).getD (t - 1) []).length := by rw [len_KR, hat, rfw_len]; exact Nat.le_refl _
        have hmi := fun j (hj : j < m.start.length) => ge_of (tk.mvi j hj)
        dsimp only at hmi
        repeat first | refine nx ?_ | intro _
        rename_i v12
        refine gLp (fun j : Nat => [(13, iv j)]) (fun j => [rV v12 [bv (frK (sumTo (fun j => (rfw ⟨m, o⟩ keep (t - 1)).getD j 0 * moveT ⟨m, o⟩ j i) j)).neg, lv rU (frK (sumTo (fun j => (rfw ⟨m, o⟩ keep (t - 1)).getD j 0 * moveT ⟨m, o⟩ j i) j)).n, lv rU (frK (sumTo (fun j => (rfw ⟨m, o⟩ keep (t - 1)).getD j 0 * moveT ⟨m, o⟩ j i) j)).d] 31]) (fun j => j ≤ m.start.length ∧ bq (sumTo (fun j => (rfw ⟨m, o⟩ keep (t - 1)).getD j 0 * moveT ⟨m, o⟩ j i) j) ≤ 1 + j * 305001) (fun j => m.start.length - j) 0 ⟨Nat.zero_le _, by show bq 0 ≤ _; rw [bq_zero]; decide⟩ (fun j ⟨hj, hq⟩ => ?_) (h2 := by rw [show ∀ f : Nat → Rat, sumTo f 0 = 0 from fun _ => rfl, frK_zero]; (repeat' (first | refine And.intro ?_ ?_ | trivial | rfl | omega)))
        repeat first | refine nx ?_ | intro _
        refine gIf (fun c3 => ?_) fun c3 => ?_
        · have hwj := hwv j
          have hmj := hmi j c3
          have h1 := hfl j
          have h2 := bq_mul ((rfw ⟨m, o⟩ keep (t - 1)).getD j 0) (moveT ⟨m, o⟩ j i)
          have h3 : bq (moveT ⟨m, o⟩ j i) ≤ 5000 := hw2 j
          have h4 := bq_add (sumTo (fun j => (rfw ⟨m, o⟩ keep (t - 1)).getD j 0 * moveT ⟨m, o⟩ j i) j) ((rfw ⟨m, o⟩ keep (t - 1)).getD j 0 * moveT ⟨m, o⟩ j i)
          have hs1 : bq (((rfwN ⟨m, o⟩ keep t).getD (t - 1) []).getD j 0) ≤ 300000 := by rw [hat]; exact h1
          have hs2 : bq (((rfwN ⟨m, o⟩ keep t).getD (t - 1) []).getD j 0 * ((m.move.getD j []).getD i fr0).rat) ≤ 305000 := by rw [hat]; exact Nat.le_trans h2 (Nat.add_le_add h1 h3)
          clear h2 hw2 hmi hfl
          repeat first | refine nx ?_ | intro _
          rw [hat]
          exact gBk (j + 1) ⟨by omega, by rw [sumTo_succ]; exact Nat.le_trans h4 (by have := Nat.le_trans (bq_mul ((rfw ⟨m, o⟩ keep (t - 1)).getD j 0) (moveT ⟨m, o⟩ j i)) (Nat.add_le_add h1 h3); omega)⟩ (by omega)
        · have ej : j = m.start.length := by omega
          subst ej
          have hqi : sumTo (fun j => (rfw ⟨m, o⟩ keep (t - 1)).getD j 0 * moveT ⟨m, o⟩ j i) m.start.length * ((m.say.getD i []).getD (o.getD t 0).toNat fr0).rat = rawI ⟨m, o⟩ keep t i := by unfold rawI; rw [if_neg (by omega)]; rfl
          repeat first | refine nx ?_ | intro _
          rw [hqi, Go.Ear.rowAt_set hrl c1 (by rw [getD_K, hri])]
          exact gBk (i + 1) (by omega) (by omega)
      · have ht0 : t = 0 := by omega
        subst ht0
        have hqi : (m.start.getD i fr0).rat * ((m.say.getD i []).getD (o.getD 0 0).toNat fr0).rat = rawI ⟨m, o⟩ keep 0 i := by unfold rawI; rw [if_pos rfl]; rfl
        repeat first | refine nx ?_ | intro _
        rw [hqi, Go.Ear.rowAt_set hrl c1 (by rw [getD_K, hri])]
        exact gBk (i + 1) (by omega) (by omega)
    · rw [Go.Ear.rowAt_end hrl (by omega)]
      have hk1 : (rawF ⟨m, o⟩ keep t).length ≤ 1048576 ∧ ∀ i, bq ((rawF ⟨m, o⟩ keep t).getD i 0) ≤ 60000000 := ⟨by rw [rawF_len]; show m.start.length ≤ _; omega, fun i => Nat.le_trans (hf t i c) (by decide)⟩
      repeat first | refine nx ?_ | intro _
      rename_i g v2
      rw [← rfw_raw, ← List.map_singleton (f := fun l : List Rat => l.map frK), ← List.map_append, ← rfwN_succ]
      exact gBk (t + 1, v2, vs ++ [g.v]) (by dsimp only; omega) (by dsimp only; omega)
  · have et : t = o.length := by omega
    subst et
    repeat first | refine nx ?_ | intro _
    exact gEo (T := fun g : Gh => [rA rW 22 g.v g.l, rZ rF 31 g.l ((rfwN ⟨m, o⟩ keep o.length).map (fun l : List Rat => l.map frK))]) ⟨v, vs⟩ (by (repeat' (first | refine And.intro ?_ ?_ | trivial | rfl | omega)))
end
end Go.E3
