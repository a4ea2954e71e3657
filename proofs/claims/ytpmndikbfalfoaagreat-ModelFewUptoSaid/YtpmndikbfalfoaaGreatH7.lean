/- H7: a part of the proofs about package model: how the program's functions run, and what they compute, for every input. -/
import Derived.Test.YtpmndikbfalfoaaGreatH6
set_option linter.all false
set_option linter.unusedVariables false
set_option maxRecDepth 20000
set_option maxHeartbeats 8000000
set_option synthInstance.maxSize 1000
namespace Go.E3
open Go Go.Ear Go.Proofs
def befN (row : List Rat) (i : Nat) : Nat → Nat
  | 0 => 0
  | j + 1 => if row.getD i 0 < row.getD j 0 ∨ (row.getD j 0 = row.getD i 0 ∧ j < i) then befN row i j + 1 else befN row i j
def keptR (row : List Rat) (keep : Int) : List Rat := (List.range row.length).map fun i => if (befN row i row.length : Int) < keep then row.getD i 0 else 0
theorem keptR_len (row : List Rat) (keep : Int) : (keptR row keep).length = row.length := by simp [keptR]
theorem befN_le (row : List Rat) (i : Nat) : ∀ n, befN row i n ≤ n
  | 0 => Nat.le_refl _
  | n + 1 => by rw [befN]; have := befN_le row i n; split <;> omega
theorem befN_lt (row : List Rat) (i : Nat) : ∀ n, i < n → befN row i n < n
  | n + 1, h => by
    rw [befN]
    by_cases e : i = n
    · subst e
      rw [if_neg (fun x => x.elim (fun y => Rat.lt_irrefl y) fun y => by omega)]
      have := befN_le row i i; omega
    · have := befN_lt row i n (by omega); split <;> omega
theorem keptR_all {row : List Rat} {keep : Int} (h : (row.length : Int) ≤ keep) : keptR row keep = row := by
  apply List.ext_getElem?
  intro i
  unfold keptR
  rw [List.getElem?_map]
  by_cases hi : i < row.length
  · rw [List.getElem?_range hi, List.getElem?_eq_getElem hi]
    have := befN_lt row i row.length hi
    simp only [Option.map_some, List.getD_eq_getElem?_getD, List.getElem?_eq_getElem hi, Option.getD_some]
    rw [if_pos (by omega)]
  · rw [List.getElem?_eq_none (by simp; omega), List.getElem?_eq_none (by omega)]; rfl
theorem keptR_bq {row : List Rat} {keep : Int} {B : Nat} (hB : 1 ≤ B) (h : ∀ i, bq (row.getD i 0) ≤ B) (i : Nat) : bq ((keptR row keep).getD i 0) ≤ B := by
  by_cases hi : i < row.length
  · rw [keptR, range_getD _ _ hi]; split; exact h i; rw [bq_zero]; exact hB
  · rw [out_bq (by rw [keptR_len]; omega)]; exact hB
section
variable {α : Type}
theorem rowAt_skip {row : List α} {d : α} {s i : Nat} (hl : row.length = s) (hi : i < s) (h : row.getD i d = d) : Go.Ear.rowAt row d s (i + 1) = Go.Ear.rowAt row d s i := by
  rw [← Go.Ear.rowAt_set hl hi (q := d) h.symm]
  have h1 := set_getD (l := Go.Ear.rowAt row d s i) (i := i) (d := d)
  rw [Go.Ear.rowAt_get hl hi] at h1; exact h1
end
section
variable {row : List Rat} {keep : Int} {S : SV}
instance rkept_c [i : Vw kkL S row] : Ct Tryz.prog 107 [S, iv keep] (row.length ≤ 1048576 ∧ ∀ i, bq (row.getD i 0) ≤ 60000000) (kkL (keptR row keep)) := by
  refine ct1 i (ctI Tryz.call107 Tryz.func107 Tryz.ntmps107 rfl Tryz.results107 rfl [12] fun h0 w0 ⟨hl, hb⟩ => ?_)
  have hm : (row.map frK).length = row.length := List.length_map _
  repeat first | refine nx ?_ | intro _
  rw [hm]
  rename_i γ
  have hkl : ((keptR row keep).map frK).length = row.length := by rw [List.length_map, keptR_len]
  refine gLp (fun i : Nat => [(6, iv i)]) (fun i => [rA rF 31 γ.v (Go.Ear.rowAt ((keptR row keep).map frK) fr0 row.length i)]) (fun i => i ≤ row.length) (fun i => row.length - i) 0 (Nat.zero_le _) (fun i hi => ?_) (h2 := by rw [Go.Ear.rowAt_zero]; (repeat' (first | refine And.intro ?_ ?_ | trivial | rfl | omega)))
  repeat first | refine nx ?_ | intro _
  rw [hm]
  refine gIf (fun c => ?_) fun c => ?_
  · have hbi := hb i
    have hkd : (keptR row keep).getD i 0 = if (befN row i row.length : Int) < keep then row.getD i 0 else 0 := by rw [keptR, range_getD _ _ c]
    repeat first | refine nx ?_ | intro _
    refine gLp (fun j : Nat => [(8, iv j), (7, iv (befN row i j))]) (fun _ => []) (fun j => j ≤ row.length) (fun j => row.length - j) 0 (Nat.zero_le _) (fun j hj => ?_)
    have hbj := hb j
    have hbe := befN_le row i j
    repeat first | refine nx ?_ | intro _
    rw [hm]
    refine gIf (fun c1 => ?_) fun c1 => ?_
    · repeat first | refine nx ?_ | intro _
      refine gIf (fun c2 => ?_) fun c2 => ?_
      · have hs : row.getD i 0 < row.getD j 0 ∨ (row.getD j 0 = row.getD i 0 ∧ j < i) := by
          rcases c2 with c2 | c2
          · exact .inl (rat_sub_pos.1 (sgQ_pos.1 c2))
          · exact .inr ⟨rat_sub_zero.1 (sgQ_zero.1 c2.1), by have := c2.2; omega⟩
        repeat first | refine nx ?_ | intro _
        exact gBk (j + 1) (by omega) (by omega) (h1 := by rw [befN, if_pos hs]; (repeat' (first | refine And.intro ?_ ?_ | trivial | rfl | omega)))
      · have hs : ¬ (row.getD i 0 < row.getD j 0 ∨ (row.getD j 0 = row.getD i 0 ∧ j < i)) := fun e => by
          rcases e with e | e
          · exact c2 (.inl (sgQ_pos.2 (rat_sub_pos.2 e)))
          · exact c2 (.inr ⟨sgQ_zero.2 (rat_sub_zero.2 e.1), by have := e.2; omega⟩)
        repeat first | refine nx ?_ | intro _
        exact gBk (j + 1) (by omega) (by omega) (h1 := by rw [befN, if_neg hs]; (repeat' (first | refine And.intro ?_ ?_ | trivial | rfl | omega)))
    · have ej : j = row.length := by omega
      subst ej
      repeat first | refine nx ?_ | intro _
      refine gIf (fun c2 => ?_) fun c2 => ?_
      · rw [if_pos c2] at hkd
        have hrl : (Go.Ear.rowAt ((keptR row keep).map frK) fr0 row.length i).length = row.length := Go.Ear.rowAt_len hkl hi
        repeat first | refine nx ?_ | intro _
        rw [Go.Ear.rowAt_set hkl c (by rw [getD_K, hkd])]
        exact gBk (i + 1) (by omega) (by omega)
      · rw [if_neg c2] at hkd
        repeat first | refine nx ?_ | intro _
        exact gBk (i + 1) (by omega) (by omega) (h2 := by rw [rowAt_skip hkl c (by rw [getD_K, hkd, frK_zero])]; (repeat' (first | refine And.intro ?_ ?_ | trivial | rfl | omega)))
  · rw [Go.Ear.rowAt_end hkl (by omega)]
    repeat first | refine nx ?_ | intro _
    trivial
end
def rfw (t : Tr) (keep : Int) : Nat → List Rat
  | 0 => keptR ((List.range t.m.start.length).map fun i => (t.m.start.getD i fr0).rat * sayT t i 0) keep
  | k + 1 => keptR ((List.range t.m.start.length).map fun i => sumTo (fun j => (rfw t keep k).getD j 0 * moveT t j i) t.m.start.length * sayT t i (k + 1)) keep
def rawI (t : Tr) (keep : Int) (k i : Nat) : Rat := (if k = 0 then (t.m.start.getD i fr0).rat else sumTo (fun j => (rfw t keep (k - 1)).getD j 0 * moveT t j i) t.m.start.length) * sayT t i k
def rawF (t : Tr) (keep : Int) (k : Nat) : List Rat := (List.range t.m.start.length).map (rawI t keep k)
theorem rfw_raw (t : Tr) (keep : Int) (k : Nat) : rfw t keep k = keptR (rawF t keep k) keep := by
  cases k with
  | zero => rfl
  | succ k => unfold rawF rawI; rw [rfw]; simp
theorem rawF_len (t : Tr) (keep : Int) (k : Nat) : (rawF t keep k).length = t.m.start.length := by simp [rawF]
theorem rfw_len (t : Tr) (keep : Int) (k : Nat) : (rfw t keep k).length = t.m.start.length := by rw [rfw_raw, keptR_len, rawF_len]
def rfwN (t : Tr) (keep : Int) (n : Nat) : List (List Rat) := (List.range n).map (rfw t keep)
theorem rfwN_len (t : Tr) (keep : Int) (n : Nat) : (rfwN t keep n).length = n := by simp [rfwN]
theorem rfwN_succ (t : Tr) (keep : Int) (n : Nat) : rfwN t keep (n + 1) = rfwN t keep n ++ [rfw t keep n] := by unfold rfwN; rw [List.range_succ, List.map_append]; rfl
theorem rfwN_at {t : Tr} {keep : Int} {n k : Nat} (h : k < n) : (rfwN t keep n).getD k [] = rfw t keep k := range_getD _ _ h
def RfB (t : Tr) (keep : Int) : Prop := ∀ k i, k < t.o.length → bq ((rawF t keep k).getD i 0) ≤ 300000
theorem RfB.w {t : Tr} {keep : Int} (h : RfB t keep) (k i : Nat) (hk : k < t.o.length) : bq ((rfw t keep k).getD i 0) ≤ 300000 := by rw [rfw_raw]; exact keptR_bq (by decide) (fun i => h k i hk) i
section
variable {m : Md} {o : List Int} {S T : SV} {keep : Int}
instance rForward_c [i : VM S m] [j : Vw (lv rI) T o] : Ct Tryz.prog 42 [S, T, iv keep] (TOk ⟨m, o⟩ ∧ MdB 100000 m ∧ MdW 5000 m ∧ RfB ⟨m, o⟩ keep) (kkR (rfwN ⟨m, o⟩ keep o.length)) := by
  haveI := i.t
  refine ct2 i.v j (ctI Tryz.call42 Tryz.func42 Tryz.ntmps42 rfl Tryz.results42 rfl [24] fun h0 w0 ⟨tk, hb, hw, hf⟩ => ?_)
  have hs1 := tk.s1
  have hn := tk.n
  have h40 := tk.s40
  have hmv := ge_of tk.mv
  have hsy := ge_of tk.say
  dsimp only at hs1 hn h40 hmv hsy
  repeat first | refine nx ?_ | intro _
  refine gNl (rL rF) 22 ?_
  refine gLp (fun s : Nat × Value => [(9, iv s.1), (8, ov s.2)]) (fun s => [rA (rL rF) 22 s.2 ((rfwN ⟨m, o⟩ keep s.1).map (·.map frK))]) (fun s => s.1 ≤ o.length) (fun s => o.length - s.1) (0, .slice none 0 0) (Nat.zero_le _) (fun ⟨t, v⟩ ht => ?_)
  dsimp only at ht ⊢
  have hnl : ((rfwN ⟨m, o⟩ keep t).map (·.map frK)).length = t := by rw [List.length_map, rfwN_len]
  repeat first | refine nx ?_ | intro _
  refine gIf (fun c => ?_) fun c => ?_
  · repeat first | refine nx ?_ | intro _
    rename_i γ
    have hrl : ((rawF ⟨m, o⟩ keep t).map frK).length = m.start.length := by rw [List.length_map, rawF_len]
    refine gLp (fun i : Nat => [(11, iv i)]) (fun i => [rA rF 31 γ.v (Go.Ear.rowAt ((rawF ⟨m, o⟩ keep t).map frK) fr0 m.start.length i)]) (fun i => i ≤ m.start.length) (fun i => m.start.length - i) 0 (Nat.zero_le _) (fun i hi => ?_) (h2 := by rw [Go.Ear.rowAt_zero]; (repeat' (first | refine And.intro ?_ ?_ | trivial | rfl | omega)))
    have hql : (Go.Ear.rowAt ((rawF ⟨m, o⟩ keep t).map frK) fr0 m.start.length i).length = m.start.length := Go.Ear.rowAt_len hrl hi
    repeat first | refine nx ?_ | intro _
    refine gIf (fun c1 => ?_) fun c1 => ?_
    · have hsi := tk.sayi i t c1 c
      have hws := hb.syb i (o.getD t 0).toNat
      have hsb := hb.sb i
      have hgq := ge_of hql
      have hri : (rawF ⟨m, o⟩ keep t).getD i 0 = rawI ⟨m, o⟩ keep t i := range_getD _ _ c1
      dsimp only at hsi
      clear hql
      repeat first | refine nx ?_ | intro _
      refine gIf (fun c2 => ?_) fun c2 => ?_
      · have hwv := fun j => hb.mvb j i
        have hw2 := fun j => hw.mv j i
        have hfl := fun j => hf.w (t - 1) j (show t - 1 < o.length by omega)
        have hat : (rfwN ⟨m, o⟩ keep t).getD (t - 1) [] = rfw ⟨m, o⟩ keep (t - 1) := rfwN_at (by omega)
        have hal : m.start.length ≤ (((rfwN ⟨m, o⟩ keep t).map (·.map frK)).getD (t - 1) []).length := by rw [len_KR, hat, rfw_len]; exact Nat.le_refl _
        have hmi := fun j (hj : j < m.start.length) => ge_of (tk.mvi j hj)
        dsimp only at hmi
        repeat first | refine nx ?_ | intro _
        rename_i v12
        refine gLp (fun j : Nat => [(13, iv j)]) (fun j => [rV v12 [bv (frK (sumTo (fun j => (rfw ⟨m, o⟩ keep (t - 1)).getD j 0 * moveT ⟨m, o⟩ j i) j)).neg, lv rU (frK (sumTo (fun j => (rfw ⟨m, o⟩ keep (t - 1)).getD j 0 * moveT ⟨m, o⟩ j i) j)).n, lv rU (frK (sumTo (fun j => (rfw ⟨m, o⟩ keep (t - 1)).getD j 0 * moveT ⟨m, o⟩ j i) j)).d] 31]) (fun j => j ≤ m.start.length ∧ bq (sumTo (fun j => (rfw ⟨m, o⟩ keep (t - 1)).getD j 0 * moveT ⟨m, o⟩ j i) j) ≤ 1 + j * 305001) (fun j => m.start.length - j) 0 ⟨Nat.zero_le _, by show bq 0 ≤ _; rw [bq_zero]; decide⟩ (fun j ⟨hj, hq⟩ => ?_) (h2 := by rw [show ∀ f : Nat → Rat, sumTo f 0 = 0 from fun _ => rfl, frK_zero]; (repeat' (first | refine And.intro ?_ ?_ | trivial | rfl | omega)))
        repeat first | refine nx ?_ | intro _
        refine gIf (fun c3 => ?_) fun c3 => ?_
        · have hwj := hwv j
          have hmj := hmi j c3
          have h1 := hfl j
          have h2 := bq_mul ((rfw ⟨m, o⟩ keep (t - 1)).getD j 0) (moveT ⟨m, o⟩ j i)
          have h3 : bq (moveT ⟨m, o⟩ j i) ≤ 5000 := hw2 j
          have h4 := bq_add (sumTo (fun j => (rfw ⟨m, o⟩ keep (t - 1)).getD j 0 * moveT ⟨m, o⟩ j i) j) ((rfw ⟨m, o⟩ keep (t - 1)).getD j 0 * moveT ⟨m, o⟩ j i)
          have hs1 : bq (((rfwN ⟨m, o⟩ keep t).getD (t - 1) []).getD j 0) ≤ 300000 := by rw [hat]; exact h1
          have hs2 : bq (((rfwN ⟨m, o⟩ keep t).getD (t - 1) []).getD j 0 * ((m.move.getD j []).getD i fr0).rat) ≤ 305000 := by rw [hat]; exact Nat.le_trans h2 (Nat.add_le_add h1 h3)
          clear h2 hw2 hmi hfl
          repeat first | refine nx ?_ | intro _
          rw [hat]
          exact gBk (j + 1) ⟨by omega, by rw [sumTo_succ]; exact Nat.le_trans h4 (by have := Nat.le_trans (bq_mul ((rfw ⟨m, o⟩ keep (t - 1)).getD j 0) (moveT ⟨m, o⟩ j i)) (Nat.add_le_add h1 h3); omega)⟩ (by omega)
        · have ej : j = m.start.length := by omega
          subst ej
          have hqi : sumTo (fun j => (rfw ⟨m, o⟩ keep (t - 1)).getD j 0 * moveT ⟨m, o⟩ j i) m.start.length * ((m.say.getD i []).getD (o.getD t 0).toNat fr0).rat = rawI ⟨m, o⟩ keep t i := by unfold rawI; rw [if_neg (by omega)]; rfl
          repeat first | refine nx ?_ | intro _
          rw [hqi, Go.Ear.rowAt_set hrl c1 (by rw [getD_K, hri])]
          exact gBk (i + 1) (by omega) (by omega)
      · have ht0 : t = 0 := by omega
        subst ht0
        have hqi : (m.start.getD i fr0).rat * ((m.say.getD i []).getD (o.getD 0 0).toNat fr0).rat = rawI ⟨m, o⟩ keep 0 i := by unfold rawI; rw [if_pos rfl]; rfl
        repeat first | refine nx ?_ | intro _
        rw [hqi, Go.Ear.rowAt_set hrl c1 (by rw [getD_K, hri])]
        exact gBk (i + 1) (by omega) (by omega)
    · rw [Go.Ear.rowAt_end hrl (by omega)]
      have hk1 : (rawF ⟨m, o⟩ keep t).length ≤ 1048576 ∧ ∀ i, bq ((rawF ⟨m, o⟩ keep t).getD i 0) ≤ 60000000 := ⟨by rw [rawF_len]; show m.start.length ≤ _; omega, fun i => Nat.le_trans (hf t i c) (by decide)⟩
      repeat first | refine nx ?_ | intro _
      rename_i v2
      rw [← rfw_raw, ← List.map_singleton (f := fun l : List Rat => l.map frK), ← List.map_append, ← rfwN_succ]
      exact gBk (t + 1, v2) (by dsimp only; omega) (by dsimp only; omega)
  · have et : t = o.length := by omega
    subst et
    repeat first | refine nx ?_ | intro _
    trivial
end
end Go.E3
