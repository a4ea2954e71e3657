/- T4: a part of the proofs about package model: how the program's functions run, and what they compute, for every input. -/
import Derived.Test.YtpmndikbfalfoaaGreatT3
set_option linter.all false
set_option linter.unusedVariables false
set_option maxRecDepth 20000
set_option maxHeartbeats 8000000
set_option synthInstance.maxSize 1000
namespace Go.E3
open Go Go.Ear Go.Proofs
section
variable {l : List Fr} {v : Value} {B : List Res}
instance (priority := 20000) rSum_b [ft : FtS l] [ha : HA B v Fr rF 31 l] : CtB Tryz.prog 34 [ov v] B (wts l ≤ 60000000) (kk (sumF l)) := by
  refine (ctB Tryz.call34 Tryz.func34 Tryz.ntmps34 rfl Tryz.results34 rfl [] fun h0 w0 hb => ?_)
  have hb7 := len_wts l
  repeat first | refine nx ?_ | intro _
  rename_i u v
  refine gLp (fun k : Nat => [(4, iv k)]) (fun k => [rV v [bv (frK (sumF (l.take k))).neg, lv rU (frK (sumF (l.take k))).n, lv rU (frK (sumF (l.take k))).d] 31]) (fun k => k ≤ l.length) (fun k => l.length - k) 0 (Nat.zero_le _) (fun k hk => ?_) (h2 := by rw [show sumF (l.take 0) = 0 from rfl, frK_zero]; (repeat' (first | refine And.intro ?_ ?_ | trivial | rfl | omega)))
  have hb1 := Nat.le_trans (bq_foldA (l.take k) 0 fun x hx => ft.bq x (List.mem_of_mem_take hx)) (Nat.add_le_add_left (wts_take l k) _)
  have hb2 := bf_getD l k
  have hb3 := ft.bqg k
  have hb4 := bq_zero
  have hb5 : foldA 0 (l.take k) = sumF (l.take k) := rfl
  rw [hb5] at hb1
  repeat first | refine nx ?_ | intro _
  refine gIf (fun c => ?_) fun c => ?_ <;> repeat first | refine nx ?_ | intro _
  · rw [show sumF (l.take k) + (l.getD k fr0).rat = sumF (l.take (k + 1)) from (foldA_succ c).symm]; exact gBk (k + 1) (by omega) (by omega)
  · rw [List.take_of_length_le (by omega)]; exact ⟨rfl, rfl, rfl⟩
end
section
variable {a b : List Fr} {S T : SV}
theorem shrQ_at {i : Nat} (hn : a.any negF = false) (hl : a.length = b.length) (hi : i < a.length) : (shrQ a b).getD i 0 = if sumF a = 0 then (b.getD i fr0).rat else (a.getD i fr0).rat / sumF a := by
  unfold shrQ
  by_cases hs : sumF a = 0
  · rw [if_pos hs, if_neg (by unfold normE; rw [hn]; simp [hs])]
    unfold ratsL
    rw [List.getD_eq_getElem?_getD, List.getElem?_map, List.getD_eq_getElem?_getD, List.getElem?_eq_getElem (by omega)]; rfl
  · rw [if_neg hs, if_pos (by unfold normE; rw [hn]; simp [hs])]
    unfold normF
    rw [if_neg (fun x => x.elim (by rw [hn]; exact fun e => by cases e) hs), List.getD_eq_getElem?_getD, List.getElem?_map, List.getD_eq_getElem?_getD, List.getElem?_eq_getElem hi, Rat.div_def]; rfl
instance rshare_c [i : VL S a] [j : VL T b] : Ct Tryz.prog 135 [S, T] ((a.any negF = false ∧ a.length = b.length ∧ a.length ≤ 1048576) ∧ wts a ≤ 60000000 ∧ wts b ≤ 60000000) (lv rF ((shrQ a b).map frK)) := by
  haveI := i.t
  haveI := j.t
  refine ct2 i.v j.v (ctI Tryz.call135 Tryz.func135 Tryz.ntmps135 rfl Tryz.results135 rfl [12] fun h0 w0 ⟨⟨hn, hl, h20⟩, ha, hb⟩ => ?_)
  have hb7 := len_wts b
  have ha7 := len_wts a
  have hbs : bq (sumF a) ≤ 1 + wts a := by rw [← bq_zero]; exact bq_foldA a 0 i.t.bq
  repeat first | refine nx ?_ | intro _
  rename_i v5 γ
  have hkl : ((shrQ a b).map frK).length = a.length := by rw [List.length_map, shrQ_len rfl hl.symm]
  refine gLp (fun k : Nat => [(7, iv k)]) (fun k => [rA rF 31 γ.v (Go.Ear.rowAt ((shrQ a b).map frK) fr0 a.length k)]) (fun k => k ≤ a.length) (fun k => a.length - k) 0 (Nat.zero_le _) (fun k hk => ?_) (h2 := by rw [Go.Ear.rowAt_zero]; (repeat' (first | refine And.intro ?_ ?_ | trivial | rfl | omega)))
  have hb2 := bf_getD b k
  have hb3 := j.t.bqg k
  have ha2 := bf_getD a k
  have ha3 := i.t.bqg k
  have hrl : (Go.Ear.rowAt ((shrQ a b).map frK) fr0 a.length k).length = a.length := Go.Ear.rowAt_len hkl hk
  repeat first | refine nx ?_ | intro _
  refine gIf (fun c => ?_) fun c => ?_
  · have hat := shrQ_at hn hl c
    repeat first | refine nx ?_ | intro _
    refine gIf (fun c2 => ?_) fun c2 => ?_
    · rw [if_pos (sgQ_zero.1 c2)] at hat
      repeat first | refine nx ?_ | intro _
      rw [Go.Ear.rowAt_set hkl c (by rw [getD_K, hat])]
      exact gBk (k + 1) (by omega) (by omega)
    · have hne : sumF a ≠ 0 := fun e => c2 (sgQ_zero.2 e)
      rw [if_neg hne] at hat
      repeat first | refine gDs 10 8 (by rfl) (by kernel_rfl) ?_ | refine nx ?_ | intro _
      rw [Go.Ear.rowAt_set hkl c (by rw [getD_K, hat])]
      exact gBk (k + 1) (by omega) (by omega)
  · have ek : k = a.length := by omega
    subst ek
    rw [Go.Ear.rowAt_end hkl (Nat.le_refl _)]
    refine gFz γ.v ?_
    repeat first | refine nx ?_ | intro _
    trivial
end
section
variable {a : List Fr} {d : Int} {S : SV}
instance rcoarse_c [i : VL S a] : Ct Tryz.prog 137 [S, iv d] (0 < a.length ∧ wts a ≤ 5400000 ∧ 1 ≤ d ∧ d ≤ 9223372036854775807) (lv rF ((coaQ a d).map frK)) := by
  haveI := i.t
  refine ct1 i.v (ctI Tryz.call137 Tryz.func137 Tryz.ntmps137 rfl Tryz.results137 rfl [] fun h0 w0 ⟨h1, h2, h3, h4⟩ => ?_)
  have hb7 := len_wts a
  repeat first | refine nx ?_ | intro _
  refine gNl rF 31 ?_
  refine gLp (fun s : Nat × Value => [(6, iv s.1), (5, ov s.2)]) (fun s => [rA rF 31 s.2 ((a.take s.1).map fun x => frK (floorQ x.rat d))]) (fun s => s.1 ≤ a.length) (fun s => a.length - s.1) (0, .slice none 0 0) (Nat.zero_le _) fun ⟨k, v⟩ hk => ?_
  dsimp only at *
  have hb2 := bf_getD a k
  have hb3 := i.t.bqg k
  have hlt : ((a.take k).map fun x => frK (floorQ x.rat d)).length = min k a.length := by simp
  repeat first | refine nx ?_ | intro _
  refine gIf (fun e => ?_) fun e => ?_ <;> repeat first | refine nx ?_ | intro _
  · rename_i v'
    rw [← map_take_succ fr0 e]; exact gBk (k + 1, v') (by dsimp only; omega) (by dsimp only; omega)
  · rw [List.take_of_length_le (by omega), show (a.map fun x => frK (floorQ x.rat d)) = (flrQ a d).map frK by unfold flrQ; rw [List.map_map]; rfl]
    have hbi := bestAt_in h1
    obtain ⟨p, hp⟩ : ∃ p : Nat, bestAt a a.length = (p : Int) := ⟨(bestAt a a.length).toNat, by omega⟩
    have ec : coaQ a d = (flrQ a d).set p ((flrQ a d).getD p 0 + (((1 : Int) : Rat) - sumF ((flrQ a d).map frK))) := by unfold coaQ; rw [hp]; rfl
    rw [hp] at hbi ⊢
    rw [Int.toNat_natCast] at hbi
    have hpl := hbi.2
    have hfl : (flrQ a d).length = a.length := by unfold flrQ; rw [List.length_map]
    have hw := wts_flr (by omega) h4 i.t.bq
    have hs : bq (sumF ((flrQ a d).map frK)) ≤ 1 + wts ((flrQ a d).map frK) := by rw [← bq_zero]; exact bq_foldA _ 0 (bq_mapK _)
    have hg : bq ((flrQ a d).getD p 0) ≤ 5400012 := by
      have e1 : (flrQ a d).getD p 0 = floorQ (a.getD p fr0).rat d := by
        unfold flrQ; rw [List.getD_eq_getElem?_getD, List.getElem?_map, List.getD_eq_getElem?_getD, List.getElem?_eq_getElem hpl]; rfl
      have e2 := bq_floorQ (q := (a.getD p fr0).rat) (show -9223372036854775808 ≤ d by omega) h4
      have e3 := i.t.bqg p
      have e4 := bf_getD a p
      rw [e1]; omega
    have h1q : bq ((1 : Int) : Rat) ≤ 2 := bq_intc (by decide) (by decide)
    have hsub := bq_sub (((1 : Int) : Rat)) (sumF ((flrQ a d).map frK))
    have hml : ((flrQ a d).map frK).length = a.length := by rw [List.length_map, hfl]
    rw [ec]
    clear ec
    repeat first | refine gDs 13 11 (by rfl) (by kernel_rfl) ?_ | refine nx ?_ | intro _
    exact List.map_set.symm
end
end Go.E3
