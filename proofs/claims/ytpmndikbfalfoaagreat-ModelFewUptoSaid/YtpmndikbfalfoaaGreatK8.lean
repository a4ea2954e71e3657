/- K8: a part of the proofs about package model: how the program's functions run, and what they compute, for every input. -/
import Derived.Test.YtpmndikbfalfoaaGreatK7
set_option linter.all false
set_option linter.unusedVariables false
set_option maxRecDepth 20000
set_option maxHeartbeats 2000000
set_option synthInstance.maxSize 1000
namespace Go.E3
open Go Go.Ear Go.Proofs
instance foldA_c {q : Rat} {l : List Fr} {S T : SV} [i : Vw qv S q] [j : VL T l] : Ct Tryz.prog 149 [S, .cv (.func (.func 172) #[] #[]), T] (bq q + wts l ≤ 134217728) (qv (foldA q l)) := by
  haveI := j.t
  refine ct3 i (v2 := fun _ : Unit => .cv (.func (.func 172) #[] #[])) ⟨fun u => u⟩ j.v (ctI Tryz.call149 Tryz.func149 Tryz.ntmps149 rfl Tryz.results149 rfl [3] fun h0 w0 hb => ?_) (y := ())
  repeat first | refine nx ?_ | intro _
  rename_i v v2
  refine gLp (fun k : Nat => [(11, iv k)]) (fun k => [rV v [.cv (.bool (decide ((foldA q (l.take k)).num < 0))), lv rU (digs (foldA q (l.take k)).num.natAbs), lv rU (digs (foldA q (l.take k)).den)] 167]) (fun k => k ≤ l.length) (fun k => l.length - k) 0 (Nat.zero_le _) fun k hk => ?_
  have hb1 := Nat.le_trans (bq_foldA (l.take k) q fun x hx => j.t.bq x (List.mem_of_mem_take hx)) (Nat.add_le_add_left (wts_take l k) _)
  have hb2 := bf_getD l k
  have hb3 := j.t.bqg k
  have hb6 := bq_pos q
  have hb7 := len_wts l
  repeat first | refine nx ?_ | intro _
  refine gIf (fun c => ?_) fun c => ?_ <;> repeat first | refine nx ?_ | intro _
  · rw [← foldA_succ c]; exact gBk (k + 1) (by omega) (by omega)
  · rw [List.take_of_length_le (by omega)]; exact ⟨rfl, rfl, rfl⟩
instance foldM_c {q : Rat} {l : List Fr} {S T : SV} [i : Vw qv S q] [j : VL T l] : Ct Tryz.prog 149 [S, .cv (.func (.func 151) #[] #[]), T] (bq q + wts l ≤ 134217728) (qv (foldM q l)) := by
  haveI := j.t
  refine ct3 i (v2 := fun _ : Unit => .cv (.func (.func 151) #[] #[])) ⟨fun u => u⟩ j.v (ctI Tryz.call149 Tryz.func149 Tryz.ntmps149 rfl Tryz.results149 rfl [3] fun h0 w0 hb => ?_) (y := ())
  repeat first | refine nx ?_ | intro _
  rename_i v v2
  refine gLp (fun k : Nat => [(11, iv k)]) (fun k => [rV v [.cv (.bool (decide ((foldM q (l.take k)).num < 0))), lv rU (digs (foldM q (l.take k)).num.natAbs), lv rU (digs (foldM q (l.take k)).den)] 167]) (fun k => k ≤ l.length) (fun k => l.length - k) 0 (Nat.zero_le _) fun k hk => ?_
  have hb1 := Nat.le_trans (bq_foldM (l.take k) q fun x hx => j.t.bq x (List.mem_of_mem_take hx)) (Nat.add_le_add_left (wts_take l k) _)
  have hb2 := bf_getD l k
  have hb3 := j.t.bqg k
  have hb6 := bq_pos q
  have hb7 := len_wts l
  repeat first | refine nx ?_ | intro _
  refine gIf (fun c => ?_) fun c => ?_ <;> repeat first | refine nx ?_ | intro _
  · rw [← foldM_succ c]; exact gBk (k + 1) (by omega) (by omega)
  · rw [List.take_of_length_le (by omega)]; exact ⟨rfl, rfl, rfl⟩
instance sum_c {l : List Fr} {S : SV} [j : VL S l] : Ct Tryz.prog 119 [S] (wts l ≤ 134217724) (kk (sumF l)) := by
  haveI := j.t
  refine ct1 j.v (ctI Tryz.call119 Tryz.func119 Tryz.ntmps119 rfl Tryz.results119 rfl [] fun h0 w0 hb => ?_)
  have hbs := bq_foldA l (((0 : Int) : Int) : Rat) j.t.bq
  have hz : bq (((0 : Int) : Int) : Rat) ≤ 2 := bq_intc (by decide) (by decide)
  repeat first | refine nx ?_ | intro _
  exact ⟨rfl, rfl, rfl⟩
instance prod_c {l : List Fr} {S : SV} [j : VL S l] : Ct Tryz.prog 83 [S] (wts l ≤ 134217724) (kk (prodF l)) := by
  haveI := j.t
  refine ct1 j.v (ctI Tryz.call83 Tryz.func83 Tryz.ntmps83 rfl Tryz.results83 rfl [] fun h0 w0 hb => ?_)
  have hbs := bq_foldM l (((1 : Int) : Int) : Rat) j.t.bq
  have hz : bq (((1 : Int) : Int) : Rat) ≤ 2 := bq_intc (by decide) (by decide)
  repeat first | refine nx ?_ | intro _
  exact ⟨rfl, rfl, rfl⟩
instance Add_c {a b : Fr} {x y : Rat} {A B : Nat} {S T : SV} [i : VF S a x A] [j : VF T b y B] : Ct Tryz.prog 184 [S, T] (A + B ≤ 134217000) (kk (x + y)) := by
  haveI := i.t
  haveI := j.t
  refine ct2 i.v j.v (ctI Tryz.call184 Tryz.func184 Tryz.ntmps184 rfl Tryz.results184 rfl [] fun h0 w0 hb => ?_)
  obtain rfl := i.r
  obtain rfl := j.r
  obtain rfl := i.b
  obtain rfl := j.b
  have hw := wts2 a b
  repeat first | refine nx ?_ | intro _
  rw [sumF2]; exact ⟨rfl, rfl, rfl⟩
instance Mul_c {a b : Fr} {x y : Rat} {A B : Nat} {S T : SV} [i : VF S a x A] [j : VF T b y B] : Ct Tryz.prog 114 [S, T] (A + B ≤ 134217000) (kk (x * y)) := by
  haveI := i.t
  haveI := j.t
  refine ct2 i.v j.v (ctI Tryz.call114 Tryz.func114 Tryz.ntmps114 rfl Tryz.results114 rfl [] fun h0 w0 hb => ?_)
  obtain rfl := i.r
  obtain rfl := j.r
  obtain rfl := i.b
  obtain rfl := j.b
  have hw := wts2 a b
  repeat first | refine nx ?_ | intro _
  rw [prodF2]; exact ⟨rfl, rfl, rfl⟩
instance Sub_c {a b : Fr} {x y : Rat} {A B : Nat} {S T : SV} [i : VF S a x A] [j : VF T b y B] : Ct Tryz.prog 140 [S, T] (A + B ≤ 134217000) (kk (x - y)) := by
  refine ct2 i.v j.v (ctI Tryz.call140 Tryz.func140 Tryz.ntmps140 rfl Tryz.results140 rfl [] fun h0 w0 hb => ?_)
  have h1 := i.le
  have h2 := j.le
  obtain ⟨_, _, rfl, rfl⟩ := i
  obtain ⟨_, _, rfl, rfl⟩ := j
  have hn := bq_neg b.rat
  have hsb := bq_sub a.rat b.rat
  rw [Rat.sub_eq_add_neg] at hsb
  repeat first | refine nx ?_ | intro _
  rw [Rat.sub_eq_add_neg]; exact ⟨rfl, rfl, rfl⟩
instance Cmp_c {a b : Fr} {x y : Rat} {A B : Nat} {S T : SV} [i : VF S a x A] [j : VF T b y B] : Ct Tryz.prog 118 [S, T] (A + B ≤ 134217000) (iv (sgQ (x - y))) := by
  refine ct2 i.v j.v (ctI Tryz.call118 Tryz.func118 Tryz.ntmps118 rfl Tryz.results118 rfl [] fun h0 w0 hb => ?_)
  have h1 := i.le
  have h2 := j.le
  obtain ⟨_, _, rfl, rfl⟩ := i
  obtain ⟨_, _, rfl, rfl⟩ := j
  have hn := bq_neg b.rat
  repeat first | refine nx ?_ | intro _
  rw [Rat.sub_eq_add_neg]
instance Canon_c {a : Fr} {x : Rat} {A : Nat} {S : SV} [i : VF S a x A] : Ct Tryz.prog 124 [S] (A ≤ 134217000) (kk x) := by
  refine ct1 i.v (ctI Tryz.call124 Tryz.func124 Tryz.ntmps124 rfl Tryz.results124 rfl [] fun h0 w0 hb => ?_)
  have h1 := i.le
  obtain ⟨_, _, rfl, rfl⟩ := i
  repeat first | refine nx ?_ | intro _
  exact ⟨trivial, trivial, trivial⟩
instance Sign_c {a : Fr} {x : Rat} {A : Nat} {S : SV} [i : VF S a x A] : Ct Tryz.prog 87 [S] (A ≤ 134217000) (iv (sgQ x)) := by
  refine ct1 i.v (ctI Tryz.call87 Tryz.func87 Tryz.ntmps87 rfl Tryz.results87 rfl [] fun h0 w0 hb => ?_)
  obtain ⟨_, _, rfl, rfl⟩ := i
  repeat first | refine nx ?_ | intro _
  trivial
end Go.E3
set_option linter.unusedVariables false
set_option maxRecDepth 20000
set_option maxHeartbeats 2000000
set_option synthInstance.maxSize 1000
namespace Go.E3
open Go Go.Ear Go.Proofs
instance Of_c {n : Int} : Ct Tryz.prog 120 [iv n] (-9223372036854775808 ≤ n ∧ n ≤ 9223372036854775807) (kk (n : Rat)) := by
  refine (ctI Tryz.call120 Tryz.func120 Tryz.ntmps120 rfl Tryz.results120 rfl [] fun h0 w0 ⟨h1, h2⟩ => ?_)
  have hsb := bq_intc h1 h2
  repeat first | refine nx ?_ | intro _
  exact ⟨trivial, trivial, trivial⟩
instance Div_c {a b : Fr} {x y : Rat} {A B : Nat} {S T : SV} [i : VF S a x A] [j : VF T b y B] : Ct Tryz.prog 113 [S, T] (A + B ≤ 134217000) (.tp [kk (x / y), iv (errDiv y)]) := by
  refine ct2 i.v j.v (ctI Tryz.call113 Tryz.func113 Tryz.ntmps113 rfl Tryz.results113 rfl [] fun h0 w0 hb => ?_)
  have h1 := i.le
  have h2 := j.le
  obtain ⟨_, _, rfl, rfl⟩ := i
  obtain ⟨_, _, rfl, rfl⟩ := j
  have hsb := bq_div a.rat b.rat
  rw [Rat.div_def] at hsb
  have hiv := bq_inv' b.rat
  repeat first | refine nx ?_ | intro _
  refine gIf (fun c => ?_) fun c => ?_ <;> repeat first | refine nx ?_ | intro _
  · rw [c, div_zero', frK_zero]; exact ⟨⟨rfl, rfl, rfl⟩, (if_pos rfl).symm⟩
  · rw [Rat.div_def]; exact ⟨⟨rfl, rfl, rfl⟩, (if_neg c).symm⟩
instance Make_c {n d : Int} : Ct Tryz.prog 125 [iv n, iv d] (-9223372036854775808 ≤ n ∧ n ≤ 9223372036854775807 ∧ -9223372036854775808 ≤ d ∧ d ≤ 9223372036854775807) (.tp [kk ((n : Rat) / (d : Rat)), iv (errDiv (d : Rat))]) := by
  refine (ctI Tryz.call125 Tryz.func125 Tryz.ntmps125 rfl Tryz.results125 rfl [] fun h0 w0 ⟨h1, h2, h3, h4⟩ => ?_)
  have hs1 := bq_intc h1 h2
  have hs2 := bq_intc h3 h4
  repeat first | refine nx ?_ | intro _
  exact ⟨⟨trivial, trivial, trivial⟩, trivial⟩
instance Floor_c {a : Fr} {x : Rat} {A : Nat} {d : Int} {S : SV} [i : VF S a x A] : Ct Tryz.prog 182 [S, iv d] (A ≤ 60000000 ∧ -9223372036854775808 ≤ d ∧ d ≤ 9223372036854775807) (.tp [kk (floorQ x d), iv (if d < 1 then 2 else 0)]) := by
  refine ct2 (v2 := iv) i.v ⟨fun u => u⟩ (ctI Tryz.call182 Tryz.func182 Tryz.ntmps182 rfl Tryz.results182 rfl [] fun h0 w0 ⟨hb, h3, h4⟩ => ?_)
  have h1 := i.le
  obtain ⟨_, _, rfl, rfl⟩ := i
  have hsb := bq_intc h3 h4
  have hm := bq_mul a.rat (d : Rat)
  have hf := bq_floor (a.rat * (d : Rat))
  have hi := bq_inv' (d : Rat)
  have hm2 := bq_mul ((a.rat * (d : Rat)).floor : Rat) ((d : Rat))⁻¹
  repeat first | refine nx ?_ | intro _
  refine gIf (fun c => ?_) fun c => ?_
  · repeat first | refine nx ?_ | intro _
    unfold floorQ; rw [if_pos c, if_pos c, frK_zero]; exact ⟨⟨rfl, rfl, rfl⟩, rfl⟩
  · have hd0 : (d : Rat) ≠ 0 := fun e => by have := Rat.intCast_inj.1 (e.trans Rat.intCast_zero.symm); omega
    repeat first | refine nx ?_ | intro _
    unfold floorQ; rw [if_neg c, if_neg c]; exact ⟨⟨rfl, rfl, rfl⟩, rfl⟩
instance Dneg_c {a : Fr} {x : Rat} {A : Nat} {S : SV} [i : VF S a x A] : Ct Tryz.prog 117 [S] (A ≤ 134217000) (bv (decide (x < 0))) := by
  refine ct1 i.v (ctI Tryz.call117 Tryz.func117 Tryz.ntmps117 rfl Tryz.results117 rfl [] fun h0 w0 hb => ?_)
  obtain ⟨_, _, rfl, rfl⟩ := i
  repeat first | refine nx ?_ | intro _
  exact decide_eq_decide.2 sgQ_neg
instance Nneg_c {a : Fr} {x : Rat} {A : Nat} {S : SV} [i : VF S a x A] : Ct Tryz.prog 218 [S] (A ≤ 134217000) (bv (decide (x < 0))) := by
  refine ct1 i.v (ctI Tryz.call218 Tryz.func218 Tryz.ntmps218 rfl Tryz.results218 rfl [] fun h0 w0 hb => ?_)
  obtain ⟨_, _, rfl, rfl⟩ := i
  repeat first | refine nx ?_ | intro _
  exact decide_eq_decide.2 sgQ_neg
instance Bet_c {a b : Fr} {x y : Rat} {A B : Nat} {S T : SV} [i : VF S a x A] [j : VF T b y B] : Ct Tryz.prog 211 [S, T] (A + B ≤ 134217000) (bv (decide (y < x))) := by
  refine ct2 i.v j.v (ctI Tryz.call211 Tryz.func211 Tryz.ntmps211 rfl Tryz.results211 rfl [] fun h0 w0 hb => ?_)
  obtain ⟨_, _, rfl, rfl⟩ := i
  obtain ⟨_, _, rfl, rfl⟩ := j
  repeat first | refine nx ?_ | intro _
  exact decide_eq_decide.2 (sgQ_pos.trans rat_sub_pos)
theorem negF_eq (f : Fr) : decide (f.rat < 0) = negF f := rfl
instance idxD_c {l : List Fr} {S : SV} [j : VL S l] : Ct Tryz.prog 171 [S, .cv (.func (.func 117) #[] #[])] (wts l ≤ 134000000) (iv (idxP negF l)) := by
  haveI := j.t
  refine ct2 j.v (v2 := fun _ : Unit => .cv (.func (.func 117) #[] #[])) ⟨fun u => u⟩ (ctI Tryz.call171 Tryz.func171 Tryz.ntmps171 rfl Tryz.results171 rfl [] fun h0 w0 hb => ?_) (y := ())
  have hb7 := len_wts l
  repeat first | refine nx ?_ | intro _
  refine gLp (fun k : Nat => [(8, iv k)]) (fun _ => []) (fun k => k ≤ l.length ∧ (l.take k).any negF = false) (fun k => l.length - k) 0 ⟨Nat.zero_le _, rfl⟩ fun k ⟨hk, hn⟩ => ?_
  have hb2 := bf_getD l k
  repeat first | refine nx ?_ | intro _
  refine gIf (fun c => ?_) fun c => ?_ <;> repeat first | refine nx ?_ | intro _
  · refine gIf (fun d => ?_) fun d => ?_ <;> repeat first | refine nx ?_ | intro _
    · exact (idx_found fr0 c hn (decide_eq_true d)).symm
    · exact gBk (k + 1) ⟨by omega, any_take_succ fr0 c hn (decide_eq_false d)⟩ (by omega)
  · exact (idx_none (by omega) hn).symm
instance cntD_c {l : List Fr} {S : SV} [j : VL S l] : Ct Tryz.prog 116 [S, .cv (.func (.func 117) #[] #[])] (wts l ≤ 134000000) (bv (l.any negF)) := by
  haveI := j.t
  refine ct2 j.v (v2 := fun _ : Unit => .cv (.func (.func 117) #[] #[])) ⟨fun u => u⟩ (ctI Tryz.call116 Tryz.func116 Tryz.ntmps116 rfl Tryz.results116 rfl [] fun h0 w0 hb => ?_) (y := ())
  repeat first | refine nx ?_ | intro _
  exact idx_any
instance idxN_c {l : List Fr} {S : SV} [j : VL S l] : Ct Tryz.prog 171 [S, .cv (.func (.func 218) #[] #[])] (wts l ≤ 134000000) (iv (idxP negF l)) := by
  haveI := j.t
  refine ct2 j.v (v2 := fun _ : Unit => .cv (.func (.func 218) #[] #[])) ⟨fun u => u⟩ (ctI Tryz.call171 Tryz.func171 Tryz.ntmps171 rfl Tryz.results171 rfl [] fun h0 w0 hb => ?_) (y := ())
  have hb7 := len_wts l
  repeat first | refine nx ?_ | intro _
  refine gLp (fun k : Nat => [(8, iv k)]) (fun _ => []) (fun k => k ≤ l.length ∧ (l.take k).any negF = false) (fun k => l.length - k) 0 ⟨Nat.zero_le _, rfl⟩ fun k ⟨hk, hn⟩ => ?_
  have hb2 := bf_getD l k
  repeat first | refine nx ?_ | intro _
  refine gIf (fun c => ?_) fun c => ?_ <;> repeat first | refine nx ?_ | intro _
  · refine gIf (fun d => ?_) fun d => ?_ <;> repeat first | refine nx ?_ | intro _
    · exact (idx_found fr0 c hn (decide_eq_true d)).symm
    · exact gBk (k + 1) ⟨by omega, any_take_succ fr0 c hn (decide_eq_false d)⟩ (by omega)
  · exact (idx_none (by omega) hn).symm
instance cntN_c {l : List Fr} {S : SV} [j : VL S l] : Ct Tryz.prog 116 [S, .cv (.func (.func 218) #[] #[])] (wts l ≤ 134000000) (bv (l.any negF)) := by
  haveI := j.t
  refine ct2 j.v (v2 := fun _ : Unit => .cv (.func (.func 218) #[] #[])) ⟨fun u => u⟩ (ctI Tryz.call116 Tryz.func116 Tryz.ntmps116 rfl Tryz.results116 rfl [] fun h0 w0 hb => ?_) (y := ())
  repeat first | refine nx ?_ | intro _
  exact idx_any
instance first_c {l : List Fr} {S : SV} [j : VL S l] : Ct Tryz.prog 210 [S, .cv (.func (.func 211) #[] #[])] (wts l ≤ 60000000) (iv (bestAt l l.length)) := by
  haveI := j.t
  refine ct2 j.v (v2 := fun _ : Unit => .cv (.func (.func 211) #[] #[])) ⟨fun u => u⟩ (ctI Tryz.call210 Tryz.func210 Tryz.ntmps210 rfl Tryz.results210 rfl [7] fun h0 w0 hb => ?_) (y := ())
  have hb7 := len_wts l
  repeat first | refine nx ?_ | intro _
  refine gLp (fun k : Nat => [(10, iv k), (5, iv (bestAt l k))]) (fun _ => []) (fun k => k ≤ l.length) (fun k => l.length - k) 0 (h1 := by simp [bestAt_zero]) (Nat.zero_le _) fun k hk => ?_
  have hba := bestAt_bd l k
  have hb2 := bf_getD l k
  have hb8 := bf_getD l (bestAt l k).toNat
  repeat first | refine nx ?_ | intro _
  refine gIf (fun c => ?_) fun c => ?_ <;> repeat first | refine nx ?_ | intro _
  · refine gIf (fun d => ?_) fun d => ?_ <;> repeat first | refine nx ?_ | intro _
    · exact gBk (k + 1) (by omega) (by omega) (h1 := by rw [bestAt_succ, if_pos d]; simp)
    · exact gBk (k + 1) (by omega) (by omega) (h1 := by rw [bestAt_succ, if_neg d]; simp)
  · rw [show k = l.length by omega]
instance Best_c {l : List Fr} {S : SV} [j : VL S l] : Ct Tryz.prog 183 [S] (wts l ≤ 60000000) (iv (bestAt l l.length)) := by
  haveI := j.t
  refine ct1 j.v (ctI Tryz.call183 Tryz.func183 Tryz.ntmps183 rfl Tryz.results183 rfl [] fun h0 w0 hb => ?_)
  repeat first | refine nx ?_ | intro _
  trivial
instance Distribution_c {l : List Fr} {S : SV} [j : VL S l] : Ct Tryz.prog 52 [S] (wts l ≤ 134000000) (bv (distF l)) := by
  haveI := j.t
  refine ct1 j.v (ctI Tryz.call52 Tryz.func52 Tryz.ntmps52 rfl Tryz.results52 rfl [] fun h0 w0 hb => ?_)
  have hbs : bq (sumF l) ≤ 1 + wts l := by rw [← bq_zero]; exact bq_foldA l 0 j.t.bq
  have hb1 : bq (((1 : Int) : Int) : Rat) ≤ 2 := bq_intc (by decide) (by decide)
  repeat first | refine nx ?_ | intro _
  unfold distF; congr 1; exact decide_eq_decide.2 sgQ_sub_one
instance Normalize_c {l : List Fr} {S : SV} [j : VL S l] : Ct Tryz.prog 207 [S] (wts l ≤ 60000000) (.tp [lv rF ((normF l).map frK), iv (normE l)]) := by
  haveI := j.t
  refine ct1 j.v (ctI Tryz.call207 Tryz.func207 Tryz.ntmps207 rfl Tryz.results207 rfl [] fun h0 w0 hb => ?_)
  have hbs : bq (sumF l) ≤ 1 + wts l := by rw [← bq_zero]; exact bq_foldA l 0 j.t.bq
  have hb7 := len_wts l
  have hbi := bq_inv' (sumF l)
  repeat first | refine nx ?_ | intro _
  refine gIf (fun c => ?_) fun c => ?_ <;> repeat first | refine nx ?_ | intro _
  · simp [normF, normE, c]
  refine gIf (fun d => ?_) fun d => ?_ <;> repeat first | refine nx ?_ | intro _
  · simp [normF, normE, c, d]
  refine gNl rF 31 ?_
  refine gLp (fun s : Nat × Value => [(17, iv s.1), (5, ov s.2)]) (fun s => [rA rF 31 s.2 ((l.take s.1).map fun f => frK (f.rat * (sumF l)⁻¹))]) (fun s => s.1 ≤ l.length) (fun s => l.length - s.1) (0, .slice none 0 0) (Nat.zero_le _) fun ⟨k, v⟩ hk => ?_
  dsimp only at *
  have hb2 := bf_getD l k
  have hb3 := j.t.bqg k
  have hb6 := bq_mul (l.getD k fr0).rat (sumF l)⁻¹
  have hlt : ((l.take k).map fun f => frK (f.rat * (sumF l)⁻¹)).length = min k l.length := by simp
  repeat first | refine nx ?_ | intro _
  refine gIf (fun e => ?_) fun e => ?_ <;> repeat first | refine nx ?_ | intro _
  · rename_i v'
    rw [← map_take_succ fr0 e]; exact gBk (k + 1, v') (by dsimp only; omega) (by dsimp only; omega)
  · rw [List.take_of_length_le (by omega)]; simp [normF, normE, c, d]
end Go.E3
set_option linter.unusedVariables false
namespace Go.Ear
structure Md where
  start : List Fr
  move : List (List Fr)
  fin : List Fr
  say : List (List Fr)
def md0 : Md := ⟨[], [], [], []⟩
def symb (m : Md) : Nat := (m.say.getD 0 []).length
def longM (m : Md) : Bool := decide (40 < m.start.length) || (decide (0 < m.say.length) && decide (64 < symb m))
def leaveM (m : Md) (i : Nat) : List Fr := m.move.getD i [] ++ [m.fin.getD i fr0]
def rowM (m : Md) (i : Nat) : Bool :=
  decide ((m.move.getD i []).length = m.start.length) && decide ((m.say.getD i []).length = symb m) && decide (1 ≤ symb m) && distF (leaveM m i) && distF (m.say.getD i [])
def validM (m : Md) : Bool :=
  decide (1 ≤ m.start.length) && decide (m.fin.length = m.start.length) && decide (m.move.length = m.start.length) && decide (m.say.length = m.start.length) && distF m.start && (List.range m.start.length).all (rowM m)
structure MdB (K : Nat) (m : Md) : Prop where
  start : wts m.start ≤ K
  move : ∀ l ∈ m.move, wts l ≤ K
  fin : wts m.fin ≤ K
  say : ∀ l ∈ m.say, wts l ≤ K
theorem wts_getD {K : Nat} {ll : List (List Fr)} (h : ∀ l ∈ ll, wts l ≤ K) (i : Nat) : wts (ll.getD i []) ≤ K := by
  rw [List.getD_eq_getElem?_getD]
  cases hi : ll[i]? with
  | none => exact Nat.zero_le _
  | some l => exact h l (List.mem_of_getElem? hi)
theorem MdB.mv {K : Nat} {m : Md} (b : MdB K m) (i : Nat) : wts (m.move.getD i []) ≤ K := wts_getD b.move i
theorem MdB.sy {K : Nat} {m : Md} (b : MdB K m) (i : Nat) : wts (m.say.getD i []) ≤ K := wts_getD b.say i
theorem wts_append (a b : List Fr) : wts (a ++ b) = wts a + wts b := by unfold wts; simp
theorem MdB.lv {K : Nat} {m : Md} (b : MdB K m) (i : Nat) : wts (leaveM m i) ≤ K + K + 2 := by
  unfold leaveM; rw [wts_append, wts_cons, wts_nil]; have := b.mv i; have := bf_getD m.fin i; have := b.fin; omega
theorem rows_succ {m : Md} {k : Nat} (h : (List.range k).all (rowM m) = true) (hk : rowM m k = true) : (List.range (k + 1)).all (rowM m) = true := by
  rw [List.range_succ, List.all_append, h]; simp [hk]
theorem rows_not {m : Md} {k n : Nat} (hk : k < n) (h : rowM m k = false) : (List.range n).all (rowM m) = false := by
  rw [List.all_eq_false]; exact ⟨k, List.mem_range.2 hk, by simp [h]⟩
end Go.Ear
namespace Go.Ear
section
variable {m : Md} {i : Nat}
theorem rowM_ok (h1 : (m.move.getD i []).length = m.start.length) (h2 : (m.say.getD i []).length = (m.say.getD 0 []).length) (h3 : 1 ≤ (m.say.getD 0 []).length) (h4 : distF (m.move.getD i [] ++ [m.fin.getD i fr0]) = true) (h5 : distF (m.say.getD i []) = true) : rowM m i = true := by
  unfold rowM leaveM symb; rw [decide_eq_true h1, decide_eq_true h2, decide_eq_true h3, h4, h5]; rfl
theorem rowM_no1 (h : (m.move.getD i []).length ≠ m.start.length ∨ (m.say.getD i []).length ≠ (m.say.getD 0 []).length ∨ (m.say.getD 0 []).length < 1) : rowM m i = false := by
  rw [← Bool.not_eq_true]; unfold rowM symb; intro e
  simp only [Bool.and_eq_true, decide_eq_true_eq] at e
  omega
theorem rowM_no2 (h : ¬ distF (m.move.getD i [] ++ [m.fin.getD i fr0]) = true) : rowM m i = false := by
  rw [← Bool.not_eq_true]; unfold rowM leaveM; intro e
  simp only [Bool.and_eq_true, decide_eq_true_eq] at e
  exact h e.1.2
theorem rowM_no3 (h : ¬ distF (m.say.getD i []) = true) : rowM m i = false := by
  rw [← Bool.not_eq_true]; unfold rowM; intro e
  simp only [Bool.and_eq_true, decide_eq_true_eq] at e
  exact h e.2
theorem validM_iff : validM m = true ↔ (1 ≤ m.start.length ∧ m.fin.length = m.start.length ∧ m.move.length = m.start.length ∧ m.say.length = m.start.length) ∧ distF m.start = true ∧ (List.range m.start.length).all (rowM m) = true := by
  unfold validM
  simp only [Bool.and_eq_true, decide_eq_true_eq]
  constructor
  · rintro ⟨⟨⟨⟨⟨a, b⟩, c⟩, d⟩, e⟩, f⟩; exact ⟨⟨a, b, c, d⟩, e, f⟩
  · rintro ⟨⟨a, b, c, d⟩, e, f⟩; exact ⟨⟨⟨⟨⟨a, b⟩, c⟩, d⟩, e⟩, f⟩
theorem valid_no1 (h : m.start.length < 1 ∨ m.fin.length ≠ m.start.length ∨ m.move.length ≠ m.start.length ∨ m.say.length ≠ m.start.length) : validM m = false := by
  rw [← Bool.not_eq_true, validM_iff]; omega
theorem valid_no2 (h : ¬ distF m.start = true) : validM m = false := by
  rw [← Bool.not_eq_true, validM_iff]; exact fun e => h e.2.1
theorem valid_no3 (hi : i < m.start.length) (h : rowM m i = false) : validM m = false := by
  rw [← Bool.not_eq_true, validM_iff]; intro e
  rw [rows_not hi h] at e
  exact Bool.noConfusion e.2.2
theorem valid_ok (h : 1 ≤ m.start.length ∧ m.fin.length = m.start.length ∧ m.move.length = m.start.length ∧ m.say.length = m.start.length) (ha : (List.range i).all (rowM m) = true) (hi : i = m.start.length) (hd : distF m.start = true) : validM m = true := by
  subst hi; exact validM_iff.2 ⟨h, hd, ha⟩
theorem valid_len (h : validM m = true) : 1 ≤ m.start.length ∧ m.fin.length = m.start.length ∧ m.move.length = m.start.length ∧ m.say.length = m.start.length := (validM_iff.1 h).1
theorem valid_row (h : validM m = true) (hi : i < m.start.length) : (m.move.getD i []).length = m.start.length ∧ (m.say.getD i []).length = symb m ∧ 1 ≤ symb m ∧ distF (leaveM m i) = true ∧ distF (m.say.getD i []) = true := by
  have := List.all_eq_true.1 (validM_iff.1 h).2.2 i (List.mem_range.2 hi)
  unfold rowM at this
  simp only [Bool.and_eq_true, decide_eq_true_eq] at this
  exact ⟨this.1.1.1.1, this.1.1.1.2, this.1.1.2, this.1.2, this.2⟩
end
end Go.Ear
namespace Go.Ear
section
variable  {n : Nat}    {d : Tmp}  {pos : String} {af : Array Edge} {g : Option (Nat × Bool)}
end
section
variable {α : Type}  
end
end Go.Ear
namespace Go.Ear
theorem md_getD {K : Nat} {l : List Md} (h : ∀ m ∈ l, MdB K m) (k : Nat) : MdB K (l.getD k md0) := by
  rw [List.getD_eq_getElem?_getD]
  cases hk : l[k]? with
  | none => exact ⟨Nat.zero_le _, (fun _ h => by cases h), Nat.zero_le _, (fun _ h => by cases h)⟩
  | some m => exact h m (List.mem_of_getElem? hk)
def longO (o : List Int) : Bool := decide (1000 < o.length)
def notV (m : Md) : Bool := !validM m
def offS (k : Int) (x : Int) : Bool := decide (x < 0) || decide (k ≤ x)
def heardM (ms : List Md) (o : List Int) : Bool := o.any (offS (((ms.getD 0 md0).say.getD 0 []).length : Int))
def checkE (ms : List Md) (data : List (List Int)) : Int :=
  if ms.any longM || decide (200 < data.length) || data.any longO then 5 else if ms.any notV then 2 else if data.any (heardM ms) then 2 else 0
end Go.Ear
namespace Go.Ear
theorem any_at {α : Type} {p : α → Bool} {l : List α} {i : Nat} (d : α) (hi : i < l.length) (h : p (l.getD i d) = true) : l.any p = true := by
  rw [List.any_eq_true]
  refine ⟨l.getD i d, ?_, h⟩
  rw [List.getD_eq_getElem?_getD, List.getElem?_eq_getElem hi]
  exact List.getElem_mem hi
theorem not_any_at {α : Type} {p : α → Bool} {l : List α} {i : Nat} (d : α) (hi : i < l.length) (h : ¬ l.any p = true) : p (l.getD i d) = false := by
  rw [← Bool.not_eq_true]; exact fun e => h (any_at d hi e)
theorem valid_first {ms : List Md} (h : ¬ ms.any notV = true) (hl : 0 < ms.length) : validM (ms.getD 0 md0) = true := by
  have := not_any_at md0 hl h
  unfold notV at this
  simpa using this
theorem checkE_long {ms : List Md} {data : List (List Int)} (h : ms.any longM = true ∨ 200 < data.length ∨ data.any longO = true) : 5 = checkE ms data := by
  unfold checkE
  rcases h with h | h | h
  · rw [h]; rfl
  · rw [decide_eq_true h]; simp
  · rw [h]; simp
theorem checkE_not {ms : List Md} {data : List (List Int)} (h1 : ¬ ms.any longM = true) (h2 : ¬ 200 < data.length) (h3 : ¬ data.any longO = true) : checkE ms data = if ms.any notV then 2 else if data.any (heardM ms) then 2 else 0 := by
  unfold checkE
  rw [Bool.not_eq_true] at h1 h3
  rw [h1, decide_eq_false h2, h3]; rfl
theorem checkE_bad {ms : List Md} {data : List (List Int)} (h1 : ¬ ms.any longM = true) (h2 : ¬ 200 < data.length) (h3 : ¬ data.any longO = true) (h4 : ms.any notV = true) : 2 = checkE ms data := by
  rw [checkE_not h1 h2 h3, if_pos h4]
theorem checkE_off {ms : List Md} {data : List (List Int)} (h1 : ¬ ms.any longM = true) (h2 : ¬ 200 < data.length) (h3 : ¬ data.any longO = true) (h4 : ¬ ms.any notV = true) (h5 : data.any (heardM ms) = true) : 2 = checkE ms data := by
  rw [checkE_not h1 h2 h3, if_neg h4, if_pos h5]
theorem checkE_ok {ms : List Md} {data : List (List Int)} (h1 : ¬ ms.any longM = true) (h2 : ¬ 200 < data.length) (h3 : ¬ data.any longO = true) (h4 : ¬ ms.any notV = true) (h5 : data.any (heardM ms) = false) : 0 = checkE ms data := by
  rw [checkE_not h1 h2 h3, if_neg h4, h5]; rfl
end Go.Ear
namespace Go.Ear
theorem getD_mem' {α : Type} (l : List α) (d : α) {i : Nat} (hi : i < l.length) : l.getD i d ∈ l := by
  rw [List.getD_eq_getElem?_getD, List.getElem?_eq_getElem hi]; exact List.getElem_mem hi
end Go.Ear
namespace Go.Ear
structure Tr where
  m : Md
  o : List Int
def tr0 : Tr := ⟨md0, []⟩
def sumTo (q : Nat → Rat) : Nat → Rat
  | 0 => 0
  | k + 1 => sumTo q k + q k
theorem sumTo_succ (q : Nat → Rat) (k : Nat) : sumTo q (k + 1) = sumTo q k + q k := rfl
theorem sumTo_skip {q : Nat → Rat} {k : Nat} (h : q k = 0) : sumTo q (k + 1) = sumTo q k := by rw [sumTo_succ, h, Rat.add_zero]
theorem bq_sumTo {q : Nat → Rat} {B : Nat} : ∀ n, (∀ i, i < n → bq (q i) ≤ B) → bq (sumTo q n) ≤ 1 + n * (B + 1)
  | 0, _ => by show bq 0 ≤ _; have := bq_zero; omega
  | n + 1, h => by
    rw [sumTo_succ]
    have h1 := bq_sumTo n fun i hi => h i (by omega)
    have h2 := h n (by omega)
    have h3 := bq_add (sumTo q n) (q n)
    rw [Nat.add_mul, Nat.one_mul]; omega
theorem sumTo_congr {q q' : Nat → Rat} : ∀ n, (∀ i, i < n → q i = q' i) → sumTo q n = sumTo q' n
  | 0, _ => rfl
  | n + 1, h => by rw [sumTo_succ, sumTo_succ, sumTo_congr n fun i hi => h i (by omega), h n (by omega)]
end Go.Ear
namespace Go.Ear
def likT (t : Tr) (f : List (List Rat)) : Rat :=
  if f.length = 0 then 0 else sumTo (fun i => (f.getD (f.length - 1) []).getD i 0 * (t.m.fin.getD i fr0).rat) t.m.start.length
end Go.Ear
namespace Go.Ear
theorem le_of_mul {s B L : Nat} (h0 : 0 < s) (h : s * (B + 1) ≤ L) : B ≤ L := by
  have : B + 1 ≤ s * (B + 1) := Nat.le_mul_of_pos_left _ h0
  omega
end Go.Ear
namespace Go.Ear
end Go.Ear
namespace Go.Ear
end Go.Ear
namespace Go.Ear
section
variable {α : Type}    {bo n k l : Nat}  {pos : Nat → Nat} {row : Nat → List α}  
def rowAt (row : List α) (d : α) (s i : Nat) : List α := row.take i ++ List.replicate (s - i) d
theorem rowAt_zero (row : List α) (d : α) (s : Nat) : rowAt row d s 0 = List.replicate s d := by simp [rowAt]
theorem rowAt_len {row : List α} {d : α} {s i : Nat} (hl : row.length = s) (hi : i ≤ s) : (rowAt row d s i).length = s := by unfold rowAt; simp; omega
theorem rowAt_end {row : List α} {d : α} {s i : Nat} (hl : row.length = s) (hi : s ≤ i) : rowAt row d s i = row := by
  unfold rowAt; rw [List.take_of_length_le (by omega), Nat.sub_eq_zero_of_le hi]; simp
theorem rowAt_set {row : List α} {d q : α} {s i : Nat} (hl : row.length = s) (hi : i < s) (hq : q = row.getD i d) : (rowAt row d s i).set i q = rowAt row d s (i + 1) := by
  subst hq
  unfold rowAt
  apply List.ext_getElem?
  intro j
  have hmin : min i row.length = i := Nat.min_eq_left (by omega)
  rw [List.getElem?_set]
  by_cases hj : i = j
  · subst hj
    rw [if_pos rfl, if_pos (by simp; omega), List.getElem?_append_left (by simp; omega), List.getElem?_take, if_pos (by omega), List.getD_eq_getElem?_getD, List.getElem?_eq_getElem (by omega)]; rfl
  · rw [if_neg hj]
    by_cases hlt : j < i
    · rw [List.getElem?_append_left (by simp; omega), List.getElem?_append_left (by simp; omega), List.getElem?_take, List.getElem?_take, if_pos hlt, if_pos (by omega)]
    · rw [List.getElem?_append_right (by simp; omega), List.getElem?_append_right (by simp; omega)]
      simp only [List.length_take, hmin, Nat.min_eq_left (show i + 1 ≤ row.length by omega), List.getElem?_replicate]
      by_cases hs : j < s
      · rw [if_pos (by omega), if_pos (by omega)]
      · rw [if_neg (by omega), if_neg (by omega)]
end
section rules
variable  {n : Nat}   
end rules
def sayT (t : Tr) (i k : Nat) : Rat := ((t.m.say.getD i []).getD (t.o.getD k 0).toNat fr0).rat
def moveT (t : Tr) (i j : Nat) : Rat := ((t.m.move.getD i []).getD j fr0).rat
def fwd (t : Tr) : Nat → List Rat
  | 0 => (List.range t.m.start.length).map fun i => (t.m.start.getD i fr0).rat * sayT t i 0
  | k + 1 => (List.range t.m.start.length).map fun i => sayT t i (k + 1) * sumTo (fun j => (fwd t k).getD j 0 * moveT t j i) t.m.start.length
def bwd (t : Tr) : Nat → List Rat
  | 0 => (List.range t.m.start.length).map fun i => (t.m.fin.getD i fr0).rat
  | k + 1 => (List.range t.m.start.length).map fun i => sumTo (fun j => moveT t i j * sayT t j (t.o.length - 1 - k) * (bwd t k).getD j 0) t.m.start.length
def fwdAll (t : Tr) : List (List Rat) := (List.range t.o.length).map (fwd t)
def bwdAll (t : Tr) : List (List Rat) := (List.range t.o.length).map fun p => bwd t (t.o.length - 1 - p)
theorem range_getD {α : Type} (f : Nat → α) (d : α) {n i : Nat} (hi : i < n) : ((List.range n).map f).getD i d = f i := by
  rw [List.getD_eq_getElem?_getD, List.getElem?_map, List.getElem?_range hi]; rfl
theorem fwd_len (t : Tr) (k : Nat) : (fwd t k).length = t.m.start.length := by cases k <;> simp [fwd]
theorem bwd_len (t : Tr) (k : Nat) : (bwd t k).length = t.m.start.length := by cases k <;> simp [bwd]
theorem fwd_zero {t : Tr} {i : Nat} (hi : i < t.m.start.length) : (t.m.start.getD i fr0).rat * sayT t i 0 = (fwd t 0).getD i 0 := by rw [fwd, range_getD _ _ hi]
theorem fwd_succ {t : Tr} {i k : Nat} (hi : i < t.m.start.length) : sayT t i (k + 1) * sumTo (fun j => (fwd t k).getD j 0 * moveT t j i) t.m.start.length = (fwd t (k + 1)).getD i 0 := by rw [fwd, range_getD _ _ hi]
theorem bwd_zero {t : Tr} {i : Nat} (hi : i < t.m.start.length) : (t.m.fin.getD i fr0).rat = (bwd t 0).getD i 0 := by rw [bwd, range_getD _ _ hi]
theorem bwd_succ {t : Tr} {i k : Nat} (hi : i < t.m.start.length) : sumTo (fun j => moveT t i j * sayT t j (t.o.length - 1 - k) * (bwd t k).getD j 0) t.m.start.length = (bwd t (k + 1)).getD i 0 := by rw [bwd, range_getD _ _ hi]
structure TOk (t : Tr) : Prop where
  s1 : 1 ≤ t.m.start.length
  s40 : t.m.start.length ≤ 40
  n : t.o.length ≤ 1000
  mv : t.m.move.length = t.m.start.length
  mvi : ∀ i, i < t.m.start.length → (t.m.move.getD i []).length = t.m.start.length
  fin : t.m.fin.length = t.m.start.length
  say : t.m.say.length = t.m.start.length
  sayi : ∀ i k, i < t.m.start.length → k < t.o.length → 0 ≤ t.o.getD k 0 ∧ (t.o.getD k 0).toNat < (t.m.say.getD i []).length
def FwB (t : Tr) : Prop := ∀ k i, k < t.o.length → bq ((fwd t k).getD i 0) ≤ 300000
def BwB (t : Tr) : Prop := ∀ k i, k < t.o.length → bq ((bwd t k).getD i 0) ≤ 300000
theorem MdB.mvb {K : Nat} {m : Md} (b : MdB K m) (i j : Nat) : bf ((m.move.getD i []).getD j fr0) ≤ K + 1 := Nat.le_trans (bf_getD _ _) (Nat.succ_le_succ (b.mv i))
theorem MdB.syb {K : Nat} {m : Md} (b : MdB K m) (i j : Nat) : bf ((m.say.getD i []).getD j fr0) ≤ K + 1 := Nat.le_trans (bf_getD _ _) (Nat.succ_le_succ (b.sy i))
theorem MdB.fb {K : Nat} {m : Md} (b : MdB K m) (j : Nat) : bf (m.fin.getD j fr0) ≤ K + 1 := Nat.le_trans (bf_getD _ _) (Nat.succ_le_succ b.fin)
theorem MdB.sb {K : Nat} {m : Md} (b : MdB K m) (j : Nat) : bf (m.start.getD j fr0) ≤ K + 1 := Nat.le_trans (bf_getD _ _) (Nat.succ_le_succ b.start)
structure TW (t : Tr) : Prop where
  mv : ∀ i j, bq (moveT t i j) ≤ 100001
  sy : ∀ i k, bq (sayT t i k) ≤ 100001
theorem bq_f2 {t : Tr} (tw : TW t) {p : List Rat} (hp : ∀ j, bq (p.getD j 0) ≤ 300000) (i c : Nat) : bq (p.getD i 0 * moveT t i c) ≤ 500000 := by
  have := bq_mul (p.getD i 0) (moveT t i c); have := hp i; have := tw.mv i c; omega
theorem bq_b3 {t : Tr} (tw : TW t) {p : List Rat} (hp : ∀ j, bq (p.getD j 0) ≤ 300000) (c i k : Nat) : bq (moveT t c i * sayT t i k * p.getD i 0) ≤ 600000 := by
  have := bq_mul (moveT t c i * sayT t i k) (p.getD i 0); have := bq_mul (moveT t c i) (sayT t i k); have := hp i; have := tw.mv c i; have := tw.sy i k; omega
theorem bq_sumF' {t : Tr} (ok : TOk t) (tw : TW t) {p : List Rat} (hp : ∀ j, bq (p.getD j 0) ≤ 300000) (c : Nat) : bq (sumTo (fun j => p.getD j 0 * moveT t j c) t.m.start.length) ≤ 30000000 := by
  have := bq_sumTo (q := fun j => p.getD j 0 * moveT t j c) (B := 500000) t.m.start.length (fun i _ => bq_f2 tw hp i c)
  have := ok.s40; omega
theorem bq_sumB {t : Tr} (ok : TOk t) (tw : TW t) {p : List Rat} (hp : ∀ j, bq (p.getD j 0) ≤ 300000) (c k : Nat) : bq (sumTo (fun j => moveT t c j * sayT t j k * p.getD j 0) t.m.start.length) ≤ 30000000 := by
  have := bq_sumTo (q := fun j => moveT t c j * sayT t j k * p.getD j 0) (B := 600000) t.m.start.length (fun i _ => bq_b3 tw hp c i k)
  have := ok.s40; omega
theorem fwd_z {t : Tr} {i k : Nat} (h0 : k = 0) (hi : i < t.m.start.length) : (t.m.start.getD i fr0).rat * ((t.m.say.getD i []).getD (t.o.getD k 0).toNat fr0).rat = (fwd t k).getD i 0 := by subst h0; exact fwd_zero hi
theorem fwd_s {t : Tr} {i k : Nat} (h0 : 1 ≤ k) (hi : i < t.m.start.length) : ((t.m.say.getD i []).getD (t.o.getD k 0).toNat fr0).rat * sumTo (fun j => (fwd t (k - 1)).getD j 0 * moveT t j i) t.m.start.length = (fwd t k).getD i 0 := by
  obtain ⟨k, rfl⟩ : ∃ k', k = k' + 1 := ⟨k - 1, by omega⟩
  exact fwd_succ hi
theorem bwd_z {t : Tr} {i k : Nat} (h0 : k = 0) (hi : i < t.m.start.length) : (t.m.fin.getD i fr0).rat = (bwd t k).getD i 0 := by subst h0; exact bwd_zero hi
theorem bwd_s {t : Tr} {i k : Nat} (h0 : 1 ≤ k) (hk : k < t.o.length) (hi : i < t.m.start.length) : sumTo (fun j => moveT t i j * sayT t j (t.o.length - 1 - k + 1) * (bwd t (k - 1)).getD j 0) t.m.start.length = (bwd t k).getD i 0 := by
  obtain ⟨k, rfl⟩ : ∃ k', k = k' + 1 := ⟨k - 1, by omega⟩
  rw [show t.o.length - 1 - (k + 1) + 1 = t.o.length - 1 - k by omega]
  exact bwd_succ hi
theorem prodF3 (a b c : Fr) : prodF [a, b, c] = a.rat * b.rat * c.rat := by show 1 * a.rat * b.rat * c.rat = _; rw [Rat.one_mul]
theorem prodF4 (a b c d : Fr) : prodF [a, b, c, d] = a.rat * b.rat * c.rat * d.rat := by show 1 * a.rat * b.rat * c.rat * d.rat = _; rw [Rat.one_mul]
end Go.Ear
namespace Go.Ear
def Off (p q : Nat × Nat) : Prop := p.2 ≤ q.1 ∨ q.2 ≤ p.1
theorem Off.symm {p q : Nat × Nat} (o : Off p q) : Off q p := Or.symm o
section dag
variable  {n : Nat} {ops : Array Oper} {σ : Nat → Nat} {m : Nat}     
theorem never_at {l : List Oper} {m s k : Nat} {o : Oper} (hs : okNever l m s = true) (ho : l[k]? = some o) (hk : k < m) : o.dst ≠ some s := by
  intro hd
  unfold okNever at hs
  have hmem : o ∈ l.take m := by
    refine List.mem_of_getElem? (i := k) ?_
    rw [List.getElem?_take, if_pos hk]; exact ho
  have := List.all_eq_true.1 hs o hmem
  simp only [hd] at this
  rw [beq_self] at this
  cases this
end dag
end Go.Ear
namespace Go.Ear
theorem checkE_TOk {m : Md} {o : List Int} (h : checkE [m] [o] = 0) : TOk ⟨m, o⟩ := by
  have h1 : longM m = false ∧ longO o = false ∧ validM m = true ∧ heardM [m] o = false := by
    unfold checkE at h
    split at h
    · cases h
    · rename_i c1
      split at h
      · cases h
      · rename_i c2
        split at h
        · cases h
        · rename_i c3
          simp only [List.any_cons, List.any_nil, Bool.or_false, List.length_cons, List.length_nil, Bool.or_eq_true, decide_eq_true_eq, not_or, Bool.not_eq_true] at c1 c2 c3
          unfold notV at c2
          exact ⟨c1.1.1, c1.2, by simpa using c2, c3⟩
  obtain ⟨a, b, c, d⟩ := h1
  have hl := valid_len c
  unfold longM at a
  unfold longO at b
  simp only [Bool.or_eq_false_iff, decide_eq_false_iff_not] at a b
  refine ⟨hl.1, by show m.start.length ≤ 40; omega, by show o.length ≤ 1000; omega, hl.2.2.1, fun i hi => (valid_row c hi).1, hl.2.1, hl.2.2.2, ?_⟩
  intro i k hi hk
  unfold heardM at d
  have := not_any_at 0 hk (by rw [d]; exact Bool.false_ne_true)
  unfold offS at this
  simp only [Bool.or_eq_false_iff, decide_eq_false_iff_not] at this
  have h2 := (valid_row c hi).2.1
  unfold symb at h2
  have e : ((List.getD [m] 0 md0).say.getD 0 []) = m.say.getD 0 [] := rfl
  rw [e] at this
  show 0 ≤ o.getD k 0 ∧ (o.getD k 0).toNat < (m.say.getD i []).length
  omega
def likM (m : Md) (o : List Int) : Rat := if checkE [m] [o] = 0 then likT ⟨m, o⟩ (fwdAll ⟨m, o⟩) else 0
def fwdM (m : Md) (o : List Int) : List (List Rat) := if checkE [m] [o] = 0 then fwdAll ⟨m, o⟩ else []
def bwdM (m : Md) (o : List Int) : List (List Rat) := if checkE [m] [o] = 0 then bwdAll ⟨m, o⟩ else []
theorem fwdAll_len (t : Tr) : (fwdAll t).length = t.o.length := by simp [fwdAll]
theorem bwdAll_len (t : Tr) : (bwdAll t).length = t.o.length := by simp [bwdAll]
theorem fwdAll_at {t : Tr} {k : Nat} (h : k < t.o.length) : (fwdAll t).getD k [] = fwd t k := range_getD _ _ h
theorem bwdAll_at {t : Tr} {k : Nat} (h : k < t.o.length) : (bwdAll t).getD k [] = bwd t (t.o.length - 1 - k) := range_getD (fun p => bwd t (t.o.length - 1 - p)) _ h
theorem fwd_last {t : Tr} (h : (fwdAll t).length ≠ 0) (i : Nat) : ((fwdAll t).getD ((fwdAll t).length - 1) []).getD i 0 = (fwd t (t.o.length - 1)).getD i 0 := by
  rw [fwdAll_len] at *; rw [fwdAll_at (by omega)]
theorem lik_len (t : Tr) : (fwdAll t).length = 0 ∨ ((fwdAll t).getD ((fwdAll t).length - 1) []).length = t.m.start.length := by
  rw [fwdAll_len]
  by_cases h : t.o.length = 0
  · exact .inl h
  · right; rw [fwdAll_at (by omega), fwd_len]
theorem lik_bd {t : Tr} (fb : FwB t) (mb : MdB 100000 t.m) (i : Nat) : bq (((fwdAll t).getD ((fwdAll t).length - 1) []).getD i 0) + bf (t.m.fin.getD i fr0) ≤ 400001 := by
  have := mb.fb i
  by_cases h : t.o.length = 0
  · have e : fwdAll t = [] := by unfold fwdAll; rw [h]; rfl
    rw [e]
    have hz := bq_zero
    show bq (([] : List Rat).getD i 0) + _ ≤ _
    rw [show ([] : List Rat).getD i 0 = 0 from rfl]
    omega
  · rw [fwdAll_len, fwdAll_at (by omega)]
    have := fb (t.o.length - 1) i (by omega)
    omega
def argN (q : Nat → Rat) : Nat → Nat
  | 0 => 0
  | k + 1 => if q (argN q k) < q k then k else argN q k
theorem argN_t {q : Nat → Rat} {i : Nat} (h : q (argN q i) < q i) : argN q (i + 1) = i := by rw [argN]; exact if_pos h
theorem argN_f {q : Nat → Rat} {i : Nat} (h : ¬ q (argN q i) < q i) : argN q (i + 1) = argN q i := by rw [argN]; exact if_neg h
theorem argN_one (q : Nat → Rat) : argN q 1 = 0 := by
  rw [argN]; split <;> rfl
theorem argN_lt {q : Nat → Rat} : ∀ {k : Nat}, 1 ≤ k → argN q k < k
  | k + 1, _ => by
    rw [argN]
    split
    · omega
    · cases k with
      | zero => exact Nat.zero_lt_one
      | succ k => have := argN_lt (q := q) (k := k + 1) (by omega); omega
def rq (t : Tr) (p : List Fr) (i k : Nat) : Nat → Rat := fun j => moveT t i j * sayT t j k * (p.getD j fr0).rat
def rq0 (t : Tr) (p : List Fr) : Nat → Rat := fun i => (t.m.start.getD i fr0).rat * sayT t i 0 * (p.getD i fr0).rat
def rst (t : Tr) : Nat → List Fr
  | 0 => (List.range t.m.start.length).map fun i => t.m.fin.getD i fr0
  | k + 1 => (List.range t.m.start.length).map fun i => frK (rq t (rst t k) i (t.o.length - 1 - k) (argN (rq t (rst t k) i (t.o.length - 1 - k)) t.m.start.length))
theorem rst_len (t : Tr) (k : Nat) : (rst t k).length = t.m.start.length := by cases k <;> simp [rst]
theorem rst_z {t : Tr} {i k : Nat} (h0 : k = 0) (hi : i < t.m.start.length) : t.m.fin.getD i fr0 = (rst t k).getD i fr0 := by subst h0; rw [rst, range_getD _ _ hi]
theorem rst_s {t : Tr} {i k : Nat} (h0 : 1 ≤ k) (hk : k < t.o.length) (hi : i < t.m.start.length) :
    frK (rq t (rst t (k - 1)) i (t.o.length - 1 - k + 1) (argN (rq t (rst t (k - 1)) i (t.o.length - 1 - k + 1)) t.m.start.length)) = (rst t k).getD i fr0 := by
  obtain ⟨k, rfl⟩ : ∃ k', k = k' + 1 := ⟨k - 1, by omega⟩
  rw [show t.o.length - 1 - (k + 1) + 1 = t.o.length - 1 - k by omega, rst, range_getD _ _ hi]; rfl
def rstAll (t : Tr) : List (List Fr) := (List.range t.o.length).map fun p => rst t (t.o.length - 1 - p)
def RsB (t : Tr) : Prop := ∀ k i, k < t.o.length → bf ((rst t k).getD i fr0) ≤ 300000 ∧ bq ((rst t k).getD i fr0).rat ≤ 300000
theorem bq_rq {t : Tr} (tw : TW t) {p : List Fr} (hp : ∀ j, bf (p.getD j fr0) ≤ 300000 ∧ bq (p.getD j fr0).rat ≤ 300000) (i k j : Nat) : bq (rq t p i k j) ≤ 60000000 := by
  unfold rq
  have := bq_mul (moveT t i j * sayT t j k) (p.getD j fr0).rat; have := bq_mul (moveT t i j) (sayT t j k); have := hp j; have := tw.mv i j; have := tw.sy j k; omega
theorem bq_rq0 {t : Tr} (tw : TW t) (hs : ∀ i, bq (t.m.start.getD i fr0).rat ≤ 100001) {p : List Fr} (hp : ∀ j, bf (p.getD j fr0) ≤ 300000 ∧ bq (p.getD j fr0).rat ≤ 300000) (i : Nat) : bq (rq0 t p i) ≤ 60000000 := by
  unfold rq0
  have := bq_mul ((t.m.start.getD i fr0).rat * sayT t i 0) (p.getD i fr0).rat; have := bq_mul (t.m.start.getD i fr0).rat (sayT t i 0); have := hp i; have := hs i; have := tw.sy i 0; omega
def atT (t : Tr) : Nat → Nat
  | 0 => argN (rq0 t (rst t (t.o.length - 1))) t.m.start.length
  | k + 1 => argN (rq t (rst t (t.o.length - 1 - (k + 1))) (atT t k) (k + 1)) t.m.start.length
theorem atT_lt {t : Tr} (h : 1 ≤ t.m.start.length) (k : Nat) : atT t k < t.m.start.length := by cases k <;> exact argN_lt h
def bestW (t : Tr) : Rat := rq0 t (rst t (t.o.length - 1)) (atT t 0)
def bestE (m : Md) (o : List Int) : Int := if checkE [m] [o] ≠ 0 then checkE [m] [o] else if o.length = 0 ∨ bestW ⟨m, o⟩ = 0 then 7 else 0
def pathN (t : Tr) (n : Nat) : List Int := (List.range n).map fun k => ((atT t k : Nat) : Int)
theorem pathN_one (t : Tr) : pathN t 1 = [((atT t 0 : Nat) : Int)] := rfl
theorem pathN_succ (t : Tr) (n : Nat) : pathN t (n + 1) = pathN t n ++ [((atT t n : Nat) : Int)] := by unfold pathN; rw [List.range_succ, List.map_append]; rfl
theorem pathN_len (t : Tr) (n : Nat) : (pathN t n).length = n := by simp [pathN]
def bestP (m : Md) (o : List Int) : List Int := if bestE m o = 0 then pathN ⟨m, o⟩ o.length else []
def bestM (m : Md) (o : List Int) : Rat := if bestE m o = 0 then bestW ⟨m, o⟩ else 0
section
variable {m : Md} {o : List Int}
theorem best_err (h : checkE [m] [o] ≠ 0) : bestE m o = checkE [m] [o] := by unfold bestE; rw [if_pos h]
theorem best_none (h : checkE [m] [o] = 0) (h2 : o.length = 0 ∨ bestW ⟨m, o⟩ = 0) : bestE m o = 7 := by unfold bestE; rw [if_neg (fun e => e h), if_pos h2]
theorem best_is (h : checkE [m] [o] = 0) (h2 : o.length ≠ 0) (h3 : bestW ⟨m, o⟩ ≠ 0) : bestE m o = 0 := by unfold bestE; rw [if_neg (fun e => e h), if_neg (fun e => e.elim h2 h3)]
theorem bestP_none (h : bestE m o ≠ 0) : bestP m o = [] := if_neg h
theorem bestM_none (h : bestE m o ≠ 0) : bestM m o = 0 := if_neg h
end
theorem MdB.of1 {K : Nat} {m : Md} (b : MdB K m) : ∀ x ∈ [m], MdB K x := fun x hx => by rw [List.mem_singleton.1 hx]; exact b
theorem len1 {o : List Int} {L : Nat} (h : o.length ≤ L) : ∀ x ∈ [o], x.length ≤ L := fun x hx => by rw [List.mem_singleton.1 hx]; exact h
end Go.Ear
namespace Go.Ear
section late
variable  {n : Nat} {ops : Array Oper} {σ : Nat → Nat} {m : Nat}     {late : Nat → Bool}
def LateDst (ops : Array Oper) (late : Nat → Bool) (s : Nat) : Prop := ∃ (k : Nat) (o : Oper), late k = true ∧ ops[k]? = some o ∧ o.dst = some s
def dagOkL (ops : Array Oper) (σ : Nat → Nat) (m : Nat) (late : Nat → Bool) : Bool :=
  ((List.range ops.size).all fun i => match ops[i]? with
    | none => true
    | some o => (deps o).all (fun j => Nat.blt j i) &&
      (match o.dst with | some d => Nat.ble m i || Nat.beq (σ i) d | none => true) &&
      (match o.dst with
        | none => true
        | some d => Nat.ble m i || (List.range m).all fun j => bif Nat.beq i j then true else
            bif Nat.beq (σ j) d then (match ops[j]? with | none => true | some oj => (deps oj).contains i) else true)) &&
  (match ops[m]? with | none => false | some o => (List.range m).all fun j => late j || (deps o).contains j)
def lateSlots (l : List Oper) (lates : List Nat) : List Nat := lates.filterMap fun k => (l[k]?).bind (·.dst)
end late
end Go.Ear
namespace Go.Ear
section
variable {α : Type}  {lo b n wd x : Nat}    {rows : List (List α)} 
def Out (x b n : Nat) : Prop := x < b ∨ b + 1 + n ≤ x
def Offm (b n b2 n2 : Nat) : Prop := b + 1 + n ≤ b2 ∨ b2 + 1 + n2 ≤ b
theorem Offm.symm {b n b2 n2 : Nat} (o : Offm b n b2 n2) : Offm b2 n2 b n := Or.symm o
theorem ne_row {x b n i : Nat} (o : Out x b n) (hi : i < n) : x ≠ b + 1 + i := by unfold Out at o; omega
theorem off_row {b n b2 n2 i : Nat} (o : Offm b n b2 n2) (hi : i < n) : b + 1 + i < b2 ∨ b2 + 1 + n2 ≤ b + 1 + i := by unfold Offm at o; omega
end
section
variable {α : Type} {lo b n x : Nat}   
section
variable {b1 b2 b3 b4 k : Nat} {l1 l3 : List Rat} {m2 m4 : List (List Rat)}
end
end
end Go.Ear
namespace Go.Ear
section
variable {α : Type}
theorem getD_set_is {l : List α} {i : Nat} {x d : α} (hi : i < l.length) : (l.set i x).getD i d = x := by
  rw [List.getD_eq_getElem?_getD, List.getElem?_set, if_pos rfl, if_pos hi]; rfl
theorem getD_set_ne' {l : List α} {i j : Nat} {x d : α} (h : i ≠ j) : (l.set i x).getD j d = l.getD j d := by
  rw [List.getD_eq_getElem?_getD, List.getElem?_set, if_neg h, ← List.getD_eq_getElem?_getD]
theorem set_getD {l : List α} {i : Nat} {d : α} : l.set i (l.getD i d) = l := by
  apply List.ext_getElem?
  intro j
  rw [List.getElem?_set]
  by_cases h : i = j
  · subst h
    rw [if_pos rfl]
    split
    · rename_i h; rw [List.getD_eq_getElem?_getD, List.getElem?_eq_getElem h]; rfl
    · rename_i h; rw [List.getElem?_eq_none (by omega)]
  · rw [if_neg h]
theorem rowAt_get {row : List α} {d x : α} {s i : Nat} (hl : row.length = s) (hi : i < s) : (rowAt row d s i).getD i x = d := by
  unfold rowAt
  rw [List.getD_eq_getElem?_getD, List.getElem?_append_right (by simp; omega)]
  simp only [List.length_take, Nat.min_eq_left (show i ≤ row.length by omega), Nat.sub_self, List.getElem?_replicate]
  rw [if_pos (by omega)]; rfl
theorem set_row1 {L : List (List α)} {Z : List α} {n i j : Nat} {q : α} (hl : L.length = n) (hi : i < n) : (rowAt L Z n i).set i (((rowAt L Z n i).getD i []).set j q) = (rowAt L Z n i).set i (Z.set j q) := by
  rw [rowAt_get hl hi]
theorem set_row2 {X : List (List α)} {r : List α} {i j : Nat} {q : α} (hi : i < X.length) : (X.set i r).set i (((X.set i r).getD i []).set j q) = X.set i (r.set j q) := by
  rw [getD_set_is hi, List.set_set]
theorem rep_getD {x d : α} {k j : Nat} (hj : j < k) : x = (List.replicate k x).getD j d := by
  rw [List.getD_eq_getElem?_getD, List.getElem?_replicate, if_pos hj]; rfl
end
def mdK (s : List Rat) (m : List (List Rat)) (f : List Rat) (y : List (List Rat)) : Md := ⟨s.map frK, m.map (·.map frK), f.map frK, y.map (·.map frK)⟩
def halfQ : Rat := (((1 : Nat) : Int) : Rat) / (((2 : Nat) : Int) : Rat)
def eachQ (k : Nat) : Rat := (((1 : Nat) : Int) : Rat) / (((k : Nat) : Int) : Rat)
def leftS (n : Nat) : List Rat := (List.replicate n 0).set 0 ((((1 : Nat) : Int) : Rat))
def leftF (n : Nat) : List Rat := (List.replicate n 0).set (n - 1) halfQ
def leftRow (n i : Nat) : List Rat := if i + 1 < n then ((List.replicate n (0 : Rat)).set i halfQ).set (i + 1) halfQ else (List.replicate n 0).set i halfQ
def leftMv (n : Nat) : List (List Rat) := (List.range n).map (leftRow n)
def leftY (n k : Nat) : List (List Rat) := List.replicate n (List.replicate k (eachQ k))
def leftMd (n k : Nat) : Md := mdK (leftS n) (leftMv n) (leftF n) (leftY n k)
def leftE (a b : Int) : Int := if a < 1 ∨ 40 < a ∨ b < 1 ∨ 64 < b then 2 else 0
def leftR (a b : Int) : Md := if leftE a b = 0 then leftMd a.toNat b.toNat else md0
theorem leftMv_len (n : Nat) : (leftMv n).length = n := by simp [leftMv]
theorem leftY_len (n k : Nat) : (leftY n k).length = n := by simp [leftY]
theorem left_t {n i : Nat} {d : List Rat} (h : i + 1 < n) : ((List.replicate n (0 : Rat)).set i halfQ).set (i + 1) halfQ = (leftMv n).getD i d := by
  rw [leftMv, range_getD _ _ (by omega)]; unfold leftRow; rw [if_pos h]
theorem left_f {n i : Nat} {d : List Rat} (hi : i < n) (h : ¬ i + 1 < n) : (List.replicate n (0 : Rat)).set i halfQ = (leftMv n).getD i d := by
  rw [leftMv, range_getD _ _ hi]; unfold leftRow; rw [if_neg h]
theorem leftY_at {n k i : Nat} {d : List Rat} (hi : i < n) : List.replicate k (eachQ k) = (leftY n k).getD i d := by
  rw [leftY, List.getD_eq_getElem?_getD, List.getElem?_replicate, if_pos hi]; rfl
theorem rows_at0 {row : List (List Rat)} {Z : List Rat} {n i : Nat} (hl : row.length = n) (hi : i < n) (r : List Rat) {k : Nat} (hZ : Z = List.replicate k 0) : rowAt row Z n i = (rowAt row Z n i).set i (rowAt r 0 k 0) := by
  rw [rowAt_zero, ← hZ]
  have := rowAt_get (d := Z) (x := []) hl hi
  have h2 := set_getD (l := rowAt row Z n i) (i := i) (d := [])
  rw [this] at h2; exact h2.symm
theorem rows_step {L : List (List Rat)} {r : List Rat} {n i j k : Nat} {q : Rat} (hl : L.length = n) (hi : i < n) (hr : r.length = k) (hj : j < k) (hq : q = r.getD j 0) :
    (L.set i (rowAt r 0 k j)).set i (((L.set i (rowAt r 0 k j)).getD i []).set j q) = L.set i (rowAt r 0 k (j + 1)) := by
  rw [set_row2 (by omega), rowAt_set hr hj hq]
theorem bq_quot {a b : Int} (h1 : -9223372036854775808 ≤ a) (h2 : a ≤ 9223372036854775807) (h3 : -9223372036854775808 ≤ b) (h4 : b ≤ 9223372036854775807) : bf (frK ((a : Rat) / (b : Rat))) ≤ 100 := by
  rw [bf_frK]
  have := bq_div (a : Rat) (b : Rat); have := bq_intc h1 h2; have := bq_intc h3 h4; omega
theorem half_bd : bf (frK halfQ) ≤ 134217000 := Nat.le_trans (bq_quot (by decide) (by decide) (by decide) (by decide)) (by decide)
theorem each_bd {k : Nat} (h : k ≤ 1000) : bf (frK (eachQ k)) ≤ 134217000 := Nat.le_trans (bq_quot (by decide) (by decide) (by omega) (by omega)) (by decide)
end Go.Ear
namespace Go.Ear
section
variable {M M2 : Nat → Prop}   {b : Nat} 
end
section
variable  {n : Nat}    {d : Tmp}  {pos : String} {af : Array Edge} {g : Option (Nat × Bool)} {M : Nat → Prop}
end
section dag
variable  {n : Nat} {ops : Array Oper} {σ : Nat → Nat} {m : Nat}    {c : Nat}
end dag
end Go.Ear
namespace Go.Ear
section
variable {α : Type}
def upTo (r l : List α) (i : Nat) : List α := r.take i ++ l.drop i
theorem upTo_zero (r l : List α) : upTo r l 0 = l := by simp [upTo]
theorem upTo_len {r l : List α} {i : Nat} (h : r.length = l.length) : (upTo r l i).length = l.length := by unfold upTo; simp; omega
theorem upTo_get {r l : List α} {i : Nat} {d : α} (h : r.length = l.length) (hi : i < l.length) : (upTo r l i).getD i d = l.getD i d := by
  unfold upTo
  rw [List.getD_eq_getElem?_getD, List.getElem?_append_right (by simp; omega), List.getD_eq_getElem?_getD]
  simp only [List.length_take, Nat.min_eq_left (show i ≤ r.length by omega), Nat.sub_self, List.getElem?_drop, Nat.add_zero]
theorem upTo_end {r l : List α} {i : Nat} (h : r.length = l.length) (hi : l.length ≤ i) : upTo r l i = r := by
  unfold upTo; rw [List.take_of_length_le (by omega), List.drop_of_length_le hi, List.append_nil]
theorem upTo_set {r l : List α} {i : Nat} {d q : α} (h : r.length = l.length) (hi : i < l.length) (hq : q = r.getD i d) : (upTo r l i).set i q = upTo r l (i + 1) := by
  subst hq
  unfold upTo
  apply List.ext_getElem?
  intro j
  have hmin : min i r.length = i := Nat.min_eq_left (by omega)
  rw [List.getElem?_set]
  by_cases hj : i = j
  · subst hj
    rw [if_pos rfl, if_pos (by simp; omega), List.getElem?_append_left (by simp; omega), List.getElem?_take, if_pos (by omega), List.getD_eq_getElem?_getD, List.getElem?_eq_getElem (by omega)]; rfl
  · rw [if_neg hj]
    by_cases hlt : j < i
    · rw [List.getElem?_append_left (by simp; omega), List.getElem?_append_left (by simp; omega), List.getElem?_take, List.getElem?_take, if_pos hlt, if_pos (by omega)]
    · rw [List.getElem?_append_right (by simp; omega), List.getElem?_append_right (by simp; omega)]
      simp only [List.length_take, hmin, Nat.min_eq_left (show i + 1 ≤ r.length by omega), List.getElem?_drop]
      congr 1; omega
end
def addR (a b : List Rat) : List Rat := (List.range a.length).map fun i => a.getD i 0 + b.getD i 0
theorem addR_len (a b : List Rat) : (addR a b).length = a.length := by simp [addR]
theorem addR_at {a b : List Rat} {i : Nat} (hi : i < a.length) : a.getD i 0 + b.getD i 0 = (addR a b).getD i 0 := by rw [addR, range_getD _ _ hi]
def addM (a b : List (List Rat)) : List (List Rat) := (List.range a.length).map fun i => addR (a.getD i []) (b.getD i [])
theorem addM_len (a b : List (List Rat)) : (addM a b).length = a.length := by simp [addM]
theorem addM_at {a b : List (List Rat)} {i : Nat} (hi : i < a.length) : addR (a.getD i []) (b.getD i []) = (addM a b).getD i [] := by rw [addM, range_getD _ _ hi]
section
variable {α : Type}  {lo b n wd x : Nat}    {rows : List (List α)} {M : Nat → Prop}
end
end Go.Ear
namespace Go.Ear
section
variable {b bm n x b2 n2 : Nat}
theorem out_not (o : Out b bm n) : ∀ x, bm ≤ x → x < bm + 1 + n → ¬ x = b := fun x h1 h2 e => by subst e; unfold Out at o; omega
theorem out_no (o : Out x bm n) : ¬ (bm ≤ x ∧ x < bm + 1 + n) := by unfold Out at o; omega
theorem offm_no (o : Offm b n b2 n2) : ∀ x, b ≤ x → x < b + 1 + n → ¬ (b2 ≤ x ∧ x < b2 + 1 + n2) := fun x h1 h2 => by unfold Offm at o; omega
end
structure Ct where
  start : List Rat
  move : List (List Rat)
  fin : List Rat
  say : List (List Rat)
  used : Int
  unused : Int
  tot : Rat
def ct0 : Ct := ⟨[], [], [], [], 0, 0, 0⟩
abbrev In64 (n : Int) : Prop := -9223372036854775808 ≤ n ∧ n ≤ 9223372036854775807
end Go.Ear
namespace Go.Ear
theorem zero_div_rat (q : Rat) : (0 : Rat) / q = 0 := by rw [Rat.div_def, Rat.zero_mul]
def lk (t : Tr) : Rat := likT t (fwdAll t)
def pS (t : Tr) (i : Nat) : Rat := (fwd t 0).getD i 0 * (bwd t (t.o.length - 1)).getD i 0 / lk t
def pE (t : Tr) (i : Nat) : Rat := (fwd t (t.o.length - 1)).getD i 0 * (t.m.fin.getD i fr0).rat / lk t
def pY (t : Tr) (i k : Nat) : Rat := (fwd t k).getD i 0 * (bwd t (t.o.length - 1 - k)).getD i 0 / lk t
def wM (t : Tr) (i k j : Nat) : Rat := (fwd t k).getD i 0 * moveT t i j * sayT t j (k + 1) * (bwd t (t.o.length - 1 - (k + 1))).getD j 0
def pM (t : Tr) (i k j : Nat) : Rat := wM t i k j / lk t
def cntS (t : Tr) : List Rat := (List.range t.m.start.length).map (pS t)
def cntE (t : Tr) : List Rat := (List.range t.m.start.length).map (pE t)
def sayRow (t : Tr) (i : Nat) : Nat → List Rat
  | 0 => List.replicate (symb t.m) 0
  | k + 1 => (sayRow t i k).set (t.o.getD k 0).toNat ((sayRow t i k).getD (t.o.getD k 0).toNat 0 + pY t i k)
def mvRow (t : Tr) (i : Nat) : Nat → List Rat
  | 0 => List.replicate t.m.start.length 0
  | k + 1 => (List.range t.m.start.length).map fun j => (mvRow t i k).getD j 0 + pM t i k j
def cntM (t : Tr) : List (List Rat) := (List.range t.m.start.length).map fun i => mvRow t i (t.o.length - 1)
def cntY (t : Tr) : List (List Rat) := (List.range t.m.start.length).map fun i => sayRow t i t.o.length
def cntT (t : Tr) : Ct := ⟨cntS t, cntM t, cntE t, cntY t, 0, 0, lk t⟩
theorem sayRow_len (t : Tr) (i : Nat) : ∀ k, (sayRow t i k).length = symb t.m
  | 0 => by simp [sayRow]
  | k + 1 => by rw [sayRow, List.length_set]; exact sayRow_len t i k
theorem mvRow_len (t : Tr) (i k : Nat) : (mvRow t i k).length = t.m.start.length := by cases k <;> simp [mvRow]
theorem cntS_len (t : Tr) : (cntS t).length = t.m.start.length := by simp [cntS]
theorem cntE_len (t : Tr) : (cntE t).length = t.m.start.length := by simp [cntE]
theorem cntM_len (t : Tr) : (cntM t).length = t.m.start.length := by simp [cntM]
theorem cntY_len (t : Tr) : (cntY t).length = t.m.start.length := by simp [cntY]
theorem mvRow_at {t : Tr} {i k j : Nat} (hj : j < t.m.start.length) : (mvRow t i k).getD j 0 + pM t i k j = (mvRow t i (k + 1)).getD j 0 := by rw [mvRow, range_getD _ _ hj]
structure CnB (t : Tr) : Prop where
  l : bq (lk t) ≤ 60000000
  y : ∀ i k x, k ≤ t.o.length → bq ((sayRow t i k).getD x 0) ≤ 60000000
  m : ∀ i k x, k ≤ t.o.length → bq ((mvRow t i k).getD x 0) ≤ 60000000
  pY : ∀ i k, k < t.o.length → bq (pY t i k) ≤ 60000000
  pM : ∀ i k j, k < t.o.length → bq (pM t i k j) ≤ 60000000
theorem FwB.all {t : Tr} (b : FwB t) (k i : Nat) : bq (((fwdAll t).getD k []).getD i 0) ≤ 300000 := by
  by_cases h : k < t.o.length
  · rw [fwdAll_at h]; exact b k i h
  · have e : (fwdAll t).getD k [] = [] := by rw [List.getD_eq_getElem?_getD, List.getElem?_eq_none (by rw [fwdAll_len]; omega)]; rfl
    have := bq_zero
    rw [e, show ([] : List Rat).getD i 0 = 0 from rfl]; omega
theorem BwB.all {t : Tr} (b : BwB t) (k i : Nat) : bq (((bwdAll t).getD k []).getD i 0) ≤ 300000 := by
  by_cases h : k < t.o.length
  · rw [bwdAll_at h]; exact b _ i (by omega)
  · have e : (bwdAll t).getD k [] = [] := by rw [List.getD_eq_getElem?_getD, List.getElem?_eq_none (by rw [bwdAll_len]; omega)]; rfl
    have := bq_zero
    rw [e, show ([] : List Rat).getD i 0 = 0 from rfl]; omega
theorem lk_pos {t : Tr} (h : lk t ≠ 0) : 0 < t.o.length := by
  cases hn : t.o.length with
  | zero => exact absurd (by unfold lk likT; rw [if_pos (by rw [fwdAll_len, hn])]) h
  | succ n => omega
theorem pS_eq {t : Tr} {i : Nat} (h : 0 < t.o.length) : ((fwdAll t).getD 0 []).getD i 0 * ((bwdAll t).getD 0 []).getD i 0 / lk t = pS t i := by rw [fwdAll_at h, bwdAll_at h]; rfl
theorem pE_eq {t : Tr} {i : Nat} (h : 0 < t.o.length) : ((fwdAll t).getD (t.o.length - 1) []).getD i 0 * (t.m.fin.getD i fr0).rat / lk t = pE t i := by rw [fwdAll_at (by omega)]; rfl
theorem pY_eq {t : Tr} {i k : Nat} (h : k < t.o.length) : ((fwdAll t).getD k []).getD i 0 * ((bwdAll t).getD k []).getD i 0 / lk t = pY t i k := by rw [fwdAll_at h, bwdAll_at h]; rfl
theorem wM_eq {t : Tr} {i k j : Nat} (h : k + 1 < t.o.length) : prodF [frK (((fwdAll t).getD k []).getD i 0), (t.m.move.getD i []).getD j fr0, (t.m.say.getD j []).getD (t.o.getD (k + 1) 0).toNat fr0, frK (((bwdAll t).getD (k + 1) []).getD j 0)] = wM t i k j := by
  rw [prodF4, frK_rat, frK_rat, fwdAll_at (by omega), bwdAll_at h]; rfl
theorem row_same {X : List (List Rat)} {Z : List Rat} {n i : Nat} (hl : X.length = n) (hi : i < n) {r : List Rat} (hZ : Z = r) : rowAt X Z n i = (rowAt X Z n i).set i r := by
  subst hZ
  have h1 := rowAt_get (d := Z) (x := []) hl hi
  have h2 := set_getD (l := rowAt X Z n i) (i := i) (d := [])
  rw [h1] at h2; exact h2.symm
theorem wM_bd {t : Tr} (tw : TW t) (fb : FwB t) (bb : BwB t) (i j : Nat) {k : Nat} (h : k + 1 < t.o.length) : bq (wM t i k j) ≤ 1000000 := by
  unfold wM
  have := bq_mul ((fwd t k).getD i 0 * moveT t i j * sayT t j (k + 1)) ((bwd t (t.o.length - 1 - (k + 1))).getD j 0)
  have := bq_mul ((fwd t k).getD i 0 * moveT t i j) (sayT t j (k + 1))
  have := bq_mul ((fwd t k).getD i 0) (moveT t i j)
  have := fb k i (by omega); have := bb (t.o.length - 1 - (k + 1)) j (by omega); have := tw.mv i j; have := tw.sy j (k + 1)
  omega
theorem TOk.sy0 {t : Tr} (ok : TOk t) {k : Nat} (h : k < t.o.length) : 0 ≤ t.o.getD k 0 ∧ (t.o.getD k 0).toNat < symb t.m := ok.sayi 0 k ok.s1 h
theorem fwdRow_len {t : Tr} {k : Nat} (h : k < t.o.length) : ((fwdAll t).getD k []).length = t.m.start.length := by rw [fwdAll_at h]; exact fwd_len t k
theorem bwdRow_len {t : Tr} {k : Nat} (h : k < t.o.length) : ((bwdAll t).getD k []).length = t.m.start.length := by rw [bwdAll_at h]; exact bwd_len t _
end Go.Ear
namespace Go.Ear
def ctZ (s k : Nat) : Ct := ⟨List.replicate s 0, List.replicate s (List.replicate s 0), List.replicate s 0, List.replicate s (List.replicate k 0), 0, 0, 0⟩
def trK (m : Md) (data : List (List Int)) (k : Nat) : Tr := ⟨m, data.getD k []⟩
def allT (m : Md) (data : List (List Int)) : Nat → Ct
  | 0 => ctZ m.start.length (symb m)
  | k + 1 => let c := allT m data k; let d := cntT (trK m data k)
    if lk (trK m data k) = 0 then { c with unused := c.unused + 1 } else ⟨addR c.start d.start, addM c.move d.move, addR c.fin d.fin, addM c.say d.say, c.used + 1, c.unused, 0⟩
section
variable {m : Md} {data : List (List Int)} {k : Nat}
theorem allT_t (h : lk (trK m data k) = 0) : allT m data (k + 1) = { allT m data k with unused := (allT m data k).unused + 1 } := by rw [allT]; exact if_pos h
theorem allT_f (h : ¬ lk (trK m data k) = 0) : allT m data (k + 1) = ⟨addR (allT m data k).start (cntT (trK m data k)).start, addM (allT m data k).move (cntT (trK m data k)).move, addR (allT m data k).fin (cntT (trK m data k)).fin, addM (allT m data k).say (cntT (trK m data k)).say, (allT m data k).used + 1, (allT m data k).unused, 0⟩ := by rw [allT]; exact if_neg h
theorem allT_len (m : Md) (data : List (List Int)) : ∀ k, (allT m data k).start.length = m.start.length ∧ (allT m data k).fin.length = m.start.length ∧ (allT m data k).move.length = m.start.length ∧ (allT m data k).say.length = m.start.length ∧ (allT m data k).tot = 0
  | 0 => by simp [allT, ctZ]
  | k + 1 => by
    have ih := allT_len m data k
    by_cases h : lk (trK m data k) = 0
    · rw [allT_t h]; exact ih
    · rw [allT_f h]; exact ⟨by rw [addR_len]; exact ih.1, by rw [addR_len]; exact ih.2.1, by rw [addM_len]; exact ih.2.2.1, by rw [addM_len]; exact ih.2.2.2.1, rfl⟩
end
theorem cntM_row {t : Tr} {i : Nat} (hi : i < t.m.start.length) : ((cntM t).getD i []).length = t.m.start.length := by rw [cntM, range_getD _ _ hi]; exact mvRow_len t i _
theorem cntY_row {t : Tr} {i : Nat} (hi : i < t.m.start.length) : ((cntY t).getD i []).length = symb t.m := by rw [cntY, range_getD _ _ hi]; exact sayRow_len t i _
structure DOk (m : Md) (data : List (List Int)) : Prop where
  n : data.length ≤ 200
  mb : MdB 100000 m
  s : m.start.length ≤ 1048576
  y : symb m ≤ 1048576 ∧ 0 < m.say.length
  tok : ∀ k, k < data.length → TOk (trK m data k)
  fw : ∀ k, k < data.length → FwB (trK m data k)
  bw : ∀ k, k < data.length → BwB (trK m data k)
  cn : ∀ k, k < data.length → CnB (trK m data k)
  a1 : ∀ k i, k < data.length → bq ((allT m data k).start.getD i 0) + bq ((cntT (trK m data k)).start.getD i 0) ≤ 134217000
  a2 : ∀ k i, k < data.length → bq ((allT m data k).fin.getD i 0) + bq ((cntT (trK m data k)).fin.getD i 0) ≤ 134217000
  a3 : ∀ k i j, k < data.length → bq (((allT m data k).move.getD i []).getD j 0) + bq (((cntT (trK m data k)).move.getD i []).getD j 0) ≤ 134217000
  a4 : ∀ k i j, k < data.length → bq (((allT m data k).say.getD i []).getD j 0) + bq (((cntT (trK m data k)).say.getD i []).getD j 0) ≤ 134217000
def cntD (m : Md) (data : List (List Int)) : Ct := allT m data data.length
def cntE4 (m : Md) (data : List (List Int)) : Int := checkE [m] data
def cntC (m : Md) (data : List (List Int)) : Ct := if checkE [m] data = 0 then cntD m data else ct0
theorem ct_eta {c : Ct} (h : c.tot = 0) : Ct.mk c.start c.move c.fin c.say c.used c.unused 0 = c := by rw [← h]
end Go.Ear
namespace Go.Ear
def mdAt (ms : List Md) (x : Nat) : Md := ms.getD x md0
def sz4 (ms : List Md) (x : Nat) : Nat := (ms.getD x md0).start.length
def offN (ms : List Md) : Nat → Nat
  | 0 => 0
  | x + 1 => offN ms x + sz4 ms x
def fromL (ms : List Md) (n : Nat) : List Int := (List.range n).map fun x => ((offN ms x : Nat) : Int)
theorem fromL_succ (ms : List Md) (n : Nat) : fromL ms (n + 1) = fromL ms n ++ [((offN ms n : Nat) : Int)] := by unfold fromL; rw [List.range_succ, List.map_append]; rfl
theorem fromL_len (ms : List Md) (n : Nat) : (fromL ms n).length = n := by simp [fromL]
theorem fromL_at {ms : List Md} {n x : Nat} (h : x < n) : (fromL ms n).getD x 0 = ((offN ms x : Nat) : Int) := range_getD (fun x => ((offN ms x : Nat) : Int)) _ h
theorem offN_mono (ms : List Md) : ∀ {a b : Nat}, a ≤ b → offN ms a ≤ offN ms b
  | a, 0, h => by rw [show a = 0 by omega]; exact Nat.le_refl _
  | a, b + 1, h => by
    by_cases e : a = b + 1
    · subst e; exact Nat.le_refl _
    · have := offN_mono ms (a := a) (b := b) (by omega)
      show _ ≤ offN ms b + sz4 ms b; omega
theorem offN_lt {ms : List Md} {x L : Nat} (h : x < L) : offN ms x + sz4 ms x ≤ offN ms L := offN_mono ms (a := x + 1) h
theorem offN_le {ms : List Md} (h : ∀ x, sz4 ms x ≤ 40) : ∀ x, offN ms x ≤ 40 * x
  | 0 => Nat.zero_le _
  | x + 1 => by have := offN_le h x; have := h x; show offN ms x + sz4 ms x ≤ _; omega
def symOff (ms : List Md) (m : Md) : Bool := decide ((m.say.getD 0 []).length ≠ ((ms.getD 0 md0).say.getD 0 []).length)
def beginE (ms : List Md) : Int := if checkE ms [] ≠ 0 then checkE ms [] else if ms.length = 0 ∨ ms.any (symOff ms) = true then 2 else 0
def mvQ (ms : List Md) (x i j : Nat) : Rat := (((ms.getD x md0).move.getD i []).getD j fr0).rat
def rowP (n : Nat) (ms : List Md) (x i j : Nat) : List Rat := (List.range n).map fun c => if offN ms x ≤ c ∧ c < offN ms x + j then mvQ ms x i (c - offN ms x) else 0
theorem rowP_len (n : Nat) (ms : List Md) (x i j : Nat) : (rowP n ms x i j).length = n := by simp [rowP]
theorem rowP_zero (n : Nat) (ms : List Md) (x i : Nat) : List.replicate n 0 = rowP n ms x i 0 := by
  unfold rowP
  symm
  rw [List.eq_replicate_iff]
  refine ⟨by simp, fun b hb => ?_⟩
  obtain ⟨c, _, rfl⟩ := List.mem_map.1 hb
  rw [if_neg (by omega)]
theorem rowP_set {n : Nat} {ms : List Md} {x i j : Nat} (h : offN ms x + j < n) : (rowP n ms x i j).set (offN ms x + j) (mvQ ms x i j) = rowP n ms x i (j + 1) := by
  apply List.ext_getElem?
  intro c
  rw [List.getElem?_set]
  unfold rowP
  by_cases hc : offN ms x + j = c
  · subst hc
    rw [if_pos rfl, if_pos (by simp; omega), List.getElem?_map, List.getElem?_range h]
    simp only [Option.map_some]
    rw [if_pos (by omega), Nat.add_sub_cancel_left]
  · rw [if_neg hc, List.getElem?_map, List.getElem?_map]
    by_cases hn : c < n
    · rw [List.getElem?_range hn]
      simp only [Option.map_some]
      by_cases h1 : offN ms x ≤ c ∧ c < offN ms x + j
      · rw [if_pos h1, if_pos (by omega)]
      · rw [if_neg h1, if_neg (by omega)]
    · rw [List.getElem?_eq_none (by simp; omega)]; rfl
def bsM (n : Nat) (ms : List Md) : Nat → List (List Rat)
  | 0 => []
  | x + 1 => bsM n ms x ++ (List.range (sz4 ms x)).map fun i => rowP n ms x i (sz4 ms x)
theorem bsM_len (n : Nat) (ms : List Md) : ∀ x, (bsM n ms x).length = offN ms x
  | 0 => rfl
  | x + 1 => by rw [bsM, List.length_append, bsM_len n ms x]; simp [offN]
theorem bsM_at {n : Nat} {ms : List Md} {x i : Nat} {d : List Rat} (hi : i < sz4 ms x) : ∀ {L : Nat}, x < L → (bsM n ms L).getD (offN ms x + i) d = rowP n ms x i (sz4 ms x)
  | L + 1, h => by
    rw [bsM]
    by_cases e : x = L
    · subst e
      rw [List.getD_eq_getElem?_getD, List.getElem?_append_right (by rw [bsM_len]; omega), bsM_len, Nat.add_sub_cancel_left, List.getElem?_map, List.getElem?_range hi]; rfl
    · have hx : x < L := by omega
      have := offN_lt (ms := ms) hx
      rw [List.getD_eq_getElem?_getD, List.getElem?_append_left (by rw [bsM_len]; omega), ← List.getD_eq_getElem?_getD]
      exact bsM_at hi hx
def sayC (m : Md) (i j : Nat) : List Rat := (List.range j).map fun j => ((m.say.getD i []).getD j fr0).rat
theorem sayC_succ (m : Md) (i j : Nat) : sayC m i (j + 1) = sayC m i j ++ [((m.say.getD i []).getD j fr0).rat] := by unfold sayC; rw [List.range_succ, List.map_append]; rfl
theorem sayC_len (m : Md) (i j : Nat) : (sayC m i j).length = j := by simp [sayC]
def sayI (ms : List Md) (x i : Nat) : List (List Rat) := (List.range i).map fun i => sayC (ms.getD x md0) i ((ms.getD x md0).say.getD i []).length
theorem sayI_succ (ms : List Md) (x i : Nat) : sayI ms x (i + 1) = sayI ms x i ++ [sayC (ms.getD x md0) i ((ms.getD x md0).say.getD i []).length] := by unfold sayI; rw [List.range_succ, List.map_append]; rfl
theorem sayI_len (ms : List Md) (x i : Nat) : (sayI ms x i).length = i := by simp [sayI]
def bsY (ms : List Md) : Nat → List (List Rat)
  | 0 => []
  | x + 1 => bsY ms x ++ sayI ms x (sz4 ms x)
theorem bsY_len (ms : List Md) : ∀ x, (bsY ms x).length = offN ms x
  | 0 => rfl
  | x + 1 => by rw [bsY, List.length_append, bsY_len ms x, sayI_len]; rfl
structure MsOk (ms : List Md) : Prop where
  n : ms.length ≤ 1048576
  s : ∀ x, sz4 ms x ≤ 40
  off : offN ms ms.length ≤ 1048576
  mv : ∀ x i, x < ms.length → i < sz4 ms x → i < (ms.getD x md0).move.length ∧ ((ms.getD x md0).move.getD i []).length = sz4 ms x
  fin : ∀ x, x < ms.length → (ms.getD x md0).fin.length = sz4 ms x
  say : ∀ x i, x < ms.length → i < sz4 ms x → i < (ms.getD x md0).say.length ∧ ((ms.getD x md0).say.getD i []).length ≤ 1048576
  mb : ∀ x, MdB 10000000 (ms.getD x md0)
end Go.Ear
namespace Go.Ear
theorem checkE_valid {ms : List Md} {data : List (List Int)} (h : checkE ms data = 0) : ∀ m ∈ ms, validM m = true ∧ longM m = false := by
  unfold checkE at h
  split at h
  · cases h
  · rename_i c1
    split at h
    · cases h
    · rename_i c2
      intro m hm
      simp only [Bool.or_eq_true, not_or, Bool.not_eq_true] at c1 c2
      have h1 := List.any_eq_false.1 c1.1.1 m hm
      have h2 := List.any_eq_false.1 c2 m hm
      unfold notV at h2
      exact ⟨by simpa using h2, by simpa using h1⟩
theorem mdAt_or {P : Md → Prop} {ms : List Md} (h : ∀ m ∈ ms, P m) (h0 : P md0) (x : Nat) : P (ms.getD x md0) := by
  rw [List.getD_eq_getElem?_getD]
  cases hk : ms[x]? with
  | none => exact h0
  | some m => exact h m (List.mem_of_getElem? hk)
theorem checkE_MsOk {ms : List Md} {data : List (List Int)} (h : checkE ms data = 0) (hn : ms.length ≤ 1000) (hb : ∀ m ∈ ms, MdB 10000000 m) : MsOk ms := by
  have hv := checkE_valid h
  have hs : ∀ x, sz4 ms x ≤ 40 := by
    refine mdAt_or (P := fun m => m.start.length ≤ 40) (fun m hm => ?_) (Nat.zero_le _)
    have := (hv m hm).2
    unfold longM at this
    simp only [Bool.or_eq_false_iff, decide_eq_false_iff_not] at this
    omega
  have hm : ∀ x, x < ms.length → validM (ms.getD x md0) = true ∧ longM (ms.getD x md0) = false := fun x hx => hv _ (getD_mem' ms md0 hx)
  refine ⟨by omega, hs, by have := offN_le hs ms.length; omega, fun x i hx hi => ?_, fun x hx => (valid_len (hm x hx).1).2.1, fun x i hx hi => ?_, md_getD hb⟩
  · have h1 := valid_len (hm x hx).1
    exact ⟨by rw [h1.2.2.1]; exact hi, (valid_row (hm x hx).1 hi).1⟩
  · have h1 := valid_len (hm x hx).1
    refine ⟨by rw [h1.2.2.2]; exact hi, ?_⟩
    have h2 := (valid_row (hm x hx).1 hi).2.1
    have h3 := (hm x hx).2
    unfold longM at h3
    simp only [Bool.or_eq_false_iff, decide_eq_false_iff_not, Bool.and_eq_false_iff] at h3
    unfold sz4 at hi
    have : symb (ms.getD x md0) ≤ 64 := by
      rcases h3.2 with h | h
      · omega
      · omega
    omega
theorem begin_pre {ms : List Md} {data : List (List Int)} (h : checkE ms data = 0) (hn : ms.length ≠ 0) : ∀ m ∈ ms, 0 < m.say.length ∧ 0 < ms.length ∧ 0 < (ms.getD 0 md0).say.length ∧ (m.say.getD 0 []).length ≤ 1048576 ∧ ((ms.getD 0 md0).say.getD 0 []).length ≤ 1048576 := by
  have key : ∀ m ∈ ms, 0 < m.say.length ∧ (m.say.getD 0 []).length ≤ 1048576 := fun m hm => by
    have hv := checkE_valid h m hm
    have hl := valid_len hv.1
    have h3 := hv.2
    unfold longM symb at h3
    simp only [Bool.or_eq_false_iff, decide_eq_false_iff_not, Bool.and_eq_false_iff] at h3
    exact ⟨by omega, by rcases h3.2 with h | h <;> omega⟩
  intro m hm
  have h0 := key _ (getD_mem' ms md0 (i := 0) (by omega))
  exact ⟨(key m hm).1, by omega, h0.1, (key m hm).2, h0.2⟩
section
variable {ms : List Md}
theorem begin_err (h : checkE ms [] ≠ 0) : beginE ms = checkE ms [] := by unfold beginE; rw [if_pos h]
theorem begin_arg (h : checkE ms [] = 0) (h2 : ms.length = 0 ∨ ms.any (symOff ms) = true) : beginE ms = 2 := by unfold beginE; rw [if_neg (fun e => e h), if_pos h2]
theorem begin_ok (h : checkE ms [] = 0) (h2 : ¬ ms.length = 0) (h3 : ¬ ms.any (symOff ms) = true) : beginE ms = 0 := by unfold beginE; rw [if_neg (fun e => e h), if_neg (fun e => e.elim h2 h3)]
theorem begin_chk (h : beginE ms = 0) : checkE ms [] = 0 := by
  by_cases hc : checkE ms [] = 0
  · exact hc
  · rw [begin_err hc] at h; exact h
end
def beginF (ms : List Md) : List Int := if beginE ms = 0 then fromL ms ms.length else []
def beginN (ms : List Md) : Nat := if beginE ms = 0 then offN ms ms.length else 0
theorem begin_none {ms : List Md} (h : beginE ms ≠ 0) : [] = beginF ms ∧ 0 = beginN ms := ⟨(if_neg h).symm, (if_neg h).symm⟩
theorem begin_some {ms : List Md} (h : beginE ms = 0) : fromL ms ms.length = beginF ms ∧ offN ms ms.length = beginN ms := ⟨(if_pos h).symm, (if_pos h).symm⟩
def mixS (ws : List Fr) (ms : List Md) : Nat → List Rat
  | 0 => []
  | x + 1 => mixS ws ms x ++ (List.range (sz4 ms x)).map fun i => (ws.getD x fr0).rat * ((ms.getD x md0).start.getD i fr0).rat
def bsE (ms : List Md) : Nat → List Rat
  | 0 => []
  | x + 1 => bsE ms x ++ (List.range (sz4 ms x)).map fun i => ((ms.getD x md0).fin.getD i fr0).rat
theorem mixS_len (ws : List Fr) (ms : List Md) : ∀ x, (mixS ws ms x).length = offN ms x
  | 0 => rfl
  | x + 1 => by rw [mixS, List.length_append, mixS_len ws ms x]; simp [offN]
theorem bsE_len (ms : List Md) : ∀ x, (bsE ms x).length = offN ms x
  | 0 => rfl
  | x + 1 => by rw [bsE, List.length_append, bsE_len ms x]; simp [offN]
theorem mixS_at {ws : List Fr} {ms : List Md} {x i : Nat} {d : Rat} (hi : i < sz4 ms x) : ∀ {L : Nat}, x < L → (mixS ws ms L).getD (offN ms x + i) d = (ws.getD x fr0).rat * ((ms.getD x md0).start.getD i fr0).rat
  | L + 1, h => by
    rw [mixS]
    by_cases e : x = L
    · subst e
      rw [List.getD_eq_getElem?_getD, List.getElem?_append_right (by rw [mixS_len]; omega), mixS_len, Nat.add_sub_cancel_left, List.getElem?_map, List.getElem?_range hi]; rfl
    · have hx : x < L := by omega
      have := offN_lt (ms := ms) hx
      rw [List.getD_eq_getElem?_getD, List.getElem?_append_left (by rw [mixS_len]; omega), ← List.getD_eq_getElem?_getD]
      exact mixS_at hi hx
theorem bsE_at {ms : List Md} {x i : Nat} {d : Rat} (hi : i < sz4 ms x) : ∀ {L : Nat}, x < L → (bsE ms L).getD (offN ms x + i) d = ((ms.getD x md0).fin.getD i fr0).rat
  | L + 1, h => by
    rw [bsE]
    by_cases e : x = L
    · subst e
      rw [List.getD_eq_getElem?_getD, List.getElem?_append_right (by rw [bsE_len]; omega), bsE_len, Nat.add_sub_cancel_left, List.getElem?_map, List.getElem?_range hi]; rfl
    · have hx : x < L := by omega
      have := offN_lt (ms := ms) hx
      rw [List.getD_eq_getElem?_getD, List.getElem?_append_left (by rw [bsE_len]; omega), ← List.getD_eq_getElem?_getD]
      exact bsE_at hi hx
def mixE (ws : List Fr) (ms : List Md) : Int := if beginE ms ≠ 0 then beginE ms else if ws.length ≠ ms.length ∨ ¬ distF ws = true then 2 else if 40 < offN ms ms.length then 5 else 0
def mixMd (ws : List Fr) (ms : List Md) : Md := mdK (mixS ws ms ms.length) (bsM (beginN ms) ms ms.length) (bsE ms ms.length) (bsY ms ms.length)
def mixR (ws : List Fr) (ms : List Md) : Md := if mixE ws ms = 0 then mixMd ws ms else md0
section
variable {ws : List Fr} {ms : List Md}
theorem mix_err (h : beginE ms ≠ 0) : mixE ws ms = beginE ms := by unfold mixE; rw [if_pos h]
theorem mix_arg (h : beginE ms = 0) (h2 : ws.length ≠ ms.length ∨ ¬ distF ws = true) : mixE ws ms = 2 := by unfold mixE; rw [if_neg (fun e => e h), if_pos h2]
theorem mix_long (h : beginE ms = 0) (h1 : ws.length = ms.length) (h2 : distF ws = true) (h3 : 40 < offN ms ms.length) : mixE ws ms = 5 := by
  unfold mixE; rw [if_neg (fun e => e h), if_neg (fun e => e.elim (fun q => q h1) (fun q => q h2)), if_pos h3]
theorem mix_ok (h : beginE ms = 0) (h1 : ws.length = ms.length) (h2 : distF ws = true) (h3 : ¬ 40 < offN ms ms.length) : mixE ws ms = 0 := by
  unfold mixE; rw [if_neg (fun e => e h), if_neg (fun e => e.elim (fun q => q h1) (fun q => q h2)), if_neg h3]
theorem mixR_none (h : mixE ws ms ≠ 0) : mixR ws ms = md0 := if_neg h
theorem wts_bf {l : List Fr} {K : Nat} (h : wts l ≤ K) (i : Nat) : bf (l.getD i fr0) ≤ K + 1 := Nat.le_trans (bf_getD _ _) (Nat.succ_le_succ h)
end
end Go.Ear
namespace Go.Ear
structure MdW (W : Nat) (m : Md) : Prop where
  st : ∀ i, bq (m.start.getD i fr0).rat ≤ W
  mv : ∀ i j, bq ((m.move.getD i []).getD j fr0).rat ≤ W
  fi : ∀ i, bq (m.fin.getD i fr0).rat ≤ W
  sy : ∀ i j, bq ((m.say.getD i []).getD j fr0).rat ≤ W
def fB (S W : Nat) : Nat → Nat
  | 0 => 2 * W
  | k + 1 => W + (1 + S * (fB S W k + W + 1))
def bB (S W : Nat) : Nat → Nat
  | 0 => W
  | k + 1 => 1 + S * (2 * W + bB S W k + 1)
theorem out_bq {l : List Rat} {i : Nat} (h : l.length ≤ i) : bq (l.getD i 0) = 1 := by
  rw [List.getD_eq_getElem?_getD, List.getElem?_eq_none h]; exact bq_zero
theorem fwd_bq {t : Tr} {S W : Nat} (h : MdW W t.m) (hs : t.m.start.length ≤ S) (hW : 1 ≤ W) : ∀ k i, bq ((fwd t k).getD i 0) ≤ fB S W k
  | 0, i => by
    by_cases hi : i < t.m.start.length
    · rw [← fwd_zero hi]
      have := bq_mul (t.m.start.getD i fr0).rat (sayT t i 0); have := h.st i; have := h.sy i (t.o.getD 0 0).toNat
      unfold sayT at *; show _ ≤ 2 * W; omega
    · rw [out_bq (by rw [fwd_len]; omega)]; show 1 ≤ 2 * W; omega
  | k + 1, i => by
    by_cases hi : i < t.m.start.length
    · rw [← fwd_succ hi]
      have h1 := bq_mul (sayT t i (k + 1)) (sumTo (fun j => (fwd t k).getD j 0 * moveT t j i) t.m.start.length)
      have h2 : bq (sayT t i (k + 1)) ≤ W := h.sy i _
      have h3 := bq_sumTo (q := fun j => (fwd t k).getD j 0 * moveT t j i) (B := fB S W k + W) t.m.start.length (fun j _ => by
        have := bq_mul ((fwd t k).getD j 0) (moveT t j i); have := fwd_bq h hs hW k j; have : bq (moveT t j i) ≤ W := h.mv j i
        show bq ((fwd t k).getD j 0 * moveT t j i) ≤ _; omega)
      have h4 := Nat.mul_le_mul_right (fB S W k + W + 1) hs
      show _ ≤ W + (1 + S * (fB S W k + W + 1)); omega
    · rw [out_bq (by rw [fwd_len]; omega)]; show 1 ≤ W + (1 + _); omega
theorem bwd_bq {t : Tr} {S W : Nat} (h : MdW W t.m) (hs : t.m.start.length ≤ S) (hW : 1 ≤ W) : ∀ k i, bq ((bwd t k).getD i 0) ≤ bB S W k
  | 0, i => by
    by_cases hi : i < t.m.start.length
    · rw [← bwd_zero hi]; exact h.fi i
    · rw [out_bq (by rw [bwd_len]; omega)]; exact hW
  | k + 1, i => by
    by_cases hi : i < t.m.start.length
    · rw [← bwd_succ hi]
      have h3 := bq_sumTo (q := fun j => moveT t i j * sayT t j (t.o.length - 1 - k) * (bwd t k).getD j 0) (B := 2 * W + bB S W k) t.m.start.length (fun j _ => by
        have := bq_mul (moveT t i j * sayT t j (t.o.length - 1 - k)) ((bwd t k).getD j 0); have := bq_mul (moveT t i j) (sayT t j (t.o.length - 1 - k))
        have := bwd_bq h hs hW k j; have : bq (moveT t i j) ≤ W := h.mv i j; have : bq (sayT t j (t.o.length - 1 - k)) ≤ W := h.sy j _
        show bq (moveT t i j * sayT t j (t.o.length - 1 - k) * (bwd t k).getD j 0) ≤ _; omega)
      have h4 := Nat.mul_le_mul_right (2 * W + bB S W k + 1) hs
      show _ ≤ 1 + S * (2 * W + bB S W k + 1); omega
    · rw [out_bq (by rw [bwd_len]; omega)]; show 1 ≤ 1 + _; omega
theorem fB_mono {S W : Nat} (hS : 1 ≤ S) : ∀ {a b : Nat}, a ≤ b → fB S W a ≤ fB S W b
  | a, 0, h => by rw [show a = 0 by omega]; exact Nat.le_refl _
  | a, b + 1, h => by
    by_cases e : a = b + 1
    · subst e; exact Nat.le_refl _
    · have := fB_mono hS (W := W) (a := a) (b := b) (by omega)
      have h2 := Nat.mul_le_mul_right (fB S W b + W + 1) hS
      show _ ≤ W + (1 + S * (fB S W b + W + 1)); omega
theorem bB_mono {S W : Nat} (hS : 1 ≤ S) : ∀ {a b : Nat}, a ≤ b → bB S W a ≤ bB S W b
  | a, 0, h => by rw [show a = 0 by omega]; exact Nat.le_refl _
  | a, b + 1, h => by
    by_cases e : a = b + 1
    · subst e; exact Nat.le_refl _
    · have := bB_mono hS (W := W) (a := a) (b := b) (by omega)
      have h2 := Nat.mul_le_mul_right (2 * W + bB S W b + 1) hS
      show _ ≤ 1 + S * (2 * W + bB S W b + 1); omega
section
variable {t : Tr} {S W N : Nat} (h : MdW W t.m) (hs : t.m.start.length ≤ S) (hW : 1 ≤ W) (hS : 1 ≤ S) (hn : t.o.length ≤ N + 1)
include h hs hW hS hn
theorem FwB.of (hb : fB S W N ≤ 300000) : FwB t := fun k i hk => Nat.le_trans (fwd_bq h hs hW k i) (Nat.le_trans (fB_mono hS (by omega)) hb)
theorem BwB.of (hb : bB S W N ≤ 300000) : BwB t := fun k i hk => Nat.le_trans (bwd_bq h hs hW k i) (Nat.le_trans (bB_mono hS (by omega)) hb)
theorem lk_bq : bq (lk t) ≤ 1 + S * (fB S W N + W + 1) := by
  unfold lk likT
  split
  · have := bq_zero; omega
  · rename_i hl
    rw [fwdAll_len] at hl
    have h3 := bq_sumTo (q := fun i => ((fwdAll t).getD ((fwdAll t).length - 1) []).getD i 0 * (t.m.fin.getD i fr0).rat) (B := fB S W N + W) t.m.start.length (fun i _ => by
      have h1 := bq_mul (((fwdAll t).getD ((fwdAll t).length - 1) []).getD i 0) (t.m.fin.getD i fr0).rat
      have h2 := h.fi i
      have h4 : bq (((fwdAll t).getD ((fwdAll t).length - 1) []).getD i 0) ≤ fB S W N := by
        rw [fwdAll_len, fwdAll_at (by omega)]; exact Nat.le_trans (fwd_bq h hs hW _ i) (fB_mono hS (by omega))
      show bq (((fwdAll t).getD ((fwdAll t).length - 1) []).getD i 0 * (t.m.fin.getD i fr0).rat) ≤ _; omega)
    have h4 := Nat.mul_le_mul_right (fB S W N + W + 1) hs
    omega
def pB (S W N : Nat) : Nat := fB S W N + 2 * W + bB S W N + (1 + S * (fB S W N + W + 1))
theorem pS_bq (i : Nat) : bq (pS t i) ≤ pB S W N := by
  have h1 := bq_div ((fwd t 0).getD i 0 * (bwd t (t.o.length - 1)).getD i 0) (lk t)
  have h2 := bq_mul ((fwd t 0).getD i 0) ((bwd t (t.o.length - 1)).getD i 0)
  have h3 := Nat.le_trans (fwd_bq h hs hW 0 i) (fB_mono hS (Nat.zero_le N)); have h4 := Nat.le_trans (bwd_bq h hs hW (t.o.length - 1) i) (bB_mono hS (show t.o.length - 1 ≤ N by omega)); have h5 := lk_bq h hs hW hS hn
  unfold pS pB; omega
theorem pE_bq (i : Nat) : bq (pE t i) ≤ pB S W N := by
  have h1 := bq_div ((fwd t (t.o.length - 1)).getD i 0 * (t.m.fin.getD i fr0).rat) (lk t)
  have h2 := bq_mul ((fwd t (t.o.length - 1)).getD i 0) (t.m.fin.getD i fr0).rat
  have h3 := Nat.le_trans (fwd_bq h hs hW (t.o.length - 1) i) (fB_mono hS (show t.o.length - 1 ≤ N by omega)); have h4 := h.fi i; have h5 := lk_bq h hs hW hS hn
  unfold pE pB; omega
theorem pY_bq (i k : Nat) (hk : k < t.o.length) : bq (pY t i k) ≤ pB S W N := by
  have h1 := bq_div ((fwd t k).getD i 0 * (bwd t (t.o.length - 1 - k)).getD i 0) (lk t)
  have h2 := bq_mul ((fwd t k).getD i 0) ((bwd t (t.o.length - 1 - k)).getD i 0)
  have h3 := Nat.le_trans (fwd_bq h hs hW k i) (fB_mono hS (show k ≤ N by omega)); have h4 := Nat.le_trans (bwd_bq h hs hW (t.o.length - 1 - k) i) (bB_mono hS (show t.o.length - 1 - k ≤ N by omega)); have h5 := lk_bq h hs hW hS hn
  unfold pY pB; omega
theorem pM_bq (i k j : Nat) (hk : k < t.o.length) : bq (pM t i k j) ≤ pB S W N := by
  have h1 := bq_div (wM t i k j) (lk t)
  have h2 := bq_mul ((fwd t k).getD i 0 * moveT t i j * sayT t j (k + 1)) ((bwd t (t.o.length - 1 - (k + 1))).getD j 0)
  have h6 := bq_mul ((fwd t k).getD i 0 * moveT t i j) (sayT t j (k + 1)); have h7 := bq_mul ((fwd t k).getD i 0) (moveT t i j)
  have h3 := Nat.le_trans (fwd_bq h hs hW k i) (fB_mono hS (show k ≤ N by omega)); have h4 := Nat.le_trans (bwd_bq h hs hW (t.o.length - 1 - (k + 1)) j) (bB_mono hS (show t.o.length - 1 - (k + 1) ≤ N by omega)); have h5 := lk_bq h hs hW hS hn
  have h8 : bq (moveT t i j) ≤ W := h.mv i j; have h9 : bq (sayT t j (k + 1)) ≤ W := h.sy j _
  unfold pM pB; unfold wM at *; omega
theorem sayRow_bq (i : Nat) : ∀ k x, k ≤ t.o.length → bq ((sayRow t i k).getD x 0) ≤ 1 + k * (pB S W N + 1)
  | 0, x, _ => by
    have : (sayRow t i 0).getD x 0 = 0 := by rw [sayRow, List.getD_eq_getElem?_getD, List.getElem?_replicate]; split <;> rfl
    rw [this, bq_zero]; omega
  | k + 1, x, hk => by
    have ih := sayRow_bq i k x (by omega); have ih2 := sayRow_bq i k (t.o.getD k 0).toNat (by omega)
    rw [sayRow, List.getD_eq_getElem?_getD, List.getElem?_set]
    have hp := pY_bq h hs hW hS hn i k (by omega)
    have ha := bq_add ((sayRow t i k).getD (t.o.getD k 0).toNat 0) (pY t i k)
    rw [Nat.add_mul]
    split
    · split
      · show bq ((sayRow t i k).getD (t.o.getD k 0).toNat 0 + pY t i k) ≤ _; omega
      · show bq 0 ≤ _; rw [bq_zero]; omega
    · rw [← List.getD_eq_getElem?_getD]; omega
theorem mvRow_bq (i : Nat) : ∀ k x, k ≤ t.o.length → bq ((mvRow t i k).getD x 0) ≤ 1 + k * (pB S W N + 1)
  | 0, x, _ => by
    have : (mvRow t i 0).getD x 0 = 0 := by rw [mvRow, List.getD_eq_getElem?_getD, List.getElem?_replicate]; split <;> rfl
    rw [this, bq_zero]; omega
  | k + 1, x, hk => by
    by_cases hx : x < t.m.start.length
    · rw [← mvRow_at hx]
      have ih := mvRow_bq i k x (by omega); have hp := pM_bq h hs hW hS hn i k x (by omega)
      have ha := bq_add ((mvRow t i k).getD x 0) (pM t i k x)
      rw [Nat.add_mul]; omega
    · rw [out_bq (by rw [mvRow_len]; omega)]; omega
theorem CnB.of (hb : 1 + (N + 1) * (pB S W N + 1) ≤ 60000000) : CnB t := by
  have hm : ∀ k, k ≤ t.o.length → k * (pB S W N + 1) ≤ (N + 1) * (pB S W N + 1) := fun k hk => Nat.mul_le_mul_right _ (by omega)
  have hp : pB S W N + 1 ≤ (N + 1) * (pB S W N + 1) := by have := Nat.mul_le_mul_right (pB S W N + 1) (show 1 ≤ N + 1 by omega); omega
  refine ⟨?_, fun i k x hk => ?_, fun i k x hk => ?_, fun i k hk => ?_, fun i k j hk => ?_⟩
  · have := lk_bq h hs hW hS hn; unfold pB at *; omega
  · have := sayRow_bq h hs hW hS hn i k x hk; have := hm k hk; omega
  · have := mvRow_bq h hs hW hS hn i k x hk; have := hm k hk; omega
  · have := pY_bq h hs hW hS hn i k hk; omega
  · have := pM_bq h hs hW hS hn i k j hk; omega
end
theorem checkE_one {m : Md} {data : List (List Int)} (h : checkE [m] data = 0) {o : List Int} (ho : o ∈ data) : checkE [m] [o] = 0 := by
  unfold checkE at h ⊢
  split at h
  · cases h
  · rename_i c1
    split at h
    · cases h
    · rename_i c2
      split at h
      · cases h
      · rename_i c3
        simp only [Bool.or_eq_true, not_or, Bool.not_eq_true] at c1 c2 c3
        have h1 := List.any_eq_false.1 c1.2 o ho; have h2 := List.any_eq_false.1 c3 o ho
        rw [if_neg (by simp only [Bool.or_eq_true, not_or, Bool.not_eq_true]; exact ⟨⟨c1.1.1, rfl⟩, by simp only [List.any_cons, List.any_nil, Bool.or_false]; simpa using h1⟩), if_neg (by simp only [Bool.not_eq_true]; exact c2), if_neg (by simp only [List.any_cons, List.any_nil, Bool.or_false]; exact h2)]
theorem checkE_n {m : Md} {data : List (List Int)} (h : checkE [m] data = 0) : data.length ≤ 200 ∧ validM m = true ∧ longM m = false := by
  unfold checkE at h
  split at h
  · cases h
  · rename_i c1
    split at h
    · cases h
    · rename_i c2
      simp only [Bool.or_eq_true, not_or, Bool.not_eq_true, decide_eq_false_iff_not, decide_eq_true_eq, List.any_cons, List.any_nil, Bool.or_false] at c1 c2
      refine ⟨by omega, ?_, c1.1.1⟩
      unfold notV at c2; simpa using c2
theorem getD_pad {l : List (List Rat)} {B : Nat} (h : ∀ i, i < l.length → ∀ j, bq ((l.getD i []).getD j 0) ≤ B) (hB : 1 ≤ B) (i j : Nat) : bq ((l.getD i []).getD j 0) ≤ B := by
  by_cases hi : i < l.length
  · exact h i hi j
  · rw [show l.getD i [] = [] by rw [List.getD_eq_getElem?_getD, List.getElem?_eq_none (Nat.le_of_not_lt hi)]; rfl]; show bq 0 ≤ B; rw [bq_zero]; exact hB
section
variable {t : Tr} {S W N : Nat} (h : MdW W t.m) (hs : t.m.start.length ≤ S) (hW : 1 ≤ W) (hS : 1 ≤ S) (hn : t.o.length ≤ N + 1)
include h hs hW hS hn
def qB (S W N : Nat) : Nat := 1 + (N + 1) * (pB S W N + 1)
theorem cnt_bq (i j : Nat) : bq ((cntT t).start.getD i 0) ≤ qB S W N ∧ bq ((cntT t).fin.getD i 0) ≤ qB S W N ∧ bq (((cntT t).move.getD i []).getD j 0) ≤ qB S W N ∧ bq (((cntT t).say.getD i []).getD j 0) ≤ qB S W N := by
  have hp : pB S W N + 1 ≤ (N + 1) * (pB S W N + 1) := by have := Nat.mul_le_mul_right (pB S W N + 1) (show 1 ≤ N + 1 by omega); omega
  have hm : ∀ k, k ≤ N + 1 → k * (pB S W N + 1) ≤ (N + 1) * (pB S W N + 1) := fun k hk => Nat.mul_le_mul_right _ hk
  refine ⟨?_, ?_, ?_, ?_⟩
  · by_cases hi : i < t.m.start.length
    · show bq ((cntS t).getD i 0) ≤ _; rw [cntS, range_getD _ _ hi]; have := pS_bq h hs hW hS hn i; unfold qB; omega
    · rw [out_bq (by show (cntS t).length ≤ i; rw [cntS_len]; omega)]; unfold qB; omega
  · by_cases hi : i < t.m.start.length
    · show bq ((cntE t).getD i 0) ≤ _; rw [cntE, range_getD _ _ hi]; have := pE_bq h hs hW hS hn i; unfold qB; omega
    · rw [out_bq (by show (cntE t).length ≤ i; rw [cntE_len]; omega)]; unfold qB; omega
  · refine getD_pad (fun i hi j => ?_) (by unfold qB; omega) i j
    replace hi : i < t.m.start.length := by have : (cntM t).length = _ := cntM_len t; exact this ▸ hi
    show bq (((cntM t).getD i []).getD j 0) ≤ _
    rw [cntM, range_getD _ _ hi]; have := mvRow_bq h hs hW hS hn i (t.o.length - 1) j (by omega); have := hm (t.o.length - 1) (by omega); unfold qB; omega
  · refine getD_pad (fun i hi j => ?_) (by unfold qB; omega) i j
    replace hi : i < t.m.start.length := by have : (cntY t).length = _ := cntY_len t; exact this ▸ hi
    show bq (((cntY t).getD i []).getD j 0) ≤ _
    rw [cntY, range_getD _ _ hi]; have := sayRow_bq h hs hW hS hn i t.o.length j (Nat.le_refl _); have := hm t.o.length (by omega); unfold qB; omega
end
theorem addR_bq {a b : List Rat} {A B : Nat} (ha : ∀ i, bq (a.getD i 0) ≤ A) (hb : ∀ i, bq (b.getD i 0) ≤ B) (i : Nat) : bq ((addR a b).getD i 0) ≤ A + B + 1 := by
  by_cases hi : i < a.length
  · rw [← addR_at hi]; have := bq_add (a.getD i 0) (b.getD i 0); have := ha i; have := hb i; omega
  · rw [out_bq (by rw [addR_len]; omega)]; omega
theorem addM_bq {a b : List (List Rat)} {A B : Nat} (ha : ∀ i j, bq ((a.getD i []).getD j 0) ≤ A) (hb : ∀ i j, bq ((b.getD i []).getD j 0) ≤ B) (i j : Nat) : bq (((addM a b).getD i []).getD j 0) ≤ A + B + 1 := by
  refine getD_pad (fun i hi j => ?_) (by omega) i j
  rw [addM_len] at hi
  rw [← addM_at hi]; exact addR_bq (ha i) (hb i) j
theorem rep_bq (n : Nat) (i : Nat) : bq ((List.replicate n (0 : Rat)).getD i 0) ≤ 1 := by
  have : (List.replicate n (0 : Rat)).getD i 0 = 0 := by rw [List.getD_eq_getElem?_getD, List.getElem?_replicate]; split <;> rfl
  rw [this, bq_zero]; exact Nat.le_refl _
theorem rep2_bq (n k : Nat) (i j : Nat) : bq (((List.replicate n (List.replicate k (0 : Rat))).getD i []).getD j 0) ≤ 1 := by
  refine getD_pad (fun i hi j => ?_) (Nat.le_refl _) i j
  rw [List.length_replicate] at hi
  rw [show (List.replicate n (List.replicate k (0 : Rat))).getD i [] = List.replicate k 0 by rw [List.getD_eq_getElem?_getD, List.getElem?_replicate, if_pos hi]; rfl]; exact rep_bq k j
section
variable {m : Md} {data : List (List Int)} {S W N D : Nat} (h : MdW W m) (hs : m.start.length ≤ S) (hW : 1 ≤ W) (hS : 1 ≤ S) (hn : ∀ o ∈ data, o.length ≤ N + 1)
include h hs hW hS hn
theorem trK_n {k : Nat} (hk : k < data.length) : (trK m data k).o.length ≤ N + 1 := hn _ (getD_mem' data [] hk)
theorem allT_bq : ∀ k, k ≤ data.length → ∀ i j, bq ((allT m data k).start.getD i 0) ≤ 1 + k * (qB S W N + 1) ∧ bq ((allT m data k).fin.getD i 0) ≤ 1 + k * (qB S W N + 1) ∧ bq (((allT m data k).move.getD i []).getD j 0) ≤ 1 + k * (qB S W N + 1) ∧ bq (((allT m data k).say.getD i []).getD j 0) ≤ 1 + k * (qB S W N + 1)
  | 0, _, i, j => by
    have h1 := rep_bq m.start.length i; have h2 := rep2_bq m.start.length m.start.length i j; have h3 := rep2_bq m.start.length (symb m) i j
    exact ⟨by show bq ((List.replicate m.start.length 0).getD i 0) ≤ _; omega, by show bq ((List.replicate m.start.length 0).getD i 0) ≤ _; omega, by show bq (((List.replicate m.start.length (List.replicate m.start.length 0)).getD i []).getD j 0) ≤ _; omega, by show bq (((List.replicate m.start.length (List.replicate (symb m) 0)).getD i []).getD j 0) ≤ _; omega⟩
  | k + 1, hk, i, j => by
    have ih := allT_bq k (by omega)
    have hc := cnt_bq (t := trK m data k) h hs hW hS (trK_n h hs hW hS hn (show k < data.length by omega))
    rw [Nat.add_mul, Nat.one_mul]
    by_cases hl : lk (trK m data k) = 0
    · rw [allT_t hl]; have := ih i j; exact ⟨by show bq ((allT m data k).start.getD i 0) ≤ _; omega, by show bq ((allT m data k).fin.getD i 0) ≤ _; omega, by show bq (((allT m data k).move.getD i []).getD j 0) ≤ _; omega, by show bq (((allT m data k).say.getD i []).getD j 0) ≤ _; omega⟩
    · rw [allT_f hl]
      have e1 := addR_bq (fun i => (ih i 0).1) (fun i => (hc i 0).1) i; have e2 := addR_bq (fun i => (ih i 0).2.1) (fun i => (hc i 0).2.1) i
      have e3 := addM_bq (fun i j => (ih i j).2.2.1) (fun i j => (hc i j).2.2.1) i j; have e4 := addM_bq (fun i j => (ih i j).2.2.2) (fun i j => (hc i j).2.2.2) i j
      exact ⟨by dsimp only; omega, by dsimp only; omega, by dsimp only; omega, by dsimp only; omega⟩
theorem DOk.of (hc : checkE [m] data = 0) (mb : MdB 100000 m) (hd : data.length ≤ D) (h1 : fB S W N ≤ 300000) (h2 : bB S W N ≤ 300000) (h3 : qB S W N ≤ 60000000) (h4 : (D + 2) * (qB S W N + 1) ≤ 134217000) : DOk m data := by
  have hx := checkE_n hc
  have hl := valid_len hx.2.1
  have hy : symb m ≤ 64 := by have := hx.2.2; unfold longM at this; simp only [Bool.or_eq_false_iff, decide_eq_false_iff_not, Bool.and_eq_false_iff] at this; rcases this.2 with q | q <;> omega
  have hs40 : m.start.length ≤ 40 := by have := hx.2.2; unfold longM at this; simp only [Bool.or_eq_false_iff, decide_eq_false_iff_not] at this; omega
  have hsum : ∀ k, k < data.length → 1 + k * (qB S W N + 1) + qB S W N ≤ 134217000 := fun k hk => by
    have := Nat.mul_le_mul_right (qB S W N + 1) (show k ≤ D by omega); rw [Nat.add_mul] at h4; omega
  have hT := fun k (hk : k < data.length) => trK_n h hs hW hS hn hk
  have hA := fun k (hk : k < data.length) => allT_bq h hs hW hS hn k (by omega)
  have hC := fun k (hk : k < data.length) => cnt_bq (t := trK m data k) h hs hW hS (hT k hk)
  exact ⟨hx.1, mb, by omega, ⟨by omega, by omega⟩, fun k hk => checkE_TOk (checkE_one hc (getD_mem' data [] hk)), fun k hk => FwB.of (t := trK m data k) h hs hW hS (hT k hk) h1, fun k hk => BwB.of (t := trK m data k) h hs hW hS (hT k hk) h2,
    fun k hk => CnB.of (t := trK m data k) h hs hW hS (hT k hk) h3, fun k i hk => by have := hA k hk i 0; have := hC k hk i 0; have := hsum k hk; omega, fun k i hk => by have := hA k hk i 0; have := hC k hk i 0; have := hsum k hk; omega,
    fun k i j hk => by have := hA k hk i j; have := hC k hk i j; have := hsum k hk; omega, fun k i j hk => by have := hA k hk i j; have := hC k hk i j; have := hsum k hk; omega⟩
end
theorem rst_bq {t : Tr} {W : Nat} (h : MdW W t.m) (hf : ∀ i, bf (t.m.fin.getD i fr0) ≤ W) (hW : 1 ≤ W) : ∀ k i, bf ((rst t k).getD i fr0) ≤ (2 * k + 1) * W ∧ bq ((rst t k).getD i fr0).rat ≤ (2 * k + 1) * W
  | k, i => by
    by_cases hi : i < t.m.start.length
    · match k with
      | 0 => rw [rst, range_getD _ _ hi]; have := h.fi i; have := hf i; omega
      | k + 1 =>
        rw [rst, range_getD _ _ hi, bf_frK, frK_rat]
        generalize argN _ _ = j
        unfold rq
        have h1 := bq_mul (moveT t i j * sayT t j (t.o.length - 1 - k)) ((rst t k).getD j fr0).rat; have h2 := bq_mul (moveT t i j) (sayT t j (t.o.length - 1 - k))
        have h3 := rst_bq h hf hW k j; have h4 : bq (moveT t i j) ≤ W := h.mv i j; have h5 : bq (sayT t j (t.o.length - 1 - k)) ≤ W := h.sy j _
        rw [show 2 * (k + 1) + 1 = (2 * k + 1) + 2 by omega, Nat.add_mul]; omega
    · have e : (rst t k).getD i fr0 = fr0 := by rw [List.getD_eq_getElem?_getD, List.getElem?_eq_none (by rw [rst_len]; omega)]; rfl
      have hz := bq_zero
      have : 1 * 1 ≤ (2 * k + 1) * W := Nat.mul_le_mul (by omega) hW
      rw [e]; exact ⟨by show 1 ≤ _; omega, by rw [show fr0.rat = 0 by decide +kernel]; omega⟩
theorem RsB.of {t : Tr} {W N : Nat} (h : MdW W t.m) (hf : ∀ i, bf (t.m.fin.getD i fr0) ≤ W) (hW : 1 ≤ W) (hn : t.o.length ≤ N + 1) (hb : (2 * N + 1) * W ≤ 300000) : RsB t := fun k i hk => by
  have h1 := rst_bq h hf hW k i
  have h2 := Nat.mul_le_mul_right W (show 2 * k + 1 ≤ 2 * N + 1 by omega)
  omega
end Go.Ear
