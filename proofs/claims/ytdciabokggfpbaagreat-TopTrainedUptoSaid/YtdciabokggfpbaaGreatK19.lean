/- K19: a part of the proof about training through the decoder: how the program's functions run, and what they compute, for every input. -/
import Derived.Test.YtdciabokggfpbaaGreatK16
import Derived.Test.YtdciabokggfpbaaGreatK17
set_option linter.all false
set_option maxRecDepth 20000
set_option maxHeartbeats 2000000
set_option synthInstance.maxSize 1000
namespace Go.E3
open Go Go.Ear Go.Proofs
instance foldA_c {q : Rat} {l : List Fr} {S T : SV} [i : Vw qv S q] [j : VL T l] : Ct Tryz.prog 97 [S,.cv (.func (.func 43) #[] #[]),T] (bq q + wts l <= 134217728) (qv (foldA q l)) := by
 haveI := j.t
 refine ct3 i (v2 := fun _ : Unit => .cv (.func (.func 43) #[] #[])) ⟨fun u => u⟩ j.v (ctI Tryz.call97 Tryz.func97 Tryz.ntmps97 rfl Tryz.results97 rfl [3] fun h0 w0 hb => ?_) (y := ())
 repeat first | refine nx ?_ | intro _
 rename_i v v2
 refine gLp (fun k : Nat => [(11,iv k)]) (fun k => [rV v [.cv (.bool (decide ((foldA q (l.take k)).num < 0))),lv rU (digs (foldA q (l.take k)).num.natAbs),lv rU (digs (foldA q (l.take k)).den)] 95]) (fun k => k <= l.length) (fun k => l.length - k) 0 (Nat.zero_le _) fun k hk => ?_
 have hb1 := Nat.le_trans (bq_foldA (l.take k) q fun x hx => j.t.bq x (List.mem_of_mem_take hx)) (Nat.add_le_add_left (wts_take l k) _)
 have hb2 := bf_getD l k
 have hb3 := j.t.bqg k
 have hb6 := bq_pos q
 have hb7 := len_wts l
 repeat first | refine nx ?_ | intro _
 refine gIf (fun c => ?_) fun c => ?_ <;> repeat first | refine nx ?_ | intro _
 · rw [<- foldA_succ c]; exact gBk (k + 1) (by omega) (by omega)
 · rw [List.take_of_length_le (by omega)]; exact ⟨rfl,rfl,rfl⟩
instance foldM_c {q : Rat} {l : List Fr} {S T : SV} [i : Vw qv S q] [j : VL T l] : Ct Tryz.prog 97 [S,.cv (.func (.func 99) #[] #[]),T] (bq q + wts l <= 134217728) (qv (foldM q l)) := by
 haveI := j.t
 refine ct3 i (v2 := fun _ : Unit => .cv (.func (.func 99) #[] #[])) ⟨fun u => u⟩ j.v (ctI Tryz.call97 Tryz.func97 Tryz.ntmps97 rfl Tryz.results97 rfl [3] fun h0 w0 hb => ?_) (y := ())
 repeat first | refine nx ?_ | intro _
 rename_i v v2
 refine gLp (fun k : Nat => [(11,iv k)]) (fun k => [rV v [.cv (.bool (decide ((foldM q (l.take k)).num < 0))),lv rU (digs (foldM q (l.take k)).num.natAbs),lv rU (digs (foldM q (l.take k)).den)] 95]) (fun k => k <= l.length) (fun k => l.length - k) 0 (Nat.zero_le _) fun k hk => ?_
 have hb1 := Nat.le_trans (bq_foldM (l.take k) q fun x hx => j.t.bq x (List.mem_of_mem_take hx)) (Nat.add_le_add_left (wts_take l k) _)
 have hb2 := bf_getD l k
 have hb3 := j.t.bqg k
 have hb6 := bq_pos q
 have hb7 := len_wts l
 repeat first | refine nx ?_ | intro _
 refine gIf (fun c => ?_) fun c => ?_ <;> repeat first | refine nx ?_ | intro _
 · rw [<- foldM_succ c]; exact gBk (k + 1) (by omega) (by omega)
 · rw [List.take_of_length_le (by omega)]; exact ⟨rfl,rfl,rfl⟩
instance sum_c {l : List Fr} {S : SV} [j : VL S l] : Ct Tryz.prog 79 [S] (wts l <= 134217724) (kk (sumF l)) := by
 haveI := j.t
 refine ct1 j.v (ctI Tryz.call79 Tryz.func79 Tryz.ntmps79 rfl Tryz.results79 rfl [] fun h0 w0 hb => ?_)
 have hbs := bq_foldA l (((0 : Int) : Int) : Rat) j.t.bq
 have hz : bq (((0 : Int) : Int) : Rat) <= 2 := bq_intc (by decide) (by decide)
 repeat first | refine nx ?_ | intro _
 exact ⟨rfl,rfl,rfl⟩
instance prod_c {l : List Fr} {S : SV} [j : VL S l] : Ct Tryz.prog 42 [S] (wts l <= 134217724) (kk (prodF l)) := by
 haveI := j.t
 refine ct1 j.v (ctI Tryz.call42 Tryz.func42 Tryz.ntmps42 rfl Tryz.results42 rfl [] fun h0 w0 hb => ?_)
 have hbs := bq_foldM l (((1 : Int) : Int) : Rat) j.t.bq
 have hz : bq (((1 : Int) : Int) : Rat) <= 2 := bq_intc (by decide) (by decide)
 repeat first | refine nx ?_ | intro _
 exact ⟨rfl,rfl,rfl⟩
instance Add_c {a b : Fr} {x y : Rat} {A B : Nat} {S T : SV} [i : VF S a x A] [j : VF T b y B] : Ct Tryz.prog 38 [S,T] (A + B <= 134217000) (kk (x + y)) := by
 haveI := i.t
 haveI := j.t
 refine ct2 i.v j.v (ctI Tryz.call38 Tryz.func38 Tryz.ntmps38 rfl Tryz.results38 rfl [] fun h0 w0 hb => ?_)
 obtain rfl := i.r
 obtain rfl := j.r
 obtain rfl := i.b
 obtain rfl := j.b
 have hw := wts2 a b
 repeat first | refine nx ?_ | intro _
 rw [sumF2]; exact ⟨rfl,rfl,rfl⟩
instance Mul_c {a b : Fr} {x y : Rat} {A B : Nat} {S T : SV} [i : VF S a x A] [j : VF T b y B] : Ct Tryz.prog 14 [S,T] (A + B <= 134217000) (kk (x * y)) := by
 haveI := i.t
 haveI := j.t
 refine ct2 i.v j.v (ctI Tryz.call14 Tryz.func14 Tryz.ntmps14 rfl Tryz.results14 rfl [] fun h0 w0 hb => ?_)
 obtain rfl := i.r
 obtain rfl := j.r
 obtain rfl := i.b
 obtain rfl := j.b
 have hw := wts2 a b
 repeat first | refine nx ?_ | intro _
 rw [prodF2]; exact ⟨rfl,rfl,rfl⟩
instance Sub_c {a b : Fr} {x y : Rat} {A B : Nat} {S T : SV} [i : VF S a x A] [j : VF T b y B] : Ct Tryz.prog 78 [S,T] (A + B <= 134217000) (kk (x - y)) := by
 refine ct2 i.v j.v (ctI Tryz.call78 Tryz.func78 Tryz.ntmps78 rfl Tryz.results78 rfl [] fun h0 w0 hb => ?_)
 have h1 := i.le
 have h2 := j.le
 obtain ⟨_,_,rfl,rfl⟩ := i
 obtain ⟨_,_,rfl,rfl⟩ := j
 have hn := bq_neg b.rat
 have hsb := bq_sub a.rat b.rat
 rw [Rat.sub_eq_add_neg] at hsb
 repeat first | refine nx ?_ | intro _
 rw [Rat.sub_eq_add_neg]; exact ⟨rfl,rfl,rfl⟩
instance Cmp_c {a b : Fr} {x y : Rat} {A B : Nat} {S T : SV} [i : VF S a x A] [j : VF T b y B] : Ct Tryz.prog 15 [S,T] (A + B <= 134217000) (iv (sgQ (x - y))) := by
 refine ct2 i.v j.v (ctI Tryz.call15 Tryz.func15 Tryz.ntmps15 rfl Tryz.results15 rfl [] fun h0 w0 hb => ?_)
 have h1 := i.le
 have h2 := j.le
 obtain ⟨_,_,rfl,rfl⟩ := i
 obtain ⟨_,_,rfl,rfl⟩ := j
 have hn := bq_neg b.rat
 repeat first | refine nx ?_ | intro _
 rw [Rat.sub_eq_add_neg]
instance Canon_c {a : Fr} {x : Rat} {A : Nat} {S : SV} [i : VF S a x A] : Ct Tryz.prog 35 [S] (A <= 134217000) (kk x) := by
 refine ct1 i.v (ctI Tryz.call35 Tryz.func35 Tryz.ntmps35 rfl Tryz.results35 rfl [] fun h0 w0 hb => ?_)
 have h1 := i.le
 obtain ⟨_,_,rfl,rfl⟩ := i
 repeat first | refine nx ?_ | intro _
 exact ⟨trivial,trivial,trivial⟩
instance Sign_c {a : Fr} {x : Rat} {A : Nat} {S : SV} [i : VF S a x A] : Ct Tryz.prog 13 [S] (A <= 134217000) (iv (sgQ x)) := by
 refine ct1 i.v (ctI Tryz.call13 Tryz.func13 Tryz.ntmps13 rfl Tryz.results13 rfl [] fun h0 w0 hb => ?_)
 obtain ⟨_,_,rfl,rfl⟩ := i
 repeat first | refine nx ?_ | intro _
 trivial
instance Of_c {n : Int} : Ct Tryz.prog 55 [iv n] (-9223372036854775808 <= n /\ n <= 9223372036854775807) (kk (n : Rat)) := by
 refine (ctI Tryz.call55 Tryz.func55 Tryz.ntmps55 rfl Tryz.results55 rfl [] fun h0 w0 ⟨h1,h2⟩ => ?_)
 have hsb := bq_intc h1 h2
 repeat first | refine nx ?_ | intro _
 exact ⟨trivial,trivial,trivial⟩
instance Div_c {a b : Fr} {x y : Rat} {A B : Nat} {S T : SV} [i : VF S a x A] [j : VF T b y B] : Ct Tryz.prog 106 [S,T] (A + B <= 134217000) (.tp [kk (x / y),iv (errDiv y)]) := by
 refine ct2 i.v j.v (ctI Tryz.call106 Tryz.func106 Tryz.ntmps106 rfl Tryz.results106 rfl [] fun h0 w0 hb => ?_)
 have h1 := i.le
 have h2 := j.le
 obtain ⟨_,_,rfl,rfl⟩ := i
 obtain ⟨_,_,rfl,rfl⟩ := j
 have hsb := bq_div a.rat b.rat
 rw [Rat.div_def] at hsb
 have hiv := bq_inv' b.rat
 repeat first | refine nx ?_ | intro _
 refine gIf (fun c => ?_) fun c => ?_ <;> repeat first | refine nx ?_ | intro _
 · rw [c,div_zero',frK_zero]; exact ⟨⟨rfl,rfl,rfl⟩,(if_pos rfl).symm⟩
 · rw [Rat.div_def]; exact ⟨⟨rfl,rfl,rfl⟩,(if_neg c).symm⟩
instance Make_c {n d : Int} : Ct Tryz.prog 53 [iv n,iv d] (-9223372036854775808 <= n /\ n <= 9223372036854775807 /\ -9223372036854775808 <= d /\ d <= 9223372036854775807) (.tp [kk ((n : Rat) / (d : Rat)),iv (errDiv (d : Rat))]) := by
 refine (ctI Tryz.call53 Tryz.func53 Tryz.ntmps53 rfl Tryz.results53 rfl [] fun h0 w0 ⟨h1,h2,h3,h4⟩ => ?_)
 have hs1 := bq_intc h1 h2
 have hs2 := bq_intc h3 h4
 repeat first | refine nx ?_ | intro _
 exact ⟨⟨trivial,trivial,trivial⟩,trivial⟩
instance Floor_c {a : Fr} {x : Rat} {A : Nat} {d : Int} {S : SV} [i : VF S a x A] : Ct Tryz.prog 76 [S,iv d] (A <= 60000000 /\ -9223372036854775808 <= d /\ d <= 9223372036854775807) (.tp [kk (floorQ x d),iv (if d < 1 then 2 else 0)]) := by
 refine ct2 (v2 := iv) i.v ⟨fun u => u⟩ (ctI Tryz.call76 Tryz.func76 Tryz.ntmps76 rfl Tryz.results76 rfl [] fun h0 w0 ⟨hb,h3,h4⟩ => ?_)
 have h1 := i.le
 obtain ⟨_,_,rfl,rfl⟩ := i
 have hsb := bq_intc h3 h4
 have hm := bq_mul a.rat (d : Rat)
 have hf := bq_floor (a.rat * (d : Rat))
 have hi := bq_inv' (d : Rat)
 have hm2 := bq_mul ((a.rat * (d : Rat)).floor : Rat) ((d : Rat))⁻¹
 repeat first | refine nx ?_ | intro _
 refine gIf (fun c => ?_) fun c => ?_
 · repeat first | refine nx ?_ | intro _
   unfold floorQ; rw [if_pos c,if_pos c,frK_zero]; exact ⟨⟨rfl,rfl,rfl⟩,rfl⟩
 · have hd0 : (d : Rat) ≠ 0 := fun e => by have := Rat.intCast_inj.1 (e.trans Rat.intCast_zero.symm); omega
   repeat first | refine nx ?_ | intro _
   unfold floorQ; rw [if_neg c,if_neg c]; exact ⟨⟨rfl,rfl,rfl⟩,rfl⟩
instance Dneg_c {a : Fr} {x : Rat} {A : Nat} {S : SV} [i : VF S a x A] : Ct Tryz.prog 155 [S] (A <= 134217000) (bv (decide (x < 0))) := by
 refine ct1 i.v (ctI Tryz.call155 Tryz.func155 Tryz.ntmps155 rfl Tryz.results155 rfl [] fun h0 w0 hb => ?_)
 obtain ⟨_,_,rfl,rfl⟩ := i
 repeat first | refine nx ?_ | intro _
 exact decide_eq_decide.2 sgQ_neg
instance Nneg_c {a : Fr} {x : Rat} {A : Nat} {S : SV} [i : VF S a x A] : Ct Tryz.prog 156 [S] (A <= 134217000) (bv (decide (x < 0))) := by
 refine ct1 i.v (ctI Tryz.call156 Tryz.func156 Tryz.ntmps156 rfl Tryz.results156 rfl [] fun h0 w0 hb => ?_)
 obtain ⟨_,_,rfl,rfl⟩ := i
 repeat first | refine nx ?_ | intro _
 exact decide_eq_decide.2 sgQ_neg
instance Bet_c {a b : Fr} {x y : Rat} {A B : Nat} {S T : SV} [i : VF S a x A] [j : VF T b y B] : Ct Tryz.prog 126 [S,T] (A + B <= 134217000) (bv (decide (y < x))) := by
 refine ct2 i.v j.v (ctI Tryz.call126 Tryz.func126 Tryz.ntmps126 rfl Tryz.results126 rfl [] fun h0 w0 hb => ?_)
 obtain ⟨_,_,rfl,rfl⟩ := i
 obtain ⟨_,_,rfl,rfl⟩ := j
 repeat first | refine nx ?_ | intro _
 exact decide_eq_decide.2 (sgQ_pos.trans rat_sub_pos)
instance idxD_c {l : List Fr} {S : SV} [j : VL S l] : Ct Tryz.prog 169 [S,.cv (.func (.func 155) #[] #[])] (wts l <= 134000000) (iv (idxP negF l)) := by
 haveI := j.t
 refine ct2 j.v (v2 := fun _ : Unit => .cv (.func (.func 155) #[] #[])) ⟨fun u => u⟩ (ctI Tryz.call169 Tryz.func169 Tryz.ntmps169 rfl Tryz.results169 rfl [] fun h0 w0 hb => ?_) (y := ())
 have hb7 := len_wts l
 repeat first | refine nx ?_ | intro _
 refine gLp (fun k : Nat => [(8,iv k)]) (fun _ => []) (fun k => k <= l.length /\ (l.take k).any negF = false) (fun k => l.length - k) 0 ⟨Nat.zero_le _,rfl⟩ fun k ⟨hk,hn⟩ => ?_
 have hb2 := bf_getD l k
 repeat first | refine nx ?_ | intro _
 refine gIf (fun c => ?_) fun c => ?_ <;> repeat first | refine nx ?_ | intro _
 · refine gIf (fun d => ?_) fun d => ?_ <;> repeat first | refine nx ?_ | intro _
   · exact (idx_found fr0 c hn (decide_eq_true d)).symm
   · exact gBk (k + 1) ⟨by omega,any_take_succ fr0 c hn (decide_eq_false d)⟩ (by omega)
 · exact (idx_none (by omega) hn).symm
instance cntD_c {l : List Fr} {S : SV} [j : VL S l] : Ct Tryz.prog 154 [S,.cv (.func (.func 155) #[] #[])] (wts l <= 134000000) (bv (l.any negF)) := by
 haveI := j.t
 refine ct2 j.v (v2 := fun _ : Unit => .cv (.func (.func 155) #[] #[])) ⟨fun u => u⟩ (ctI Tryz.call154 Tryz.func154 Tryz.ntmps154 rfl Tryz.results154 rfl [] fun h0 w0 hb => ?_) (y := ())
 repeat first | refine nx ?_ | intro _
 exact idx_any
instance idxN_c {l : List Fr} {S : SV} [j : VL S l] : Ct Tryz.prog 169 [S,.cv (.func (.func 156) #[] #[])] (wts l <= 134000000) (iv (idxP negF l)) := by
 haveI := j.t
 refine ct2 j.v (v2 := fun _ : Unit => .cv (.func (.func 156) #[] #[])) ⟨fun u => u⟩ (ctI Tryz.call169 Tryz.func169 Tryz.ntmps169 rfl Tryz.results169 rfl [] fun h0 w0 hb => ?_) (y := ())
 have hb7 := len_wts l
 repeat first | refine nx ?_ | intro _
 refine gLp (fun k : Nat => [(8,iv k)]) (fun _ => []) (fun k => k <= l.length /\ (l.take k).any negF = false) (fun k => l.length - k) 0 ⟨Nat.zero_le _,rfl⟩ fun k ⟨hk,hn⟩ => ?_
 have hb2 := bf_getD l k
 repeat first | refine nx ?_ | intro _
 refine gIf (fun c => ?_) fun c => ?_ <;> repeat first | refine nx ?_ | intro _
 · refine gIf (fun d => ?_) fun d => ?_ <;> repeat first | refine nx ?_ | intro _
   · exact (idx_found fr0 c hn (decide_eq_true d)).symm
   · exact gBk (k + 1) ⟨by omega,any_take_succ fr0 c hn (decide_eq_false d)⟩ (by omega)
 · exact (idx_none (by omega) hn).symm
instance cntN_c {l : List Fr} {S : SV} [j : VL S l] : Ct Tryz.prog 154 [S,.cv (.func (.func 156) #[] #[])] (wts l <= 134000000) (bv (l.any negF)) := by
 haveI := j.t
 refine ct2 j.v (v2 := fun _ : Unit => .cv (.func (.func 156) #[] #[])) ⟨fun u => u⟩ (ctI Tryz.call154 Tryz.func154 Tryz.ntmps154 rfl Tryz.results154 rfl [] fun h0 w0 hb => ?_) (y := ())
 repeat first | refine nx ?_ | intro _
 exact idx_any
instance first_c {l : List Fr} {S : SV} [j : VL S l] : Ct Tryz.prog 125 [S,.cv (.func (.func 126) #[] #[])] (wts l <= 60000000) (iv (bestAt l l.length)) := by
 haveI := j.t
 refine ct2 j.v (v2 := fun _ : Unit => .cv (.func (.func 126) #[] #[])) ⟨fun u => u⟩ (ctI Tryz.call125 Tryz.func125 Tryz.ntmps125 rfl Tryz.results125 rfl [7] fun h0 w0 hb => ?_) (y := ())
 have hb7 := len_wts l
 repeat first | refine nx ?_ | intro _
 refine gLp (fun k : Nat => [(10,iv k),(5,iv (bestAt l k))]) (fun _ => []) (fun k => k <= l.length) (fun k => l.length - k) 0 (h1 := by simp [bestAt_zero]) (Nat.zero_le _) fun k hk => ?_
 have hba := bestAt_bd l k
 have hb2 := bf_getD l k
 have hb8 := bf_getD l (bestAt l k).toNat
 repeat first | refine nx ?_ | intro _
 refine gIf (fun c => ?_) fun c => ?_ <;> repeat first | refine nx ?_ | intro _
 · refine gIf (fun d => ?_) fun d => ?_ <;> repeat first | refine nx ?_ | intro _
   · exact gBk (k + 1) (by omega) (by omega) (h1 := by rw [bestAt_succ,if_pos d]; simp)
   · exact gBk (k + 1) (by omega) (by omega) (h1 := by rw [bestAt_succ,if_neg d]; simp)
 · rw [show k = l.length by omega]
instance Best_c {l : List Fr} {S : SV} [j : VL S l] : Ct Tryz.prog 77 [S] (wts l <= 60000000) (iv (bestAt l l.length)) := by
 haveI := j.t
 refine ct1 j.v (ctI Tryz.call77 Tryz.func77 Tryz.ntmps77 rfl Tryz.results77 rfl [] fun h0 w0 hb => ?_)
 repeat first | refine nx ?_ | intro _
 trivial
instance Distribution_c {l : List Fr} {S : SV} [j : VL S l] : Ct Tryz.prog 115 [S] (wts l <= 134000000) (bv (distF l)) := by
 haveI := j.t
 refine ct1 j.v (ctI Tryz.call115 Tryz.func115 Tryz.ntmps115 rfl Tryz.results115 rfl [] fun h0 w0 hb => ?_)
 have hbs : bq (sumF l) <= 1 + wts l := by rw [<- bq_zero]; exact bq_foldA l 0 j.t.bq
 have hb1 : bq (((1 : Int) : Int) : Rat) <= 2 := bq_intc (by decide) (by decide)
 repeat first | refine nx ?_ | intro _
 unfold distF; congr 1; exact decide_eq_decide.2 sgQ_sub_one
instance Normalize_c {l : List Fr} {S : SV} [j : VL S l] : Ct Tryz.prog 117 [S] (wts l <= 60000000) (.tp [lv rF ((normF l).map frK),iv (normE l)]) := by
 haveI := j.t
 refine ct1 j.v (ctI Tryz.call117 Tryz.func117 Tryz.ntmps117 rfl Tryz.results117 rfl [] fun h0 w0 hb => ?_)
 have hbs : bq (sumF l) <= 1 + wts l := by rw [<- bq_zero]; exact bq_foldA l 0 j.t.bq
 have hb7 := len_wts l
 have hbi := bq_inv' (sumF l)
 repeat first | refine nx ?_ | intro _
 refine gIf (fun c => ?_) fun c => ?_ <;> repeat first | refine nx ?_ | intro _
 · simp [normF,normE,c]
 refine gIf (fun d => ?_) fun d => ?_ <;> repeat first | refine nx ?_ | intro _
 · simp [normF,normE,c,d]
 refine gNl rF 32 ?_
 refine gLp (fun s : Nat × Value => [(17,iv s.1),(5,ov s.2)]) (fun s => [rA rF 32 s.2 ((l.take s.1).map fun f => frK (f.rat * (sumF l)⁻¹))]) (fun s => s.1 <= l.length) (fun s => l.length - s.1) (0,.slice none 0 0) (Nat.zero_le _) fun ⟨k,v⟩ hk => ?_
 dsimp only at *
 have hb2 := bf_getD l k
 have hb3 := j.t.bqg k
 have hb6 := bq_mul (l.getD k fr0).rat (sumF l)⁻¹
 have hlt : ((l.take k).map fun f => frK (f.rat * (sumF l)⁻¹)).length = min k l.length := by simp
 repeat first | refine nx ?_ | intro _
 refine gIf (fun e => ?_) fun e => ?_ <;> repeat first | refine nx ?_ | intro _
 · rename_i v'
   rw [<- map_take_succ fr0 e]; exact gBk (k + 1,v') (by dsimp only; omega) (by dsimp only; omega)
 · rw [List.take_of_length_le (by omega)]; simp [normF,normE,c,d]
end Go.E3
