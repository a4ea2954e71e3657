/- About package frac: K12. -/
import Derived.Test.YtmidncjhlnfojaaDoorNatLaw2
import Derived.Test.YtmidncjhlnfojaaDoorEarShort
import Derived.Test.YtmidncjhlnfojaaDoorProg
import Derived.Test.YtmidncjhlnfojaaDoorNatLaw3
import Derived.Test.YtmidncjhlnfojaaDoorEarFrac
import Derived.Test.YtmidncjhlnfojaaDoorEarDec
import Derived.Test.YtmidncjhlnfojaaDoorItoaLay
import Derived.Lib.ItoaMem
import Derived.Test.YtmidncjhlnfojaaDoorEarApi
import Derived.Test.YtmidncjhlnfojaaDoorEarRef2
import Derived.Test.YtmidncjhlnfojaaDoorK10
import Derived.Test.YtmidncjhlnfojaaDoorK11
set_option linter.all false
namespace Go.Ear
open Go.Proofs
set_option maxRecDepth 20000
set_option linter.unusedVariables false
set_option maxHeartbeats 2000000
theorem rmake1_c {h : PH} {w : World} {s : Bool} {v1 : Value} {n : List Nat} {v2 : Value} {d : List Nat} (hs : Sat h w) (pv1 : U h v1 n) (pv2 : U h v2 d) (hp0 : n.length ≤ 536870912) (hp1 : d.length ≤ 536870912) :
    Calls Tryd.prog 81 #[.bool s, v1, v2] w (Ret h w fun h' r => Kn h' r ((Fr.mk s n d).rat)) := by
 obtain ⟨b1, c1, rfl, k1⟩ := U.shape pv1
 obtain ⟨b2, c2, rfl, k2⟩ := U.shape pv2
 have hsn := sz_len pv1.1
 have hsd := sz_len pv2.1
 have hz := len_zero (n := val n)
 have hzd := len_zero (n := val d)
 have h1 := sz_one
 refine calls_ear (vs := [.bool s, .slice b1 n.length c1, .slice b2 d.length c2]) Tryd.func81 rfl rfl ?_
 have g1 := Gr.refl hs
 refine sr (oC (OpW.allocO (arr := #[.bool false, .slice none 0 0, .slice none 0 0]) g1.sat Tryd.zeroValue24 rfl ?_))
 intro b3 w1 gr1 n1 lo1 o1
 have lo2 := Nat.le_trans g1.ext.size lo1
 refine oN (sr (mv ?_))
 have g2 := g1.trans gr1
 refine oC (cF Tryd.call76 (rtrim_c (l := n) g2.sat pv1 (by first | omega | (simp only [List.length_set, List.length_replicate]; omega))) rfl ?_)
 intro r1 h1 w2 gr2 hr1
 obtain ⟨b4, c3, rfl, k3⟩ := N.shape hr1
 refine mv ?_
 have g3 := g2.trans gr2
 refine oC (cF Tryd.call76 (rtrim_c (l := d) g3.sat (U.mono pv2 gr2.le) (by first | omega | (simp only [List.length_set, List.length_replicate]; omega))) rfl ?_)
 intro r2 h2 w3 gr3 hr2
 obtain ⟨b5, c4, rfl, k4⟩ := N.shape hr2
 refine ma (ma (oN (wS (sr (mv (oC (OpW.lenS Tryd.underlying22 (l := (digs (val n)).length) rfl ?_)))))))
 refine oC (OpW.eqlI (a := (((digs (val n)).length : Nat) : Int)) (b := ((0 : Nat) : Int)) (r := decide ((digs (val n)).length = 0)) rfl rfl (eq_nat (a := (digs (val n)).length) (b := 0)) (oN (Wp.cond (t := decide ((digs (val n)).length = 0)) rfl (fun c5 => ?_) (fun c5 => ?_))))
 replace c5 : (digs (val n)).length = 0 := (of_decide_eq_true c5)
 refine sr (oC (OpW.build (places := [(0, 1), (1, 1), (2, 1)]) (cs := [.bool false, .slice none 0 0, .slice none 0 0]) Tryd.underlying24 Tryd.zeroValue24 (fun _ => by kernel_rfl) rfl ?_))
 have o2 := gr3.kp (gr2.kp ⟨o1, n1⟩)
 refine oC (sA (cs := [.bool false, .slice none 0 0, .slice none 0 0]) Tryd.sizeOf24 rfl rfl rfl rfl o2.1 rfl ?_)
 intro w4 p1
 refine oN (Wp.ret (fin1_ret rfl (resOf_cellA (cs := [.bool false, .slice none 0 0, .slice none 0 0]) Tryd.isAgg24 Tryd.sizeOf24 rfl p1.at_ (Nat.le_of_ble_eq_true rfl) rfl) ?_))
 have g4 := (g3.trans gr3).put p1 o2.2 lo2
 refine ⟨h2, g4, ?_⟩
 exact Kn.cast (by unfold Fr.rat; rw [show val n = 0 by omega]; exact ratOf_zero.symm) (Kz _)
 replace c5 : ¬ ((digs (val n)).length = 0) := (of_decide_eq_false c5)
 refine Wp.skip (wS (sr (mv (oC (OpW.lenS Tryd.underlying22 (l := (digs (val d)).length) rfl ?_)))))
 refine oC (OpW.eqlI (a := (((digs (val d)).length : Nat) : Int)) (b := ((0 : Nat) : Int)) (r := decide ((digs (val d)).length = 0)) rfl rfl (eq_nat (a := (digs (val d)).length) (b := 0)) (oN ?_))
 have g5 := g3.trans gr3
 have o4 := gr3.kp (gr2.kp ⟨o1, n1⟩)
 refine Wp.cut (fun ρ (w' : World) => ∃ (bS2 : Option Addr) (cS2 : Nat), ∃ ρb h', ρ = upds ρb [(0, .bool s), (1, .slice b4 ((digs (val n)).length) c3), (2, .slice bS2 ((digs (if val d = 0 then 1 else val d)).length) cS2), (6, .pointer (some ⟨b3, 0, none⟩))] ∧ Gr h w h' w' ∧ PH.le h2 h' ∧ w'.heap[b3]? = some (.cells #[.bool false, .slice none 0 0, .slice none 0 0] 24 (0, 0)) ∧ h' b3 = none ∧ (N h' (.slice bS2 ((digs (if val d = 0 then 1 else val d)).length) cS2) (if val d = 0 then 1 else val d))) ?_ ?_
 refine Wp.cond (t := decide ((digs (val d)).length = 0)) rfl (fun c6 => ?_) (fun c6 => ?_)
 replace c6 : (digs (val d)).length = 0 := (of_decide_eq_true c6)
 refine fg [(0, .bool s), (1, .slice b4 ((digs (val n)).length) c3), (6, .pointer (some ⟨b3, 0, none⟩))] rfl (fun ρ1 => (wR ?_))
 have lt1 := blk_lt o4.1
 refine oC (OpW.buildSliceO (arr := #[.int .u32 ((1 : Nat) : Int)]) g5.sat Tryd.underlying22 Tryd.zeroValue51 Tryd.sizeOf51 rfl rfl ?_)
 intro b6 w6 gr4 n2 lo3 o5
 have lo4 := Nat.le_trans g5.ext.size lo3
 have ne1 : b3 ≠ b6 := Nat.ne_of_lt (Nat.lt_of_lt_of_le lt1 lo3)
 refine ma (oN ?_)
 have g7 := g5.trans gr4
 obtain ⟨h4, g6, l1, qb1, fr1⟩ := freeze_ex g7 o5 n2 lo4
 have f1 := U.own (l := [1]) qb1 (fun x hx => by simp at hx; omega) (cap := 1) rfl (Nat.le_refl _)
 have o6 := oz fr1 ne1 (gr4.kp o4)
 exact ⟨(some ⟨b6, 0, none⟩), 1, _, h4, named ⟨rfl, rfl, (lit1_val (by rw [if_pos (by omega)])), rfl, trivial⟩, g6, l1, o6.1, o6.2, (lit1_N (by rw [if_pos (by omega)]) f1)⟩
 replace c6 : ¬ ((digs (val d)).length = 0) := (of_decide_eq_false c6)
 refine Wp.skip ?_
 exact ⟨b5, c4, _, h2, named ⟨rfl, rfl, (congrArg (fun t => Value.slice b5 (digs t).length c4) (by rw [if_neg (by omega)])), rfl, trivial⟩, g5, (PH.le.refl _), o4.1, o4.2, (N.recast (by rw [if_neg (by omega)]) hr2)⟩
 rintro ρ2 w5 ⟨bS2, cS2, ρ3, h3, rfl, g8, l2, o7, n3, hS2⟩
 have hd0 : (if val d = 0 then 1 else val d) ≠ 0 := by split <;> omega
 have hsD : sz (if val d = 0 then 1 else val d) ≤ 536870912 := by
   split
   · rw [sz_one]; decide
   · omega
 have hn0 : val n ≠ 0 := by omega
 have hgp := gcd_pos' (n := val n) hd0
 have hgs := sz_mono (Nat.gcd_le_right (val n) (Nat.pos_of_ne_zero hd0))
 have hq1 := sz_mono (Nat.div_le_self (val n) (Nat.gcd (val n) (if val d = 0 then 1 else val d)))
 have hq2 := sz_mono (Nat.div_le_self (if val d = 0 then 1 else val d) (Nat.gcd (val n) (if val d = 0 then 1 else val d)))
 have hq3 := len_zero (n := val n / Nat.gcd (val n) (if val d = 0 then 1 else val d))
 have hq4 := Nat.div_pos (Nat.gcd_le_left (if val d = 0 then 1 else val d) (Nat.pos_of_ne_zero hn0)) hgp
 have hq5 : (digs (val n / Nat.gcd (val n) (if val d = 0 then 1 else val d))).length ≤ 536870912 := Nat.le_trans hq1 (by omega)
 have hq6 : (digs ((if val d = 0 then 1 else val d) / Nat.gcd (val n) (if val d = 0 then 1 else val d))).length ≤ 536870912 := Nat.le_trans hq2 (by omega)
 refine sr ?_
 have lt2 := blk_lt o7
 refine oC (OpW.buildSliceO (arr := #[.int .u32 ((1 : Nat) : Int)]) g8.sat Tryd.underlying22 Tryd.zeroValue51 Tryd.sizeOf51 rfl rfl ?_)
 intro b7 w7 gr5 n4 lo5 o8
 have lo6 := Nat.le_trans g8.ext.size lo5
 have ne2 : b3 ≠ b7 := Nat.ne_of_lt (Nat.lt_of_lt_of_le lt2 lo5)
 refine ma (oN (wS (sr (mv ?_))))
 have g9 := g8.trans gr5
 refine oC (cF Tryd.call115 (rone_c (a := (if val d = 0 then 1 else val d)) g9.sat hS2 (by omega)) rfl ?_)
 intro r3 h5 w8 gr6 hr3
 subst hr3
 refine oC (OpW.notB (a := decide ((if val d = 0 then 1 else val d) = 1)) (r := !(decide ((if val d = 0 then 1 else val d) = 1))) rfl rfl (mv ?_))
 cases c7 : (!(decide ((if val d = 0 then 1 else val d) = 1)))
 replace c7 : ¬ (¬ ((if val d = 0 then 1 else val d) = 1)) := (fun n => n (of_decide_eq_true (not_f c7)))
 refine oD rfl rfl rfl rfl (oD rfl rfl rfl rfl (oD rfl rfl rfl rfl (oC (pF (v := .bool false) rfl rfl (oN ?_)))))
 have g11 := g9.trans gr6
 have o9 := gr6.kp ⟨o8, n4⟩
 obtain ⟨h6, g10, l3, qb2, fr2⟩ := freeze_ex g11 o9.1 o9.2 lo6
 have f2 := U.own (l := [1]) qb2 (fun x hx => by simp at hx; omega) (cap := 1) rfl (Nat.le_refl _)
 have o10 := oz fr2 ne2 (gr6.kp (gr5.kp ⟨o7, n3⟩))
 refine Wp.cut (fun ρ (w' : World) => ∃ (bS7 : Option Addr) (cS7 : Nat), ∃ ρb h', ρ = upds ρb [(0, .bool s), (1, .slice b4 ((digs (val n)).length) c3), (2, .slice bS2 ((digs (if val d = 0 then 1 else val d)).length) cS2), (6, .pointer (some ⟨b3, 0, none⟩)), (7, .slice bS7 ((digs (Nat.gcd (val n) (if val d = 0 then 1 else val d))).length) cS7)] ∧ Gr h w h' w' ∧ PH.le h6 h' ∧ w'.heap[b3]? = some (.cells #[.bool false, .slice none 0 0, .slice none 0 0] 24 (0, 0)) ∧ h' b3 = none ∧ (N h' (.slice bS7 ((digs (Nat.gcd (val n) (if val d = 0 then 1 else val d))).length) cS7) (Nat.gcd (val n) (if val d = 0 then 1 else val d)))) ?_ ?_
 refine Wp.cond_f rfl (Wp.skip ?_)
 exact ⟨(some ⟨b7, 0, none⟩), 1, _, h6, named ⟨rfl, rfl, rfl, rfl, (lit1_val (by first | rfl | exact gcd_one (by omega))), trivial⟩, g10, (PH.le.refl _), o10.1, o10.2, (lit1_N (by first | rfl | exact gcd_one (by omega)) f2)⟩
 rintro ρ4 w9 ⟨bS7, cS7, ρ5, h7, rfl, g12, l4, o11, n5, hS7⟩
 refine wS (sr (mv (oC (cF Tryd.call115 (rone_c (a := Nat.gcd (val n) (if val d = 0 then 1 else val d)) g12.sat hS7 (by omega)) rfl ?_))))
 intro r4 h8 w10 gr7 hr4
 subst hr4
 refine oC (OpW.notB (a := decide ((Nat.gcd (val n) (if val d = 0 then 1 else val d)) = 1)) (r := !(decide ((Nat.gcd (val n) (if val d = 0 then 1 else val d)) = 1))) rfl rfl (oN ?_))
 have g13 := g12.trans gr7
 have o12 := gr7.kp ⟨o11, n5⟩
 refine Wp.cut (fun ρ (w' : World) => ∃ (bS1 : Option Addr) (cS1 : Nat) (bS2 : Option Addr) (cS2 : Nat), ∃ ρb h', ρ = upds ρb [(0, .bool s), (1, .slice bS1 ((digs (val n / Nat.gcd (val n) (if val d = 0 then 1 else val d))).length) cS1), (2, .slice bS2 ((digs ((if val d = 0 then 1 else val d) / Nat.gcd (val n) (if val d = 0 then 1 else val d))).length) cS2), (6, .pointer (some ⟨b3, 0, none⟩))] ∧ Gr h w h' w' ∧ PH.le h8 h' ∧ w'.heap[b3]? = some (.cells #[.bool false, .slice none 0 0, .slice none 0 0] 24 (0, 0)) ∧ h' b3 = none ∧ (N h' (.slice bS1 ((digs (val n / Nat.gcd (val n) (if val d = 0 then 1 else val d))).length) cS1) (val n / Nat.gcd (val n) (if val d = 0 then 1 else val d))) ∧ (N h' (.slice bS2 ((digs ((if val d = 0 then 1 else val d) / Nat.gcd (val n) (if val d = 0 then 1 else val d))).length) cS2) ((if val d = 0 then 1 else val d) / Nat.gcd (val n) (if val d = 0 then 1 else val d)))) ?_ ?_
 refine Wp.cond (t := !(decide ((Nat.gcd (val n) (if val d = 0 then 1 else val d)) = 1))) rfl (fun c8 => ?_) (fun c8 => ?_)
 replace c8 : ¬ ((Nat.gcd (val n) (if val d = 0 then 1 else val d)) = 1) := (of_decide_eq_false (not_t c8))
 refine sr (mv (mv (oC (cF Tryd.call108 (rdivide_c (a := val n) (b := Nat.gcd (val n) (if val d = 0 then 1 else val d)) g13.sat (N.mono hr1 (((((gr3.le.trans l2).trans gr6.le).trans l3).trans l4).trans gr7.le)) (N.mono hS7 gr7.le) (by omega) (by omega) (by omega)) rfl ?_))))
 intro r5 h10 w12 gr8 hr5
 obtain ⟨r6, r7, rfl, hr6, hr7⟩ := hr5
 obtain ⟨b8, c9, rfl, k5⟩ := N.shape hr6
 obtain ⟨b9, c10, rfl, k6⟩ := N.shape hr7
 refine mv (oC (OpW.extract (v := .slice b8 ((digs ((val n) / (Nat.gcd (val n) (if val d = 0 then 1 else val d)))).length) c9) rfl rfl ?_))
 refine oC (OpW.extract (v := .slice b9 ((digs ((val n) % (Nat.gcd (val n) (if val d = 0 then 1 else val d)))).length) c10) rfl rfl (ma (oN (fg [(0, .bool s), (1, .slice b8 ((digs ((val n) / (Nat.gcd (val n) (if val d = 0 then 1 else val d)))).length) c9), (2, .slice bS2 ((digs (if val d = 0 then 1 else val d)).length) cS2), (6, .pointer (some ⟨b3, 0, none⟩)), (7, .slice bS7 ((digs (Nat.gcd (val n) (if val d = 0 then 1 else val d))).length) cS7)] rfl (fun ρ6 => (wR (mv (mv ?_))))))))
 have g14 := g13.trans gr8
 refine oC (cF Tryd.call108 (rdivide_c (a := (if val d = 0 then 1 else val d)) (b := Nat.gcd (val n) (if val d = 0 then 1 else val d)) g14.sat (N.mono hS2 ((((gr6.le.trans l3).trans l4).trans gr7.le).trans gr8.le)) (N.mono hS7 (gr7.le.trans gr8.le)) (by omega) (by omega) (by omega)) rfl ?_)
 intro r8 h11 w13 gr9 hr8
 obtain ⟨r9, r10, rfl, hr9, hr10⟩ := hr8
 obtain ⟨b10, c11, rfl, k7⟩ := N.shape hr9
 obtain ⟨b11, c12, rfl, k8⟩ := N.shape hr10
 refine mv (oC (OpW.extract (v := .slice b10 ((digs ((if val d = 0 then 1 else val d) / (Nat.gcd (val n) (if val d = 0 then 1 else val d)))).length) c11) rfl rfl ?_))
 refine oC (OpW.extract (v := .slice b11 ((digs ((if val d = 0 then 1 else val d) % (Nat.gcd (val n) (if val d = 0 then 1 else val d)))).length) c12) rfl rfl (ma (oN ?_)))
 have g15 := g14.trans gr9
 have o13 := gr9.kp (gr8.kp o12)
 exact ⟨b8, c9, b10, c11, _, h11, named ⟨rfl, (congrArg (fun t => Value.slice b8 (digs t).length c9) rfl), (congrArg (fun t => Value.slice b10 (digs t).length c11) rfl), rfl, trivial⟩, g15, (gr8.le.trans gr9.le), o13.1, o13.2, (N.recast rfl (N.mono hr6 gr9.le)), (N.recast rfl hr9)⟩
 replace c8 : ¬ (¬ ((Nat.gcd (val n) (if val d = 0 then 1 else val d)) = 1)) := (fun n => n (of_decide_eq_true (not_f c8)))
 refine Wp.skip ?_
 exact ⟨b4, c3, bS2, cS2, _, h8, named ⟨rfl, (congrArg (fun t => Value.slice b4 (digs t).length c3) (div_one (by omega))), (congrArg (fun t => Value.slice bS2 (digs t).length cS2) (div_one (by omega))), rfl, trivial⟩, g13, (PH.le.refl _), o12.1, o12.2, (N.recast (div_one (by omega)) (N.mono hr1 (((((gr3.le.trans l2).trans gr6.le).trans l3).trans l4).trans gr7.le))), (N.recast (div_one (by omega)) (N.mono hS2 (((gr6.le.trans l3).trans l4).trans gr7.le)))⟩
 rintro ρ7 w11 ⟨bS1, cS1, bS2, cS2, ρ8, h9, rfl, g16, l5, o14, n6, hS1, hS2⟩
 refine sr (mv (mv (oC (OpW.appendL (r := rpU) (lo := w.heap.size) (i := Tryd.t51) (v := .slice none 0 0) (x := .slice bS1 ((digs (val n / Nat.gcd (val n) (if val d = 0 then 1 else val d))).length) cS1) (l := []) (m := digs (val n / Nat.gcd (val n) (if val d = 0 then 1 else val d))) Tryd.underlying22 Tryd.type51 rfl rfl rfl g16.sat g16.ext.size rfl rfl (OwnL.nil rpU w.heap.size h9 w11 51) (U.toLU hS1) (by simp only [List.length_nil]; omega) (show _ * _ ≤ _ by simp only [List.length_nil, Tryd.t51]; omega) ?_))))
 intro vO1 w14 ow1 oo1 hbl1
 have g17 := OwnL.ow (OwnL.nil rpU w.heap.size h9 w11 51) g16 (Nat.le_refl _) oo1
 have ne3 := blk_ne hbl1 ne_nil o14
 replace ow1 := OwnL.cast (m := digs (val n / Nat.gcd (val n) (if val d = 0 then 1 else val d))) (List.nil_append _) ow1
 obtain ⟨h12, g18, l6, fr3, q1⟩ := OwnL.freeze g17 (Nat.le_refl _) ow1
 obtain ⟨b12, c13, e1, k9⟩ := LR.shape q1
 subst e1
 refine oC (OpW.build (places := [(0, 1), (1, 1), (2, 1)]) (cs := [.bool s, .slice b12 ((digs (val n / Nat.gcd (val n) (if val d = 0 then 1 else val d))).length) c13, .slice none 0 0]) Tryd.underlying24 Tryd.zeroValue24 (fun _ => by kernel_rfl) rfl ?_)
 have o16 := oy fr3 ne3 (Ow.kp oo1 ne_nil ⟨o14, n6⟩)
 have lt3 := blk_lt o16.1
 refine oC (OpW.allocO (arr := #[.bool false, .slice none 0 0, .slice none 0 0]) g18.sat Tryd.zeroValue24 rfl ?_)
 intro b13 w15 gr10 n7 lo7 o15
 have lo8 := Nat.le_trans g18.ext.size lo7
 have ne4 : b3 ≠ b13 := Nat.ne_of_lt (Nat.lt_of_lt_of_le lt3 lo7)
 refine oC (sA (cs := [.bool s, .slice b12 ((digs (val n / Nat.gcd (val n) (if val d = 0 then 1 else val d))).length) c13, .slice none 0 0]) Tryd.sizeOf24 rfl rfl rfl rfl o15 rfl ?_)
 intro w16 p2
 refine oN (wS (sr (mv ?_)))
 have g19 := (g18.trans gr10).put p2 n7 lo8
 refine oC (cF Tryd.call115 (rone_c (a := (if val d = 0 then 1 else val d) / Nat.gcd (val n) (if val d = 0 then 1 else val d)) g19.sat (N.mono hS2 l6) (by omega)) rfl ?_)
 intro r11 h13 w17 gr11 hr11
 subst hr11
 refine oC (OpW.notB (a := decide (((if val d = 0 then 1 else val d) / Nat.gcd (val n) (if val d = 0 then 1 else val d)) = 1)) (r := !(decide (((if val d = 0 then 1 else val d) / Nat.gcd (val n) (if val d = 0 then 1 else val d)) = 1))) rfl rfl (oN (Wp.cond (t := !(decide (((if val d = 0 then 1 else val d) / Nat.gcd (val n) (if val d = 0 then 1 else val d)) = 1))) rfl (fun c14 => ?_) (fun c14 => ?_))))
 replace c14 : ¬ (((if val d = 0 then 1 else val d) / Nat.gcd (val n) (if val d = 0 then 1 else val d)) = 1) := (of_decide_eq_false (not_t c14))
 refine fg [(2, .slice bS2 ((digs ((if val d = 0 then 1 else val d) / Nat.gcd (val n) (if val d = 0 then 1 else val d))).length) cS2), (6, .pointer (some ⟨b3, 0, none⟩)), (8, .pointer (some ⟨b13, 0, none⟩))] rfl (fun ρ9 => (wR (mv ?_)))
 have g20 := g19.trans gr11
 refine oC (OpW.appendL (r := rpU) (lo := w.heap.size) (i := Tryd.t51) (v := .slice none 0 0) (x := .slice bS2 ((digs ((if val d = 0 then 1 else val d) / Nat.gcd (val n) (if val d = 0 then 1 else val d))).length) cS2) (l := []) (m := digs ((if val d = 0 then 1 else val d) / Nat.gcd (val n) (if val d = 0 then 1 else val d))) Tryd.underlying22 Tryd.type51 rfl rfl rfl g20.sat g20.ext.size rfl rfl (OwnL.nil rpU w.heap.size h13 w17 51) (U.toLU (U.mono hS2 (l6.trans gr11.le))) (by simp only [List.length_nil]; omega) (show _ * _ ≤ _ by simp only [List.length_nil, Tryd.t51]; omega) ?_)
 intro vO2 w18 ow2 oo2 hbl2
 have g21 := OwnL.ow (OwnL.nil rpU w.heap.size h13 w17 51) g20 (Nat.le_refl _) oo2
 have o18 := gr11.kp (p2.kp ne4 (gr10.kp o16))
 have ne5 := blk_ne hbl2 ne_nil o18.1
 have o19 := gr11.kp ⟨p2.at_, n7⟩
 have ne6 := blk_ne hbl2 ne_nil o19.1
 replace ow2 := OwnL.cast (m := digs ((if val d = 0 then 1 else val d) / Nat.gcd (val n) (if val d = 0 then 1 else val d))) (List.nil_append _) ow2
 refine oC (fA (o := 2) Tryd.underlying24 rfl Tryd.sizeOf22 (by decide) rfl rfl ?_)
 have o20 := Ow.kp oo2 ne_nil o19
 refine oC (s1 (v := vO2) Tryd.sizeOf22 rfl rfl (OwnL.one ow2) o20.1 rfl ?_)
 intro w19 p3
 have ow3 := OwnL.put ow2 p3 ne6
 refine oN (sr (oC (lA (cs := [.bool s, .slice b12 ((digs (val n / Nat.gcd (val n) (if val d = 0 then 1 else val d))).length) c13, vO2]) Tryd.isAgg24 Tryd.sizeOf24 rfl p3.at_ rfl rfl ?_)))
 have g23 := g21.put p3 o20.2 lo8
 obtain ⟨h14, g22, l7, fr4, q2⟩ := OwnL.freeze g23 (Nat.le_refl _) ow3
 obtain ⟨b14, c15, e2, k10⟩ := LR.shape q2
 subst e2
 have o22 := oy fr4 ne5 (p3.kp ne4 (Ow.kp oo2 ne_nil o18))
 refine oC (sA (cs := [.bool s, .slice b12 ((digs (val n / Nat.gcd (val n) (if val d = 0 then 1 else val d))).length) c13, .slice b14 ((digs ((if val d = 0 then 1 else val d) / Nat.gcd (val n) (if val d = 0 then 1 else val d))).length) c15]) Tryd.sizeOf24 rfl rfl rfl rfl o22.1 rfl ?_)
 intro w20 p4
 refine oN (Wp.ret (fin1_ret rfl (resOf_cellA (cs := [.bool s, .slice b12 ((digs (val n / Nat.gcd (val n) (if val d = 0 then 1 else val d))).length) c13, .slice b14 ((digs ((if val d = 0 then 1 else val d) / Nat.gcd (val n) (if val d = 0 then 1 else val d))).length) c15]) Tryd.isAgg24 Tryd.sizeOf24 rfl p4.at_ (Nat.le_of_ble_eq_true rfl) rfl) ?_))
 have g24 := g22.put p4 o22.2 lo2
 refine ⟨h14, g24, ?_⟩
 exact rmk_close hn0 hd0 (LU.toU (LR.mono q1 (gr11.le.trans l7))) (LU.toU q2) (by first | exact (if_neg (by omega)).symm | exact (if_pos (by omega)).symm)
 replace c14 : ¬ (¬ (((if val d = 0 then 1 else val d) / Nat.gcd (val n) (if val d = 0 then 1 else val d)) = 1)) := (fun n => n (of_decide_eq_true (not_f c14)))
 refine Wp.skip (wS (fg [(6, .pointer (some ⟨b3, 0, none⟩)), (8, .pointer (some ⟨b13, 0, none⟩))] rfl (fun ρ10 => (wR ?_))))
 have o24 := gr11.kp ⟨p2.at_, n7⟩
 refine oC (lA (cs := [.bool s, .slice b12 ((digs (val n / Nat.gcd (val n) (if val d = 0 then 1 else val d))).length) c13, .slice none 0 0]) Tryd.isAgg24 Tryd.sizeOf24 rfl o24.1 rfl rfl ?_)
 have o25 := gr11.kp (p2.kp ne4 (gr10.kp o16))
 refine oC (sA (cs := [.bool s, .slice b12 ((digs (val n / Nat.gcd (val n) (if val d = 0 then 1 else val d))).length) c13, .slice none 0 0]) Tryd.sizeOf24 rfl rfl rfl rfl o25.1 rfl ?_)
 intro w21 p5
 refine oN (Wp.ret (fin1_ret rfl (resOf_cellA (cs := [.bool s, .slice b12 ((digs (val n / Nat.gcd (val n) (if val d = 0 then 1 else val d))).length) c13, .slice none 0 0]) Tryd.isAgg24 Tryd.sizeOf24 rfl p5.at_ (Nat.le_of_ble_eq_true rfl) rfl) ?_))
 have g25 := (g19.trans gr11).put p5 o25.2 lo2
 refine ⟨h13, g25, ?_⟩
 exact rmk_close hn0 hd0 (LU.toU (LR.mono q1 gr11.le)) (U.nil _ none _) (by first | exact (if_neg (by omega)).symm | exact (if_pos (by omega)).symm)
 replace c7 : ¬ ((if val d = 0 then 1 else val d) = 1) := (of_decide_eq_false (not_t c7))
 refine oL rfl rfl rfl (OpW.move (v := .slice b4 ((digs (val n)).length) c3) rfl ?_)
 have g26 := g9.trans gr6
 refine oL rfl rfl rfl (cF Tryd.call115 (rone_c (a := val n) g26.sat (N.mono hr1 ((gr3.le.trans l2).trans gr6.le)) (by omega)) rfl ?_)
 intro r12 h15 w22 gr12 hr12
 subst hr12
 refine oL rfl rfl rfl (OpW.notB (a := decide ((val n) = 1)) (r := !(decide ((val n) = 1))) rfl rfl ?_)
 refine oC (pT (v := .bool (!(decide ((val n) = 1)))) rfl rfl (oN ?_))
 have g28 := g26.trans gr12
 have o27 := gr12.kp (gr6.kp ⟨o8, n4⟩)
 obtain ⟨h16, g27, l8, qb3, fr5⟩ := freeze_ex g28 o27.1 o27.2 lo6
 have f3 := U.own (l := [1]) qb3 (fun x hx => by simp at hx; omega) (cap := 1) rfl (Nat.le_refl _)
 have o28 := oz fr5 ne2 (gr12.kp (gr6.kp (gr5.kp ⟨o7, n3⟩)))
 refine Wp.cut (fun ρ (w' : World) => ∃ (bS7 : Option Addr) (cS7 : Nat), ∃ ρb h', ρ = upds ρb [(0, .bool s), (1, .slice b4 ((digs (val n)).length) c3), (2, .slice bS2 ((digs (if val d = 0 then 1 else val d)).length) cS2), (6, .pointer (some ⟨b3, 0, none⟩)), (7, .slice bS7 ((digs (Nat.gcd (val n) (if val d = 0 then 1 else val d))).length) cS7)] ∧ Gr h w h' w' ∧ PH.le h16 h' ∧ w'.heap[b3]? = some (.cells #[.bool false, .slice none 0 0, .slice none 0 0] 24 (0, 0)) ∧ h' b3 = none ∧ (N h' (.slice bS7 ((digs (Nat.gcd (val n) (if val d = 0 then 1 else val d))).length) cS7) (Nat.gcd (val n) (if val d = 0 then 1 else val d)))) ?_ ?_
 refine Wp.cond (t := !(decide ((val n) = 1))) rfl (fun c16 => ?_) (fun c16 => ?_)
 replace c16 : ¬ ((val n) = 1) := (of_decide_eq_false (not_t c16))
 refine wR (mv (mv (oC (cF Tryd.call116 (rgcd_c (a := val n) (b := (if val d = 0 then 1 else val d)) g27.sat (N.mono hr1 ((((gr3.le.trans l2).trans gr6.le).trans gr12.le).trans l8)) (N.mono hS2 ((gr6.le.trans gr12.le).trans l8)) (by omega) (by omega) (by omega) (by omega)) rfl ?_))))
 intro r13 h18 w24 gr13 hr13
 obtain ⟨b15, c17, rfl, k11⟩ := N.shape hr13
 refine ma (oN ?_)
 have g29 := g27.trans gr13
 have o29 := gr13.kp o28
 exact ⟨b15, c17, _, h18, named ⟨rfl, rfl, rfl, rfl, (congrArg (fun t => Value.slice b15 (digs t).length c17) (by first | rfl | exact gcd_one (by omega))), trivial⟩, g29, gr13.le, o29.1, o29.2, (N.recast (by first | rfl | exact gcd_one (by omega)) hr13)⟩
 replace c16 : ¬ (¬ ((val n) = 1)) := (fun n => n (of_decide_eq_true (not_f c16)))
 refine Wp.skip ?_
 exact ⟨(some ⟨b7, 0, none⟩), 1, _, h16, named ⟨rfl, rfl, rfl, rfl, (lit1_val (by first | rfl | exact gcd_one (by omega))), trivial⟩, g27, (PH.le.refl _), o28.1, o28.2, (lit1_N (by first | rfl | exact gcd_one (by omega)) f3)⟩
 rintro ρ11 w23 ⟨bS7, cS7, ρ12, h17, rfl, g30, l9, o30, n8, hS7⟩
 refine wS (sr (mv (oC (cF Tryd.call115 (rone_c (a := Nat.gcd (val n) (if val d = 0 then 1 else val d)) g30.sat hS7 (by omega)) rfl ?_))))
 intro r14 h19 w25 gr14 hr14
 subst hr14
 refine oC (OpW.notB (a := decide ((Nat.gcd (val n) (if val d = 0 then 1 else val d)) = 1)) (r := !(decide ((Nat.gcd (val n) (if val d = 0 then 1 else val d)) = 1))) rfl rfl (oN ?_))
 have g31 := g30.trans gr14
 have o31 := gr14.kp ⟨o30, n8⟩
 refine Wp.cut (fun ρ (w' : World) => ∃ (bS1 : Option Addr) (cS1 : Nat) (bS2 : Option Addr) (cS2 : Nat), ∃ ρb h', ρ = upds ρb [(0, .bool s), (1, .slice bS1 ((digs (val n / Nat.gcd (val n) (if val d = 0 then 1 else val d))).length) cS1), (2, .slice bS2 ((digs ((if val d = 0 then 1 else val d) / Nat.gcd (val n) (if val d = 0 then 1 else val d))).length) cS2), (6, .pointer (some ⟨b3, 0, none⟩))] ∧ Gr h w h' w' ∧ PH.le h19 h' ∧ w'.heap[b3]? = some (.cells #[.bool false, .slice none 0 0, .slice none 0 0] 24 (0, 0)) ∧ h' b3 = none ∧ (N h' (.slice bS1 ((digs (val n / Nat.gcd (val n) (if val d = 0 then 1 else val d))).length) cS1) (val n / Nat.gcd (val n) (if val d = 0 then 1 else val d))) ∧ (N h' (.slice bS2 ((digs ((if val d = 0 then 1 else val d) / Nat.gcd (val n) (if val d = 0 then 1 else val d))).length) cS2) ((if val d = 0 then 1 else val d) / Nat.gcd (val n) (if val d = 0 then 1 else val d)))) ?_ ?_
 refine Wp.cond (t := !(decide ((Nat.gcd (val n) (if val d = 0 then 1 else val d)) = 1))) rfl (fun c18 => ?_) (fun c18 => ?_)
 replace c18 : ¬ ((Nat.gcd (val n) (if val d = 0 then 1 else val d)) = 1) := (of_decide_eq_false (not_t c18))
 refine sr (mv (mv (oC (cF Tryd.call108 (rdivide_c (a := val n) (b := Nat.gcd (val n) (if val d = 0 then 1 else val d)) g31.sat (N.mono hr1 ((((((gr3.le.trans l2).trans gr6.le).trans gr12.le).trans l8).trans l9).trans gr14.le)) (N.mono hS7 gr14.le) (by omega) (by omega) (by omega)) rfl ?_))))
 intro r15 h21 w27 gr15 hr15
 obtain ⟨r16, r17, rfl, hr16, hr17⟩ := hr15
 obtain ⟨b16, c19, rfl, k12⟩ := N.shape hr16
 obtain ⟨b17, c20, rfl, k13⟩ := N.shape hr17
 refine mv (oC (OpW.extract (v := .slice b16 ((digs ((val n) / (Nat.gcd (val n) (if val d = 0 then 1 else val d)))).length) c19) rfl rfl ?_))
 refine oC (OpW.extract (v := .slice b17 ((digs ((val n) % (Nat.gcd (val n) (if val d = 0 then 1 else val d)))).length) c20) rfl rfl (ma (oN (fg [(0, .bool s), (1, .slice b16 ((digs ((val n) / (Nat.gcd (val n) (if val d = 0 then 1 else val d)))).length) c19), (2, .slice bS2 ((digs (if val d = 0 then 1 else val d)).length) cS2), (6, .pointer (some ⟨b3, 0, none⟩)), (7, .slice bS7 ((digs (Nat.gcd (val n) (if val d = 0 then 1 else val d))).length) cS7)] rfl (fun ρ13 => (wR (mv (mv ?_))))))))
 have g32 := g31.trans gr15
 refine oC (cF Tryd.call108 (rdivide_c (a := (if val d = 0 then 1 else val d)) (b := Nat.gcd (val n) (if val d = 0 then 1 else val d)) g32.sat (N.mono hS2 (((((gr6.le.trans gr12.le).trans l8).trans l9).trans gr14.le).trans gr15.le)) (N.mono hS7 (gr14.le.trans gr15.le)) (by omega) (by omega) (by omega)) rfl ?_)
 intro r18 h22 w28 gr16 hr18
 obtain ⟨r19, r20, rfl, hr19, hr20⟩ := hr18
 obtain ⟨b18, c21, rfl, k14⟩ := N.shape hr19
 obtain ⟨b19, c22, rfl, k15⟩ := N.shape hr20
 refine mv (oC (OpW.extract (v := .slice b18 ((digs ((if val d = 0 then 1 else val d) / (Nat.gcd (val n) (if val d = 0 then 1 else val d)))).length) c21) rfl rfl ?_))
 refine oC (OpW.extract (v := .slice b19 ((digs ((if val d = 0 then 1 else val d) % (Nat.gcd (val n) (if val d = 0 then 1 else val d)))).length) c22) rfl rfl (ma (oN ?_)))
 have g33 := g32.trans gr16
 have o32 := gr16.kp (gr15.kp o31)
 exact ⟨b16, c19, b18, c21, _, h22, named ⟨rfl, (congrArg (fun t => Value.slice b16 (digs t).length c19) rfl), (congrArg (fun t => Value.slice b18 (digs t).length c21) rfl), rfl, trivial⟩, g33, (gr15.le.trans gr16.le), o32.1, o32.2, (N.recast rfl (N.mono hr16 gr16.le)), (N.recast rfl hr19)⟩
 replace c18 : ¬ (¬ ((Nat.gcd (val n) (if val d = 0 then 1 else val d)) = 1)) := (fun n => n (of_decide_eq_true (not_f c18)))
 refine Wp.skip ?_
 exact ⟨b4, c3, bS2, cS2, _, h19, named ⟨rfl, (congrArg (fun t => Value.slice b4 (digs t).length c3) (div_one (by omega))), (congrArg (fun t => Value.slice bS2 (digs t).length cS2) (div_one (by omega))), rfl, trivial⟩, g31, (PH.le.refl _), o31.1, o31.2, (N.recast (div_one (by omega)) (N.mono hr1 ((((((gr3.le.trans l2).trans gr6.le).trans gr12.le).trans l8).trans l9).trans gr14.le))), (N.recast (div_one (by omega)) (N.mono hS2 ((((gr6.le.trans gr12.le).trans l8).trans l9).trans gr14.le)))⟩
 rintro ρ14 w26 ⟨bS1, cS1, bS2, cS2, ρ15, h20, rfl, g34, l10, o33, n9, hS1, hS2⟩
 refine sr (mv (mv (oC (OpW.appendL (r := rpU) (lo := w.heap.size) (i := Tryd.t51) (v := .slice none 0 0) (x := .slice bS1 ((digs (val n / Nat.gcd (val n) (if val d = 0 then 1 else val d))).length) cS1) (l := []) (m := digs (val n / Nat.gcd (val n) (if val d = 0 then 1 else val d))) Tryd.underlying22 Tryd.type51 rfl rfl rfl g34.sat g34.ext.size rfl rfl (OwnL.nil rpU w.heap.size h20 w26 51) (U.toLU hS1) (by simp only [List.length_nil]; omega) (show _ * _ ≤ _ by simp only [List.length_nil, Tryd.t51]; omega) ?_))))
 intro vO3 w29 ow4 oo3 hbl3
 have g35 := OwnL.ow (OwnL.nil rpU w.heap.size h20 w26 51) g34 (Nat.le_refl _) oo3
 have ne7 := blk_ne hbl3 ne_nil o33
 replace ow4 := OwnL.cast (m := digs (val n / Nat.gcd (val n) (if val d = 0 then 1 else val d))) (List.nil_append _) ow4
 obtain ⟨h23, g36, l11, fr6, q3⟩ := OwnL.freeze g35 (Nat.le_refl _) ow4
 obtain ⟨b20, c23, e3, k16⟩ := LR.shape q3
 subst e3
 refine oC (OpW.build (places := [(0, 1), (1, 1), (2, 1)]) (cs := [.bool s, .slice b20 ((digs (val n / Nat.gcd (val n) (if val d = 0 then 1 else val d))).length) c23, .slice none 0 0]) Tryd.underlying24 Tryd.zeroValue24 (fun _ => by kernel_rfl) rfl ?_)
 have o35 := oy fr6 ne7 (Ow.kp oo3 ne_nil ⟨o33, n9⟩)
 have lt4 := blk_lt o35.1
 refine oC (OpW.allocO (arr := #[.bool false, .slice none 0 0, .slice none 0 0]) g36.sat Tryd.zeroValue24 rfl ?_)
 intro b21 w30 gr17 n10 lo9 o34
 have lo10 := Nat.le_trans g36.ext.size lo9
 have ne8 : b3 ≠ b21 := Nat.ne_of_lt (Nat.lt_of_lt_of_le lt4 lo9)
 refine oC (sA (cs := [.bool s, .slice b20 ((digs (val n / Nat.gcd (val n) (if val d = 0 then 1 else val d))).length) c23, .slice none 0 0]) Tryd.sizeOf24 rfl rfl rfl rfl o34 rfl ?_)
 intro w31 p6
 refine oN (wS (sr (mv ?_)))
 have g37 := (g36.trans gr17).put p6 n10 lo10
 refine oC (cF Tryd.call115 (rone_c (a := (if val d = 0 then 1 else val d) / Nat.gcd (val n) (if val d = 0 then 1 else val d)) g37.sat (N.mono hS2 l11) (by omega)) rfl ?_)
 intro r21 h24 w32 gr18 hr21
 subst hr21
 refine oC (OpW.notB (a := decide (((if val d = 0 then 1 else val d) / Nat.gcd (val n) (if val d = 0 then 1 else val d)) = 1)) (r := !(decide (((if val d = 0 then 1 else val d) / Nat.gcd (val n) (if val d = 0 then 1 else val d)) = 1))) rfl rfl (oN (Wp.cond (t := !(decide (((if val d = 0 then 1 else val d) / Nat.gcd (val n) (if val d = 0 then 1 else val d)) = 1))) rfl (fun c24 => ?_) (fun c24 => ?_))))
 replace c24 : ¬ (((if val d = 0 then 1 else val d) / Nat.gcd (val n) (if val d = 0 then 1 else val d)) = 1) := (of_decide_eq_false (not_t c24))
 refine fg [(2, .slice bS2 ((digs ((if val d = 0 then 1 else val d) / Nat.gcd (val n) (if val d = 0 then 1 else val d))).length) cS2), (6, .pointer (some ⟨b3, 0, none⟩)), (8, .pointer (some ⟨b21, 0, none⟩))] rfl (fun ρ16 => (wR (mv ?_)))
 have g38 := g37.trans gr18
 refine oC (OpW.appendL (r := rpU) (lo := w.heap.size) (i := Tryd.t51) (v := .slice none 0 0) (x := .slice bS2 ((digs ((if val d = 0 then 1 else val d) / Nat.gcd (val n) (if val d = 0 then 1 else val d))).length) cS2) (l := []) (m := digs ((if val d = 0 then 1 else val d) / Nat.gcd (val n) (if val d = 0 then 1 else val d))) Tryd.underlying22 Tryd.type51 rfl rfl rfl g38.sat g38.ext.size rfl rfl (OwnL.nil rpU w.heap.size h24 w32 51) (U.toLU (U.mono hS2 (l11.trans gr18.le))) (by simp only [List.length_nil]; omega) (show _ * _ ≤ _ by simp only [List.length_nil, Tryd.t51]; omega) ?_)
 intro vO4 w33 ow5 oo4 hbl4
 have g39 := OwnL.ow (OwnL.nil rpU w.heap.size h24 w32 51) g38 (Nat.le_refl _) oo4
 have o37 := gr18.kp (p6.kp ne8 (gr17.kp o35))
 have ne9 := blk_ne hbl4 ne_nil o37.1
 have o38 := gr18.kp ⟨p6.at_, n10⟩
 have ne10 := blk_ne hbl4 ne_nil o38.1
 replace ow5 := OwnL.cast (m := digs ((if val d = 0 then 1 else val d) / Nat.gcd (val n) (if val d = 0 then 1 else val d))) (List.nil_append _) ow5
 refine oC (fA (o := 2) Tryd.underlying24 rfl Tryd.sizeOf22 (by decide) rfl rfl ?_)
 have o39 := Ow.kp oo4 ne_nil o38
 refine oC (s1 (v := vO4) Tryd.sizeOf22 rfl rfl (OwnL.one ow5) o39.1 rfl ?_)
 intro w34 p7
 have ow6 := OwnL.put ow5 p7 ne10
 refine oN (sr (oC (lA (cs := [.bool s, .slice b20 ((digs (val n / Nat.gcd (val n) (if val d = 0 then 1 else val d))).length) c23, vO4]) Tryd.isAgg24 Tryd.sizeOf24 rfl p7.at_ rfl rfl ?_)))
 have g41 := g39.put p7 o39.2 lo10
 obtain ⟨h25, g40, l12, fr7, q4⟩ := OwnL.freeze g41 (Nat.le_refl _) ow6
 obtain ⟨b22, c25, e4, k17⟩ := LR.shape q4
 subst e4
 have o41 := oy fr7 ne9 (p7.kp ne8 (Ow.kp oo4 ne_nil o37))
 refine oC (sA (cs := [.bool s, .slice b20 ((digs (val n / Nat.gcd (val n) (if val d = 0 then 1 else val d))).length) c23, .slice b22 ((digs ((if val d = 0 then 1 else val d) / Nat.gcd (val n) (if val d = 0 then 1 else val d))).length) c25]) Tryd.sizeOf24 rfl rfl rfl rfl o41.1 rfl ?_)
 intro w35 p8
 refine oN (Wp.ret (fin1_ret rfl (resOf_cellA (cs := [.bool s, .slice b20 ((digs (val n / Nat.gcd (val n) (if val d = 0 then 1 else val d))).length) c23, .slice b22 ((digs ((if val d = 0 then 1 else val d) / Nat.gcd (val n) (if val d = 0 then 1 else val d))).length) c25]) Tryd.isAgg24 Tryd.sizeOf24 rfl p8.at_ (Nat.le_of_ble_eq_true rfl) rfl) ?_))
 have g42 := g40.put p8 o41.2 lo2
 refine ⟨h25, g42, ?_⟩
 exact rmk_close hn0 hd0 (LU.toU (LR.mono q3 (gr18.le.trans l12))) (LU.toU q4) (by first | exact (if_neg (by omega)).symm | exact (if_pos (by omega)).symm)
 replace c24 : ¬ (¬ (((if val d = 0 then 1 else val d) / Nat.gcd (val n) (if val d = 0 then 1 else val d)) = 1)) := (fun n => n (of_decide_eq_true (not_f c24)))
 refine Wp.skip (wS (fg [(6, .pointer (some ⟨b3, 0, none⟩)), (8, .pointer (some ⟨b21, 0, none⟩))] rfl (fun ρ17 => (wR ?_))))
 have o43 := gr18.kp ⟨p6.at_, n10⟩
 refine oC (lA (cs := [.bool s, .slice b20 ((digs (val n / Nat.gcd (val n) (if val d = 0 then 1 else val d))).length) c23, .slice none 0 0]) Tryd.isAgg24 Tryd.sizeOf24 rfl o43.1 rfl rfl ?_)
 have o44 := gr18.kp (p6.kp ne8 (gr17.kp o35))
 refine oC (sA (cs := [.bool s, .slice b20 ((digs (val n / Nat.gcd (val n) (if val d = 0 then 1 else val d))).length) c23, .slice none 0 0]) Tryd.sizeOf24 rfl rfl rfl rfl o44.1 rfl ?_)
 intro w36 p9
 refine oN (Wp.ret (fin1_ret rfl (resOf_cellA (cs := [.bool s, .slice b20 ((digs (val n / Nat.gcd (val n) (if val d = 0 then 1 else val d))).length) c23, .slice none 0 0]) Tryd.isAgg24 Tryd.sizeOf24 rfl p9.at_ (Nat.le_of_ble_eq_true rfl) rfl) ?_))
 have g43 := (g37.trans gr18).put p9 o44.2 lo2
 refine ⟨h24, g43, ?_⟩
 exact rmk_close hn0 hd0 (LU.toU (LR.mono q3 gr18.le)) (U.nil _ none _) (by first | exact (if_neg (by omega)).symm | exact (if_pos (by omega)).symm)
theorem rMake_c {h : PH} {w : World} {n : Int} {d : Int} (hs : Sat h w) (hp0 : -9223372036854775808 ≤ n) (hp1 : n ≤ 9223372036854775807) (hp2 : -9223372036854775808 ≤ d) (hp3 : d ≤ 9223372036854775807) (hp4 : d ≠ 0) :
    Calls Tryd.prog 30 #[.int .i64 n, .int .i64 d] w (Ret h w fun h' r => Kn h' r (((n : Int) : Rat) / ((d : Int) : Rat))) := by
 have hss := sz_small (n := n.natAbs) (by omega)
 have hsd := sz_small (n := d.natAbs) (by omega)
 have hl1 : (digs n.natAbs).length ≤ 536870912 := Nat.le_trans hss (by omega)
 have hl2 : (digs d.natAbs).length ≤ 536870912 := Nat.le_trans hsd (by omega)
 refine calls_ear (vs := [.int .i64 n, .int .i64 d]) Tryd.func30 rfl rfl ?_
 have g1 := Gr.refl hs
 refine sr (oC (OpW.allocO (arr := #[.bool false, .slice none 0 0, .slice none 0 0]) g1.sat Tryd.zeroValue24 rfl ?_))
 intro b1 w1 gr1 n1 lo1 o1
 have lo2 := Nat.le_trans g1.ext.size lo1
 refine oN (sr (mv (oC (OpW.lss (a := n) (b := ((0 : Nat) : Int)) (r := decide (n < ((0 : Nat) : Int))) rfl rfl rfl (mv (oC (OpW.lss (a := d) (b := ((0 : Nat) : Int)) (r := decide (d < ((0 : Nat) : Int))) rfl rfl rfl ?_)))))))
 refine oC (OpW.neqB (a := decide (n < ((0 : Nat) : Int))) (b := decide (d < ((0 : Nat) : Int))) (r := (decide (n < ((0 : Nat) : Int))) != (decide (d < ((0 : Nat) : Int)))) Tryd.underlying4 rfl rfl rfl (mv ?_))
 have g2 := g1.trans gr1
 refine oC (cF Tryd.call83 (rsize_c (n := n) g2.sat  (by omega) (by omega)) rfl ?_)
 intro r1 h1 w2 gr2 hr1
 subst hr1
 have g3 := g2.trans gr2
 refine oC (cF Tryd.call82 (rnatural_c (n := n.natAbs) g3.sat  (by omega)) rfl ?_)
 intro r2 h2 w3 gr3 hr2
 obtain ⟨b2, c1, rfl, k1⟩ := N.shape hr2
 refine mv ?_
 have g4 := g3.trans gr3
 refine oC (cF Tryd.call83 (rsize_c (n := d) g4.sat  (by omega) (by omega)) rfl ?_)
 intro r3 h3 w4 gr4 hr3
 subst hr3
 have g5 := g4.trans gr4
 refine oC (cF Tryd.call82 (rnatural_c (n := d.natAbs) g5.sat  (by omega)) rfl ?_)
 intro r4 h4 w5 gr5 hr4
 obtain ⟨b3, c2, rfl, k2⟩ := N.shape hr4
 have g6 := g5.trans gr5
 refine oC (cF Tryd.call81 (rmake1_c (s := (decide (n < ((0 : Nat) : Int))) != (decide (d < ((0 : Nat) : Int)))) (n := digs n.natAbs) (d := digs d.natAbs) g6.sat (U.mono hr2 (gr4.le.trans gr5.le)) hr4 (by omega) (by first | omega | exact Nat.zero_le _)) rfl ?_)
 intro r5 h5 w6 gr6 hr5
 obtain ⟨b4, c3, b5, c4, rfl, k3, k4, u1, u2⟩ := F.shape hr5
 have o2 := gr6.kp (gr5.kp (gr4.kp (gr3.kp (gr2.kp ⟨o1, n1⟩))))
 refine oC (sA (cs := [.bool ((frK ((Fr.mk ((decide (n < ((0 : Nat) : Int))) != (decide (d < ((0 : Nat) : Int)))) (digs n.natAbs) (digs d.natAbs)).rat)).neg), .slice b4 ((frK ((Fr.mk ((decide (n < ((0 : Nat) : Int))) != (decide (d < ((0 : Nat) : Int)))) (digs n.natAbs) (digs d.natAbs)).rat)).n.length) c3, .slice b5 ((frK ((Fr.mk ((decide (n < ((0 : Nat) : Int))) != (decide (d < ((0 : Nat) : Int)))) (digs n.natAbs) (digs d.natAbs)).rat)).d.length) c4]) Tryd.sizeOf24 rfl rfl rfl rfl o2.1 rfl ?_)
 intro w7 p1
 refine oN (Wp.ret (fin1_ret rfl (resOf_cellA (cs := [.bool ((frK ((Fr.mk ((decide (n < ((0 : Nat) : Int))) != (decide (d < ((0 : Nat) : Int)))) (digs n.natAbs) (digs d.natAbs)).rat)).neg), .slice b4 ((frK ((Fr.mk ((decide (n < ((0 : Nat) : Int))) != (decide (d < ((0 : Nat) : Int)))) (digs n.natAbs) (digs d.natAbs)).rat)).n.length) c3, .slice b5 ((frK ((Fr.mk ((decide (n < ((0 : Nat) : Int))) != (decide (d < ((0 : Nat) : Int)))) (digs n.natAbs) (digs d.natAbs)).rat)).d.length) c4]) Tryd.isAgg24 Tryd.sizeOf24 rfl p1.at_ (Nat.le_of_ble_eq_true rfl) rfl) ?_))
 have g7 := (g6.trans gr6).put p1 o2.2 lo2
 refine ⟨h5, g7, ?_⟩
 exact (Kn.cast ((mk_rat (by omega)).trans (quot_s hp4)) (F.mk u1 u2))
end Go.Ear
