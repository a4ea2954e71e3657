/- About package frac: LawFracAdds. -/
import Derived.Test.YtmidncjhlnfojaaDoorNatLaw2
import Derived.Test.YtmidncjhlnfojaaDoorEarShort
import Derived.Test.YtmidncjhlnfojaaDoorProg
import Derived.Test.YtmidncjhlnfojaaDoorNatLaw3
import Derived.Test.YtmidncjhlnfojaaDoorEarFrac
import Derived.Test.YtmidncjhlnfojaaDoorEarDec
import Derived.Test.YtmidncjhlnfojaaDoorItoaLay
import Derived.Lib.ItoaMem
import Derived.Test.YtmidncjhlnfojaaDoorEarApi
import Derived.Test.YtmidncjhlnfojaaDoorEarRef2
import Derived.Test.YtmidncjhlnfojaaDoorEarLaw
import Derived.Test.YtmidncjhlnfojaaDoorEarLaw2
import Derived.Test.YtmidncjhlnfojaaDoorEarStore
import Derived.Test.YtmidncjhlnfojaaDoorK1
import Derived.Test.YtmidncjhlnfojaaDoorK14
import Derived.Test.YtmidncjhlnfojaaDoorK6
import Derived.Test.YtmidncjhlnfojaaDoorXNeg
import Derived.Test.YtmidncjhlnfojaaDoorXSub
import Derived.Test.YtmidncjhlnfojaaDoorXlsmall
import Derived.Test.YtmidncjhlnfojaaDoorXrAdd
import Derived.Test.YtmidncjhlnfojaaDoorXrNeg
import Derived.Test.YtmidncjhlnfojaaDoorXrSame
import Derived.Test.YtmidncjhlnfojaaDoorXrSub
set_option linter.all false
namespace Go.Ear
open Go.Proofs
set_option maxRecDepth 20000
set_option linter.unusedVariables false
set_option maxHeartbeats 2000000
theorem fracAdds_c {h : PH} {w : World} {v0 : Value} {a : Fr} {v1 : Value} {b : Fr} (hs : Sat h w) (tb : Tab h) (pv0 : F h v0 a) (pv1 : F h v1 b) :
    Calls Tryd.prog 9 #[v0, v1] w (Ret h w fun h' r => r = .bool true) := by
 obtain ⟨b1, c1, b2, c2, rfl, k1, k2, u1, u2⟩ := F.shape pv0
 have hbq1 := F.bq pv0
 obtain ⟨b3, c3, b4, c4, rfl, k3, k4, u3, u4⟩ := F.shape pv1
 have hbq2 := F.bq pv1
 refine calls_ear (vs := [.agg #[.bool a.neg, .slice b1 a.n.length c1, .slice b2 a.d.length c2], .agg #[.bool b.neg, .slice b3 b.n.length c3, .slice b4 b.d.length c4]]) Tryd.func9 rfl rfl ?_
 have g1 := Gr.refl hs
 refine sr (oC (OpW.boxK (v := .agg #[.bool a.neg, .slice b1 a.n.length c1, .slice b2 a.d.length c2]) (arr := #[.bool a.neg, .slice b1 a.n.length c1, .slice b2 a.d.length c2]) g1.sat rfl rfl ?_))
 intro b5 h1 w1 gr1 qb1
 have g2 := g1.trans gr1
 refine oC (OpW.boxK (v := .agg #[.bool b.neg, .slice b3 b.n.length c3, .slice b4 b.d.length c4]) (arr := #[.bool b.neg, .slice b3 b.n.length c3, .slice b4 b.d.length c4]) g2.sat rfl rfl ?_)
 intro b6 h2 w2 gr2 qb2
 refine ma (oN (wS (sr ?_)))
 have g3 := g2.trans gr2
 refine oC (lA (cs := [.bool a.neg, .slice b1 a.n.length c1, .slice b2 a.d.length c2]) Tryd.isAgg24 Tryd.sizeOf24 rfl (g3.sat _ _ (gr2.le _ _ qb1)) rfl rfl ?_)
 refine oC (lA (cs := [.bool b.neg, .slice b3 b.n.length c3, .slice b4 b.d.length c4]) Tryd.isAgg24 Tryd.sizeOf24 rfl (g3.sat _ _ qb2) rfl rfl ?_)
 refine oC (OpW.buildSliceO (arr := #[.bool a.neg, .slice b1 a.n.length c1, .slice b2 a.d.length c2, .bool b.neg, .slice b3 b.n.length c3, .slice b4 b.d.length c4]) g3.sat Tryd.underlying50 Tryd.zeroValue24 Tryd.sizeOf24 rfl (fillF2 (.bool a.neg) (.slice b1 a.n.length c1) (.slice b2 a.d.length c2) (.bool b.neg) (.slice b3 b.n.length c3) (.slice b4 b.d.length c4)) ?_)
 intro b7 w3 gr3 n1 lo1 o1
 have lo2 := Nat.le_trans g3.ext.size lo1
 have g5 := g3.trans gr3
 obtain ⟨h3, g4, l1, qb3, fr1⟩ := freeze_ex g5 o1 n1 lo2
 have f1 : LR rpF h3 (.slice (some ⟨b7, 0, none⟩) 2 2) [a, b] := LR.own' qb3 (css := [[.bool a.neg, .slice b1 a.n.length c1, .slice b2 a.d.length c2], [.bool b.neg, .slice b3 b.n.length c3, .slice b4 b.d.length c4]]) rfl (Rows.cons (F.mk (U.mono u1 ((gr1.le.trans gr2.le).trans l1)) (U.mono u2 ((gr1.le.trans gr2.le).trans l1))) (Rows.cons (F.mk (U.mono u3 ((gr1.le.trans gr2.le).trans l1)) (U.mono u4 ((gr1.le.trans gr2.le).trans l1))) Rows.nil)) rfl (Nat.le_refl _)
 refine oC (cF Tryd.call25 (lsmall_c (l := [a, b]) g4.sat f1 (Nat.le_of_ble_eq_true rfl)) rfl ?_)
 intro r1 h4 w4 gr4 hr1
 subst hr1
 refine oC (OpW.notB (a := smallL ([a, b])) (r := !(smallL ([a, b]))) rfl rfl (oN (Wp.cond (t := !(smallL ([a, b]))) rfl (fun c5 => ?_) (fun c5 => ?_))))
 replace c5 : ¬ (smallL ([a, b]) = true) := (raw_f (not_t c5))
 refine sr ?_
 have g6 := g4.trans gr4
 refine oC (cF Tryd.call20 (known_c  g6.sat (tb.mono (((gr1.le.trans gr2.le).trans l1).trans gr4.le)) ) rfl ?_)
 intro r2 h5 w5 gr5 hr2
 subst hr2
 refine ma (oN (Wp.ret (fin1_ret rfl (resOf_tmp (v := .bool true) rfl) ?_)))
 have g7 := g6.trans gr5
 refine ⟨h5, g7, ?_⟩
 exact rfl
 replace c5 : ¬ (¬ (smallL ([a, b]) = true)) := (fun n => n (not_f c5))
 have hsm := small_bf2 (by have hx := c5; simpa using hx)
 refine Wp.skip (wS ?_)
 have g8 := g4.trans gr4
 have hf1 := bq_add a.rat b.rat
 have hf2 := bq_add a.rat b.rat
 have hf3 := bq_sub a.rat b.rat
 have hf4 := bq_sub a.rat b.rat
 have hf5 := bq_neg a.rat
 have hf6 := bq_neg a.rat
 refine Wp.dagL 27 [11, 12, 13, 14, 15, 16, 17, 18, 19, 20, 21, 22, 23, 24, 25, 26, 27, 28, 29, 30, 31, 32, 33, 34, 35, 36, 4] [eqv (.agg #[.bool a.neg, .slice b1 a.n.length c1, .slice b2 a.d.length c2]), eqv (.agg #[.bool b.neg, .slice b3 b.n.length c3, .slice b4 b.d.length c4]), fun h _ x => Kn h x (a.rat + b.rat), eqv (.agg #[.bool a.neg, .slice b1 a.n.length c1, .slice b2 a.d.length c2]), eqv (.agg #[.bool b.neg, .slice b3 b.n.length c3, .slice b4 b.d.length c4]), fun h _ x => Kn h x (a.rat + b.rat), eqv (.bool true), eqv (.bool true), eqv (.agg #[.bool a.neg, .slice b1 a.n.length c1, .slice b2 a.d.length c2]), eqv (.agg #[.bool b.neg, .slice b3 b.n.length c3, .slice b4 b.d.length c4]), fun h _ x => Kn h x (a.rat - b.rat), eqv (.agg #[.bool a.neg, .slice b1 a.n.length c1, .slice b2 a.d.length c2]), eqv (.agg #[.bool b.neg, .slice b3 b.n.length c3, .slice b4 b.d.length c4]), fun h _ x => Kn h x (a.rat - b.rat), eqv (.bool true), eqv (.bool true), eqv (.bool true), eqv (.agg #[.bool a.neg, .slice b1 a.n.length c1, .slice b2 a.d.length c2]), fun h _ x => Kn h x (-a.rat), eqv (.agg #[.bool a.neg, .slice b1 a.n.length c1, .slice b2 a.d.length c2]), fun h _ x => Kn h x (-a.rat), eqv (.bool true), eqv (.bool true), eqv (.bool true), eqv (.bool true), eqv (.bool true), eqv (.bool true)] mixed g8.sat rfl (by decide +kernel) ⟨sQ _, sQ _, (stab_K (a.rat + b.rat)), sQ _, sQ _, (stab_K (a.rat + b.rat)), sQ _, sQ _, sQ _, sQ _, (stab_K (a.rat - b.rat)), sQ _, sQ _, (stab_K (a.rat - b.rat)), sQ _, sQ _, sQ _, sQ _, (stab_K (-a.rat)), sQ _, (stab_K (-a.rat)), sQ _, sQ _, sQ _, sQ _, sQ _, sQ _, trivial⟩ ?_ ?_
 intro stab
 refine ⟨?_, ?_, ?_, ?_, ?_, ?_, ?_, ?_, ?_, ?_, ?_, ?_, ?_, ?_, ?_, ?_, ?_, ?_, ?_, ?_, ?_, ?_, ?_, ?_, ?_, ?_, ?_, trivial⟩
 intro ρ1 h6 w6 g9 hdd1 hdo1
 have e1 : ρ1 2 = .pointer (some ⟨b5, 0, none⟩) := hdo1 2 rfl
 have g10 := g8.trans g9
 refine gP (lA (cs := [.bool a.neg, .slice b1 a.n.length c1, .slice b2 a.d.length c2]) Tryd.isAgg24 Tryd.sizeOf24 e1 (g10.sat _ _ ((((gr2.le.trans l1).trans gr4.le).trans g9.le) _ _ qb1)) rfl rfl ?_)
 exact ⟨_, h6, rfl, g9, fun j x _ p => p, rfl⟩
 intro ρ2 h7 w7 g11 hdd2 hdo2
 have e2 : ρ2 3 = .pointer (some ⟨b6, 0, none⟩) := hdo2 3 rfl
 have g12 := g8.trans g11
 refine gP (lA (cs := [.bool b.neg, .slice b3 b.n.length c3, .slice b4 b.d.length c4]) Tryd.isAgg24 Tryd.sizeOf24 e2 (g12.sat _ _ (((l1.trans gr4.le).trans g11.le) _ _ qb2)) rfl rfl ?_)
 exact ⟨_, h7, rfl, g11, fun j x _ p => p, rfl⟩
 intro ρ3 h8 w8 g13 hdd3 hdo3
 have e3 : ρ3 11 = .agg #[.bool a.neg, .slice b1 a.n.length c1, .slice b2 a.d.length c2] := hdd3 0 (by decide)
 have e4 : ρ3 12 = .agg #[.bool b.neg, .slice b3 b.n.length c3, .slice b4 b.d.length c4] := hdd3 1 (by decide)
 have g14 := g8.trans g13
 refine gP (cF Tryd.call42 (Add_c (a := a) (b := b) g14.sat (F.mk (U.mono u1 ((((gr1.le.trans gr2.le).trans l1).trans gr4.le).trans g13.le)) (U.mono u2 ((((gr1.le.trans gr2.le).trans l1).trans gr4.le).trans g13.le))) (F.mk (U.mono u3 ((((gr1.le.trans gr2.le).trans l1).trans gr4.le).trans g13.le)) (U.mono u4 ((((gr1.le.trans gr2.le).trans l1).trans gr4.le).trans g13.le))) (by omega)) (cx e3 (cx e4 cxn)) ?_)
 intro r3 h9 w9 gr6 hr3
 exact ⟨r3, h9, rfl, g13.trans gr6, fun j x _ => stab j _ _ _ _ x gr6, hr3⟩
 intro ρ4 h10 w10 g15 hdd4 hdo4
 have e5 : ρ4 2 = .pointer (some ⟨b5, 0, none⟩) := hdo4 2 rfl
 have g16 := g8.trans g15
 refine gP (lA (cs := [.bool a.neg, .slice b1 a.n.length c1, .slice b2 a.d.length c2]) Tryd.isAgg24 Tryd.sizeOf24 e5 (g16.sat _ _ ((((gr2.le.trans l1).trans gr4.le).trans g15.le) _ _ qb1)) rfl rfl ?_)
 exact ⟨_, h10, rfl, g15, fun j x _ p => p, rfl⟩
 intro ρ5 h11 w11 g17 hdd5 hdo5
 have e6 : ρ5 3 = .pointer (some ⟨b6, 0, none⟩) := hdo5 3 rfl
 have g18 := g8.trans g17
 refine gP (lA (cs := [.bool b.neg, .slice b3 b.n.length c3, .slice b4 b.d.length c4]) Tryd.isAgg24 Tryd.sizeOf24 e6 (g18.sat _ _ (((l1.trans gr4.le).trans g17.le) _ _ qb2)) rfl rfl ?_)
 exact ⟨_, h11, rfl, g17, fun j x _ p => p, rfl⟩
 intro ρ6 h12 w12 g19 hdd6 hdo6
 have e7 : ρ6 14 = .agg #[.bool a.neg, .slice b1 a.n.length c1, .slice b2 a.d.length c2] := hdd6 3 (by decide)
 have e8 : ρ6 15 = .agg #[.bool b.neg, .slice b3 b.n.length c3, .slice b4 b.d.length c4] := hdd6 4 (by decide)
 have g20 := g8.trans g19
 refine gP (cF Tryd.call43 (rAdd_c (a := a) (b := b) g20.sat (F.mk (U.mono u1 ((((gr1.le.trans gr2.le).trans l1).trans gr4.le).trans g19.le)) (U.mono u2 ((((gr1.le.trans gr2.le).trans l1).trans gr4.le).trans g19.le))) (F.mk (U.mono u3 ((((gr1.le.trans gr2.le).trans l1).trans gr4.le).trans g19.le)) (U.mono u4 ((((gr1.le.trans gr2.le).trans l1).trans gr4.le).trans g19.le))) (by omega)) (cx e7 (cx e8 cxn)) ?_)
 intro r4 h13 w13 gr7 hr4
 exact ⟨r4, h13, rfl, g19.trans gr7, fun j x _ => stab j _ _ _ _ x gr7, hr4⟩
 intro ρ7 h14 w14 g21 hdd7 hdo7
 have q1 : Kn h14 (ρ7 13) (a.rat + b.rat) := hdd7 2 (by decide)
 have q2 : Kn h14 (ρ7 16) (a.rat + b.rat) := hdd7 5 (by decide)
 have g22 := g8.trans g21
 refine gP (cF Tryd.call22 (rSame_c (f := frK (a.rat + b.rat)) (g := frK (a.rat + b.rat)) g22.sat q1 q2 (by first | omega | (simp only [bf_frK, frK_rat, wts_cons, wts_nil]; omega)) (by first | omega | (simp only [bf_frK, frK_rat, wts_cons, wts_nil]; omega))) rfl ?_)
 intro r5 h15 w15 gr8 hr5
 replace hr5 := hr5.trans (congrArg Value.bool (sameF_self _))
 exact ⟨r5, h15, rfl, g21.trans gr8, fun j x _ => stab j _ _ _ _ x gr8, hr5⟩
 intro ρ8 h16 w16 g23 hdd8 hdo8
 have e9 : ρ8 17 = .bool true := hdd8 6 (by decide)
 refine gP (OpW.move (v := .bool true) e9 ?_)
 exact ⟨_, h16, rfl, g23, fun j x _ p => p, rfl⟩
 intro ρ9 h17 w17 g24 hdd9 hdo9
 have e10 : ρ9 2 = .pointer (some ⟨b5, 0, none⟩) := hdo9 2 rfl
 have e11 : ρ9 18 = .bool true := hdd9 7 (by decide)
 refine gL (d := 18) (b := true) ?_ ?_ ?_ ?_
 · rfl
 · rfl
 · exact e11
 have g25 := g8.trans g24
 refine (lA (cs := [.bool a.neg, .slice b1 a.n.length c1, .slice b2 a.d.length c2]) Tryd.isAgg24 Tryd.sizeOf24 e10 (g25.sat _ _ ((((gr2.le.trans l1).trans gr4.le).trans g24.le) _ _ qb1)) rfl rfl ?_)
 exact ⟨_, h17, rfl, g24, fun j x _ p => p, rfl⟩
 intro ρ10 h18 w18 g26 hdd10 hdo10
 have e12 : ρ10 3 = .pointer (some ⟨b6, 0, none⟩) := hdo10 3 rfl
 have e13 : ρ10 18 = .bool true := hdd10 7 (by decide)
 refine gL (d := 18) (b := true) ?_ ?_ ?_ ?_
 · rfl
 · rfl
 · exact e13
 have g27 := g8.trans g26
 refine (lA (cs := [.bool b.neg, .slice b3 b.n.length c3, .slice b4 b.d.length c4]) Tryd.isAgg24 Tryd.sizeOf24 e12 (g27.sat _ _ (((l1.trans gr4.le).trans g26.le) _ _ qb2)) rfl rfl ?_)
 exact ⟨_, h18, rfl, g26, fun j x _ p => p, rfl⟩
 intro ρ11 h19 w19 g28 hdd11 hdo11
 have e14 : ρ11 18 = .bool true := hdd11 7 (by decide)
 have e15 : ρ11 19 = .agg #[.bool a.neg, .slice b1 a.n.length c1, .slice b2 a.d.length c2] := hdd11 8 (by decide)
 have e16 : ρ11 20 = .agg #[.bool b.neg, .slice b3 b.n.length c3, .slice b4 b.d.length c4] := hdd11 9 (by decide)
 refine gL (d := 18) (b := true) ?_ ?_ ?_ ?_
 · rfl
 · rfl
 · exact e14
 have g29 := g8.trans g28
 refine (cF Tryd.call44 (Sub_c (a := a) (b := b) g29.sat (F.mk (U.mono u1 ((((gr1.le.trans gr2.le).trans l1).trans gr4.le).trans g28.le)) (U.mono u2 ((((gr1.le.trans gr2.le).trans l1).trans gr4.le).trans g28.le))) (F.mk (U.mono u3 ((((gr1.le.trans gr2.le).trans l1).trans gr4.le).trans g28.le)) (U.mono u4 ((((gr1.le.trans gr2.le).trans l1).trans gr4.le).trans g28.le))) (by omega)) (cx e15 (cx e16 cxn)) ?_)
 intro r6 h20 w20 gr9 hr6
 exact ⟨r6, h20, rfl, g28.trans gr9, fun j x _ => stab j _ _ _ _ x gr9, hr6⟩
 intro ρ12 h21 w21 g30 hdd12 hdo12
 have e17 : ρ12 2 = .pointer (some ⟨b5, 0, none⟩) := hdo12 2 rfl
 have e18 : ρ12 18 = .bool true := hdd12 7 (by decide)
 refine gL (d := 18) (b := true) ?_ ?_ ?_ ?_
 · rfl
 · rfl
 · exact e18
 have g31 := g8.trans g30
 refine (lA (cs := [.bool a.neg, .slice b1 a.n.length c1, .slice b2 a.d.length c2]) Tryd.isAgg24 Tryd.sizeOf24 e17 (g31.sat _ _ ((((gr2.le.trans l1).trans gr4.le).trans g30.le) _ _ qb1)) rfl rfl ?_)
 exact ⟨_, h21, rfl, g30, fun j x _ p => p, rfl⟩
 intro ρ13 h22 w22 g32 hdd13 hdo13
 have e19 : ρ13 3 = .pointer (some ⟨b6, 0, none⟩) := hdo13 3 rfl
 have e20 : ρ13 18 = .bool true := hdd13 7 (by decide)
 refine gL (d := 18) (b := true) ?_ ?_ ?_ ?_
 · rfl
 · rfl
 · exact e20
 have g33 := g8.trans g32
 refine (lA (cs := [.bool b.neg, .slice b3 b.n.length c3, .slice b4 b.d.length c4]) Tryd.isAgg24 Tryd.sizeOf24 e19 (g33.sat _ _ (((l1.trans gr4.le).trans g32.le) _ _ qb2)) rfl rfl ?_)
 exact ⟨_, h22, rfl, g32, fun j x _ p => p, rfl⟩
 intro ρ14 h23 w23 g34 hdd14 hdo14
 have e21 : ρ14 18 = .bool true := hdd14 7 (by decide)
 have e22 : ρ14 22 = .agg #[.bool a.neg, .slice b1 a.n.length c1, .slice b2 a.d.length c2] := hdd14 11 (by decide)
 have e23 : ρ14 23 = .agg #[.bool b.neg, .slice b3 b.n.length c3, .slice b4 b.d.length c4] := hdd14 12 (by decide)
 refine gL (d := 18) (b := true) ?_ ?_ ?_ ?_
 · rfl
 · rfl
 · exact e21
 have g35 := g8.trans g34
 refine (cF Tryd.call27 (rSub_c (a := a) (b := b) g35.sat (F.mk (U.mono u1 ((((gr1.le.trans gr2.le).trans l1).trans gr4.le).trans g34.le)) (U.mono u2 ((((gr1.le.trans gr2.le).trans l1).trans gr4.le).trans g34.le))) (F.mk (U.mono u3 ((((gr1.le.trans gr2.le).trans l1).trans gr4.le).trans g34.le)) (U.mono u4 ((((gr1.le.trans gr2.le).trans l1).trans gr4.le).trans g34.le))) (by omega)) (cx e22 (cx e23 cxn)) ?_)
 intro r7 h24 w24 gr10 hr7
 exact ⟨r7, h24, rfl, g34.trans gr10, fun j x _ => stab j _ _ _ _ x gr10, hr7⟩
 intro ρ15 h25 w25 g36 hdd15 hdo15
 have e24 : ρ15 18 = .bool true := hdd15 7 (by decide)
 have q3 : Kn h25 (ρ15 21) (a.rat - b.rat) := hdd15 10 (by decide)
 have q4 : Kn h25 (ρ15 24) (a.rat - b.rat) := hdd15 13 (by decide)
 refine gL (d := 18) (b := true) ?_ ?_ ?_ ?_
 · rfl
 · rfl
 · exact e24
 have g37 := g8.trans g36
 refine (cF Tryd.call22 (rSame_c (f := frK (a.rat - b.rat)) (g := frK (a.rat - b.rat)) g37.sat q3 q4 (by first | omega | (simp only [bf_frK, frK_rat, wts_cons, wts_nil]; omega)) (by first | omega | (simp only [bf_frK, frK_rat, wts_cons, wts_nil]; omega))) rfl ?_)
 intro r8 h26 w26 gr11 hr8
 replace hr8 := hr8.trans (congrArg Value.bool (sameF_self _))
 exact ⟨r8, h26, rfl, g36.trans gr11, fun j x _ => stab j _ _ _ _ x gr11, hr8⟩
 intro ρ16 h27 w27 g38 hdd16 hdo16
 have e25 : ρ16 18 = .bool true := hdd16 7 (by decide)
 have e26 : ρ16 25 = .bool true := hdd16 14 (by decide)
 refine gP (pT (v := .bool true) e25 e26 ?_)
 exact ⟨_, h27, rfl, g38, fun j x _ p => p, rfl⟩
 intro ρ17 h28 w28 g39 hdd17 hdo17
 have e27 : ρ17 26 = .bool true := hdd17 15 (by decide)
 refine gP (OpW.move (v := .bool true) e27 ?_)
 exact ⟨_, h28, rfl, g39, fun j x _ p => p, rfl⟩
 intro ρ18 h29 w29 g40 hdd18 hdo18
 have e28 : ρ18 2 = .pointer (some ⟨b5, 0, none⟩) := hdo18 2 rfl
 have e29 : ρ18 27 = .bool true := hdd18 16 (by decide)
 refine gL (d := 27) (b := true) ?_ ?_ ?_ ?_
 · rfl
 · rfl
 · exact e29
 have g41 := g8.trans g40
 refine (lA (cs := [.bool a.neg, .slice b1 a.n.length c1, .slice b2 a.d.length c2]) Tryd.isAgg24 Tryd.sizeOf24 e28 (g41.sat _ _ ((((gr2.le.trans l1).trans gr4.le).trans g40.le) _ _ qb1)) rfl rfl ?_)
 exact ⟨_, h29, rfl, g40, fun j x _ p => p, rfl⟩
 intro ρ19 h30 w30 g42 hdd19 hdo19
 have e30 : ρ19 27 = .bool true := hdd19 16 (by decide)
 have e31 : ρ19 28 = .agg #[.bool a.neg, .slice b1 a.n.length c1, .slice b2 a.d.length c2] := hdd19 17 (by decide)
 refine gL (d := 27) (b := true) ?_ ?_ ?_ ?_
 · rfl
 · rfl
 · exact e30
 have g43 := g8.trans g42
 refine (cF Tryd.call45 (Neg_c (a := a) g43.sat (F.mk (U.mono u1 ((((gr1.le.trans gr2.le).trans l1).trans gr4.le).trans g42.le)) (U.mono u2 ((((gr1.le.trans gr2.le).trans l1).trans gr4.le).trans g42.le))) (by omega)) (cx e31 cxn) ?_)
 intro r9 h31 w31 gr12 hr9
 exact ⟨r9, h31, rfl, g42.trans gr12, fun j x _ => stab j _ _ _ _ x gr12, hr9⟩
 intro ρ20 h32 w32 g44 hdd20 hdo20
 have e32 : ρ20 2 = .pointer (some ⟨b5, 0, none⟩) := hdo20 2 rfl
 have e33 : ρ20 27 = .bool true := hdd20 16 (by decide)
 refine gL (d := 27) (b := true) ?_ ?_ ?_ ?_
 · rfl
 · rfl
 · exact e33
 have g45 := g8.trans g44
 refine (lA (cs := [.bool a.neg, .slice b1 a.n.length c1, .slice b2 a.d.length c2]) Tryd.isAgg24 Tryd.sizeOf24 e32 (g45.sat _ _ ((((gr2.le.trans l1).trans gr4.le).trans g44.le) _ _ qb1)) rfl rfl ?_)
 exact ⟨_, h32, rfl, g44, fun j x _ p => p, rfl⟩
 intro ρ21 h33 w33 g46 hdd21 hdo21
 have e34 : ρ21 27 = .bool true := hdd21 16 (by decide)
 have e35 : ρ21 30 = .agg #[.bool a.neg, .slice b1 a.n.length c1, .slice b2 a.d.length c2] := hdd21 19 (by decide)
 refine gL (d := 27) (b := true) ?_ ?_ ?_ ?_
 · rfl
 · rfl
 · exact e34
 have g47 := g8.trans g46
 refine (cF Tryd.call46 (rNeg_c (a := a) g47.sat (F.mk (U.mono u1 ((((gr1.le.trans gr2.le).trans l1).trans gr4.le).trans g46.le)) (U.mono u2 ((((gr1.le.trans gr2.le).trans l1).trans gr4.le).trans g46.le))) (by omega)) (cx e35 cxn) ?_)
 intro r10 h34 w34 gr13 hr10
 exact ⟨r10, h34, rfl, g46.trans gr13, fun j x _ => stab j _ _ _ _ x gr13, hr10⟩
 intro ρ22 h35 w35 g48 hdd22 hdo22
 have e36 : ρ22 27 = .bool true := hdd22 16 (by decide)
 have q5 : Kn h35 (ρ22 29) (-a.rat) := hdd22 18 (by decide)
 have q6 : Kn h35 (ρ22 31) (-a.rat) := hdd22 20 (by decide)
 refine gL (d := 27) (b := true) ?_ ?_ ?_ ?_
 · rfl
 · rfl
 · exact e36
 have g49 := g8.trans g48
 refine (cF Tryd.call22 (rSame_c (f := frK (-a.rat)) (g := frK (-a.rat)) g49.sat q5 q6 (by first | omega | (simp only [bf_frK, frK_rat, wts_cons, wts_nil]; omega)) (by first | omega | (simp only [bf_frK, frK_rat, wts_cons, wts_nil]; omega))) rfl ?_)
 intro r11 h36 w36 gr14 hr11
 replace hr11 := hr11.trans (congrArg Value.bool (sameF_self _))
 exact ⟨r11, h36, rfl, g48.trans gr14, fun j x _ => stab j _ _ _ _ x gr14, hr11⟩
 intro ρ23 h37 w37 g50 hdd23 hdo23
 have e37 : ρ23 27 = .bool true := hdd23 16 (by decide)
 have e38 : ρ23 32 = .bool true := hdd23 21 (by decide)
 refine gP (pT (v := .bool true) e37 e38 ?_)
 exact ⟨_, h37, rfl, g50, fun j x _ p => p, rfl⟩
 intro ρ24 h38 w38 g51 hdd24 hdo24
 have e39 : ρ24 33 = .bool true := hdd24 22 (by decide)
 refine gP (OpW.move (v := .bool true) e39 ?_)
 exact ⟨_, h38, rfl, g51, fun j x _ p => p, rfl⟩
 intro ρ25 h39 w39 g52 hdd25 hdo25
 have e40 : ρ25 34 = .bool true := hdd25 23 (by decide)
 refine gL (d := 34) (b := true) ?_ ?_ ?_ ?_
 · rfl
 · rfl
 · exact e40
 have g53 := g8.trans g52
 refine (cF Tryd.call20 (known_c  g53.sat (tb.mono ((((gr1.le.trans gr2.le).trans l1).trans gr4.le).trans g52.le)) ) rfl ?_)
 intro r12 h40 w40 gr15 hr12
 exact ⟨r12, h40, rfl, g52.trans gr15, fun j x _ => stab j _ _ _ _ x gr15, hr12⟩
 intro ρ26 h41 w41 g54 hdd26 hdo26
 have e41 : ρ26 34 = .bool true := hdd26 23 (by decide)
 have e42 : ρ26 35 = .bool true := hdd26 24 (by decide)
 refine gP (pT (v := .bool true) e41 e42 ?_)
 exact ⟨_, h41, rfl, g54, fun j x _ p => p, rfl⟩
 intro ρ27 h42 w42 g55 hdd27 hdo27
 have e43 : ρ27 36 = .bool true := hdd27 25 (by decide)
 refine gP (OpW.assign (v := .bool true) e43 ?_)
 exact ⟨_, h42, rfl, g55, fun j x _ p => p, rfl⟩
 intro ρ28 h43 w43 g56 hdp1 hdo28
 have e44 : ρ28 4 = .bool true := hdp1 26 rfl
 refine Ops.forget [(4, .bool true)] ⟨e44, trivial⟩ (fun ρ29 => (oN (Wp.ret (fin1_ret rfl (resOf_tmp (v := .bool true) rfl) ?_))))
 have g57 := g8.trans g56
 refine ⟨h43, g57, ?_⟩
 exact rfl
end Go.Ear
