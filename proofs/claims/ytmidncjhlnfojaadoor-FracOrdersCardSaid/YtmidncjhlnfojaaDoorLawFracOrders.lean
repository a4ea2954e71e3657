/- About package frac: LawFracOrders. -/
import Derived.Test.YtmidncjhlnfojaaDoorNatLaw2
import Derived.Test.YtmidncjhlnfojaaDoorEarShort
import Derived.Test.YtmidncjhlnfojaaDoorProg
import Derived.Test.YtmidncjhlnfojaaDoorNatLaw3
import Derived.Test.YtmidncjhlnfojaaDoorEarFrac
import Derived.Test.YtmidncjhlnfojaaDoorEarDec
import Derived.Test.YtmidncjhlnfojaaDoorItoaLay
import Derived.Lib.ItoaMem
import Derived.Test.YtmidncjhlnfojaaDoorEarApi
import Derived.Test.YtmidncjhlnfojaaDoorEarRef2
import Derived.Test.YtmidncjhlnfojaaDoorEarLaw
import Derived.Test.YtmidncjhlnfojaaDoorEarLaw2
import Derived.Test.YtmidncjhlnfojaaDoorEarStore
import Derived.Test.YtmidncjhlnfojaaDoorK1
import Derived.Test.YtmidncjhlnfojaaDoorK14
import Derived.Test.YtmidncjhlnfojaaDoorK6
import Derived.Test.YtmidncjhlnfojaaDoorXSign
import Derived.Test.YtmidncjhlnfojaaDoorXlsmall
import Derived.Test.YtmidncjhlnfojaaDoorXrCmp
import Derived.Test.YtmidncjhlnfojaaDoorXrSign
set_option linter.all false
namespace Go.Ear
open Go.Proofs
set_option maxRecDepth 20000
set_option linter.unusedVariables false
set_option maxHeartbeats 2000000
theorem fracOrders_c {h : PH} {w : World} {v0 : Value} {a : Fr} {v1 : Value} {b : Fr} (hs : Sat h w) (tb : Tab h) (pv0 : F h v0 a) (pv1 : F h v1 b) :
    Calls Tryd.prog 8 #[v0, v1] w (Ret h w fun h' r => r = .bool true) := by
 obtain ⟨b1, c1, b2, c2, rfl, k1, k2, u1, u2⟩ := F.shape pv0
 have hbq1 := F.bq pv0
 obtain ⟨b3, c3, b4, c4, rfl, k3, k4, u3, u4⟩ := F.shape pv1
 have hbq2 := F.bq pv1
 have hsb := sgQ_bd (a.rat - b.rat)
 refine calls_ear (vs := [.agg #[.bool a.neg, .slice b1 a.n.length c1, .slice b2 a.d.length c2], .agg #[.bool b.neg, .slice b3 b.n.length c3, .slice b4 b.d.length c4]]) Tryd.func8 rfl rfl ?_
 have g1 := Gr.refl hs
 refine sr (oC (OpW.boxK (v := .agg #[.bool a.neg, .slice b1 a.n.length c1, .slice b2 a.d.length c2]) (arr := #[.bool a.neg, .slice b1 a.n.length c1, .slice b2 a.d.length c2]) g1.sat rfl rfl ?_))
 intro b5 h1 w1 gr1 qb1
 have g2 := g1.trans gr1
 refine oC (OpW.boxK (v := .agg #[.bool b.neg, .slice b3 b.n.length c3, .slice b4 b.d.length c4]) (arr := #[.bool b.neg, .slice b3 b.n.length c3, .slice b4 b.d.length c4]) g2.sat rfl rfl ?_)
 intro b6 h2 w2 gr2 qb2
 refine ma (oN (wS (sr ?_)))
 have g3 := g2.trans gr2
 refine oC (lA (cs := [.bool a.neg, .slice b1 a.n.length c1, .slice b2 a.d.length c2]) Tryd.isAgg24 Tryd.sizeOf24 rfl (g3.sat _ _ (gr2.le _ _ qb1)) rfl rfl ?_)
 refine oC (lA (cs := [.bool b.neg, .slice b3 b.n.length c3, .slice b4 b.d.length c4]) Tryd.isAgg24 Tryd.sizeOf24 rfl (g3.sat _ _ qb2) rfl rfl ?_)
 refine oC (OpW.buildSliceO (arr := #[.bool a.neg, .slice b1 a.n.length c1, .slice b2 a.d.length c2, .bool b.neg, .slice b3 b.n.length c3, .slice b4 b.d.length c4]) g3.sat Tryd.underlying50 Tryd.zeroValue24 Tryd.sizeOf24 rfl (fillF2 (.bool a.neg) (.slice b1 a.n.length c1) (.slice b2 a.d.length c2) (.bool b.neg) (.slice b3 b.n.length c3) (.slice b4 b.d.length c4)) ?_)
 intro b7 w3 gr3 n1 lo1 o1
 have lo2 := Nat.le_trans g3.ext.size lo1
 have g5 := g3.trans gr3
 obtain ⟨h3, g4, l1, qb3, fr1⟩ := freeze_ex g5 o1 n1 lo2
 have f1 : LR rpF h3 (.slice (some ⟨b7, 0, none⟩) 2 2) [a, b] := LR.own' qb3 (css := [[.bool a.neg, .slice b1 a.n.length c1, .slice b2 a.d.length c2], [.bool b.neg, .slice b3 b.n.length c3, .slice b4 b.d.length c4]]) rfl (Rows.cons (F.mk (U.mono u1 ((gr1.le.trans gr2.le).trans l1)) (U.mono u2 ((gr1.le.trans gr2.le).trans l1))) (Rows.cons (F.mk (U.mono u3 ((gr1.le.trans gr2.le).trans l1)) (U.mono u4 ((gr1.le.trans gr2.le).trans l1))) Rows.nil)) rfl (Nat.le_refl _)
 refine oC (cF Tryd.call25 (lsmall_c (l := [a, b]) g4.sat f1 (Nat.le_of_ble_eq_true rfl)) rfl ?_)
 intro r1 h4 w4 gr4 hr1
 subst hr1
 refine oC (OpW.notB (a := smallL ([a, b])) (r := !(smallL ([a, b]))) rfl rfl (oN (Wp.cond (t := !(smallL ([a, b]))) rfl (fun c5 => ?_) (fun c5 => ?_))))
 replace c5 : ¬ (smallL ([a, b]) = true) := (raw_f (not_t c5))
 refine sr ?_
 have g6 := g4.trans gr4
 refine oC (cF Tryd.call20 (known_c  g6.sat (tb.mono (((gr1.le.trans gr2.le).trans l1).trans gr4.le)) ) rfl ?_)
 intro r2 h5 w5 gr5 hr2
 subst hr2
 refine ma (oN (Wp.ret (fin1_ret rfl (resOf_tmp (v := .bool true) rfl) ?_)))
 have g7 := g6.trans gr5
 refine ⟨h5, g7, ?_⟩
 exact rfl
 replace c5 : ¬ (¬ (smallL ([a, b]) = true)) := (fun n => n (not_f c5))
 have hsm := small_bf2 (by have hx := c5; simpa using hx)
 refine Wp.skip (wS ?_)
 have g8 := g4.trans gr4
 refine Wp.dagL 28 [11, 12, 13, 14, 15, 16, 17, 18, 19, 20, 21, 22, 23, 24, 25, 26, 27, 28, 29, 30, 31, 32, 33, 34, 35, 36, 37, 4] [eqv (.agg #[.bool a.neg, .slice b1 a.n.length c1, .slice b2 a.d.length c2]), eqv (.int .i64 (sgQ a.rat)), eqv (.agg #[.bool a.neg, .slice b1 a.n.length c1, .slice b2 a.d.length c2]), eqv (.int .i64 (sgQ a.rat)), eqv (.bool true), eqv (.bool true), eqv (.agg #[.bool a.neg, .slice b1 a.n.length c1, .slice b2 a.d.length c2]), eqv (.agg #[.bool b.neg, .slice b3 b.n.length c3, .slice b4 b.d.length c4]), eqv (.int .i64 (sgQ (a.rat - b.rat))), eqv (.agg #[.bool a.neg, .slice b1 a.n.length c1, .slice b2 a.d.length c2]), eqv (.agg #[.bool b.neg, .slice b3 b.n.length c3, .slice b4 b.d.length c4]), eqv (.int .i64 (sgQ (a.rat - b.rat))), eqv (.bool true), eqv (.bool true), eqv (.bool true), eqv (.agg #[.bool b.neg, .slice b3 b.n.length c3, .slice b4 b.d.length c4]), eqv (.agg #[.bool a.neg, .slice b1 a.n.length c1, .slice b2 a.d.length c2]), eqv (.int .i64 (sgQ (b.rat - a.rat))), eqv (.agg #[.bool a.neg, .slice b1 a.n.length c1, .slice b2 a.d.length c2]), eqv (.agg #[.bool b.neg, .slice b3 b.n.length c3, .slice b4 b.d.length c4]), eqv (.int .i64 (sgQ (a.rat - b.rat))), eqv (.int .i64 (-(sgQ (a.rat - b.rat)))), eqv (.bool true), eqv (.bool true), eqv (.bool true), eqv (.bool true), eqv (.bool true), eqv (.bool true)] mixed g8.sat rfl (by decide +kernel) ⟨sQ _, sQ _, sQ _, sQ _, sQ _, sQ _, sQ _, sQ _, sQ _, sQ _, sQ _, sQ _, sQ _, sQ _, sQ _, sQ _, sQ _, sQ _, sQ _, sQ _, sQ _, sQ _, sQ _, sQ _, sQ _, sQ _, sQ _, sQ _, trivial⟩ ?_ ?_
 intro stab
 refine ⟨?_, ?_, ?_, ?_, ?_, ?_, ?_, ?_, ?_, ?_, ?_, ?_, ?_, ?_, ?_, ?_, ?_, ?_, ?_, ?_, ?_, ?_, ?_, ?_, ?_, ?_, ?_, ?_, trivial⟩
 intro ρ1 h6 w6 g9 hdd1 hdo1
 have e1 : ρ1 2 = .pointer (some ⟨b5, 0, none⟩) := hdo1 2 rfl
 have g10 := g8.trans g9
 refine gP (lA (cs := [.bool a.neg, .slice b1 a.n.length c1, .slice b2 a.d.length c2]) Tryd.isAgg24 Tryd.sizeOf24 e1 (g10.sat _ _ ((((gr2.le.trans l1).trans gr4.le).trans g9.le) _ _ qb1)) rfl rfl ?_)
 exact ⟨_, h6, rfl, g9, fun j x _ p => p, rfl⟩
 intro ρ2 h7 w7 g11 hdd2 hdo2
 have e2 : ρ2 11 = .agg #[.bool a.neg, .slice b1 a.n.length c1, .slice b2 a.d.length c2] := hdd2 0 (by decide)
 have g12 := g8.trans g11
 refine gP (cF Tryd.call40 (Sign_c (a := a) g12.sat (F.mk (U.mono u1 ((((gr1.le.trans gr2.le).trans l1).trans gr4.le).trans g11.le)) (U.mono u2 ((((gr1.le.trans gr2.le).trans l1).trans gr4.le).trans g11.le))) (by omega)) (cx e2 cxn) ?_)
 intro r3 h8 w8 gr6 hr3
 exact ⟨r3, h8, rfl, g11.trans gr6, fun j x _ => stab j _ _ _ _ x gr6, hr3⟩
 intro ρ3 h9 w9 g13 hdd3 hdo3
 have e3 : ρ3 2 = .pointer (some ⟨b5, 0, none⟩) := hdo3 2 rfl
 have g14 := g8.trans g13
 refine gP (lA (cs := [.bool a.neg, .slice b1 a.n.length c1, .slice b2 a.d.length c2]) Tryd.isAgg24 Tryd.sizeOf24 e3 (g14.sat _ _ ((((gr2.le.trans l1).trans gr4.le).trans g13.le) _ _ qb1)) rfl rfl ?_)
 exact ⟨_, h9, rfl, g13, fun j x _ p => p, rfl⟩
 intro ρ4 h10 w10 g15 hdd4 hdo4
 have e4 : ρ4 13 = .agg #[.bool a.neg, .slice b1 a.n.length c1, .slice b2 a.d.length c2] := hdd4 2 (by decide)
 have g16 := g8.trans g15
 refine gP (cF Tryd.call23 (rSign_c (a := a) g16.sat (F.mk (U.mono u1 ((((gr1.le.trans gr2.le).trans l1).trans gr4.le).trans g15.le)) (U.mono u2 ((((gr1.le.trans gr2.le).trans l1).trans gr4.le).trans g15.le))) (by omega)) (cx e4 cxn) ?_)
 intro r4 h11 w11 gr7 hr4
 exact ⟨r4, h11, rfl, g15.trans gr7, fun j x _ => stab j _ _ _ _ x gr7, hr4⟩
 intro ρ5 h12 w12 g17 hdd5 hdo5
 have e5 : ρ5 12 = .int .i64 (sgQ a.rat) := hdd5 1 (by decide)
 have e6 : ρ5 14 = .int .i64 (sgQ a.rat) := hdd5 3 (by decide)
 refine gP (OpW.eqlI (a := (sgQ a.rat)) (b := (sgQ a.rat)) (r := true) e5 e6 (decide_eq_true (by omega)) ?_)
 exact ⟨_, h12, rfl, g17, fun j x _ p => p, rfl⟩
 intro ρ6 h13 w13 g18 hdd6 hdo6
 have e7 : ρ6 15 = .bool true := hdd6 4 (by decide)
 refine gP (OpW.move (v := .bool true) e7 ?_)
 exact ⟨_, h13, rfl, g18, fun j x _ p => p, rfl⟩
 intro ρ7 h14 w14 g19 hdd7 hdo7
 have e8 : ρ7 2 = .pointer (some ⟨b5, 0, none⟩) := hdo7 2 rfl
 have e9 : ρ7 16 = .bool true := hdd7 5 (by decide)
 refine gL (d := 16) (b := true) ?_ ?_ ?_ ?_
 · rfl
 · rfl
 · exact e9
 have g20 := g8.trans g19
 refine (lA (cs := [.bool a.neg, .slice b1 a.n.length c1, .slice b2 a.d.length c2]) Tryd.isAgg24 Tryd.sizeOf24 e8 (g20.sat _ _ ((((gr2.le.trans l1).trans gr4.le).trans g19.le) _ _ qb1)) rfl rfl ?_)
 exact ⟨_, h14, rfl, g19, fun j x _ p => p, rfl⟩
 intro ρ8 h15 w15 g21 hdd8 hdo8
 have e10 : ρ8 3 = .pointer (some ⟨b6, 0, none⟩) := hdo8 3 rfl
 have e11 : ρ8 16 = .bool true := hdd8 5 (by decide)
 refine gL (d := 16) (b := true) ?_ ?_ ?_ ?_
 · rfl
 · rfl
 · exact e11
 have g22 := g8.trans g21
 refine (lA (cs := [.bool b.neg, .slice b3 b.n.length c3, .slice b4 b.d.length c4]) Tryd.isAgg24 Tryd.sizeOf24 e10 (g22.sat _ _ (((l1.trans gr4.le).trans g21.le) _ _ qb2)) rfl rfl ?_)
 exact ⟨_, h15, rfl, g21, fun j x _ p => p, rfl⟩
 intro ρ9 h16 w16 g23 hdd9 hdo9
 have e12 : ρ9 16 = .bool true := hdd9 5 (by decide)
 have e13 : ρ9 17 = .agg #[.bool a.neg, .slice b1 a.n.length c1, .slice b2 a.d.length c2] := hdd9 6 (by decide)
 have e14 : ρ9 18 = .agg #[.bool b.neg, .slice b3 b.n.length c3, .slice b4 b.d.length c4] := hdd9 7 (by decide)
 refine gL (d := 16) (b := true) ?_ ?_ ?_ ?_
 · rfl
 · rfl
 · exact e12
 have g24 := g8.trans g23
 refine (cF Tryd.call41 (Cmp_c (a := a) (b := b) g24.sat (F.mk (U.mono u1 ((((gr1.le.trans gr2.le).trans l1).trans gr4.le).trans g23.le)) (U.mono u2 ((((gr1.le.trans gr2.le).trans l1).trans gr4.le).trans g23.le))) (F.mk (U.mono u3 ((((gr1.le.trans gr2.le).trans l1).trans gr4.le).trans g23.le)) (U.mono u4 ((((gr1.le.trans gr2.le).trans l1).trans gr4.le).trans g23.le))) (by omega)) (cx e13 (cx e14 cxn)) ?_)
 intro r5 h17 w17 gr8 hr5
 exact ⟨r5, h17, rfl, g23.trans gr8, fun j x _ => stab j _ _ _ _ x gr8, hr5⟩
 intro ρ10 h18 w18 g25 hdd10 hdo10
 have e15 : ρ10 2 = .pointer (some ⟨b5, 0, none⟩) := hdo10 2 rfl
 have e16 : ρ10 16 = .bool true := hdd10 5 (by decide)
 refine gL (d := 16) (b := true) ?_ ?_ ?_ ?_
 · rfl
 · rfl
 · exact e16
 have g26 := g8.trans g25
 refine (lA (cs := [.bool a.neg, .slice b1 a.n.length c1, .slice b2 a.d.length c2]) Tryd.isAgg24 Tryd.sizeOf24 e15 (g26.sat _ _ ((((gr2.le.trans l1).trans gr4.le).trans g25.le) _ _ qb1)) rfl rfl ?_)
 exact ⟨_, h18, rfl, g25, fun j x _ p => p, rfl⟩
 intro ρ11 h19 w19 g27 hdd11 hdo11
 have e17 : ρ11 3 = .pointer (some ⟨b6, 0, none⟩) := hdo11 3 rfl
 have e18 : ρ11 16 = .bool true := hdd11 5 (by decide)
 refine gL (d := 16) (b := true) ?_ ?_ ?_ ?_
 · rfl
 · rfl
 · exact e18
 have g28 := g8.trans g27
 refine (lA (cs := [.bool b.neg, .slice b3 b.n.length c3, .slice b4 b.d.length c4]) Tryd.isAgg24 Tryd.sizeOf24 e17 (g28.sat _ _ (((l1.trans gr4.le).trans g27.le) _ _ qb2)) rfl rfl ?_)
 exact ⟨_, h19, rfl, g27, fun j x _ p => p, rfl⟩
 intro ρ12 h20 w20 g29 hdd12 hdo12
 have e19 : ρ12 16 = .bool true := hdd12 5 (by decide)
 have e20 : ρ12 20 = .agg #[.bool a.neg, .slice b1 a.n.length c1, .slice b2 a.d.length c2] := hdd12 9 (by decide)
 have e21 : ρ12 21 = .agg #[.bool b.neg, .slice b3 b.n.length c3, .slice b4 b.d.length c4] := hdd12 10 (by decide)
 refine gL (d := 16) (b := true) ?_ ?_ ?_ ?_
 · rfl
 · rfl
 · exact e19
 have g30 := g8.trans g29
 refine (cF Tryd.call29 (rCmp_c (a := a) (b := b) g30.sat (F.mk (U.mono u1 ((((gr1.le.trans gr2.le).trans l1).trans gr4.le).trans g29.le)) (U.mono u2 ((((gr1.le.trans gr2.le).trans l1).trans gr4.le).trans g29.le))) (F.mk (U.mono u3 ((((gr1.le.trans gr2.le).trans l1).trans gr4.le).trans g29.le)) (U.mono u4 ((((gr1.le.trans gr2.le).trans l1).trans gr4.le).trans g29.le))) (by omega)) (cx e20 (cx e21 cxn)) ?_)
 intro r6 h21 w21 gr9 hr6
 exact ⟨r6, h21, rfl, g29.trans gr9, fun j x _ => stab j _ _ _ _ x gr9, hr6⟩
 intro ρ13 h22 w22 g31 hdd13 hdo13
 have e22 : ρ13 16 = .bool true := hdd13 5 (by decide)
 have e23 : ρ13 19 = .int .i64 (sgQ (a.rat - b.rat)) := hdd13 8 (by decide)
 have e24 : ρ13 22 = .int .i64 (sgQ (a.rat - b.rat)) := hdd13 11 (by decide)
 refine gL (d := 16) (b := true) ?_ ?_ ?_ ?_
 · rfl
 · rfl
 · exact e22
 refine (OpW.eqlI (a := (sgQ (a.rat - b.rat))) (b := (sgQ (a.rat - b.rat))) (r := true) e23 e24 (decide_eq_true (by omega)) ?_)
 exact ⟨_, h22, rfl, g31, fun j x _ p => p, rfl⟩
 intro ρ14 h23 w23 g32 hdd14 hdo14
 have e25 : ρ14 16 = .bool true := hdd14 5 (by decide)
 have e26 : ρ14 23 = .bool true := hdd14 12 (by decide)
 refine gP (pT (v := .bool true) e25 e26 ?_)
 exact ⟨_, h23, rfl, g32, fun j x _ p => p, rfl⟩
 intro ρ15 h24 w24 g33 hdd15 hdo15
 have e27 : ρ15 24 = .bool true := hdd15 13 (by decide)
 refine gP (OpW.move (v := .bool true) e27 ?_)
 exact ⟨_, h24, rfl, g33, fun j x _ p => p, rfl⟩
 intro ρ16 h25 w25 g34 hdd16 hdo16
 have e28 : ρ16 3 = .pointer (some ⟨b6, 0, none⟩) := hdo16 3 rfl
 have e29 : ρ16 25 = .bool true := hdd16 14 (by decide)
 refine gL (d := 25) (b := true) ?_ ?_ ?_ ?_
 · rfl
 · rfl
 · exact e29
 have g35 := g8.trans g34
 refine (lA (cs := [.bool b.neg, .slice b3 b.n.length c3, .slice b4 b.d.length c4]) Tryd.isAgg24 Tryd.sizeOf24 e28 (g35.sat _ _ (((l1.trans gr4.le).trans g34.le) _ _ qb2)) rfl rfl ?_)
 exact ⟨_, h25, rfl, g34, fun j x _ p => p, rfl⟩
 intro ρ17 h26 w26 g36 hdd17 hdo17
 have e30 : ρ17 2 = .pointer (some ⟨b5, 0, none⟩) := hdo17 2 rfl
 have e31 : ρ17 25 = .bool true := hdd17 14 (by decide)
 refine gL (d := 25) (b := true) ?_ ?_ ?_ ?_
 · rfl
 · rfl
 · exact e31
 have g37 := g8.trans g36
 refine (lA (cs := [.bool a.neg, .slice b1 a.n.length c1, .slice b2 a.d.length c2]) Tryd.isAgg24 Tryd.sizeOf24 e30 (g37.sat _ _ ((((gr2.le.trans l1).trans gr4.le).trans g36.le) _ _ qb1)) rfl rfl ?_)
 exact ⟨_, h26, rfl, g36, fun j x _ p => p, rfl⟩
 intro ρ18 h27 w27 g38 hdd18 hdo18
 have e32 : ρ18 25 = .bool true := hdd18 14 (by decide)
 have e33 : ρ18 26 = .agg #[.bool b.neg, .slice b3 b.n.length c3, .slice b4 b.d.length c4] := hdd18 15 (by decide)
 have e34 : ρ18 27 = .agg #[.bool a.neg, .slice b1 a.n.length c1, .slice b2 a.d.length c2] := hdd18 16 (by decide)
 refine gL (d := 25) (b := true) ?_ ?_ ?_ ?_
 · rfl
 · rfl
 · exact e32
 have g39 := g8.trans g38
 refine (cF Tryd.call41 (Cmp_c (a := b) (b := a) g39.sat (F.mk (U.mono u3 ((((gr1.le.trans gr2.le).trans l1).trans gr4.le).trans g38.le)) (U.mono u4 ((((gr1.le.trans gr2.le).trans l1).trans gr4.le).trans g38.le))) (F.mk (U.mono u1 ((((gr1.le.trans gr2.le).trans l1).trans gr4.le).trans g38.le)) (U.mono u2 ((((gr1.le.trans gr2.le).trans l1).trans gr4.le).trans g38.le))) (by omega)) (cx e33 (cx e34 cxn)) ?_)
 intro r7 h28 w28 gr10 hr7
 exact ⟨r7, h28, rfl, g38.trans gr10, fun j x _ => stab j _ _ _ _ x gr10, hr7⟩
 intro ρ19 h29 w29 g40 hdd19 hdo19
 have e35 : ρ19 2 = .pointer (some ⟨b5, 0, none⟩) := hdo19 2 rfl
 have e36 : ρ19 25 = .bool true := hdd19 14 (by decide)
 refine gL (d := 25) (b := true) ?_ ?_ ?_ ?_
 · rfl
 · rfl
 · exact e36
 have g41 := g8.trans g40
 refine (lA (cs := [.bool a.neg, .slice b1 a.n.length c1, .slice b2 a.d.length c2]) Tryd.isAgg24 Tryd.sizeOf24 e35 (g41.sat _ _ ((((gr2.le.trans l1).trans gr4.le).trans g40.le) _ _ qb1)) rfl rfl ?_)
 exact ⟨_, h29, rfl, g40, fun j x _ p => p, rfl⟩
 intro ρ20 h30 w30 g42 hdd20 hdo20
 have e37 : ρ20 3 = .pointer (some ⟨b6, 0, none⟩) := hdo20 3 rfl
 have e38 : ρ20 25 = .bool true := hdd20 14 (by decide)
 refine gL (d := 25) (b := true) ?_ ?_ ?_ ?_
 · rfl
 · rfl
 · exact e38
 have g43 := g8.trans g42
 refine (lA (cs := [.bool b.neg, .slice b3 b.n.length c3, .slice b4 b.d.length c4]) Tryd.isAgg24 Tryd.sizeOf24 e37 (g43.sat _ _ (((l1.trans gr4.le).trans g42.le) _ _ qb2)) rfl rfl ?_)
 exact ⟨_, h30, rfl, g42, fun j x _ p => p, rfl⟩
 intro ρ21 h31 w31 g44 hdd21 hdo21
 have e39 : ρ21 25 = .bool true := hdd21 14 (by decide)
 have e40 : ρ21 29 = .agg #[.bool a.neg, .slice b1 a.n.length c1, .slice b2 a.d.length c2] := hdd21 18 (by decide)
 have e41 : ρ21 30 = .agg #[.bool b.neg, .slice b3 b.n.length c3, .slice b4 b.d.length c4] := hdd21 19 (by decide)
 refine gL (d := 25) (b := true) ?_ ?_ ?_ ?_
 · rfl
 · rfl
 · exact e39
 have g45 := g8.trans g44
 refine (cF Tryd.call29 (rCmp_c (a := a) (b := b) g45.sat (F.mk (U.mono u1 ((((gr1.le.trans gr2.le).trans l1).trans gr4.le).trans g44.le)) (U.mono u2 ((((gr1.le.trans gr2.le).trans l1).trans gr4.le).trans g44.le))) (F.mk (U.mono u3 ((((gr1.le.trans gr2.le).trans l1).trans gr4.le).trans g44.le)) (U.mono u4 ((((gr1.le.trans gr2.le).trans l1).trans gr4.le).trans g44.le))) (by omega)) (cx e40 (cx e41 cxn)) ?_)
 intro r8 h32 w32 gr11 hr8
 exact ⟨r8, h32, rfl, g44.trans gr11, fun j x _ => stab j _ _ _ _ x gr11, hr8⟩
 intro ρ22 h33 w33 g46 hdd22 hdo22
 have e42 : ρ22 25 = .bool true := hdd22 14 (by decide)
 have e43 : ρ22 31 = .int .i64 (sgQ (a.rat - b.rat)) := hdd22 20 (by decide)
 refine gL (d := 25) (b := true) ?_ ?_ ?_ ?_
 · rfl
 · rfl
 · exact e42
 refine (OpW.negI (a := (sgQ (a.rat - b.rat))) (r := (-(sgQ (a.rat - b.rat)))) e43 ((in_i64 (by omega)).trans (by omega)) ?_)
 exact ⟨_, h33, rfl, g46, fun j x _ p => p, rfl⟩
 intro ρ23 h34 w34 g47 hdd23 hdo23
 have e44 : ρ23 25 = .bool true := hdd23 14 (by decide)
 have e45 : ρ23 28 = .int .i64 (sgQ (b.rat - a.rat)) := hdd23 17 (by decide)
 have e46 : ρ23 32 = .int .i64 (-(sgQ (a.rat - b.rat))) := hdd23 21 (by decide)
 refine gL (d := 25) (b := true) ?_ ?_ ?_ ?_
 · rfl
 · rfl
 · exact e44
 refine (OpW.eqlI (a := (sgQ (b.rat - a.rat))) (b := (-(sgQ (a.rat - b.rat)))) (r := true) e45 e46 (decide_eq_true (sgQ_flip _ _)) ?_)
 exact ⟨_, h34, rfl, g47, fun j x _ p => p, rfl⟩
 intro ρ24 h35 w35 g48 hdd24 hdo24
 have e47 : ρ24 25 = .bool true := hdd24 14 (by decide)
 have e48 : ρ24 33 = .bool true := hdd24 22 (by decide)
 refine gP (pT (v := .bool true) e47 e48 ?_)
 exact ⟨_, h35, rfl, g48, fun j x _ p => p, rfl⟩
 intro ρ25 h36 w36 g49 hdd25 hdo25
 have e49 : ρ25 34 = .bool true := hdd25 23 (by decide)
 refine gP (OpW.move (v := .bool true) e49 ?_)
 exact ⟨_, h36, rfl, g49, fun j x _ p => p, rfl⟩
 intro ρ26 h37 w37 g50 hdd26 hdo26
 have e50 : ρ26 35 = .bool true := hdd26 24 (by decide)
 refine gL (d := 35) (b := true) ?_ ?_ ?_ ?_
 · rfl
 · rfl
 · exact e50
 have g51 := g8.trans g50
 refine (cF Tryd.call20 (known_c  g51.sat (tb.mono ((((gr1.le.trans gr2.le).trans l1).trans gr4.le).trans g50.le)) ) rfl ?_)
 intro r9 h38 w38 gr12 hr9
 exact ⟨r9, h38, rfl, g50.trans gr12, fun j x _ => stab j _ _ _ _ x gr12, hr9⟩
 intro ρ27 h39 w39 g52 hdd27 hdo27
 have e51 : ρ27 35 = .bool true := hdd27 24 (by decide)
 have e52 : ρ27 36 = .bool true := hdd27 25 (by decide)
 refine gP (pT (v := .bool true) e51 e52 ?_)
 exact ⟨_, h39, rfl, g52, fun j x _ p => p, rfl⟩
 intro ρ28 h40 w40 g53 hdd28 hdo28
 have e53 : ρ28 37 = .bool true := hdd28 26 (by decide)
 refine gP (OpW.assign (v := .bool true) e53 ?_)
 exact ⟨_, h40, rfl, g53, fun j x _ p => p, rfl⟩
 intro ρ29 h41 w41 g54 hdp1 hdo29
 have e54 : ρ29 4 = .bool true := hdp1 27 rfl
 refine Ops.forget [(4, .bool true)] ⟨e54, trivial⟩ (fun ρ30 => (oN (Wp.ret (fin1_ret rfl (resOf_tmp (v := .bool true) rfl) ?_))))
 have g55 := g8.trans g54
 refine ⟨h41, g55, ?_⟩
 exact rfl
end Go.Ear
