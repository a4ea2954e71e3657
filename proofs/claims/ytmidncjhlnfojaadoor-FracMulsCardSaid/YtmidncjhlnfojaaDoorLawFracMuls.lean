/- About package frac: LawFracMuls. -/
import Derived.Test.YtmidncjhlnfojaaDoorNatLaw2
import Derived.Test.YtmidncjhlnfojaaDoorEarShort
import Derived.Test.YtmidncjhlnfojaaDoorProg
import Derived.Test.YtmidncjhlnfojaaDoorNatLaw3
import Derived.Test.YtmidncjhlnfojaaDoorEarFrac
import Derived.Test.YtmidncjhlnfojaaDoorEarDec
import Derived.Test.YtmidncjhlnfojaaDoorItoaLay
import Derived.Lib.ItoaMem
import Derived.Test.YtmidncjhlnfojaaDoorEarApi
import Derived.Test.YtmidncjhlnfojaaDoorEarRef2
import Derived.Test.YtmidncjhlnfojaaDoorEarLaw
import Derived.Test.YtmidncjhlnfojaaDoorEarWhole
import Derived.Test.YtmidncjhlnfojaaDoorEarLaw2
import Derived.Test.YtmidncjhlnfojaaDoorK1
import Derived.Test.YtmidncjhlnfojaaDoorK14
import Derived.Test.YtmidncjhlnfojaaDoorK6
import Derived.Test.YtmidncjhlnfojaaDoorX12
import Derived.Test.YtmidncjhlnfojaaDoorX14
import Derived.Test.YtmidncjhlnfojaaDoorX6
set_option linter.all false
namespace Go.Ear
open Go.Proofs
set_option maxRecDepth 20000
set_option linter.unusedVariables false
set_option maxHeartbeats 2000000
theorem fracMuls_c {h : PH} {w : World} {v0 : Value} {a : Fr} {v1 : Value} {b : Fr} (hs : Sat h w) (tb : Tab h) (pv0 : F h v0 a) (pv1 : F h v1 b) :
    Calls Tryd.prog 10 #[v0, v1] w (Ret h w fun h' r => r = .bool true) := by
 obtain ⟨b1, c1, b2, c2, rfl, k1, k2, u1, u2⟩ := F.shape pv0
 have hbq1 := F.bq pv0
 obtain ⟨b3, c3, b4, c4, rfl, k3, k4, u3, u4⟩ := F.shape pv1
 have hbq2 := F.bq pv1
 have hz := sgQ_zero (q := b.rat)
 refine calls_ear (vs := [.agg #[.bool a.neg, .slice b1 a.n.length c1, .slice b2 a.d.length c2], .agg #[.bool b.neg, .slice b3 b.n.length c3, .slice b4 b.d.length c4]]) Tryd.func10 rfl rfl ?_
 have g1 := Gr.refl hs
 refine sr (oC (OpW.boxK (v := .agg #[.bool a.neg, .slice b1 a.n.length c1, .slice b2 a.d.length c2]) (arr := #[.bool a.neg, .slice b1 a.n.length c1, .slice b2 a.d.length c2]) g1.sat rfl rfl ?_))
 intro b5 h1 w1 gr1 qb1
 have g2 := g1.trans gr1
 refine oC (OpW.boxK (v := .agg #[.bool b.neg, .slice b3 b.n.length c3, .slice b4 b.d.length c4]) (arr := #[.bool b.neg, .slice b3 b.n.length c3, .slice b4 b.d.length c4]) g2.sat rfl rfl ?_)
 intro b6 h2 w2 gr2 qb2
 refine ma (oN (wS (sr ?_)))
 have g3 := g2.trans gr2
 refine oC (lA (cs := [.bool a.neg, .slice b1 a.n.length c1, .slice b2 a.d.length c2]) Tryd.isAgg24 Tryd.sizeOf24 rfl (g3.sat _ _ (gr2.le _ _ qb1)) rfl rfl ?_)
 refine oC (lA (cs := [.bool b.neg, .slice b3 b.n.length c3, .slice b4 b.d.length c4]) Tryd.isAgg24 Tryd.sizeOf24 rfl (g3.sat _ _ qb2) rfl rfl ?_)
 refine oC (OpW.buildSliceO (arr := #[.bool a.neg, .slice b1 a.n.length c1, .slice b2 a.d.length c2, .bool b.neg, .slice b3 b.n.length c3, .slice b4 b.d.length c4]) g3.sat Tryd.underlying50 Tryd.zeroValue24 Tryd.sizeOf24 rfl (fillF2 (.bool a.neg) (.slice b1 a.n.length c1) (.slice b2 a.d.length c2) (.bool b.neg) (.slice b3 b.n.length c3) (.slice b4 b.d.length c4)) ?_)
 intro b7 w3 gr3 n1 lo1 o1
 have lo2 := Nat.le_trans g3.ext.size lo1
 have g5 := g3.trans gr3
 obtain ⟨h3, g4, l1, qb3, fr1⟩ := freeze_ex g5 o1 n1 lo2
 have f1 : LR rpF h3 (.slice (some ⟨b7, 0, none⟩) 2 2) [a, b] := LR.own' qb3 (css := [[.bool a.neg, .slice b1 a.n.length c1, .slice b2 a.d.length c2], [.bool b.neg, .slice b3 b.n.length c3, .slice b4 b.d.length c4]]) rfl (Rows.cons (F.mk (U.mono u1 ((gr1.le.trans gr2.le).trans l1)) (U.mono u2 ((gr1.le.trans gr2.le).trans l1))) (Rows.cons (F.mk (U.mono u3 ((gr1.le.trans gr2.le).trans l1)) (U.mono u4 ((gr1.le.trans gr2.le).trans l1))) Rows.nil)) rfl (Nat.le_refl _)
 refine oC (cF Tryd.call25 (lsmall_c (l := [a, b]) g4.sat f1 (Nat.le_of_ble_eq_true rfl)) rfl ?_)
 intro r1 h4 w4 gr4 hr1
 subst hr1
 refine oC (OpW.notB (a := smallL ([a, b])) (r := !(smallL ([a, b]))) rfl rfl (oN (Wp.cond (t := !(smallL ([a, b]))) rfl (fun c5 => ?_) (fun c5 => ?_))))
 replace c5 : ¬ (smallL ([a, b]) = true) := (raw_f (not_t c5))
 refine sr ?_
 have g6 := g4.trans gr4
 refine oC (cF Tryd.call20 (known_c  g6.sat (tb.mono (((gr1.le.trans gr2.le).trans l1).trans gr4.le)) ) rfl ?_)
 intro r2 h5 w5 gr5 hr2
 subst hr2
 refine ma (oN (Wp.ret (fin1_ret rfl (resOf_tmp (v := .bool true) rfl) ?_)))
 have g7 := g6.trans gr5
 refine ⟨h5, g7, ?_⟩
 exact rfl
 replace c5 : ¬ (¬ (smallL ([a, b]) = true)) := (fun n => n (not_f c5))
 have hsm := small_bf2 (by have hx := c5; simpa using hx)
 refine Wp.skip (sr ?_)
 have g8 := g4.trans gr4
 refine oC (lA (cs := [.bool a.neg, .slice b1 a.n.length c1, .slice b2 a.d.length c2]) Tryd.isAgg24 Tryd.sizeOf24 rfl (g8.sat _ _ (((gr2.le.trans l1).trans gr4.le) _ _ qb1)) rfl rfl ?_)
 refine oC (lA (cs := [.bool b.neg, .slice b3 b.n.length c3, .slice b4 b.d.length c4]) Tryd.isAgg24 Tryd.sizeOf24 rfl (g8.sat _ _ ((l1.trans gr4.le) _ _ qb2)) rfl rfl ?_)
 refine oC (cF Tryd.call47 (Div_c (a := a) (b := b) g8.sat (F.mk (U.mono u1 (((gr1.le.trans gr2.le).trans l1).trans gr4.le)) (U.mono u2 (((gr1.le.trans gr2.le).trans l1).trans gr4.le))) (F.mk (U.mono u3 (((gr1.le.trans gr2.le).trans l1).trans gr4.le)) (U.mono u4 (((gr1.le.trans gr2.le).trans l1).trans gr4.le))) (by omega)) rfl ?_)
 intro r3 h6 w6 gr6 hr3
 have hf1 := bq_div a.rat b.rat
 obtain ⟨r4, r5, rfl, hr4, hr5⟩ := hr3
 obtain ⟨b8, c6, b9, c7, rfl, k5, k6, u5, u6⟩ := F.shape hr4
 subst hr5
 refine mv (oC (OpW.extract (v := .agg #[.bool ((frK (a.rat / b.rat)).neg), .slice b8 ((frK (a.rat / b.rat)).n.length) c6, .slice b9 ((frK (a.rat / b.rat)).d.length) c7]) rfl rfl ?_))
 refine oC (OpW.extract (v := .int .i64 (errDiv b.rat)) rfl rfl ?_)
 have g9 := g8.trans gr6
 refine oC (OpW.allocO (arr := #[.bool false, .slice none 0 0, .slice none 0 0]) g9.sat Tryd.zeroValue24 rfl ?_)
 intro b10 w7 gr7 n2 lo3 o2
 have lo4 := Nat.le_trans g9.ext.size lo3
 refine oC (sA (cs := [.bool ((frK (a.rat / b.rat)).neg), .slice b8 ((frK (a.rat / b.rat)).n.length) c6, .slice b9 ((frK (a.rat / b.rat)).d.length) c7]) Tryd.sizeOf24 rfl rfl rfl rfl o2 rfl ?_)
 intro w8 p1
 refine ma (oN (wS (wS (fg [(2, .pointer (some ⟨b5, 0, none⟩)), (3, .pointer (some ⟨b6, 0, none⟩)), (5, .pointer (some ⟨b10, 0, none⟩)), (6, .int .i64 (errDiv b.rat))] rfl (fun ρ1 => ?_)))))
 have g10 := (g9.trans gr7).put p1 n2 lo4
 have hf2 := bq_mul a.rat b.rat
 have hf3 := bq_mul a.rat b.rat
 refine Wp.dagL 8 [19, 20, 21, 22, 23, 24, 25, 26] [eqv (.agg #[.bool a.neg, .slice b1 a.n.length c1, .slice b2 a.d.length c2]), eqv (.agg #[.bool b.neg, .slice b3 b.n.length c3, .slice b4 b.d.length c4]), fun h _ x => Kn h x (a.rat * b.rat), eqv (.agg #[.bool a.neg, .slice b1 a.n.length c1, .slice b2 a.d.length c2]), eqv (.agg #[.bool b.neg, .slice b3 b.n.length c3, .slice b4 b.d.length c4]), fun h _ x => Kn h x (a.rat * b.rat), eqv (.bool true), eqv (.bool false)] mixed g10.sat rfl (by decide +kernel) ⟨sQ _, sQ _, (stab_K (a.rat * b.rat)), sQ _, sQ _, (stab_K (a.rat * b.rat)), sQ _, sQ _, trivial⟩ ?_ ?_
 intro stab
 refine ⟨?_, ?_, ?_, ?_, ?_, ?_, ?_, ?_, trivial⟩
 intro ρ2 h7 w9 g11 hdd1 hdo1
 have e1 : ρ2 2 = .pointer (some ⟨b5, 0, none⟩) := hdo1 2 rfl
 have g12 := g10.trans g11
 refine gP (lA (cs := [.bool a.neg, .slice b1 a.n.length c1, .slice b2 a.d.length c2]) Tryd.isAgg24 Tryd.sizeOf24 e1 (g12.sat _ _ (((((gr2.le.trans l1).trans gr4.le).trans gr6.le).trans g11.le) _ _ qb1)) rfl rfl ?_)
 exact ⟨_, h7, rfl, g11, fun j x _ p => p, rfl⟩
 intro ρ3 h8 w10 g13 hdd2 hdo2
 have e2 : ρ3 3 = .pointer (some ⟨b6, 0, none⟩) := hdo2 3 rfl
 have g14 := g10.trans g13
 refine gP (lA (cs := [.bool b.neg, .slice b3 b.n.length c3, .slice b4 b.d.length c4]) Tryd.isAgg24 Tryd.sizeOf24 e2 (g14.sat _ _ ((((l1.trans gr4.le).trans gr6.le).trans g13.le) _ _ qb2)) rfl rfl ?_)
 exact ⟨_, h8, rfl, g13, fun j x _ p => p, rfl⟩
 intro ρ4 h9 w11 g15 hdd3 hdo3
 have e3 : ρ4 19 = .agg #[.bool a.neg, .slice b1 a.n.length c1, .slice b2 a.d.length c2] := hdd3 0 (by decide)
 have e4 : ρ4 20 = .agg #[.bool b.neg, .slice b3 b.n.length c3, .slice b4 b.d.length c4] := hdd3 1 (by decide)
 have g16 := g10.trans g15
 refine gP (cF Tryd.call48 (Mul_c (a := a) (b := b) g16.sat (F.mk (U.mono u1 (((((gr1.le.trans gr2.le).trans l1).trans gr4.le).trans gr6.le).trans g15.le)) (U.mono u2 (((((gr1.le.trans gr2.le).trans l1).trans gr4.le).trans gr6.le).trans g15.le))) (F.mk (U.mono u3 (((((gr1.le.trans gr2.le).trans l1).trans gr4.le).trans gr6.le).trans g15.le)) (U.mono u4 (((((gr1.le.trans gr2.le).trans l1).trans gr4.le).trans gr6.le).trans g15.le))) (by omega)) (cx e3 (cx e4 cxn)) ?_)
 intro r6 h10 w12 gr8 hr6
 exact ⟨r6, h10, rfl, g15.trans gr8, fun j x _ => stab j _ _ _ _ x gr8, hr6⟩
 intro ρ5 h11 w13 g17 hdd4 hdo4
 have e5 : ρ5 2 = .pointer (some ⟨b5, 0, none⟩) := hdo4 2 rfl
 have g18 := g10.trans g17
 refine gP (lA (cs := [.bool a.neg, .slice b1 a.n.length c1, .slice b2 a.d.length c2]) Tryd.isAgg24 Tryd.sizeOf24 e5 (g18.sat _ _ (((((gr2.le.trans l1).trans gr4.le).trans gr6.le).trans g17.le) _ _ qb1)) rfl rfl ?_)
 exact ⟨_, h11, rfl, g17, fun j x _ p => p, rfl⟩
 intro ρ6 h12 w14 g19 hdd5 hdo5
 have e6 : ρ6 3 = .pointer (some ⟨b6, 0, none⟩) := hdo5 3 rfl
 have g20 := g10.trans g19
 refine gP (lA (cs := [.bool b.neg, .slice b3 b.n.length c3, .slice b4 b.d.length c4]) Tryd.isAgg24 Tryd.sizeOf24 e6 (g20.sat _ _ ((((l1.trans gr4.le).trans gr6.le).trans g19.le) _ _ qb2)) rfl rfl ?_)
 exact ⟨_, h12, rfl, g19, fun j x _ p => p, rfl⟩
 intro ρ7 h13 w15 g21 hdd6 hdo6
 have e7 : ρ7 22 = .agg #[.bool a.neg, .slice b1 a.n.length c1, .slice b2 a.d.length c2] := hdd6 3 (by decide)
 have e8 : ρ7 23 = .agg #[.bool b.neg, .slice b3 b.n.length c3, .slice b4 b.d.length c4] := hdd6 4 (by decide)
 have g22 := g10.trans g21
 refine gP (cF Tryd.call37 (rMul_c (a := a) (b := b) g22.sat (F.mk (U.mono u1 (((((gr1.le.trans gr2.le).trans l1).trans gr4.le).trans gr6.le).trans g21.le)) (U.mono u2 (((((gr1.le.trans gr2.le).trans l1).trans gr4.le).trans gr6.le).trans g21.le))) (F.mk (U.mono u3 (((((gr1.le.trans gr2.le).trans l1).trans gr4.le).trans gr6.le).trans g21.le)) (U.mono u4 (((((gr1.le.trans gr2.le).trans l1).trans gr4.le).trans gr6.le).trans g21.le))) (by omega)) (cx e7 (cx e8 cxn)) ?_)
 intro r7 h14 w16 gr9 hr7
 exact ⟨r7, h14, rfl, g21.trans gr9, fun j x _ => stab j _ _ _ _ x gr9, hr7⟩
 intro ρ8 h15 w17 g23 hdd7 hdo7
 have q1 : Kn h15 (ρ8 21) (a.rat * b.rat) := hdd7 2 (by decide)
 have q2 : Kn h15 (ρ8 24) (a.rat * b.rat) := hdd7 5 (by decide)
 have g24 := g10.trans g23
 refine gP (cF Tryd.call22 (rSame_c (f := frK (a.rat * b.rat)) (g := frK (a.rat * b.rat)) g24.sat q1 q2 (by first | omega | (simp only [bf_frK, frK_rat, wts_cons, wts_nil]; omega)) (by first | omega | (simp only [bf_frK, frK_rat, wts_cons, wts_nil]; omega))) rfl ?_)
 intro r8 h16 w18 gr10 hr8
 replace hr8 := hr8.trans (congrArg Value.bool (sameF_self _))
 exact ⟨r8, h16, rfl, g23.trans gr10, fun j x _ => stab j _ _ _ _ x gr10, hr8⟩
 intro ρ9 h17 w19 g25 hdd8 hdo8
 have e9 : ρ9 25 = .bool true := hdd8 6 (by decide)
 refine gP (OpW.notB (a := true) (r := false) e9 rfl ?_)
 exact ⟨_, h17, rfl, g25, fun j x _ p => p, rfl⟩
 intro ρ10 h18 w20 g26 hdp1 hdo9
 have e10 : ρ10 2 = .pointer (some ⟨b5, 0, none⟩) := hdo9 2 rfl
 have e11 : ρ10 3 = .pointer (some ⟨b6, 0, none⟩) := hdo9 3 rfl
 have e12 : ρ10 5 = .pointer (some ⟨b10, 0, none⟩) := hdo9 5 rfl
 have e13 : ρ10 6 = .int .i64 (errDiv b.rat) := hdo9 6 rfl
 have e14 : ρ10 26 = .bool false := hdp1 7 rfl
 refine Ops.forget [(2, .pointer (some ⟨b5, 0, none⟩)), (3, .pointer (some ⟨b6, 0, none⟩)), (5, .pointer (some ⟨b10, 0, none⟩)), (6, .int .i64 (errDiv b.rat)), (26, .bool false)] ⟨e10, e11, e12, e13, e14, trivial⟩ (fun ρ11 => (oN (Wp.cond_f rfl (Wp.skip (wS (sr ?_))))))
 have g27 := g10.trans g26
 refine oC (lA (cs := [.bool b.neg, .slice b3 b.n.length c3, .slice b4 b.d.length c4]) Tryd.isAgg24 Tryd.sizeOf24 rfl (g27.sat _ _ ((((l1.trans gr4.le).trans gr6.le).trans g26.le) _ _ qb2)) rfl rfl ?_)
 refine oC (cF Tryd.call23 (rSign_c (a := b) g27.sat (F.mk (U.mono u3 (((((gr1.le.trans gr2.le).trans l1).trans gr4.le).trans gr6.le).trans g26.le)) (U.mono u4 (((((gr1.le.trans gr2.le).trans l1).trans gr4.le).trans gr6.le).trans g26.le))) (by omega)) rfl ?_)
 intro r9 h19 w21 gr11 hr9
 subst hr9
 refine oC (OpW.eqlI (a := (sgQ b.rat)) (b := ((0 : Nat) : Int)) (r := decide ((sgQ b.rat) = ((0 : Nat) : Int))) rfl rfl rfl (oN (Wp.cond (t := decide ((sgQ b.rat) = ((0 : Nat) : Int))) rfl (fun c8 => ?_) (fun c8 => ?_))))
 replace c8 : (sgQ b.rat) = ((0 : Nat) : Int) := (of_decide_eq_true c8)
 have hb0 : b.rat = 0 := hz.1 c8
 refine sr (mv (oC (OpW.eqlI (a := (errDiv b.rat)) (b := ((3 : Nat) : Int)) (r := true) rfl rfl (decide_eq_true (by unfold errDiv; rw [if_pos hb0]; rfl)) (mv ?_))))
 have o4 := gr11.kp (g26.kp ⟨p1.at_, n2⟩)
 refine oL rfl rfl rfl (lA (cs := [.bool ((frK (a.rat / b.rat)).neg), .slice b8 ((frK (a.rat / b.rat)).n.length) c6, .slice b9 ((frK (a.rat / b.rat)).d.length) c7]) Tryd.isAgg24 Tryd.sizeOf24 rfl o4.1 rfl rfl ?_)
 refine oL rfl rfl rfl (OpW.build (places := [(0, 1), (1, 1), (2, 1)]) (cs := [.bool false, .slice none 0 0, .slice none 0 0]) Tryd.underlying24 Tryd.zeroValue24 (fun _ => by kernel_rfl) rfl ?_)
 have g28 := g27.trans gr11
 refine oL rfl rfl rfl (cF Tryd.call22 (rSame_c (f := frK (a.rat / b.rat)) (g := Fr.mk false ([]) ([])) g28.sat (F.mk (U.mono u5 (g26.le.trans gr11.le)) (U.mono u6 (g26.le.trans gr11.le))) (F.mk (U.nil _ none _) (U.nil _ none _)) (by first | omega | (simp only [bf_frK, frK_rat, wts_cons, wts_nil]; omega)) (by decide)) rfl ?_)
 intro r10 h20 w22 gr12 hr10
 replace hr10 := hr10.trans (congrArg Value.bool (sameF_z (by rw [hb0, Rat.div_def, Rat.inv_zero, Rat.mul_zero])))
 subst hr10
 refine oC (pT (v := .bool true) rfl rfl (mv ?_))
 have g29 := g28.trans gr12
 refine oL rfl rfl rfl (cF Tryd.call20 (known_c  g29.sat (tb.mono (((((((gr1.le.trans gr2.le).trans l1).trans gr4.le).trans gr6.le).trans g26.le).trans gr11.le).trans gr12.le)) ) rfl ?_)
 intro r11 h21 w23 gr13 hr11
 subst hr11
 refine oC (pT (v := .bool true) rfl rfl (ma (oN (Wp.ret (fin1_ret rfl (resOf_tmp (v := .bool true) rfl) ?_)))))
 have g30 := g29.trans gr13
 refine ⟨h21, g30, ?_⟩
 exact rfl
 replace c8 : ¬ ((sgQ b.rat) = ((0 : Nat) : Int)) := (of_decide_eq_false c8)
 have hb0 : b.rat ≠ 0 := fun e => c8 (hz.2 e)
 refine Wp.skip (wS ?_)
 have g31 := g27.trans gr11
 have hf4 := bq_div a.rat b.rat
 refine Wp.dagL 13 [40, 41, 42, 43, 44, 45, 46, 47, 48, 49, 50, 51, 4] [eqv (.int .i64 (errDiv b.rat)), eqv (.bool true), eqv (.bool true), eqv (.agg #[.bool ((frK (a.rat / b.rat)).neg), .slice b8 ((frK (a.rat / b.rat)).n.length) c6, .slice b9 ((frK (a.rat / b.rat)).d.length) c7]), eqv (.agg #[.bool a.neg, .slice b1 a.n.length c1, .slice b2 a.d.length c2]), eqv (.agg #[.bool b.neg, .slice b3 b.n.length c3, .slice b4 b.d.length c4]), fun h _ x => Kn h x (a.rat / b.rat), eqv (.bool true), eqv (.bool true), eqv (.bool true), eqv (.bool true), eqv (.bool true), eqv (.bool true)] mixed g31.sat rfl (by decide +kernel) ⟨sQ _, sQ _, sQ _, sQ _, sQ _, sQ _, (stab_K (a.rat / b.rat)), sQ _, sQ _, sQ _, sQ _, sQ _, sQ _, trivial⟩ ?_ ?_
 intro stab
 refine ⟨?_, ?_, ?_, ?_, ?_, ?_, ?_, ?_, ?_, ?_, ?_, ?_, ?_, trivial⟩
 intro ρ12 h22 w24 g32 hdd9 hdo10
 have e15 : ρ12 6 = .int .i64 (errDiv b.rat) := hdo10 6 rfl
 refine gP (OpW.move (v := .int .i64 (errDiv b.rat)) e15 ?_)
 exact ⟨_, h22, rfl, g32, fun j x _ p => p, rfl⟩
 intro ρ13 h23 w25 g33 hdd10 hdo11
 have e16 : ρ13 40 = .int .i64 (errDiv b.rat) := hdd10 0 (by decide)
 refine gP (OpW.eqlI (a := (errDiv b.rat)) (b := ((0 : Nat) : Int)) (r := true) e16 rfl (decide_eq_true (by unfold errDiv; rw [if_neg hb0]; rfl)) ?_)
 exact ⟨_, h23, rfl, g33, fun j x _ p => p, rfl⟩
 intro ρ14 h24 w26 g34 hdd11 hdo12
 have e17 : ρ14 41 = .bool true := hdd11 1 (by decide)
 refine gP (OpW.move (v := .bool true) e17 ?_)
 exact ⟨_, h24, rfl, g34, fun j x _ p => p, rfl⟩
 intro ρ15 h25 w27 g35 hdd12 hdo13
 have e18 : ρ15 5 = .pointer (some ⟨b10, 0, none⟩) := hdo13 5 rfl
 have e19 : ρ15 42 = .bool true := hdd12 2 (by decide)
 refine gL (d := 42) (b := true) ?_ ?_ ?_ ?_
 · rfl
 · rfl
 · exact e19
 have o5 := g35.kp (gr11.kp (g26.kp ⟨p1.at_, n2⟩))
 refine (lA (cs := [.bool ((frK (a.rat / b.rat)).neg), .slice b8 ((frK (a.rat / b.rat)).n.length) c6, .slice b9 ((frK (a.rat / b.rat)).d.length) c7]) Tryd.isAgg24 Tryd.sizeOf24 e18 o5.1 rfl rfl ?_)
 exact ⟨_, h25, rfl, g35, fun j x _ p => p, rfl⟩
 intro ρ16 h26 w28 g36 hdd13 hdo14
 have e20 : ρ16 2 = .pointer (some ⟨b5, 0, none⟩) := hdo14 2 rfl
 have e21 : ρ16 42 = .bool true := hdd13 2 (by decide)
 refine gL (d := 42) (b := true) ?_ ?_ ?_ ?_
 · rfl
 · rfl
 · exact e21
 have g37 := g31.trans g36
 refine (lA (cs := [.bool a.neg, .slice b1 a.n.length c1, .slice b2 a.d.length c2]) Tryd.isAgg24 Tryd.sizeOf24 e20 (g37.sat _ _ (((((((gr2.le.trans l1).trans gr4.le).trans gr6.le).trans g26.le).trans gr11.le).trans g36.le) _ _ qb1)) rfl rfl ?_)
 exact ⟨_, h26, rfl, g36, fun j x _ p => p, rfl⟩
 intro ρ17 h27 w29 g38 hdd14 hdo15
 have e22 : ρ17 3 = .pointer (some ⟨b6, 0, none⟩) := hdo15 3 rfl
 have e23 : ρ17 42 = .bool true := hdd14 2 (by decide)
 refine gL (d := 42) (b := true) ?_ ?_ ?_ ?_
 · rfl
 · rfl
 · exact e23
 have g39 := g31.trans g38
 refine (lA (cs := [.bool b.neg, .slice b3 b.n.length c3, .slice b4 b.d.length c4]) Tryd.isAgg24 Tryd.sizeOf24 e22 (g39.sat _ _ ((((((l1.trans gr4.le).trans gr6.le).trans g26.le).trans gr11.le).trans g38.le) _ _ qb2)) rfl rfl ?_)
 exact ⟨_, h27, rfl, g38, fun j x _ p => p, rfl⟩
 intro ρ18 h28 w30 g40 hdd15 hdo16
 have e24 : ρ18 42 = .bool true := hdd15 2 (by decide)
 have e25 : ρ18 44 = .agg #[.bool a.neg, .slice b1 a.n.length c1, .slice b2 a.d.length c2] := hdd15 4 (by decide)
 have e26 : ρ18 45 = .agg #[.bool b.neg, .slice b3 b.n.length c3, .slice b4 b.d.length c4] := hdd15 5 (by decide)
 refine gL (d := 42) (b := true) ?_ ?_ ?_ ?_
 · rfl
 · rfl
 · exact e24
 have g41 := g31.trans g40
 refine (cF Tryd.call49 (rDiv_c (a := a) (b := b) g41.sat (F.mk (U.mono u1 (((((((gr1.le.trans gr2.le).trans l1).trans gr4.le).trans gr6.le).trans g26.le).trans gr11.le).trans g40.le)) (U.mono u2 (((((((gr1.le.trans gr2.le).trans l1).trans gr4.le).trans gr6.le).trans g26.le).trans gr11.le).trans g40.le))) (F.mk (U.mono u3 (((((((gr1.le.trans gr2.le).trans l1).trans gr4.le).trans gr6.le).trans g26.le).trans gr11.le).trans g40.le)) (U.mono u4 (((((((gr1.le.trans gr2.le).trans l1).trans gr4.le).trans gr6.le).trans g26.le).trans gr11.le).trans g40.le))) (by omega) (by first | assumption | (rw [frK_rat]; assumption) | omega)) (cx e25 (cx e26 cxn)) ?_)
 intro r12 h29 w31 gr14 hr12
 exact ⟨r12, h29, rfl, g40.trans gr14, fun j x _ => stab j _ _ _ _ x gr14, hr12⟩
 intro ρ19 h30 w32 g42 hdd16 hdo17
 have e27 : ρ19 42 = .bool true := hdd16 2 (by decide)
 have e28 : ρ19 43 = .agg #[.bool ((frK (a.rat / b.rat)).neg), .slice b8 ((frK (a.rat / b.rat)).n.length) c6, .slice b9 ((frK (a.rat / b.rat)).d.length) c7] := hdd16 3 (by decide)
 have q3 : Kn h30 (ρ19 46) (a.rat / b.rat) := hdd16 6 (by decide)
 refine gL (d := 42) (b := true) ?_ ?_ ?_ ?_
 · rfl
 · rfl
 · exact e27
 have g43 := g31.trans g42
 refine (cF Tryd.call22 (rSame_c (f := frK (a.rat / b.rat)) (g := frK (a.rat / b.rat)) g43.sat (F.mk (U.mono u5 ((g26.le.trans gr11.le).trans g42.le)) (U.mono u6 ((g26.le.trans gr11.le).trans g42.le))) q3 (by first | omega | (simp only [bf_frK, frK_rat, wts_cons, wts_nil]; omega)) (by first | omega | (simp only [bf_frK, frK_rat, wts_cons, wts_nil]; omega))) (cx e28 (cx rfl cxn)) ?_)
 intro r13 h31 w33 gr15 hr13
 replace hr13 := hr13.trans (congrArg Value.bool (sameF_self _))
 exact ⟨r13, h31, rfl, g42.trans gr15, fun j x _ => stab j _ _ _ _ x gr15, hr13⟩
 intro ρ20 h32 w34 g44 hdd17 hdo18
 have e29 : ρ20 42 = .bool true := hdd17 2 (by decide)
 have e30 : ρ20 47 = .bool true := hdd17 7 (by decide)
 refine gP (pT (v := .bool true) e29 e30 ?_)
 exact ⟨_, h32, rfl, g44, fun j x _ p => p, rfl⟩
 intro ρ21 h33 w35 g45 hdd18 hdo19
 have e31 : ρ21 48 = .bool true := hdd18 8 (by decide)
 refine gP (OpW.move (v := .bool true) e31 ?_)
 exact ⟨_, h33, rfl, g45, fun j x _ p => p, rfl⟩
 intro ρ22 h34 w36 g46 hdd19 hdo20
 have e32 : ρ22 49 = .bool true := hdd19 9 (by decide)
 refine gL (d := 49) (b := true) ?_ ?_ ?_ ?_
 · rfl
 · rfl
 · exact e32
 have g47 := g31.trans g46
 refine (cF Tryd.call20 (known_c  g47.sat (tb.mono (((((((gr1.le.trans gr2.le).trans l1).trans gr4.le).trans gr6.le).trans g26.le).trans gr11.le).trans g46.le)) ) rfl ?_)
 intro r14 h35 w37 gr16 hr14
 exact ⟨r14, h35, rfl, g46.trans gr16, fun j x _ => stab j _ _ _ _ x gr16, hr14⟩
 intro ρ23 h36 w38 g48 hdd20 hdo21
 have e33 : ρ23 49 = .bool true := hdd20 9 (by decide)
 have e34 : ρ23 50 = .bool true := hdd20 10 (by decide)
 refine gP (pT (v := .bool true) e33 e34 ?_)
 exact ⟨_, h36, rfl, g48, fun j x _ p => p, rfl⟩
 intro ρ24 h37 w39 g49 hdd21 hdo22
 have e35 : ρ24 51 = .bool true := hdd21 11 (by decide)
 refine gP (OpW.assign (v := .bool true) e35 ?_)
 exact ⟨_, h37, rfl, g49, fun j x _ p => p, rfl⟩
 intro ρ25 h38 w40 g50 hdp2 hdo23
 have e36 : ρ25 4 = .bool true := hdp2 12 rfl
 refine Ops.forget [(4, .bool true)] ⟨e36, trivial⟩ (fun ρ26 => (oN (Wp.ret (fin1_ret rfl (resOf_tmp (v := .bool true) rfl) ?_))))
 have g51 := g31.trans g50
 refine ⟨h38, g51, ?_⟩
 exact rfl
end Go.Ear
