/- About package frac: LawFracFloors. -/
import Derived.Test.YtmidncjhlnfojaaDoorNatLaw2
import Derived.Test.YtmidncjhlnfojaaDoorEarShort
import Derived.Test.YtmidncjhlnfojaaDoorProg
import Derived.Test.YtmidncjhlnfojaaDoorNatLaw3
import Derived.Test.YtmidncjhlnfojaaDoorEarFrac
import Derived.Test.YtmidncjhlnfojaaDoorEarDec
import Derived.Test.YtmidncjhlnfojaaDoorItoaLay
import Derived.Lib.ItoaMem
import Derived.Test.YtmidncjhlnfojaaDoorEarApi
import Derived.Test.YtmidncjhlnfojaaDoorEarRef2
import Derived.Test.YtmidncjhlnfojaaDoorEarLaw
import Derived.Test.YtmidncjhlnfojaaDoorEarWhole
import Derived.Test.YtmidncjhlnfojaaDoorEarLaw2
import Derived.Test.YtmidncjhlnfojaaDoorK1
import Derived.Test.YtmidncjhlnfojaaDoorK12
import Derived.Test.YtmidncjhlnfojaaDoorK14
import Derived.Test.YtmidncjhlnfojaaDoorK8
import Derived.Test.YtmidncjhlnfojaaDoorX12
import Derived.Test.YtmidncjhlnfojaaDoorX14
import Derived.Test.YtmidncjhlnfojaaDoorXrFloor
set_option linter.all false
namespace Go.Ear
open Go.Proofs
set_option maxRecDepth 20000
set_option linter.unusedVariables false
set_option maxHeartbeats 2000000
theorem fracFloors_c {h : PH} {w : World} {v0 : Value} {a : Fr} {d : Int} (hs : Sat h w) (tb : Tab h) (pv0 : F h v0 a) (hp0 : -9223372036854775808 ≤ d) (hp1 : d ≤ 9223372036854775807) :
    Calls Tryd.prog 4 #[v0, .int .i64 d] w (Ret h w fun h' r => r = .bool true) := by
 obtain ⟨b1, c1, b2, c2, rfl, k1, k2, u1, u2⟩ := F.shape pv0
 have hbq1 := F.bq pv0
 have hbl := bq_floorQ (q := a.rat) hp0 hp1
 have hbs := bq_sub a.rat (floorQ a.rat d)
 have hfk := bf_frK (floorQ a.rat d)
 refine calls_ear (vs := [.agg #[.bool a.neg, .slice b1 a.n.length c1, .slice b2 a.d.length c2], .int .i64 d]) Tryd.func4 rfl rfl ?_
 have g1 := Gr.refl hs
 refine sr (oC (OpW.boxK (v := .agg #[.bool a.neg, .slice b1 a.n.length c1, .slice b2 a.d.length c2]) (arr := #[.bool a.neg, .slice b1 a.n.length c1, .slice b2 a.d.length c2]) g1.sat rfl rfl ?_))
 intro b3 h1 w1 gr1 qb1
 refine ma (oN (wS (sr ?_)))
 have g2 := g1.trans gr1
 refine oC (lA (cs := [.bool a.neg, .slice b1 a.n.length c1, .slice b2 a.d.length c2]) Tryd.isAgg24 Tryd.sizeOf24 rfl (g2.sat _ _ qb1) rfl rfl ?_)
 refine oC (OpW.buildSliceO (arr := #[.bool a.neg, .slice b1 a.n.length c1, .slice b2 a.d.length c2]) g2.sat Tryd.underlying50 Tryd.zeroValue24 Tryd.sizeOf24 rfl (fillF1 (.bool a.neg) (.slice b1 a.n.length c1) (.slice b2 a.d.length c2)) ?_)
 intro b4 w2 gr2 n1 lo1 o1
 have lo2 := Nat.le_trans g2.ext.size lo1
 have g4 := g2.trans gr2
 obtain ⟨h2, g3, l1, qb2, fr1⟩ := freeze_ex g4 o1 n1 lo2
 have f1 : LR rpF h2 (.slice (some ⟨b4, 0, none⟩) 1 1) [a] := LR.own' qb2 (css := [[.bool a.neg, .slice b1 a.n.length c1, .slice b2 a.d.length c2]]) rfl (Rows.cons (F.mk (U.mono u1 (gr1.le.trans l1)) (U.mono u2 (gr1.le.trans l1))) Rows.nil) rfl (Nat.le_refl _)
 refine oC (cF Tryd.call25 (lsmall_c (l := [a]) g3.sat f1 (Nat.le_of_ble_eq_true rfl)) rfl ?_)
 intro r1 h3 w3 gr3 hr1
 subst hr1
 refine oC (OpW.notB (a := smallL ([a])) (r := !(smallL ([a]))) rfl rfl (oN (Wp.cond (t := !(smallL ([a]))) rfl (fun c3 => ?_) (fun c3 => ?_))))
 replace c3 : ¬ (smallL ([a]) = true) := (raw_f (not_t c3))
 refine sr ?_
 have g5 := g3.trans gr3
 refine oC (cF Tryd.call20 (known_c  g5.sat (tb.mono ((gr1.le.trans l1).trans gr3.le)) ) rfl ?_)
 intro r2 h4 w4 gr4 hr2
 subst hr2
 refine ma (oN (Wp.ret (fin1_ret rfl (resOf_tmp (v := .bool true) rfl) ?_)))
 have g6 := g5.trans gr4
 refine ⟨h4, g6, ?_⟩
 exact rfl
 replace c3 : ¬ (¬ (smallL ([a]) = true)) := (fun n => n (not_f c3))
 have hsm := small_bf1 (by have hx := c3; simpa using hx)
 refine Wp.skip (sr ?_)
 have g7 := g3.trans gr3
 refine oC (lA (cs := [.bool a.neg, .slice b1 a.n.length c1, .slice b2 a.d.length c2]) Tryd.isAgg24 Tryd.sizeOf24 rfl (g7.sat _ _ ((l1.trans gr3.le) _ _ qb1)) rfl rfl (mv (oC (cF Tryd.call26 (Floor_c (a := a) (d := d) g7.sat (F.mk (U.mono u1 ((gr1.le.trans l1).trans gr3.le)) (U.mono u2 ((gr1.le.trans l1).trans gr3.le))) (by omega) (by omega) (by omega)) rfl ?_))))
 intro r3 h5 w5 gr5 hr3
 obtain ⟨r4, r5, rfl, hr4, hr5⟩ := hr3
 obtain ⟨b5, c4, b6, c5, rfl, k3, k4, u3, u4⟩ := F.shape hr4
 subst hr5
 refine mv (oC (OpW.extract (v := .agg #[.bool ((frK (floorQ a.rat d)).neg), .slice b5 ((frK (floorQ a.rat d)).n.length) c4, .slice b6 ((frK (floorQ a.rat d)).d.length) c5]) rfl rfl ?_))
 refine oC (OpW.extract (v := .int .i64 (if d < 1 then 2 else 0)) rfl rfl ?_)
 have g8 := g7.trans gr5
 refine oC (OpW.allocO (arr := #[.bool false, .slice none 0 0, .slice none 0 0]) g8.sat Tryd.zeroValue24 rfl ?_)
 intro b7 w6 gr6 n2 lo3 o2
 have lo4 := Nat.le_trans g8.ext.size lo3
 refine oC (sA (cs := [.bool ((frK (floorQ a.rat d)).neg), .slice b5 ((frK (floorQ a.rat d)).n.length) c4, .slice b6 ((frK (floorQ a.rat d)).d.length) c5]) Tryd.sizeOf24 rfl rfl rfl rfl o2 rfl ?_)
 intro w7 p1
 refine ma (oN (wS (wS (fg [(1, .int .i64 d), (2, .pointer (some ⟨b3, 0, none⟩)), (5, .pointer (some ⟨b7, 0, none⟩)), (6, .int .i64 (if d < 1 then 2 else 0))] rfl (fun ρ1 => (wR (mv (oC (OpW.lss (a := d) (b := ((1 : Nat) : Int)) (r := decide (d < ((1 : Nat) : Int))) rfl rfl rfl (oN (Wp.cond (t := decide (d < ((1 : Nat) : Int))) rfl (fun c6 => ?_) (fun c6 => ?_))))))))))))
 replace c6 : d < ((1 : Nat) : Int) := (of_decide_eq_true c6)
 refine sr (mv (oC (OpW.eqlI (a := (if d < 1 then 2 else 0)) (b := ((2 : Nat) : Int)) (r := true) rfl rfl (decide_eq_true (by rw [if_pos (by omega)]; rfl)) (mv (oL rfl rfl rfl (lA (cs := [.bool ((frK (floorQ a.rat d)).neg), .slice b5 ((frK (floorQ a.rat d)).n.length) c4, .slice b6 ((frK (floorQ a.rat d)).d.length) c5]) Tryd.isAgg24 Tryd.sizeOf24 rfl p1.at_ rfl rfl ?_))))))
 refine oL rfl rfl rfl (OpW.build (places := [(0, 1), (1, 1), (2, 1)]) (cs := [.bool false, .slice none 0 0, .slice none 0 0]) Tryd.underlying24 Tryd.zeroValue24 (fun _ => by kernel_rfl) rfl ?_)
 have g9 := (g8.trans gr6).put p1 n2 lo4
 refine oL rfl rfl rfl (cF Tryd.call22 (rSame_c (f := frK (floorQ a.rat d)) (g := Fr.mk false ([]) ([])) g9.sat (F.mk u3 u4) (F.mk (U.nil _ none _) (U.nil _ none _)) (by first | omega | (simp only [bf_frK, frK_rat, wts_cons, wts_nil]; omega)) (by decide)) rfl ?_)
 intro r6 h6 w8 gr7 hr6
 replace hr6 := hr6.trans (congrArg Value.bool (sameF_z (by unfold floorQ; rw [if_pos (by omega)])))
 subst hr6
 refine oC (pT (v := .bool true) rfl rfl (mv ?_))
 have g10 := g9.trans gr7
 refine oL rfl rfl rfl (cF Tryd.call20 (known_c  g10.sat (tb.mono ((((gr1.le.trans l1).trans gr3.le).trans gr5.le).trans gr7.le)) ) rfl ?_)
 intro r7 h7 w9 gr8 hr7
 subst hr7
 refine oC (pT (v := .bool true) rfl rfl (ma (oN (Wp.ret (fin1_ret rfl (resOf_tmp (v := .bool true) rfl) ?_)))))
 have g11 := g10.trans gr8
 refine ⟨h7, g11, ?_⟩
 exact rfl
 replace c6 : ¬ (d < ((1 : Nat) : Int)) := (of_decide_eq_false c6)
 have hbi := bq_quo (n := ((1 : Nat) : Int)) (d := d) (by omega) (by omega) hp0 hp1
 refine Wp.skip (sr ?_)
 have g12 := (g8.trans gr6).put p1 n2 lo4
 refine oC (lA (cs := [.bool a.neg, .slice b1 a.n.length c1, .slice b2 a.d.length c2]) Tryd.isAgg24 Tryd.sizeOf24 rfl (g12.sat _ _ (((l1.trans gr3.le).trans gr5.le) _ _ qb1)) rfl rfl ?_)
 refine oC (lA (cs := [.bool ((frK (floorQ a.rat d)).neg), .slice b5 ((frK (floorQ a.rat d)).n.length) c4, .slice b6 ((frK (floorQ a.rat d)).d.length) c5]) Tryd.isAgg24 Tryd.sizeOf24 rfl p1.at_ rfl rfl ?_)
 refine oC (cF Tryd.call27 (rSub_c (a := a) (b := frK (floorQ a.rat d)) g12.sat (F.mk (U.mono u1 (((gr1.le.trans l1).trans gr3.le).trans gr5.le)) (U.mono u2 (((gr1.le.trans l1).trans gr3.le).trans gr5.le))) (F.mk u3 u4) (by first | omega | (simp only [bf_frK, frK_rat, wts_cons, wts_nil]; omega))) rfl ?_)
 intro r8 h8 w10 gr9 hr8
 have hf1 := bq_sub a.rat (floorQ a.rat d)
 simp only [frK_rat, bf_frK, val_digs] at hr8
 obtain ⟨b8, c7, b9, c8, rfl, k5, k6, u5, u6⟩ := F.shape hr8
 have g13 := g12.trans gr9
 have o5 := gr9.kp ⟨p1.at_, n2⟩
 have lt1 := blk_lt o5.1
 refine oC (OpW.allocO (arr := #[.bool false, .slice none 0 0, .slice none 0 0]) g13.sat Tryd.zeroValue24 rfl ?_)
 intro b10 w11 gr10 n3 lo5 o4
 have lo6 := Nat.le_trans g13.ext.size lo5
 have ne1 : b7 ≠ b10 := Nat.ne_of_lt (Nat.lt_of_lt_of_le lt1 lo5)
 refine oC (sA (cs := [.bool ((frK (a.rat - (floorQ a.rat d))).neg), .slice b8 ((frK (a.rat - (floorQ a.rat d))).n.length) c7, .slice b9 ((frK (a.rat - (floorQ a.rat d))).d.length) c8]) Tryd.sizeOf24 rfl rfl rfl rfl o4 rfl ?_)
 intro w12 p2
 refine oN (wS (fg [(1, .int .i64 d), (2, .pointer (some ⟨b3, 0, none⟩)), (5, .pointer (some ⟨b7, 0, none⟩)), (6, .int .i64 (if d < 1 then 2 else 0)), (7, .pointer (some ⟨b10, 0, none⟩))] rfl (fun ρ2 => ?_)))
 have g14 := (g13.trans gr10).put p2 n3 lo6
 refine Wp.dagL 25 [34, 35, 36, 37, 38, 39, 40, 41, 42, 43, 44, 45, 46, 47, 48, 49, 50, 51, 52, 53, 54, 55, 56, 57, 4] [eqv (.int .i64 (if d < 1 then 2 else 0)), eqv (.bool true), eqv (.bool true), eqv (.agg #[.bool ((frK (floorQ a.rat d)).neg), .slice b5 ((frK (floorQ a.rat d)).n.length) c4, .slice b6 ((frK (floorQ a.rat d)).d.length) c5]), eqv (.agg #[.bool a.neg, .slice b1 a.n.length c1, .slice b2 a.d.length c2]), eqv (.int .i64 d), fun h _ x => Kn h x (floorQ a.rat d), eqv (.bool true), eqv (.bool true), eqv (.bool true), eqv (.agg #[.bool ((frK (a.rat - (floorQ a.rat d))).neg), .slice b8 ((frK (a.rat - (floorQ a.rat d))).n.length) c7, .slice b9 ((frK (a.rat - (floorQ a.rat d))).d.length) c8]), eqv (.int .i64 (sgQ (a.rat - (floorQ a.rat d)))), eqv (.bool true), eqv (.bool true), eqv (.bool true), eqv (.agg #[.bool ((frK (a.rat - (floorQ a.rat d))).neg), .slice b8 ((frK (a.rat - (floorQ a.rat d))).n.length) c7, .slice b9 ((frK (a.rat - (floorQ a.rat d))).d.length) c8]), eqv (.int .i64 d), fun h _ x => Kn h x (((((1 : Nat) : Int) : Int) : Rat) / ((d : Int) : Rat)), eqv (.int .i64 (sgQ ((a.rat - (floorQ a.rat d)) - (((((1 : Nat) : Int) : Int) : Rat) / ((d : Int) : Rat))))), eqv (.bool true), eqv (.bool true), eqv (.bool true), eqv (.bool true), eqv (.bool true), eqv (.bool true)] mixed g14.sat rfl (by decide +kernel) ⟨sQ _, sQ _, sQ _, sQ _, sQ _, sQ _, (stab_K (floorQ a.rat d)), sQ _, sQ _, sQ _, sQ _, sQ _, sQ _, sQ _, sQ _, sQ _, sQ _, (stab_K (((((1 : Nat) : Int) : Int) : Rat) / ((d : Int) : Rat))), sQ _, sQ _, sQ _, sQ _, sQ _, sQ _, sQ _, trivial⟩ ?_ ?_
 intro stab
 refine ⟨?_, ?_, ?_, ?_, ?_, ?_, ?_, ?_, ?_, ?_, ?_, ?_, ?_, ?_, ?_, ?_, ?_, ?_, ?_, ?_, ?_, ?_, ?_, ?_, ?_, trivial⟩
 intro ρ3 h9 w13 g15 hdd1 hdo1
 have e1 : ρ3 6 = .int .i64 (if d < 1 then 2 else 0) := hdo1 6 rfl
 refine gP (OpW.move (v := .int .i64 (if d < 1 then 2 else 0)) e1 ?_)
 exact ⟨_, h9, rfl, g15, fun j x _ p => p, rfl⟩
 intro ρ4 h10 w14 g16 hdd2 hdo2
 have e2 : ρ4 34 = .int .i64 (if d < 1 then 2 else 0) := hdd2 0 (by decide)
 refine gP (OpW.eqlI (a := (if d < 1 then 2 else 0)) (b := ((0 : Nat) : Int)) (r := true) e2 rfl (decide_eq_true (by rw [if_neg (by omega)]; rfl)) ?_)
 exact ⟨_, h10, rfl, g16, fun j x _ p => p, rfl⟩
 intro ρ5 h11 w15 g17 hdd3 hdo3
 have e3 : ρ5 35 = .bool true := hdd3 1 (by decide)
 refine gP (OpW.move (v := .bool true) e3 ?_)
 exact ⟨_, h11, rfl, g17, fun j x _ p => p, rfl⟩
 intro ρ6 h12 w16 g18 hdd4 hdo4
 have e4 : ρ6 5 = .pointer (some ⟨b7, 0, none⟩) := hdo4 5 rfl
 have e5 : ρ6 36 = .bool true := hdd4 2 (by decide)
 refine gL (d := 36) (b := true) ?_ ?_ ?_ ?_
 · rfl
 · rfl
 · exact e5
 have o7 := g18.kp (p2.kp ne1 (gr10.kp o5))
 refine (lA (cs := [.bool ((frK (floorQ a.rat d)).neg), .slice b5 ((frK (floorQ a.rat d)).n.length) c4, .slice b6 ((frK (floorQ a.rat d)).d.length) c5]) Tryd.isAgg24 Tryd.sizeOf24 e4 o7.1 rfl rfl ?_)
 exact ⟨_, h12, rfl, g18, fun j x _ p => p, rfl⟩
 intro ρ7 h13 w17 g19 hdd5 hdo5
 have e6 : ρ7 2 = .pointer (some ⟨b3, 0, none⟩) := hdo5 2 rfl
 have e7 : ρ7 36 = .bool true := hdd5 2 (by decide)
 refine gL (d := 36) (b := true) ?_ ?_ ?_ ?_
 · rfl
 · rfl
 · exact e7
 have g20 := g14.trans g19
 refine (lA (cs := [.bool a.neg, .slice b1 a.n.length c1, .slice b2 a.d.length c2]) Tryd.isAgg24 Tryd.sizeOf24 e6 (g20.sat _ _ (((((l1.trans gr3.le).trans gr5.le).trans gr9.le).trans g19.le) _ _ qb1)) rfl rfl ?_)
 exact ⟨_, h13, rfl, g19, fun j x _ p => p, rfl⟩
 intro ρ8 h14 w18 g21 hdd6 hdo6
 have e8 : ρ8 1 = .int .i64 d := hdo6 1 rfl
 have e9 : ρ8 36 = .bool true := hdd6 2 (by decide)
 refine gL (d := 36) (b := true) ?_ ?_ ?_ ?_
 · rfl
 · rfl
 · exact e9
 refine (OpW.move (v := .int .i64 d) e8 ?_)
 exact ⟨_, h14, rfl, g21, fun j x _ p => p, rfl⟩
 intro ρ9 h15 w19 g22 hdd7 hdo7
 have e10 : ρ9 36 = .bool true := hdd7 2 (by decide)
 have e11 : ρ9 38 = .agg #[.bool a.neg, .slice b1 a.n.length c1, .slice b2 a.d.length c2] := hdd7 4 (by decide)
 have e12 : ρ9 39 = .int .i64 d := hdd7 5 (by decide)
 refine gL (d := 36) (b := true) ?_ ?_ ?_ ?_
 · rfl
 · rfl
 · exact e10
 have g23 := g14.trans g22
 refine (cF Tryd.call28 (rFloor_c (a := a) (d := d) g23.sat (F.mk (U.mono u1 (((((gr1.le.trans l1).trans gr3.le).trans gr5.le).trans gr9.le).trans g22.le)) (U.mono u2 (((((gr1.le.trans l1).trans gr3.le).trans gr5.le).trans gr9.le).trans g22.le))) (by omega) (by omega) (by omega)) (cx e11 (cx e12 cxn)) ?_)
 intro r9 h16 w20 gr11 hr9
 exact ⟨r9, h16, rfl, g22.trans gr11, fun j x _ => stab j _ _ _ _ x gr11, hr9⟩
 intro ρ10 h17 w21 g24 hdd8 hdo8
 have e13 : ρ10 36 = .bool true := hdd8 2 (by decide)
 have e14 : ρ10 37 = .agg #[.bool ((frK (floorQ a.rat d)).neg), .slice b5 ((frK (floorQ a.rat d)).n.length) c4, .slice b6 ((frK (floorQ a.rat d)).d.length) c5] := hdd8 3 (by decide)
 have q1 : Kn h17 (ρ10 40) (floorQ a.rat d) := hdd8 6 (by decide)
 refine gL (d := 36) (b := true) ?_ ?_ ?_ ?_
 · rfl
 · rfl
 · exact e13
 have g25 := g14.trans g24
 refine (cF Tryd.call22 (rSame_c (f := frK (floorQ a.rat d)) (g := frK (floorQ a.rat d)) g25.sat (F.mk (U.mono u3 (gr9.le.trans g24.le)) (U.mono u4 (gr9.le.trans g24.le))) q1 (by first | omega | (simp only [bf_frK, frK_rat, wts_cons, wts_nil]; omega)) (by first | omega | (simp only [bf_frK, frK_rat, wts_cons, wts_nil]; omega))) (cx e14 (cx rfl cxn)) ?_)
 intro r10 h18 w22 gr12 hr10
 replace hr10 := hr10.trans (congrArg Value.bool (sameF_self _))
 exact ⟨r10, h18, rfl, g24.trans gr12, fun j x _ => stab j _ _ _ _ x gr12, hr10⟩
 intro ρ11 h19 w23 g26 hdd9 hdo9
 have e15 : ρ11 36 = .bool true := hdd9 2 (by decide)
 have e16 : ρ11 41 = .bool true := hdd9 7 (by decide)
 refine gP (pT (v := .bool true) e15 e16 ?_)
 exact ⟨_, h19, rfl, g26, fun j x _ p => p, rfl⟩
 intro ρ12 h20 w24 g27 hdd10 hdo10
 have e17 : ρ12 42 = .bool true := hdd10 8 (by decide)
 refine gP (OpW.move (v := .bool true) e17 ?_)
 exact ⟨_, h20, rfl, g27, fun j x _ p => p, rfl⟩
 intro ρ13 h21 w25 g28 hdd11 hdo11
 have e18 : ρ13 7 = .pointer (some ⟨b10, 0, none⟩) := hdo11 7 rfl
 have e19 : ρ13 43 = .bool true := hdd11 9 (by decide)
 refine gL (d := 43) (b := true) ?_ ?_ ?_ ?_
 · rfl
 · rfl
 · exact e19
 have o8 := g28.kp ⟨p2.at_, n3⟩
 refine (lA (cs := [.bool ((frK (a.rat - (floorQ a.rat d))).neg), .slice b8 ((frK (a.rat - (floorQ a.rat d))).n.length) c7, .slice b9 ((frK (a.rat - (floorQ a.rat d))).d.length) c8]) Tryd.isAgg24 Tryd.sizeOf24 e18 o8.1 rfl rfl ?_)
 exact ⟨_, h21, rfl, g28, fun j x _ p => p, rfl⟩
 intro ρ14 h22 w26 g29 hdd12 hdo12
 have e20 : ρ14 43 = .bool true := hdd12 9 (by decide)
 have e21 : ρ14 44 = .agg #[.bool ((frK (a.rat - (floorQ a.rat d))).neg), .slice b8 ((frK (a.rat - (floorQ a.rat d))).n.length) c7, .slice b9 ((frK (a.rat - (floorQ a.rat d))).d.length) c8] := hdd12 10 (by decide)
 refine gL (d := 43) (b := true) ?_ ?_ ?_ ?_
 · rfl
 · rfl
 · exact e20
 have g30 := g14.trans g29
 refine (cF Tryd.call23 (rSign_c (a := frK (a.rat - (floorQ a.rat d))) g30.sat (F.mk (U.mono u5 g29.le) (U.mono u6 g29.le)) (by first | omega | (simp only [bf_frK, frK_rat, wts_cons, wts_nil]; omega))) (cx e21 cxn) ?_)
 intro r11 h23 w27 gr13 hr11
 simp only [frK_rat, bf_frK, val_digs] at hr11
 exact ⟨r11, h23, rfl, g29.trans gr13, fun j x _ => stab j _ _ _ _ x gr13, hr11⟩
 intro ρ15 h24 w28 g31 hdd13 hdo13
 have e22 : ρ15 43 = .bool true := hdd13 9 (by decide)
 have e23 : ρ15 45 = .int .i64 (sgQ (a.rat - (floorQ a.rat d))) := hdd13 11 (by decide)
 refine gL (d := 43) (b := true) ?_ ?_ ?_ ?_
 · rfl
 · rfl
 · exact e22
 refine (OpW.geq (a := (sgQ (a.rat - (floorQ a.rat d)))) (b := ((0 : Nat) : Int)) (r := true) e23 rfl (decide_eq_true (floor_ge (by omega))) ?_)
 exact ⟨_, h24, rfl, g31, fun j x _ p => p, rfl⟩
 intro ρ16 h25 w29 g32 hdd14 hdo14
 have e24 : ρ16 43 = .bool true := hdd14 9 (by decide)
 have e25 : ρ16 46 = .bool true := hdd14 12 (by decide)
 refine gP (pT (v := .bool true) e24 e25 ?_)
 exact ⟨_, h25, rfl, g32, fun j x _ p => p, rfl⟩
 intro ρ17 h26 w30 g33 hdd15 hdo15
 have e26 : ρ17 47 = .bool true := hdd15 13 (by decide)
 refine gP (OpW.move (v := .bool true) e26 ?_)
 exact ⟨_, h26, rfl, g33, fun j x _ p => p, rfl⟩
 intro ρ18 h27 w31 g34 hdd16 hdo16
 have e27 : ρ18 7 = .pointer (some ⟨b10, 0, none⟩) := hdo16 7 rfl
 have e28 : ρ18 48 = .bool true := hdd16 14 (by decide)
 refine gL (d := 48) (b := true) ?_ ?_ ?_ ?_
 · rfl
 · rfl
 · exact e28
 have o9 := g34.kp ⟨p2.at_, n3⟩
 refine (lA (cs := [.bool ((frK (a.rat - (floorQ a.rat d))).neg), .slice b8 ((frK (a.rat - (floorQ a.rat d))).n.length) c7, .slice b9 ((frK (a.rat - (floorQ a.rat d))).d.length) c8]) Tryd.isAgg24 Tryd.sizeOf24 e27 o9.1 rfl rfl ?_)
 exact ⟨_, h27, rfl, g34, fun j x _ p => p, rfl⟩
 intro ρ19 h28 w32 g35 hdd17 hdo17
 have e29 : ρ19 1 = .int .i64 d := hdo17 1 rfl
 have e30 : ρ19 48 = .bool true := hdd17 14 (by decide)
 refine gL (d := 48) (b := true) ?_ ?_ ?_ ?_
 · rfl
 · rfl
 · exact e30
 refine (OpW.move (v := .int .i64 d) e29 ?_)
 exact ⟨_, h28, rfl, g35, fun j x _ p => p, rfl⟩
 intro ρ20 h29 w33 g36 hdd18 hdo18
 have e31 : ρ20 48 = .bool true := hdd18 14 (by decide)
 have e32 : ρ20 50 = .int .i64 d := hdd18 16 (by decide)
 refine gL (d := 48) (b := true) ?_ ?_ ?_ ?_
 · rfl
 · rfl
 · exact e31
 have g37 := g14.trans g36
 refine (cF Tryd.call30 (rMake_c (n := ((1 : Nat) : Int)) (d := d) g37.sat  (by omega) (by omega) (by omega) (by omega) (by omega)) (cx rfl (cx e32 cxn)) ?_)
 intro r12 h30 w34 gr14 hr12
 exact ⟨r12, h30, rfl, g36.trans gr14, fun j x _ => stab j _ _ _ _ x gr14, hr12⟩
 intro ρ21 h31 w35 g38 hdd19 hdo19
 have e33 : ρ21 48 = .bool true := hdd19 14 (by decide)
 have e34 : ρ21 49 = .agg #[.bool ((frK (a.rat - (floorQ a.rat d))).neg), .slice b8 ((frK (a.rat - (floorQ a.rat d))).n.length) c7, .slice b9 ((frK (a.rat - (floorQ a.rat d))).d.length) c8] := hdd19 15 (by decide)
 have q2 : Kn h31 (ρ21 51) (((((1 : Nat) : Int) : Int) : Rat) / ((d : Int) : Rat)) := hdd19 17 (by decide)
 refine gL (d := 48) (b := true) ?_ ?_ ?_ ?_
 · rfl
 · rfl
 · exact e33
 have g39 := g14.trans g38
 refine (cF Tryd.call29 (rCmp_c (a := frK (a.rat - (floorQ a.rat d))) (b := frK (((((1 : Nat) : Int) : Int) : Rat) / ((d : Int) : Rat))) g39.sat (F.mk (U.mono u5 g38.le) (U.mono u6 g38.le)) q2 (by first | omega | (simp only [bf_frK, frK_rat, wts_cons, wts_nil]; omega))) (cx e34 (cx rfl cxn)) ?_)
 intro r13 h32 w36 gr15 hr13
 simp only [frK_rat, bf_frK, val_digs] at hr13
 exact ⟨r13, h32, rfl, g38.trans gr15, fun j x _ => stab j _ _ _ _ x gr15, hr13⟩
 intro ρ22 h33 w37 g40 hdd20 hdo20
 have e35 : ρ22 48 = .bool true := hdd20 14 (by decide)
 have e36 : ρ22 52 = .int .i64 (sgQ ((a.rat - (floorQ a.rat d)) - (((((1 : Nat) : Int) : Int) : Rat) / ((d : Int) : Rat)))) := hdd20 18 (by decide)
 refine gL (d := 48) (b := true) ?_ ?_ ?_ ?_
 · rfl
 · rfl
 · exact e35
 refine (OpW.lss (a := (sgQ ((a.rat - (floorQ a.rat d)) - (((((1 : Nat) : Int) : Int) : Rat) / ((d : Int) : Rat))))) (b := ((0 : Nat) : Int)) (r := true) e36 rfl (decide_eq_true (floor_lt (by omega))) ?_)
 exact ⟨_, h33, rfl, g40, fun j x _ p => p, rfl⟩
 intro ρ23 h34 w38 g41 hdd21 hdo21
 have e37 : ρ23 48 = .bool true := hdd21 14 (by decide)
 have e38 : ρ23 53 = .bool true := hdd21 19 (by decide)
 refine gP (pT (v := .bool true) e37 e38 ?_)
 exact ⟨_, h34, rfl, g41, fun j x _ p => p, rfl⟩
 intro ρ24 h35 w39 g42 hdd22 hdo22
 have e39 : ρ24 54 = .bool true := hdd22 20 (by decide)
 refine gP (OpW.move (v := .bool true) e39 ?_)
 exact ⟨_, h35, rfl, g42, fun j x _ p => p, rfl⟩
 intro ρ25 h36 w40 g43 hdd23 hdo23
 have e40 : ρ25 55 = .bool true := hdd23 21 (by decide)
 refine gL (d := 55) (b := true) ?_ ?_ ?_ ?_
 · rfl
 · rfl
 · exact e40
 have g44 := g14.trans g43
 refine (cF Tryd.call20 (known_c  g44.sat (tb.mono (((((gr1.le.trans l1).trans gr3.le).trans gr5.le).trans gr9.le).trans g43.le)) ) rfl ?_)
 intro r14 h37 w41 gr16 hr14
 exact ⟨r14, h37, rfl, g43.trans gr16, fun j x _ => stab j _ _ _ _ x gr16, hr14⟩
 intro ρ26 h38 w42 g45 hdd24 hdo24
 have e41 : ρ26 55 = .bool true := hdd24 21 (by decide)
 have e42 : ρ26 56 = .bool true := hdd24 22 (by decide)
 refine gP (pT (v := .bool true) e41 e42 ?_)
 exact ⟨_, h38, rfl, g45, fun j x _ p => p, rfl⟩
 intro ρ27 h39 w43 g46 hdd25 hdo25
 have e43 : ρ27 57 = .bool true := hdd25 23 (by decide)
 refine gP (OpW.assign (v := .bool true) e43 ?_)
 exact ⟨_, h39, rfl, g46, fun j x _ p => p, rfl⟩
 intro ρ28 h40 w44 g47 hdp1 hdo26
 have e44 : ρ28 4 = .bool true := hdp1 24 rfl
 refine Ops.forget [(4, .bool true)] ⟨e44, trivial⟩ (fun ρ29 => (oN (Wp.ret (fin1_ret rfl (resOf_tmp (v := .bool true) rfl) ?_))))
 have g48 := g14.trans g47
 refine ⟨h40, g48, ?_⟩
 exact rfl
end Go.Ear
