/- About package frac: LawFracMakes. -/
import Derived.Test.YtmidncjhlnfojaaDoorNatLaw2
import Derived.Test.YtmidncjhlnfojaaDoorEarShort
import Derived.Test.YtmidncjhlnfojaaDoorProg
import Derived.Test.YtmidncjhlnfojaaDoorNatLaw3
import Derived.Test.YtmidncjhlnfojaaDoorEarFrac
import Derived.Test.YtmidncjhlnfojaaDoorEarDec
import Derived.Test.YtmidncjhlnfojaaDoorItoaLay
import Derived.Lib.ItoaMem
import Derived.Test.YtmidncjhlnfojaaDoorEarApi
import Derived.Test.YtmidncjhlnfojaaDoorEarRef2
import Derived.Test.YtmidncjhlnfojaaDoorEarLaw
import Derived.Test.YtmidncjhlnfojaaDoorEarWhole
import Derived.Test.YtmidncjhlnfojaaDoorEarLaw2
import Derived.Test.YtmidncjhlnfojaaDoorEarLaw3
import Derived.Test.YtmidncjhlnfojaaDoorK1
import Derived.Test.YtmidncjhlnfojaaDoorK12
import Derived.Test.YtmidncjhlnfojaaDoorK14
import Derived.Test.YtmidncjhlnfojaaDoorK6
import Derived.Test.YtmidncjhlnfojaaDoorX12
import Derived.Test.YtmidncjhlnfojaaDoorX15
set_option linter.all false
namespace Go.Ear
open Go.Proofs
set_option maxRecDepth 20000
set_option linter.unusedVariables false
set_option maxHeartbeats 2000000
theorem fracMakes_c {h : PH} {w : World} {n : Int} {d : Int} (hs : Sat h w) (tb : Tab h) (hp0 : -9223372036854775808 ≤ n) (hp1 : n ≤ 9223372036854775807) (hp2 : -9223372036854775808 ≤ d) (hp3 : d ≤ 9223372036854775807) :
    Calls Tryd.prog 16 #[.int .i64 n, .int .i64 d] w (Ret h w fun h' r => r = .bool true) := by
 have hbn := bq_intc hp0 hp1
 have hbd := bq_intc hp2 hp3
 have hbq := bq_div (n : Rat) (d : Rat)
 refine calls_ear (vs := [.int .i64 n, .int .i64 d]) Tryd.func16 rfl rfl ?_
 have g1 := Gr.refl hs
 refine sr (ma (oN (sr (mv (mv (oC (cF Tryd.call58 (Make_c (n := n) (d := d) g1.sat  (by omega) (by omega) (by omega) (by omega)) rfl ?_)))))))
 intro r1 h1 w1 gr1 hr1
 obtain ⟨r2, r3, rfl, hr2, hr3⟩ := hr1
 obtain ⟨b1, c1, b2, c2, rfl, k1, k2, u1, u2⟩ := F.shape hr2
 subst hr3
 refine mv (oC (OpW.extract (v := .agg #[.bool ((frK (((n : Int) : Rat) / ((d : Int) : Rat))).neg), .slice b1 ((frK (((n : Int) : Rat) / ((d : Int) : Rat))).n.length) c1, .slice b2 ((frK (((n : Int) : Rat) / ((d : Int) : Rat))).d.length) c2]) rfl rfl ?_))
 refine oC (OpW.extract (v := .int .i64 (errDiv ((d : Int) : Rat))) rfl rfl ?_)
 have g2 := g1.trans gr1
 refine oC (OpW.allocO (arr := #[.bool false, .slice none 0 0, .slice none 0 0]) g2.sat Tryd.zeroValue24 rfl ?_)
 intro b3 w2 gr2 n1 lo1 o1
 have lo2 := Nat.le_trans g2.ext.size lo1
 refine oC (sA (cs := [.bool ((frK (((n : Int) : Rat) / ((d : Int) : Rat))).neg), .slice b1 ((frK (((n : Int) : Rat) / ((d : Int) : Rat))).n.length) c1, .slice b2 ((frK (((n : Int) : Rat) / ((d : Int) : Rat))).d.length) c2]) Tryd.sizeOf24 rfl rfl rfl rfl o1 rfl ?_)
 intro w3 p1
 refine ma (oN (wS (sr (mv ?_))))
 have g3 := (g2.trans gr2).put p1 n1 lo2
 refine oC (cF Tryd.call51 (Of_c (n := n) g3.sat  (by omega) (by omega)) rfl ?_)
 intro r4 h2 w4 gr3 hr4
 obtain ⟨b4, c3, b5, c4, rfl, k3, k4, u3, u4⟩ := F.shape hr4
 refine mv ?_
 have g4 := g3.trans gr3
 refine oC (cF Tryd.call38 (rOf_c (n := n) g4.sat  (by omega) (by omega)) rfl ?_)
 intro r5 h3 w5 gr4 hr5
 obtain ⟨b6, c5, b7, c6, rfl, k5, k6, u5, u6⟩ := F.shape hr5
 have g5 := g4.trans gr4
 refine oC (cF Tryd.call22 (rSame_c (f := frK ((n : Int) : Rat)) (g := frK ((n : Int) : Rat)) g5.sat (F.mono hr4 gr4.le) hr5 (by first | omega | (simp only [bf_frK, frK_rat, wts_cons, wts_nil]; omega)) (by first | omega | (simp only [bf_frK, frK_rat, wts_cons, wts_nil]; omega))) rfl ?_)
 intro r6 h4 w6 gr5 hr6
 replace hr6 := hr6.trans (congrArg Value.bool (sameF_self _))
 subst hr6
 refine oC (OpW.notB (a := true) (r := false) rfl rfl (oN (Wp.cond_f rfl (Wp.skip (wS (wS (fg [(0, .int .i64 n), (1, .int .i64 d), (5, .pointer (some ⟨b3, 0, none⟩)), (6, .int .i64 (errDiv ((d : Int) : Rat)))] rfl (fun ρ1 => (wR (mv (oC (OpW.eqlI (a := d) (b := ((0 : Nat) : Int)) (r := decide (d = ((0 : Nat) : Int))) rfl rfl rfl (oN (Wp.cond (t := decide (d = ((0 : Nat) : Int))) rfl (fun c7 => ?_) (fun c7 => ?_)))))))))))))))
 replace c7 : d = ((0 : Nat) : Int) := (of_decide_eq_true c7)
 have hd0 : (d : Rat) = 0 := by rw [show d = 0 by omega]; rfl
 refine sr (mv (oC (OpW.eqlI (a := (errDiv ((d : Int) : Rat))) (b := ((3 : Nat) : Int)) (r := true) rfl rfl (decide_eq_true (by unfold errDiv; rw [if_pos hd0]; rfl)) (mv ?_))))
 have o3 := gr5.kp (gr4.kp (gr3.kp ⟨p1.at_, n1⟩))
 refine oL rfl rfl rfl (lA (cs := [.bool ((frK (((n : Int) : Rat) / ((d : Int) : Rat))).neg), .slice b1 ((frK (((n : Int) : Rat) / ((d : Int) : Rat))).n.length) c1, .slice b2 ((frK (((n : Int) : Rat) / ((d : Int) : Rat))).d.length) c2]) Tryd.isAgg24 Tryd.sizeOf24 rfl o3.1 rfl rfl ?_)
 refine oL rfl rfl rfl (OpW.build (places := [(0, 1), (1, 1), (2, 1)]) (cs := [.bool false, .slice none 0 0, .slice none 0 0]) Tryd.underlying24 Tryd.zeroValue24 (fun _ => by kernel_rfl) rfl ?_)
 have g6 := g5.trans gr5
 refine oL rfl rfl rfl (cF Tryd.call22 (rSame_c (f := frK (((n : Int) : Rat) / ((d : Int) : Rat))) (g := Fr.mk false ([]) ([])) g6.sat (F.mk (U.mono u1 ((gr3.le.trans gr4.le).trans gr5.le)) (U.mono u2 ((gr3.le.trans gr4.le).trans gr5.le))) (F.mk (U.nil _ none _) (U.nil _ none _)) (by first | omega | (simp only [bf_frK, frK_rat, wts_cons, wts_nil]; omega)) (by decide)) rfl ?_)
 intro r7 h5 w7 gr6 hr7
 replace hr7 := hr7.trans (congrArg Value.bool (sameF_z (by rw [hd0, Rat.div_def, Rat.inv_zero, Rat.mul_zero])))
 subst hr7
 refine oC (pT (v := .bool true) rfl rfl (mv ?_))
 have g7 := g6.trans gr6
 refine oL rfl rfl rfl (cF Tryd.call20 (known_c  g7.sat (tb.mono ((((gr1.le.trans gr3.le).trans gr4.le).trans gr5.le).trans gr6.le)) ) rfl ?_)
 intro r8 h6 w8 gr7 hr8
 subst hr8
 refine oC (pT (v := .bool true) rfl rfl (ma (oN (Wp.ret (fin1_ret rfl (resOf_tmp (v := .bool true) rfl) ?_)))))
 have g8 := g7.trans gr7
 refine ⟨h6, g8, ?_⟩
 exact rfl
 replace c7 : ¬ (d = ((0 : Nat) : Int)) := (of_decide_eq_false c7)
 have hd0 : (d : Rat) ≠ 0 := fun e => by have := Rat.intCast_inj.1 (e.trans Rat.intCast_zero.symm); omega
 refine Wp.skip (sr (mv ?_))
 have g9 := g5.trans gr5
 refine oC (cF Tryd.call51 (Of_c (n := n) g9.sat  (by omega) (by omega)) rfl ?_)
 intro r9 h7 w9 gr8 hr9
 obtain ⟨b8, c8, b9, c9, rfl, k7, k8, u7, u8⟩ := F.shape hr9
 have g10 := g9.trans gr8
 refine oC (cF Tryd.call59 (Whole_c (a := frK ((n : Int) : Rat)) g10.sat hr9 (by first | omega | (simp only [bf_frK, frK_rat, wts_cons, wts_nil]; omega))) rfl ?_)
 intro r10 h8 w10 gr9 hr10
 simp only [frK_rat, bf_frK, val_digs] at hr10
 obtain ⟨r11, r12, rfl, hr11, hr12⟩ := hr10
 subst hr11
 subst hr12
 refine mv (oC (OpW.extract (v := .int .i64 (wholeQ ((n : Int) : Rat))) rfl rfl ?_))
 refine oC (OpW.extract (v := .int .i64 (wholeE ((n : Int) : Rat))) rfl rfl (ma (ma (oN (wS (fg [(0, .int .i64 n), (1, .int .i64 d), (5, .pointer (some ⟨b3, 0, none⟩)), (6, .int .i64 (errDiv ((d : Int) : Rat))), (7, .int .i64 (wholeQ ((n : Int) : Rat))), (8, .int .i64 (wholeE ((n : Int) : Rat)))] rfl (fun ρ2 => ?_)))))))
 have g11 := g10.trans gr9
 refine Wp.dagL 22 [39, 40, 41, 42, 43, 44, 45, 46, 47, 48, 49, 50, 51, 52, 53, 54, 55, 56, 57, 58, 59, 4] [eqv (.int .i64 (errDiv ((d : Int) : Rat))), eqv (.bool true), eqv (.bool true), eqv (.agg #[.bool ((frK (((n : Int) : Rat) / ((d : Int) : Rat))).neg), .slice b1 ((frK (((n : Int) : Rat) / ((d : Int) : Rat))).n.length) c1, .slice b2 ((frK (((n : Int) : Rat) / ((d : Int) : Rat))).d.length) c2]), eqv (.int .i64 n), eqv (.int .i64 d), fun h _ x => Kn h x (((n : Int) : Rat) / ((d : Int) : Rat)), eqv (.bool true), eqv (.bool true), eqv (.bool true), eqv (.int .i64 (wholeE ((n : Int) : Rat))), eqv (.bool true), eqv (.bool true), eqv (.bool true), eqv (.int .i64 (wholeQ ((n : Int) : Rat))), eqv (.int .i64 n), eqv (.bool true), eqv (.bool true), eqv (.bool true), eqv (.bool true), eqv (.bool true), eqv (.bool true)] mixed g11.sat rfl (by decide +kernel) ⟨sQ _, sQ _, sQ _, sQ _, sQ _, sQ _, (stab_K (((n : Int) : Rat) / ((d : Int) : Rat))), sQ _, sQ _, sQ _, sQ _, sQ _, sQ _, sQ _, sQ _, sQ _, sQ _, sQ _, sQ _, sQ _, sQ _, sQ _, trivial⟩ ?_ ?_
 intro stab
 refine ⟨?_, ?_, ?_, ?_, ?_, ?_, ?_, ?_, ?_, ?_, ?_, ?_, ?_, ?_, ?_, ?_, ?_, ?_, ?_, ?_, ?_, ?_, trivial⟩
 intro ρ3 h9 w11 g12 hdd1 hdo1
 have e1 : ρ3 6 = .int .i64 (errDiv ((d : Int) : Rat)) := hdo1 6 rfl
 refine gP (OpW.move (v := .int .i64 (errDiv ((d : Int) : Rat))) e1 ?_)
 exact ⟨_, h9, rfl, g12, fun j x _ p => p, rfl⟩
 intro ρ4 h10 w12 g13 hdd2 hdo2
 have e2 : ρ4 39 = .int .i64 (errDiv ((d : Int) : Rat)) := hdd2 0 (by decide)
 refine gP (OpW.eqlI (a := (errDiv ((d : Int) : Rat))) (b := ((0 : Nat) : Int)) (r := true) e2 rfl (decide_eq_true (by unfold errDiv; rw [if_neg hd0]; rfl)) ?_)
 exact ⟨_, h10, rfl, g13, fun j x _ p => p, rfl⟩
 intro ρ5 h11 w13 g14 hdd3 hdo3
 have e3 : ρ5 40 = .bool true := hdd3 1 (by decide)
 refine gP (OpW.move (v := .bool true) e3 ?_)
 exact ⟨_, h11, rfl, g14, fun j x _ p => p, rfl⟩
 intro ρ6 h12 w14 g15 hdd4 hdo4
 have e4 : ρ6 5 = .pointer (some ⟨b3, 0, none⟩) := hdo4 5 rfl
 have e5 : ρ6 41 = .bool true := hdd4 2 (by decide)
 refine gL (d := 41) (b := true) ?_ ?_ ?_ ?_
 · rfl
 · rfl
 · exact e5
 have o4 := g15.kp (gr9.kp (gr8.kp (gr5.kp (gr4.kp (gr3.kp ⟨p1.at_, n1⟩)))))
 refine (lA (cs := [.bool ((frK (((n : Int) : Rat) / ((d : Int) : Rat))).neg), .slice b1 ((frK (((n : Int) : Rat) / ((d : Int) : Rat))).n.length) c1, .slice b2 ((frK (((n : Int) : Rat) / ((d : Int) : Rat))).d.length) c2]) Tryd.isAgg24 Tryd.sizeOf24 e4 o4.1 rfl rfl ?_)
 exact ⟨_, h12, rfl, g15, fun j x _ p => p, rfl⟩
 intro ρ7 h13 w15 g16 hdd5 hdo5
 have e6 : ρ7 0 = .int .i64 n := hdo5 0 rfl
 have e7 : ρ7 41 = .bool true := hdd5 2 (by decide)
 refine gL (d := 41) (b := true) ?_ ?_ ?_ ?_
 · rfl
 · rfl
 · exact e7
 refine (OpW.move (v := .int .i64 n) e6 ?_)
 exact ⟨_, h13, rfl, g16, fun j x _ p => p, rfl⟩
 intro ρ8 h14 w16 g17 hdd6 hdo6
 have e8 : ρ8 1 = .int .i64 d := hdo6 1 rfl
 have e9 : ρ8 41 = .bool true := hdd6 2 (by decide)
 refine gL (d := 41) (b := true) ?_ ?_ ?_ ?_
 · rfl
 · rfl
 · exact e9
 refine (OpW.move (v := .int .i64 d) e8 ?_)
 exact ⟨_, h14, rfl, g17, fun j x _ p => p, rfl⟩
 intro ρ9 h15 w17 g18 hdd7 hdo7
 have e10 : ρ9 41 = .bool true := hdd7 2 (by decide)
 have e11 : ρ9 43 = .int .i64 n := hdd7 4 (by decide)
 have e12 : ρ9 44 = .int .i64 d := hdd7 5 (by decide)
 refine gL (d := 41) (b := true) ?_ ?_ ?_ ?_
 · rfl
 · rfl
 · exact e10
 have g19 := g11.trans g18
 refine (cF Tryd.call30 (rMake_c (n := n) (d := d) g19.sat  (by omega) (by omega) (by omega) (by omega) (by omega)) (cx e11 (cx e12 cxn)) ?_)
 intro r13 h16 w18 gr10 hr13
 exact ⟨r13, h16, rfl, g18.trans gr10, fun j x _ => stab j _ _ _ _ x gr10, hr13⟩
 intro ρ10 h17 w19 g20 hdd8 hdo8
 have e13 : ρ10 41 = .bool true := hdd8 2 (by decide)
 have e14 : ρ10 42 = .agg #[.bool ((frK (((n : Int) : Rat) / ((d : Int) : Rat))).neg), .slice b1 ((frK (((n : Int) : Rat) / ((d : Int) : Rat))).n.length) c1, .slice b2 ((frK (((n : Int) : Rat) / ((d : Int) : Rat))).d.length) c2] := hdd8 3 (by decide)
 have q1 : Kn h17 (ρ10 45) (((n : Int) : Rat) / ((d : Int) : Rat)) := hdd8 6 (by decide)
 refine gL (d := 41) (b := true) ?_ ?_ ?_ ?_
 · rfl
 · rfl
 · exact e13
 have g21 := g11.trans g20
 refine (cF Tryd.call22 (rSame_c (f := frK (((n : Int) : Rat) / ((d : Int) : Rat))) (g := frK (((n : Int) : Rat) / ((d : Int) : Rat))) g21.sat (F.mk (U.mono u1 (((((gr3.le.trans gr4.le).trans gr5.le).trans gr8.le).trans gr9.le).trans g20.le)) (U.mono u2 (((((gr3.le.trans gr4.le).trans gr5.le).trans gr8.le).trans gr9.le).trans g20.le))) q1 (by first | omega | (simp only [bf_frK, frK_rat, wts_cons, wts_nil]; omega)) (by first | omega | (simp only [bf_frK, frK_rat, wts_cons, wts_nil]; omega))) (cx e14 (cx rfl cxn)) ?_)
 intro r14 h18 w20 gr11 hr14
 replace hr14 := hr14.trans (congrArg Value.bool (sameF_self _))
 exact ⟨r14, h18, rfl, g20.trans gr11, fun j x _ => stab j _ _ _ _ x gr11, hr14⟩
 intro ρ11 h19 w21 g22 hdd9 hdo9
 have e15 : ρ11 41 = .bool true := hdd9 2 (by decide)
 have e16 : ρ11 46 = .bool true := hdd9 7 (by decide)
 refine gP (pT (v := .bool true) e15 e16 ?_)
 exact ⟨_, h19, rfl, g22, fun j x _ p => p, rfl⟩
 intro ρ12 h20 w22 g23 hdd10 hdo10
 have e17 : ρ12 47 = .bool true := hdd10 8 (by decide)
 refine gP (OpW.move (v := .bool true) e17 ?_)
 exact ⟨_, h20, rfl, g23, fun j x _ p => p, rfl⟩
 intro ρ13 h21 w23 g24 hdd11 hdo11
 have e18 : ρ13 8 = .int .i64 (wholeE ((n : Int) : Rat)) := hdo11 8 rfl
 have e19 : ρ13 48 = .bool true := hdd11 9 (by decide)
 refine gL (d := 48) (b := true) ?_ ?_ ?_ ?_
 · rfl
 · rfl
 · exact e19
 refine (OpW.move (v := .int .i64 (wholeE ((n : Int) : Rat))) e18 ?_)
 exact ⟨_, h21, rfl, g24, fun j x _ p => p, rfl⟩
 intro ρ14 h22 w24 g25 hdd12 hdo12
 have e20 : ρ14 48 = .bool true := hdd12 9 (by decide)
 have e21 : ρ14 49 = .int .i64 (wholeE ((n : Int) : Rat)) := hdd12 10 (by decide)
 refine gL (d := 48) (b := true) ?_ ?_ ?_ ?_
 · rfl
 · rfl
 · exact e20
 refine (OpW.eqlI (a := (wholeE ((n : Int) : Rat))) (b := ((0 : Nat) : Int)) (r := true) e21 rfl (decide_eq_true (wholeE_int hp0 hp1)) ?_)
 exact ⟨_, h22, rfl, g25, fun j x _ p => p, rfl⟩
 intro ρ15 h23 w25 g26 hdd13 hdo13
 have e22 : ρ15 48 = .bool true := hdd13 9 (by decide)
 have e23 : ρ15 50 = .bool true := hdd13 11 (by decide)
 refine gP (pT (v := .bool true) e22 e23 ?_)
 exact ⟨_, h23, rfl, g26, fun j x _ p => p, rfl⟩
 intro ρ16 h24 w26 g27 hdd14 hdo14
 have e24 : ρ16 51 = .bool true := hdd14 12 (by decide)
 refine gP (OpW.move (v := .bool true) e24 ?_)
 exact ⟨_, h24, rfl, g27, fun j x _ p => p, rfl⟩
 intro ρ17 h25 w27 g28 hdd15 hdo15
 have e25 : ρ17 7 = .int .i64 (wholeQ ((n : Int) : Rat)) := hdo15 7 rfl
 have e26 : ρ17 52 = .bool true := hdd15 13 (by decide)
 refine gL (d := 52) (b := true) ?_ ?_ ?_ ?_
 · rfl
 · rfl
 · exact e26
 refine (OpW.move (v := .int .i64 (wholeQ ((n : Int) : Rat))) e25 ?_)
 exact ⟨_, h25, rfl, g28, fun j x _ p => p, rfl⟩
 intro ρ18 h26 w28 g29 hdd16 hdo16
 have e27 : ρ18 0 = .int .i64 n := hdo16 0 rfl
 have e28 : ρ18 52 = .bool true := hdd16 13 (by decide)
 refine gL (d := 52) (b := true) ?_ ?_ ?_ ?_
 · rfl
 · rfl
 · exact e28
 refine (OpW.move (v := .int .i64 n) e27 ?_)
 exact ⟨_, h26, rfl, g29, fun j x _ p => p, rfl⟩
 intro ρ19 h27 w29 g30 hdd17 hdo17
 have e29 : ρ19 52 = .bool true := hdd17 13 (by decide)
 have e30 : ρ19 53 = .int .i64 (wholeQ ((n : Int) : Rat)) := hdd17 14 (by decide)
 have e31 : ρ19 54 = .int .i64 n := hdd17 15 (by decide)
 refine gL (d := 52) (b := true) ?_ ?_ ?_ ?_
 · rfl
 · rfl
 · exact e29
 refine (OpW.eqlI (a := (wholeQ ((n : Int) : Rat))) (b := n) (r := true) e30 e31 (decide_eq_true (wholeQ_int hp0 hp1)) ?_)
 exact ⟨_, h27, rfl, g30, fun j x _ p => p, rfl⟩
 intro ρ20 h28 w30 g31 hdd18 hdo18
 have e32 : ρ20 52 = .bool true := hdd18 13 (by decide)
 have e33 : ρ20 55 = .bool true := hdd18 16 (by decide)
 refine gP (pT (v := .bool true) e32 e33 ?_)
 exact ⟨_, h28, rfl, g31, fun j x _ p => p, rfl⟩
 intro ρ21 h29 w31 g32 hdd19 hdo19
 have e34 : ρ21 56 = .bool true := hdd19 17 (by decide)
 refine gP (OpW.move (v := .bool true) e34 ?_)
 exact ⟨_, h29, rfl, g32, fun j x _ p => p, rfl⟩
 intro ρ22 h30 w32 g33 hdd20 hdo20
 have e35 : ρ22 57 = .bool true := hdd20 18 (by decide)
 refine gL (d := 57) (b := true) ?_ ?_ ?_ ?_
 · rfl
 · rfl
 · exact e35
 have g34 := g11.trans g33
 refine (cF Tryd.call20 (known_c  g34.sat (tb.mono ((((((gr1.le.trans gr3.le).trans gr4.le).trans gr5.le).trans gr8.le).trans gr9.le).trans g33.le)) ) rfl ?_)
 intro r15 h31 w33 gr12 hr15
 exact ⟨r15, h31, rfl, g33.trans gr12, fun j x _ => stab j _ _ _ _ x gr12, hr15⟩
 intro ρ23 h32 w34 g35 hdd21 hdo21
 have e36 : ρ23 57 = .bool true := hdd21 18 (by decide)
 have e37 : ρ23 58 = .bool true := hdd21 19 (by decide)
 refine gP (pT (v := .bool true) e36 e37 ?_)
 exact ⟨_, h32, rfl, g35, fun j x _ p => p, rfl⟩
 intro ρ24 h33 w35 g36 hdd22 hdo22
 have e38 : ρ24 59 = .bool true := hdd22 20 (by decide)
 refine gP (OpW.assign (v := .bool true) e38 ?_)
 exact ⟨_, h33, rfl, g36, fun j x _ p => p, rfl⟩
 intro ρ25 h34 w36 g37 hdp1 hdo23
 have e39 : ρ25 4 = .bool true := hdp1 21 rfl
 refine Ops.forget [(4, .bool true)] ⟨e39, trivial⟩ (fun ρ26 => (oN (Wp.ret (fin1_ret rfl (resOf_tmp (v := .bool true) rfl) ?_))))
 have g38 := g11.trans g37
 refine ⟨h34, g38, ?_⟩
 exact rfl
end Go.Ear
