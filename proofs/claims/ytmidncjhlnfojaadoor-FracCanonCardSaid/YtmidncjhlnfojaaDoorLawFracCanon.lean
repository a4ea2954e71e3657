/- About package frac: LawFracCanon. -/
import Derived.Test.YtmidncjhlnfojaaDoorNatLaw2
import Derived.Test.YtmidncjhlnfojaaDoorEarShort
import Derived.Test.YtmidncjhlnfojaaDoorProg
import Derived.Test.YtmidncjhlnfojaaDoorNatLaw3
import Derived.Test.YtmidncjhlnfojaaDoorEarFrac
import Derived.Test.YtmidncjhlnfojaaDoorEarDec
import Derived.Test.YtmidncjhlnfojaaDoorItoaLay
import Derived.Lib.ItoaMem
import Derived.Test.YtmidncjhlnfojaaDoorEarApi
import Derived.Test.YtmidncjhlnfojaaDoorEarRef2
import Derived.Test.YtmidncjhlnfojaaDoorEarLaw
import Derived.Test.YtmidncjhlnfojaaDoorEarWhole
import Derived.Test.YtmidncjhlnfojaaDoorEarLaw2
import Derived.Test.YtmidncjhlnfojaaDoorEarLaw3
import Derived.Test.YtmidncjhlnfojaaDoorK1
import Derived.Test.YtmidncjhlnfojaaDoorK14
import Derived.Test.YtmidncjhlnfojaaDoorK6
import Derived.Test.YtmidncjhlnfojaaDoorX12
import Derived.Test.YtmidncjhlnfojaaDoorX14
import Derived.Test.YtmidncjhlnfojaaDoorX15
import Derived.Test.YtmidncjhlnfojaaDoorX6
import Derived.Test.YtmidncjhlnfojaaDoorXrCanonical
import Derived.Test.YtmidncjhlnfojaaDoorXrSize
set_option linter.all false
namespace Go.Ear
open Go.Proofs
set_option maxRecDepth 20000
set_option linter.unusedVariables false
set_option maxHeartbeats 2000000
theorem fracCanon_c {h : PH} {w : World} {v0 : Value} {a : Fr} (hs : Sat h w) (tb : Tab h) (pv0 : F h v0 a) :
    Calls Tryd.prog 15 #[v0] w (Ret h w fun h' r => r = .bool true) := by
 obtain ⟨b1, c1, b2, c2, rfl, k1, k2, u1, u2⟩ := F.shape pv0
 have hbq1 := F.bq pv0
 have hfk := bf_frK a.rat
 refine calls_ear (vs := [.agg #[.bool a.neg, .slice b1 a.n.length c1, .slice b2 a.d.length c2]]) Tryd.func15 rfl rfl ?_
 have g1 := Gr.refl hs
 refine sr (oC (OpW.boxK (v := .agg #[.bool a.neg, .slice b1 a.n.length c1, .slice b2 a.d.length c2]) (arr := #[.bool a.neg, .slice b1 a.n.length c1, .slice b2 a.d.length c2]) g1.sat rfl rfl ?_))
 intro b3 h1 w1 gr1 qb1
 refine ma (oN (wS (sr ?_)))
 have g2 := g1.trans gr1
 refine oC (lA (cs := [.bool a.neg, .slice b1 a.n.length c1, .slice b2 a.d.length c2]) Tryd.isAgg24 Tryd.sizeOf24 rfl (g2.sat _ _ qb1) rfl rfl ?_)
 refine oC (OpW.buildSliceO (arr := #[.bool a.neg, .slice b1 a.n.length c1, .slice b2 a.d.length c2]) g2.sat Tryd.underlying50 Tryd.zeroValue24 Tryd.sizeOf24 rfl (fillF1 (.bool a.neg) (.slice b1 a.n.length c1) (.slice b2 a.d.length c2)) ?_)
 intro b4 w2 gr2 n1 lo1 o1
 have lo2 := Nat.le_trans g2.ext.size lo1
 have g4 := g2.trans gr2
 obtain ⟨h2, g3, l1, qb2, fr1⟩ := freeze_ex g4 o1 n1 lo2
 have f1 : LR rpF h2 (.slice (some ⟨b4, 0, none⟩) 1 1) [a] := LR.own' qb2 (css := [[.bool a.neg, .slice b1 a.n.length c1, .slice b2 a.d.length c2]]) rfl (Rows.cons (F.mk (U.mono u1 (gr1.le.trans l1)) (U.mono u2 (gr1.le.trans l1))) Rows.nil) rfl (Nat.le_refl _)
 refine oC (cF Tryd.call25 (lsmall_c (l := [a]) g3.sat f1 (Nat.le_of_ble_eq_true rfl)) rfl ?_)
 intro r1 h3 w3 gr3 hr1
 subst hr1
 refine oC (OpW.notB (a := smallL ([a])) (r := !(smallL ([a]))) rfl rfl (oN (Wp.cond (t := !(smallL ([a]))) rfl (fun c3 => ?_) (fun c3 => ?_))))
 replace c3 : ¬ (smallL ([a]) = true) := (raw_f (not_t c3))
 refine sr ?_
 have g5 := g3.trans gr3
 refine oC (cF Tryd.call20 (known_c  g5.sat (tb.mono ((gr1.le.trans l1).trans gr3.le)) ) rfl ?_)
 intro r2 h4 w4 gr4 hr2
 subst hr2
 refine ma (oN (Wp.ret (fin1_ret rfl (resOf_tmp (v := .bool true) rfl) ?_)))
 have g6 := g5.trans gr4
 refine ⟨h4, g6, ?_⟩
 exact rfl
 replace c3 : ¬ (¬ (smallL ([a]) = true)) := (fun n => n (not_f c3))
 have hsm := small_bf1 (by have hx := c3; simpa using hx)
 refine Wp.skip (sr ?_)
 have g7 := g3.trans gr3
 refine oC (lA (cs := [.bool a.neg, .slice b1 a.n.length c1, .slice b2 a.d.length c2]) Tryd.isAgg24 Tryd.sizeOf24 rfl (g7.sat _ _ ((l1.trans gr3.le) _ _ qb1)) rfl rfl ?_)
 refine oC (cF Tryd.call50 (Canon_c (a := a) g7.sat (F.mk (U.mono u1 ((gr1.le.trans l1).trans gr3.le)) (U.mono u2 ((gr1.le.trans l1).trans gr3.le))) (by omega)) rfl ?_)
 intro r3 h5 w5 gr5 hr3
 obtain ⟨b5, c4, b6, c5, rfl, k3, k4, u3, u4⟩ := F.shape hr3
 have g8 := g7.trans gr5
 refine oC (OpW.allocO (arr := #[.bool false, .slice none 0 0, .slice none 0 0]) g8.sat Tryd.zeroValue24 rfl ?_)
 intro b7 w6 gr6 n2 lo3 o2
 have lo4 := Nat.le_trans g8.ext.size lo3
 refine oC (sA (cs := [.bool ((frK a.rat).neg), .slice b5 ((frK a.rat).n.length) c4, .slice b6 ((frK a.rat).d.length) c5]) Tryd.sizeOf24 rfl rfl rfl rfl o2 rfl ?_)
 intro w7 p1
 refine oN (wS ?_)
 have g9 := (g8.trans gr6).put p1 n2 lo4
 refine Wp.dagL 26 [11, 12, 13, 14, 15, 16, 17, 18, 19, 20, 21, 22, 23, 24, 25, 26, 27, 28, 29, 30, 31, 32, 33, 34, 35, 2] [eqv (.agg #[.bool a.neg, .slice b1 a.n.length c1, .slice b2 a.d.length c2]), eqv (.bool (sameF a (frK a.rat))), eqv (.agg #[.bool a.neg, .slice b1 a.n.length c1, .slice b2 a.d.length c2]), eqv (.bool (sameF a (frK a.rat))), eqv (.bool true), eqv (.bool true), eqv (.agg #[.bool ((frK a.rat).neg), .slice b5 ((frK a.rat).n.length) c4, .slice b6 ((frK a.rat).d.length) c5]), eqv (.agg #[.bool a.neg, .slice b1 a.n.length c1, .slice b2 a.d.length c2]), fun h _ x => Kn h x a.rat, eqv (.bool true), eqv (.bool true), eqv (.bool true), eqv (.agg #[.bool ((frK a.rat).neg), .slice b5 ((frK a.rat).n.length) c4, .slice b6 ((frK a.rat).d.length) c5]), eqv (.bool true), eqv (.bool true), eqv (.bool true), eqv (.agg #[.bool a.neg, .slice b1 a.n.length c1, .slice b2 a.d.length c2]), eqv (.int .i64 ((sizeQ a.rat : Nat) : Int)), eqv (.agg #[.bool a.neg, .slice b1 a.n.length c1, .slice b2 a.d.length c2]), eqv (.int .i64 ((sizeQ a.rat : Nat) : Int)), eqv (.bool true), eqv (.bool true), eqv (.bool true), eqv (.bool true), eqv (.bool true), eqv (.bool true)] mixed g9.sat rfl (by decide +kernel) ⟨sQ _, sQ _, sQ _, sQ _, sQ _, sQ _, sQ _, sQ _, (stab_K a.rat), sQ _, sQ _, sQ _, sQ _, sQ _, sQ _, sQ _, sQ _, sQ _, sQ _, sQ _, sQ _, sQ _, sQ _, sQ _, sQ _, sQ _, trivial⟩ ?_ ?_
 intro stab
 refine ⟨?_, ?_, ?_, ?_, ?_, ?_, ?_, ?_, ?_, ?_, ?_, ?_, ?_, ?_, ?_, ?_, ?_, ?_, ?_, ?_, ?_, ?_, ?_, ?_, ?_, ?_, trivial⟩
 intro ρ1 h6 w8 g10 hdd1 hdo1
 have e1 : ρ1 1 = .pointer (some ⟨b3, 0, none⟩) := hdo1 1 rfl
 have g11 := g9.trans g10
 refine gP (lA (cs := [.bool a.neg, .slice b1 a.n.length c1, .slice b2 a.d.length c2]) Tryd.isAgg24 Tryd.sizeOf24 e1 (g11.sat _ _ ((((l1.trans gr3.le).trans gr5.le).trans g10.le) _ _ qb1)) rfl rfl ?_)
 exact ⟨_, h6, rfl, g10, fun j x _ p => p, rfl⟩
 intro ρ2 h7 w9 g12 hdd2 hdo2
 have e2 : ρ2 11 = .agg #[.bool a.neg, .slice b1 a.n.length c1, .slice b2 a.d.length c2] := hdd2 0 (by decide)
 have g13 := g9.trans g12
 refine gP (cF Tryd.call54 (Canonical_c (a := a) g13.sat (F.mk (U.mono u1 ((((gr1.le.trans l1).trans gr3.le).trans gr5.le).trans g12.le)) (U.mono u2 ((((gr1.le.trans l1).trans gr3.le).trans gr5.le).trans g12.le))) (by omega)) (cx e2 cxn) ?_)
 intro r4 h8 w10 gr7 hr4
 exact ⟨r4, h8, rfl, g12.trans gr7, fun j x _ => stab j _ _ _ _ x gr7, hr4⟩
 intro ρ3 h9 w11 g14 hdd3 hdo3
 have e3 : ρ3 1 = .pointer (some ⟨b3, 0, none⟩) := hdo3 1 rfl
 have g15 := g9.trans g14
 refine gP (lA (cs := [.bool a.neg, .slice b1 a.n.length c1, .slice b2 a.d.length c2]) Tryd.isAgg24 Tryd.sizeOf24 e3 (g15.sat _ _ ((((l1.trans gr3.le).trans gr5.le).trans g14.le) _ _ qb1)) rfl rfl ?_)
 exact ⟨_, h9, rfl, g14, fun j x _ p => p, rfl⟩
 intro ρ4 h10 w12 g16 hdd4 hdo4
 have e4 : ρ4 13 = .agg #[.bool a.neg, .slice b1 a.n.length c1, .slice b2 a.d.length c2] := hdd4 2 (by decide)
 have g17 := g9.trans g16
 refine gP (cF Tryd.call55 (rCanonical_c (a := a) g17.sat (F.mk (U.mono u1 ((((gr1.le.trans l1).trans gr3.le).trans gr5.le).trans g16.le)) (U.mono u2 ((((gr1.le.trans l1).trans gr3.le).trans gr5.le).trans g16.le))) (by omega)) (cx e4 cxn) ?_)
 intro r5 h11 w13 gr8 hr5
 exact ⟨r5, h11, rfl, g16.trans gr8, fun j x _ => stab j _ _ _ _ x gr8, hr5⟩
 intro ρ5 h12 w14 g18 hdd5 hdo5
 have e5 : ρ5 12 = .bool (sameF a (frK a.rat)) := hdd5 1 (by decide)
 have e6 : ρ5 14 = .bool (sameF a (frK a.rat)) := hdd5 3 (by decide)
 refine gP (OpW.eqlB (a := sameF a (frK a.rat)) (b := sameF a (frK a.rat)) (r := true) Tryd.underlying4 e5 e6 (beq_self_eq_true _) ?_)
 exact ⟨_, h12, rfl, g18, fun j x _ p => p, rfl⟩
 intro ρ6 h13 w15 g19 hdd6 hdo6
 have e7 : ρ6 15 = .bool true := hdd6 4 (by decide)
 refine gP (OpW.move (v := .bool true) e7 ?_)
 exact ⟨_, h13, rfl, g19, fun j x _ p => p, rfl⟩
 intro ρ7 h14 w16 g20 hdd7 hdo7
 have e8 : ρ7 3 = .pointer (some ⟨b7, 0, none⟩) := hdo7 3 rfl
 have e9 : ρ7 16 = .bool true := hdd7 5 (by decide)
 refine gL (d := 16) (b := true) ?_ ?_ ?_ ?_
 · rfl
 · rfl
 · exact e9
 have o4 := g20.kp ⟨p1.at_, n2⟩
 refine (lA (cs := [.bool ((frK a.rat).neg), .slice b5 ((frK a.rat).n.length) c4, .slice b6 ((frK a.rat).d.length) c5]) Tryd.isAgg24 Tryd.sizeOf24 e8 o4.1 rfl rfl ?_)
 exact ⟨_, h14, rfl, g20, fun j x _ p => p, rfl⟩
 intro ρ8 h15 w17 g21 hdd8 hdo8
 have e10 : ρ8 1 = .pointer (some ⟨b3, 0, none⟩) := hdo8 1 rfl
 have e11 : ρ8 16 = .bool true := hdd8 5 (by decide)
 refine gL (d := 16) (b := true) ?_ ?_ ?_ ?_
 · rfl
 · rfl
 · exact e11
 have g22 := g9.trans g21
 refine (lA (cs := [.bool a.neg, .slice b1 a.n.length c1, .slice b2 a.d.length c2]) Tryd.isAgg24 Tryd.sizeOf24 e10 (g22.sat _ _ ((((l1.trans gr3.le).trans gr5.le).trans g21.le) _ _ qb1)) rfl rfl ?_)
 exact ⟨_, h15, rfl, g21, fun j x _ p => p, rfl⟩
 intro ρ9 h16 w18 g23 hdd9 hdo9
 have e12 : ρ9 16 = .bool true := hdd9 5 (by decide)
 have e13 : ρ9 18 = .agg #[.bool a.neg, .slice b1 a.n.length c1, .slice b2 a.d.length c2] := hdd9 7 (by decide)
 refine gL (d := 16) (b := true) ?_ ?_ ?_ ?_
 · rfl
 · rfl
 · exact e12
 have g24 := g9.trans g23
 refine (cF Tryd.call34 (rCanon_c (a := a) g24.sat (F.mk (U.mono u1 ((((gr1.le.trans l1).trans gr3.le).trans gr5.le).trans g23.le)) (U.mono u2 ((((gr1.le.trans l1).trans gr3.le).trans gr5.le).trans g23.le))) (by omega)) (cx e13 cxn) ?_)
 intro r6 h17 w19 gr9 hr6
 exact ⟨r6, h17, rfl, g23.trans gr9, fun j x _ => stab j _ _ _ _ x gr9, hr6⟩
 intro ρ10 h18 w20 g25 hdd10 hdo10
 have e14 : ρ10 16 = .bool true := hdd10 5 (by decide)
 have e15 : ρ10 17 = .agg #[.bool ((frK a.rat).neg), .slice b5 ((frK a.rat).n.length) c4, .slice b6 ((frK a.rat).d.length) c5] := hdd10 6 (by decide)
 have q1 : Kn h18 (ρ10 19) a.rat := hdd10 8 (by decide)
 refine gL (d := 16) (b := true) ?_ ?_ ?_ ?_
 · rfl
 · rfl
 · exact e14
 have g26 := g9.trans g25
 refine (cF Tryd.call22 (rSame_c (f := frK a.rat) (g := frK a.rat) g26.sat (F.mk (U.mono u3 g25.le) (U.mono u4 g25.le)) q1 (by first | omega | (simp only [bf_frK, frK_rat, wts_cons, wts_nil]; omega)) (by first | omega | (simp only [bf_frK, frK_rat, wts_cons, wts_nil]; omega))) (cx e15 (cx rfl cxn)) ?_)
 intro r7 h19 w21 gr10 hr7
 replace hr7 := hr7.trans (congrArg Value.bool (sameF_self _))
 exact ⟨r7, h19, rfl, g25.trans gr10, fun j x _ => stab j _ _ _ _ x gr10, hr7⟩
 intro ρ11 h20 w22 g27 hdd11 hdo11
 have e16 : ρ11 16 = .bool true := hdd11 5 (by decide)
 have e17 : ρ11 20 = .bool true := hdd11 9 (by decide)
 refine gP (pT (v := .bool true) e16 e17 ?_)
 exact ⟨_, h20, rfl, g27, fun j x _ p => p, rfl⟩
 intro ρ12 h21 w23 g28 hdd12 hdo12
 have e18 : ρ12 21 = .bool true := hdd12 10 (by decide)
 refine gP (OpW.move (v := .bool true) e18 ?_)
 exact ⟨_, h21, rfl, g28, fun j x _ p => p, rfl⟩
 intro ρ13 h22 w24 g29 hdd13 hdo13
 have e19 : ρ13 3 = .pointer (some ⟨b7, 0, none⟩) := hdo13 3 rfl
 have e20 : ρ13 22 = .bool true := hdd13 11 (by decide)
 refine gL (d := 22) (b := true) ?_ ?_ ?_ ?_
 · rfl
 · rfl
 · exact e20
 have o5 := g29.kp ⟨p1.at_, n2⟩
 refine (lA (cs := [.bool ((frK a.rat).neg), .slice b5 ((frK a.rat).n.length) c4, .slice b6 ((frK a.rat).d.length) c5]) Tryd.isAgg24 Tryd.sizeOf24 e19 o5.1 rfl rfl ?_)
 exact ⟨_, h22, rfl, g29, fun j x _ p => p, rfl⟩
 intro ρ14 h23 w25 g30 hdd14 hdo14
 have e21 : ρ14 22 = .bool true := hdd14 11 (by decide)
 have e22 : ρ14 23 = .agg #[.bool ((frK a.rat).neg), .slice b5 ((frK a.rat).n.length) c4, .slice b6 ((frK a.rat).d.length) c5] := hdd14 12 (by decide)
 refine gL (d := 22) (b := true) ?_ ?_ ?_ ?_
 · rfl
 · rfl
 · exact e21
 have g31 := g9.trans g30
 refine (cF Tryd.call54 (Canonical_c (a := frK a.rat) g31.sat (F.mk (U.mono u3 g30.le) (U.mono u4 g30.le)) (by first | omega | (simp only [bf_frK, frK_rat, wts_cons, wts_nil]; omega))) (cx e22 cxn) ?_)
 intro r8 h24 w26 gr11 hr8
 simp only [frK_rat, bf_frK, val_digs] at hr8
 replace hr8 := hr8.trans (congrArg Value.bool (sameF_self _))
 exact ⟨r8, h24, rfl, g30.trans gr11, fun j x _ => stab j _ _ _ _ x gr11, hr8⟩
 intro ρ15 h25 w27 g32 hdd15 hdo15
 have e23 : ρ15 22 = .bool true := hdd15 11 (by decide)
 have e24 : ρ15 24 = .bool true := hdd15 13 (by decide)
 refine gP (pT (v := .bool true) e23 e24 ?_)
 exact ⟨_, h25, rfl, g32, fun j x _ p => p, rfl⟩
 intro ρ16 h26 w28 g33 hdd16 hdo16
 have e25 : ρ16 25 = .bool true := hdd16 14 (by decide)
 refine gP (OpW.move (v := .bool true) e25 ?_)
 exact ⟨_, h26, rfl, g33, fun j x _ p => p, rfl⟩
 intro ρ17 h27 w29 g34 hdd17 hdo17
 have e26 : ρ17 1 = .pointer (some ⟨b3, 0, none⟩) := hdo17 1 rfl
 have e27 : ρ17 26 = .bool true := hdd17 15 (by decide)
 refine gL (d := 26) (b := true) ?_ ?_ ?_ ?_
 · rfl
 · rfl
 · exact e27
 have g35 := g9.trans g34
 refine (lA (cs := [.bool a.neg, .slice b1 a.n.length c1, .slice b2 a.d.length c2]) Tryd.isAgg24 Tryd.sizeOf24 e26 (g35.sat _ _ ((((l1.trans gr3.le).trans gr5.le).trans g34.le) _ _ qb1)) rfl rfl ?_)
 exact ⟨_, h27, rfl, g34, fun j x _ p => p, rfl⟩
 intro ρ18 h28 w30 g36 hdd18 hdo18
 have e28 : ρ18 26 = .bool true := hdd18 15 (by decide)
 have e29 : ρ18 27 = .agg #[.bool a.neg, .slice b1 a.n.length c1, .slice b2 a.d.length c2] := hdd18 16 (by decide)
 refine gL (d := 26) (b := true) ?_ ?_ ?_ ?_
 · rfl
 · rfl
 · exact e28
 have g37 := g9.trans g36
 refine (cF Tryd.call56 (Size_c (a := a) g37.sat (F.mk (U.mono u1 ((((gr1.le.trans l1).trans gr3.le).trans gr5.le).trans g36.le)) (U.mono u2 ((((gr1.le.trans l1).trans gr3.le).trans gr5.le).trans g36.le))) (by omega)) (cx e29 cxn) ?_)
 intro r9 h29 w31 gr12 hr9
 exact ⟨r9, h29, rfl, g36.trans gr12, fun j x _ => stab j _ _ _ _ x gr12, hr9⟩
 intro ρ19 h30 w32 g38 hdd19 hdo19
 have e30 : ρ19 1 = .pointer (some ⟨b3, 0, none⟩) := hdo19 1 rfl
 have e31 : ρ19 26 = .bool true := hdd19 15 (by decide)
 refine gL (d := 26) (b := true) ?_ ?_ ?_ ?_
 · rfl
 · rfl
 · exact e31
 have g39 := g9.trans g38
 refine (lA (cs := [.bool a.neg, .slice b1 a.n.length c1, .slice b2 a.d.length c2]) Tryd.isAgg24 Tryd.sizeOf24 e30 (g39.sat _ _ ((((l1.trans gr3.le).trans gr5.le).trans g38.le) _ _ qb1)) rfl rfl ?_)
 exact ⟨_, h30, rfl, g38, fun j x _ p => p, rfl⟩
 intro ρ20 h31 w33 g40 hdd20 hdo20
 have e32 : ρ20 26 = .bool true := hdd20 15 (by decide)
 have e33 : ρ20 29 = .agg #[.bool a.neg, .slice b1 a.n.length c1, .slice b2 a.d.length c2] := hdd20 18 (by decide)
 refine gL (d := 26) (b := true) ?_ ?_ ?_ ?_
 · rfl
 · rfl
 · exact e32
 have g41 := g9.trans g40
 refine (cF Tryd.call57 (rSize_c (a := a) g41.sat (F.mk (U.mono u1 ((((gr1.le.trans l1).trans gr3.le).trans gr5.le).trans g40.le)) (U.mono u2 ((((gr1.le.trans l1).trans gr3.le).trans gr5.le).trans g40.le))) (by omega)) (cx e33 cxn) ?_)
 intro r10 h32 w34 gr13 hr10
 exact ⟨r10, h32, rfl, g40.trans gr13, fun j x _ => stab j _ _ _ _ x gr13, hr10⟩
 intro ρ21 h33 w35 g42 hdd21 hdo21
 have e34 : ρ21 26 = .bool true := hdd21 15 (by decide)
 have e35 : ρ21 28 = .int .i64 ((sizeQ a.rat : Nat) : Int) := hdd21 17 (by decide)
 have e36 : ρ21 30 = .int .i64 ((sizeQ a.rat : Nat) : Int) := hdd21 19 (by decide)
 refine gL (d := 26) (b := true) ?_ ?_ ?_ ?_
 · rfl
 · rfl
 · exact e34
 refine (OpW.eqlI (a := ((sizeQ a.rat : Nat) : Int)) (b := ((sizeQ a.rat : Nat) : Int)) (r := true) e35 e36 (decide_eq_true rfl) ?_)
 exact ⟨_, h33, rfl, g42, fun j x _ p => p, rfl⟩
 intro ρ22 h34 w36 g43 hdd22 hdo22
 have e37 : ρ22 26 = .bool true := hdd22 15 (by decide)
 have e38 : ρ22 31 = .bool true := hdd22 20 (by decide)
 refine gP (pT (v := .bool true) e37 e38 ?_)
 exact ⟨_, h34, rfl, g43, fun j x _ p => p, rfl⟩
 intro ρ23 h35 w37 g44 hdd23 hdo23
 have e39 : ρ23 32 = .bool true := hdd23 21 (by decide)
 refine gP (OpW.move (v := .bool true) e39 ?_)
 exact ⟨_, h35, rfl, g44, fun j x _ p => p, rfl⟩
 intro ρ24 h36 w38 g45 hdd24 hdo24
 have e40 : ρ24 33 = .bool true := hdd24 22 (by decide)
 refine gL (d := 33) (b := true) ?_ ?_ ?_ ?_
 · rfl
 · rfl
 · exact e40
 have g46 := g9.trans g45
 refine (cF Tryd.call20 (known_c  g46.sat (tb.mono ((((gr1.le.trans l1).trans gr3.le).trans gr5.le).trans g45.le)) ) rfl ?_)
 intro r11 h37 w39 gr14 hr11
 exact ⟨r11, h37, rfl, g45.trans gr14, fun j x _ => stab j _ _ _ _ x gr14, hr11⟩
 intro ρ25 h38 w40 g47 hdd25 hdo25
 have e41 : ρ25 33 = .bool true := hdd25 22 (by decide)
 have e42 : ρ25 34 = .bool true := hdd25 23 (by decide)
 refine gP (pT (v := .bool true) e41 e42 ?_)
 exact ⟨_, h38, rfl, g47, fun j x _ p => p, rfl⟩
 intro ρ26 h39 w41 g48 hdd26 hdo26
 have e43 : ρ26 35 = .bool true := hdd26 24 (by decide)
 refine gP (OpW.assign (v := .bool true) e43 ?_)
 exact ⟨_, h39, rfl, g48, fun j x _ p => p, rfl⟩
 intro ρ27 h40 w42 g49 hdp1 hdo27
 have e44 : ρ27 2 = .bool true := hdp1 25 rfl
 refine Ops.forget [(2, .bool true)] ⟨e44, trivial⟩ (fun ρ28 => (oN (Wp.ret (fin1_ret rfl (resOf_tmp (v := .bool true) rfl) ?_))))
 have g50 := g9.trans g49
 refine ⟨h40, g50, ?_⟩
 exact rfl
end Go.Ear
