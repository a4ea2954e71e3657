/- About package frac: LawFracTexts. -/
import Derived.Test.YtmidncjhlnfojaaDoorNatLaw2
import Derived.Test.YtmidncjhlnfojaaDoorEarShort
import Derived.Test.YtmidncjhlnfojaaDoorProg
import Derived.Test.YtmidncjhlnfojaaDoorNatLaw3
import Derived.Test.YtmidncjhlnfojaaDoorEarFrac
import Derived.Test.YtmidncjhlnfojaaDoorEarDec
import Derived.Test.YtmidncjhlnfojaaDoorItoaLay
import Derived.Lib.ItoaMem
import Derived.Test.YtmidncjhlnfojaaDoorEarApi
import Derived.Test.YtmidncjhlnfojaaDoorEarRef2
import Derived.Test.YtmidncjhlnfojaaDoorEarLaw
import Derived.Test.YtmidncjhlnfojaaDoorEarWhole
import Derived.Test.YtmidncjhlnfojaaDoorEarText
import Derived.Test.YtmidncjhlnfojaaDoorEarText3
import Derived.Test.YtmidncjhlnfojaaDoorEarLaw2
import Derived.Test.YtmidncjhlnfojaaDoorEarText4
import Derived.Test.YtmidncjhlnfojaaDoorK1
import Derived.Test.YtmidncjhlnfojaaDoorK14
import Derived.Test.YtmidncjhlnfojaaDoorK7
import Derived.Test.YtmidncjhlnfojaaDoorK9
import Derived.Test.YtmidncjhlnfojaaDoorX12
import Derived.Test.YtmidncjhlnfojaaDoorX14
import Derived.Test.YtmidncjhlnfojaaDoorX16
set_option linter.all false
namespace Go.Ear
open Go.Proofs
set_option maxRecDepth 20000
set_option linter.unusedVariables false
set_option maxHeartbeats 2000000
theorem fracTexts_c {h : PH} {w : World} {v0 : Value} {a : Fr} (hs : Sat h w) (tb : Tab h) (pv0 : F h v0 a) :
    Calls Tryd.prog 5 #[v0] w (Ret h w fun h' r => r = .bool true) := by
 obtain ⟨b1, c1, b2, c2, rfl, k1, k2, u1, u2⟩ := F.shape pv0
 have hbq1 := F.bq pv0
 have htl := textQ_len a.rat
 refine calls_ear (vs := [.agg #[.bool a.neg, .slice b1 a.n.length c1, .slice b2 a.d.length c2]]) Tryd.func5 rfl rfl ?_
 have g1 := Gr.refl hs
 refine sr (oC (OpW.boxK (v := .agg #[.bool a.neg, .slice b1 a.n.length c1, .slice b2 a.d.length c2]) (arr := #[.bool a.neg, .slice b1 a.n.length c1, .slice b2 a.d.length c2]) g1.sat rfl rfl ?_))
 intro b3 h1 w1 gr1 qb1
 refine ma (oN (wS (sr ?_)))
 have g2 := g1.trans gr1
 refine oC (lA (cs := [.bool a.neg, .slice b1 a.n.length c1, .slice b2 a.d.length c2]) Tryd.isAgg24 Tryd.sizeOf24 rfl (g2.sat _ _ qb1) rfl rfl ?_)
 refine oC (OpW.buildSliceO (arr := #[.bool a.neg, .slice b1 a.n.length c1, .slice b2 a.d.length c2]) g2.sat Tryd.underlying50 Tryd.zeroValue24 Tryd.sizeOf24 rfl (fillF1 (.bool a.neg) (.slice b1 a.n.length c1) (.slice b2 a.d.length c2)) ?_)
 intro b4 w2 gr2 n1 lo1 o1
 have lo2 := Nat.le_trans g2.ext.size lo1
 have g4 := g2.trans gr2
 obtain ⟨h2, g3, l1, qb2, fr1⟩ := freeze_ex g4 o1 n1 lo2
 have f1 : LR rpF h2 (.slice (some ⟨b4, 0, none⟩) 1 1) [a] := LR.own' qb2 (css := [[.bool a.neg, .slice b1 a.n.length c1, .slice b2 a.d.length c2]]) rfl (Rows.cons (F.mk (U.mono u1 (gr1.le.trans l1)) (U.mono u2 (gr1.le.trans l1))) Rows.nil) rfl (Nat.le_refl _)
 refine oC (cF Tryd.call25 (lsmall_c (l := [a]) g3.sat f1 (Nat.le_of_ble_eq_true rfl)) rfl ?_)
 intro r1 h3 w3 gr3 hr1
 subst hr1
 refine oC (OpW.notB (a := smallL ([a])) (r := !(smallL ([a]))) rfl rfl (oN (Wp.cond (t := !(smallL ([a]))) rfl (fun c3 => ?_) (fun c3 => ?_))))
 replace c3 : ¬ (smallL ([a]) = true) := (raw_f (not_t c3))
 refine sr ?_
 have g5 := g3.trans gr3
 refine oC (cF Tryd.call20 (known_c  g5.sat (tb.mono ((gr1.le.trans l1).trans gr3.le)) ) rfl ?_)
 intro r2 h4 w4 gr4 hr2
 subst hr2
 refine ma (oN (Wp.ret (fin1_ret rfl (resOf_tmp (v := .bool true) rfl) ?_)))
 have g6 := g5.trans gr4
 refine ⟨h4, g6, ?_⟩
 exact rfl
 replace c3 : ¬ (¬ (smallL ([a]) = true)) := (fun n => n (not_f c3))
 have hsm := small_bf1 (by have hx := c3; simpa using hx)
 have hpt := parse_text (q := a.rat) (by omega)
 refine Wp.skip (sr ?_)
 have g7 := g3.trans gr3
 refine oC (lA (cs := [.bool a.neg, .slice b1 a.n.length c1, .slice b2 a.d.length c2]) Tryd.isAgg24 Tryd.sizeOf24 rfl (g7.sat _ _ ((l1.trans gr3.le) _ _ qb1)) rfl rfl ?_)
 refine oC (cF Tryd.call31 (Text_c (a := a) g7.sat (tb.mono ((gr1.le.trans l1).trans gr3.le)) (F.mk (U.mono u1 ((gr1.le.trans l1).trans gr3.le)) (U.mono u2 ((gr1.le.trans l1).trans gr3.le))) (by omega)) rfl ?_)
 intro r3 h5 w5 gr5 hr3
 subst hr3
 refine ma (oN (sr (mv ?_)))
 have g8 := g7.trans gr5
 refine oC (cF Tryd.call32 (Parse_c (l := textQ a.rat) g8.sat  (by omega)) rfl ?_)
 intro r4 h6 w6 gr6 hr4
 obtain ⟨r5, r6, rfl, hr5, hr6⟩ := hr4
 obtain ⟨b5, c4, b6, c5, rfl, k3, k4, u3, u4⟩ := F.shape hr5
 subst hr6
 refine mv (oC (OpW.extract (v := .agg #[.bool ((frK ((parseQ (textQ a.rat)).1)).neg), .slice b5 ((frK ((parseQ (textQ a.rat)).1)).n.length) c4, .slice b6 ((frK ((parseQ (textQ a.rat)).1)).d.length) c5]) rfl rfl ?_))
 refine oC (OpW.extract (v := .int .i64 ((parseQ (textQ a.rat)).2)) rfl rfl ?_)
 have g9 := g8.trans gr6
 refine oC (OpW.allocO (arr := #[.bool false, .slice none 0 0, .slice none 0 0]) g9.sat Tryd.zeroValue24 rfl ?_)
 intro b7 w7 gr7 n2 lo3 o2
 have lo4 := Nat.le_trans g9.ext.size lo3
 refine oC (sA (cs := [.bool ((frK ((parseQ (textQ a.rat)).1)).neg), .slice b5 ((frK ((parseQ (textQ a.rat)).1)).n.length) c4, .slice b6 ((frK ((parseQ (textQ a.rat)).1)).d.length) c5]) Tryd.sizeOf24 rfl rfl rfl rfl o2 rfl ?_)
 intro w8 p1
 refine ma (oN (wS (fg [(1, .pointer (some ⟨b3, 0, none⟩)), (3, .string (S (textQ a.rat))), (4, .pointer (some ⟨b7, 0, none⟩)), (5, .int .i64 ((parseQ (textQ a.rat)).2))] rfl (fun ρ1 => ?_))))
 have g10 := (g9.trans gr7).put p1 n2 lo4
 refine Wp.dagL 18 [18, 19, 20, 21, 22, 23, 24, 25, 26, 27, 28, 29, 30, 31, 32, 33, 34, 2] [eqv (.string (S (textQ a.rat))), eqv (.agg #[.bool a.neg, .slice b1 a.n.length c1, .slice b2 a.d.length c2]), eqv (.string (S (textQ a.rat))), eqv (.bool true), eqv (.bool true), eqv (.int .i64 ((parseQ (textQ a.rat)).2)), eqv (.bool true), eqv (.bool true), eqv (.bool true), eqv (.agg #[.bool ((frK ((parseQ (textQ a.rat)).1)).neg), .slice b5 ((frK ((parseQ (textQ a.rat)).1)).n.length) c4, .slice b6 ((frK ((parseQ (textQ a.rat)).1)).d.length) c5]), eqv (.agg #[.bool a.neg, .slice b1 a.n.length c1, .slice b2 a.d.length c2]), fun h _ x => Kn h x a.rat, eqv (.bool true), eqv (.bool true), eqv (.bool true), eqv (.bool true), eqv (.bool true), eqv (.bool true)] mixed g10.sat rfl (by decide +kernel) ⟨sQ _, sQ _, sQ _, sQ _, sQ _, sQ _, sQ _, sQ _, sQ _, sQ _, sQ _, (stab_K a.rat), sQ _, sQ _, sQ _, sQ _, sQ _, sQ _, trivial⟩ ?_ ?_
 intro stab
 refine ⟨?_, ?_, ?_, ?_, ?_, ?_, ?_, ?_, ?_, ?_, ?_, ?_, ?_, ?_, ?_, ?_, ?_, ?_, trivial⟩
 intro ρ2 h7 w9 g11 hdd1 hdo1
 have e1 : ρ2 3 = .string (S (textQ a.rat)) := hdo1 3 rfl
 refine gP (OpW.move (v := .string (S (textQ a.rat))) e1 ?_)
 exact ⟨_, h7, rfl, g11, fun j x _ p => p, rfl⟩
 intro ρ3 h8 w10 g12 hdd2 hdo2
 have e2 : ρ3 1 = .pointer (some ⟨b3, 0, none⟩) := hdo2 1 rfl
 have g13 := g10.trans g12
 refine gP (lA (cs := [.bool a.neg, .slice b1 a.n.length c1, .slice b2 a.d.length c2]) Tryd.isAgg24 Tryd.sizeOf24 e2 (g13.sat _ _ (((((l1.trans gr3.le).trans gr5.le).trans gr6.le).trans g12.le) _ _ qb1)) rfl rfl ?_)
 exact ⟨_, h8, rfl, g12, fun j x _ p => p, rfl⟩
 intro ρ4 h9 w11 g14 hdd3 hdo3
 have e3 : ρ4 19 = .agg #[.bool a.neg, .slice b1 a.n.length c1, .slice b2 a.d.length c2] := hdd3 1 (by decide)
 have g15 := g10.trans g14
 refine gP (cF Tryd.call33 (rText_c (a := a) g15.sat (F.mk (U.mono u1 (((((gr1.le.trans l1).trans gr3.le).trans gr5.le).trans gr6.le).trans g14.le)) (U.mono u2 (((((gr1.le.trans l1).trans gr3.le).trans gr5.le).trans gr6.le).trans g14.le))) (by omega)) (cx e3 cxn) ?_)
 intro r7 h10 w12 gr8 hr7
 exact ⟨r7, h10, rfl, g14.trans gr8, fun j x _ => stab j _ _ _ _ x gr8, hr7⟩
 intro ρ5 h11 w13 g16 hdd4 hdo4
 have e4 : ρ5 18 = .string (S (textQ a.rat)) := hdd4 0 (by decide)
 have e5 : ρ5 20 = .string (S (textQ a.rat)) := hdd4 2 (by decide)
 refine gP (OpW.eqlSS (a := textQ a.rat) (b := textQ a.rat) (r := true) e4 e5 (decide_eq_true rfl) ?_)
 exact ⟨_, h11, rfl, g16, fun j x _ p => p, rfl⟩
 intro ρ6 h12 w14 g17 hdd5 hdo5
 have e6 : ρ6 21 = .bool true := hdd5 3 (by decide)
 refine gP (OpW.move (v := .bool true) e6 ?_)
 exact ⟨_, h12, rfl, g17, fun j x _ p => p, rfl⟩
 intro ρ7 h13 w15 g18 hdd6 hdo6
 have e7 : ρ7 5 = .int .i64 ((parseQ (textQ a.rat)).2) := hdo6 5 rfl
 have e8 : ρ7 22 = .bool true := hdd6 4 (by decide)
 refine gL (d := 22) (b := true) ?_ ?_ ?_ ?_
 · rfl
 · rfl
 · exact e8
 refine (OpW.move (v := .int .i64 ((parseQ (textQ a.rat)).2)) e7 ?_)
 exact ⟨_, h13, rfl, g18, fun j x _ p => p, rfl⟩
 intro ρ8 h14 w16 g19 hdd7 hdo7
 have e9 : ρ8 22 = .bool true := hdd7 4 (by decide)
 have e10 : ρ8 23 = .int .i64 ((parseQ (textQ a.rat)).2) := hdd7 5 (by decide)
 refine gL (d := 22) (b := true) ?_ ?_ ?_ ?_
 · rfl
 · rfl
 · exact e9
 refine (OpW.eqlI (a := ((parseQ (textQ a.rat)).2)) (b := ((0 : Nat) : Int)) (r := true) e10 rfl (decide_eq_true (by rw [hpt]; rfl)) ?_)
 exact ⟨_, h14, rfl, g19, fun j x _ p => p, rfl⟩
 intro ρ9 h15 w17 g20 hdd8 hdo8
 have e11 : ρ9 22 = .bool true := hdd8 4 (by decide)
 have e12 : ρ9 24 = .bool true := hdd8 6 (by decide)
 refine gP (pT (v := .bool true) e11 e12 ?_)
 exact ⟨_, h15, rfl, g20, fun j x _ p => p, rfl⟩
 intro ρ10 h16 w18 g21 hdd9 hdo9
 have e13 : ρ10 25 = .bool true := hdd9 7 (by decide)
 refine gP (OpW.move (v := .bool true) e13 ?_)
 exact ⟨_, h16, rfl, g21, fun j x _ p => p, rfl⟩
 intro ρ11 h17 w19 g22 hdd10 hdo10
 have e14 : ρ11 4 = .pointer (some ⟨b7, 0, none⟩) := hdo10 4 rfl
 have e15 : ρ11 26 = .bool true := hdd10 8 (by decide)
 refine gL (d := 26) (b := true) ?_ ?_ ?_ ?_
 · rfl
 · rfl
 · exact e15
 have o4 := g22.kp ⟨p1.at_, n2⟩
 refine (lA (cs := [.bool ((frK ((parseQ (textQ a.rat)).1)).neg), .slice b5 ((frK ((parseQ (textQ a.rat)).1)).n.length) c4, .slice b6 ((frK ((parseQ (textQ a.rat)).1)).d.length) c5]) Tryd.isAgg24 Tryd.sizeOf24 e14 o4.1 rfl rfl ?_)
 exact ⟨_, h17, rfl, g22, fun j x _ p => p, rfl⟩
 intro ρ12 h18 w20 g23 hdd11 hdo11
 have e16 : ρ12 1 = .pointer (some ⟨b3, 0, none⟩) := hdo11 1 rfl
 have e17 : ρ12 26 = .bool true := hdd11 8 (by decide)
 refine gL (d := 26) (b := true) ?_ ?_ ?_ ?_
 · rfl
 · rfl
 · exact e17
 have g24 := g10.trans g23
 refine (lA (cs := [.bool a.neg, .slice b1 a.n.length c1, .slice b2 a.d.length c2]) Tryd.isAgg24 Tryd.sizeOf24 e16 (g24.sat _ _ (((((l1.trans gr3.le).trans gr5.le).trans gr6.le).trans g23.le) _ _ qb1)) rfl rfl ?_)
 exact ⟨_, h18, rfl, g23, fun j x _ p => p, rfl⟩
 intro ρ13 h19 w21 g25 hdd12 hdo12
 have e18 : ρ13 26 = .bool true := hdd12 8 (by decide)
 have e19 : ρ13 28 = .agg #[.bool a.neg, .slice b1 a.n.length c1, .slice b2 a.d.length c2] := hdd12 10 (by decide)
 refine gL (d := 26) (b := true) ?_ ?_ ?_ ?_
 · rfl
 · rfl
 · exact e18
 have g26 := g10.trans g25
 refine (cF Tryd.call34 (rCanon_c (a := a) g26.sat (F.mk (U.mono u1 (((((gr1.le.trans l1).trans gr3.le).trans gr5.le).trans gr6.le).trans g25.le)) (U.mono u2 (((((gr1.le.trans l1).trans gr3.le).trans gr5.le).trans gr6.le).trans g25.le))) (by omega)) (cx e19 cxn) ?_)
 intro r8 h20 w22 gr9 hr8
 exact ⟨r8, h20, rfl, g25.trans gr9, fun j x _ => stab j _ _ _ _ x gr9, hr8⟩
 intro ρ14 h21 w23 g27 hdd13 hdo13
 have e20 : ρ14 26 = .bool true := hdd13 8 (by decide)
 have e21 : ρ14 27 = .agg #[.bool ((frK ((parseQ (textQ a.rat)).1)).neg), .slice b5 ((frK ((parseQ (textQ a.rat)).1)).n.length) c4, .slice b6 ((frK ((parseQ (textQ a.rat)).1)).d.length) c5] := hdd13 9 (by decide)
 have q1 : Kn h21 (ρ14 29) a.rat := hdd13 11 (by decide)
 refine gL (d := 26) (b := true) ?_ ?_ ?_ ?_
 · rfl
 · rfl
 · exact e20
 have g28 := g10.trans g27
 refine (cF Tryd.call22 (rSame_c (f := frK ((parseQ (textQ a.rat)).1)) (g := frK a.rat) g28.sat (F.mk (U.mono u3 g27.le) (U.mono u4 g27.le)) q1 (by rw [bf_frK, hpt]; show bq a.rat ≤ _; omega) (by first | omega | (simp only [bf_frK, frK_rat, wts_cons, wts_nil]; omega))) (cx e21 (cx rfl cxn)) ?_)
 intro r9 h22 w24 gr10 hr9
 replace hr9 := hr9.trans (congrArg Value.bool (sameF_cast (congrArg frK (congrArg Prod.fst hpt))))
 exact ⟨r9, h22, rfl, g27.trans gr10, fun j x _ => stab j _ _ _ _ x gr10, hr9⟩
 intro ρ15 h23 w25 g29 hdd14 hdo14
 have e22 : ρ15 26 = .bool true := hdd14 8 (by decide)
 have e23 : ρ15 30 = .bool true := hdd14 12 (by decide)
 refine gP (pT (v := .bool true) e22 e23 ?_)
 exact ⟨_, h23, rfl, g29, fun j x _ p => p, rfl⟩
 intro ρ16 h24 w26 g30 hdd15 hdo15
 have e24 : ρ16 31 = .bool true := hdd15 13 (by decide)
 refine gP (OpW.move (v := .bool true) e24 ?_)
 exact ⟨_, h24, rfl, g30, fun j x _ p => p, rfl⟩
 intro ρ17 h25 w27 g31 hdd16 hdo16
 have e25 : ρ17 32 = .bool true := hdd16 14 (by decide)
 refine gL (d := 32) (b := true) ?_ ?_ ?_ ?_
 · rfl
 · rfl
 · exact e25
 have g32 := g10.trans g31
 refine (cF Tryd.call20 (known_c  g32.sat (tb.mono (((((gr1.le.trans l1).trans gr3.le).trans gr5.le).trans gr6.le).trans g31.le)) ) rfl ?_)
 intro r10 h26 w28 gr11 hr10
 exact ⟨r10, h26, rfl, g31.trans gr11, fun j x _ => stab j _ _ _ _ x gr11, hr10⟩
 intro ρ18 h27 w29 g33 hdd17 hdo17
 have e26 : ρ18 32 = .bool true := hdd17 14 (by decide)
 have e27 : ρ18 33 = .bool true := hdd17 15 (by decide)
 refine gP (pT (v := .bool true) e26 e27 ?_)
 exact ⟨_, h27, rfl, g33, fun j x _ p => p, rfl⟩
 intro ρ19 h28 w30 g34 hdd18 hdo18
 have e28 : ρ19 34 = .bool true := hdd18 16 (by decide)
 refine gP (OpW.assign (v := .bool true) e28 ?_)
 exact ⟨_, h28, rfl, g34, fun j x _ p => p, rfl⟩
 intro ρ20 h29 w31 g35 hdp1 hdo19
 have e29 : ρ20 2 = .bool true := hdp1 17 rfl
 refine Ops.forget [(2, .bool true)] ⟨e29, trivial⟩ (fun ρ21 => (oN (Wp.ret (fin1_ret rfl (resOf_tmp (v := .bool true) rfl) ?_))))
 have g36 := g10.trans g35
 refine ⟨h29, g36, ?_⟩
 exact rfl
end Go.Ear
