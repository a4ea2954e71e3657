/- About package frac: LawFracOwn. -/
import Derived.Test.YtmidncjhlnfojaaDoorNatLaw2
import Derived.Test.YtmidncjhlnfojaaDoorEarShort
import Derived.Test.YtmidncjhlnfojaaDoorProg
import Derived.Test.YtmidncjhlnfojaaDoorNatLaw3
import Derived.Test.YtmidncjhlnfojaaDoorEarFrac
import Derived.Test.YtmidncjhlnfojaaDoorEarDec
import Derived.Test.YtmidncjhlnfojaaDoorItoaLay
import Derived.Lib.ItoaMem
import Derived.Test.YtmidncjhlnfojaaDoorEarApi
import Derived.Test.YtmidncjhlnfojaaDoorEarRef2
import Derived.Test.YtmidncjhlnfojaaDoorEarLaw
import Derived.Test.YtmidncjhlnfojaaDoorEarWhole
import Derived.Test.YtmidncjhlnfojaaDoorEarTexts
import Derived.Test.YtmidncjhlnfojaaDoorEarFresh
import Derived.Test.YtmidncjhlnfojaaDoorEarLaw2
import Derived.Test.YtmidncjhlnfojaaDoorK1
import Derived.Test.YtmidncjhlnfojaaDoorK14
import Derived.Test.YtmidncjhlnfojaaDoorX12
import Derived.Test.YtmidncjhlnfojaaDoorX14
import Derived.Test.YtmidncjhlnfojaaDoorX19
set_option linter.all false
namespace Go.Ear
open Go.Proofs
set_option maxRecDepth 20000
set_option linter.unusedVariables false
set_option maxHeartbeats 2000000
theorem fracOwn_c {h : PH} {w : World} {v0 : Value} {a : Fr} {v1 : Value} {b : Fr} (hs : Sat h w) (tb : Tab h) (pv0 : F h v0 a) (pv1 : F h v1 b) :
    Calls Tryd.prog 14 #[v0, v1] w (Ret h w fun h' r => r = .bool true) := by
 obtain ⟨b1, c1, b2, c2, rfl, k1, k2, u1, u2⟩ := F.shape pv0
 have hbq1 := F.bq pv0
 obtain ⟨b3, c3, b4, c4, rfl, k3, k4, u3, u4⟩ := F.shape pv1
 have hbq2 := F.bq pv1
 have hbn := bf_n a
 have hbd := bf_d a
 have hbp := bf_pos a
 have hbn2 := bf_n b
 have hbd2 := bf_d b
 have hbp2 := bf_pos b
 have hB1 := bq_add a.rat b.rat
 have hB2 := bq_sub a.rat b.rat
 have hB3 := bq_mul a.rat b.rat
 have hB4 := bq_neg a.rat
 have hB5 : bq (sumF [a]) = bq a.rat := by rw [sumF_one]
 have hB6 : bq (prodF [a]) = bq a.rat := by rw [prodF_one]
 have hB7 := bq_powP (q := a.rat) (n := ((1 : Nat) : Int)) (by omega)
 refine calls_ear (vs := [.agg #[.bool a.neg, .slice b1 a.n.length c1, .slice b2 a.d.length c2], .agg #[.bool b.neg, .slice b3 b.n.length c3, .slice b4 b.d.length c4]]) Tryd.func14 rfl rfl ?_
 have g1 := Gr.refl hs
 refine sr (oC (OpW.boxK (v := .agg #[.bool a.neg, .slice b1 a.n.length c1, .slice b2 a.d.length c2]) (arr := #[.bool a.neg, .slice b1 a.n.length c1, .slice b2 a.d.length c2]) g1.sat rfl rfl ?_))
 intro b5 h1 w1 gr1 qb1
 have g2 := g1.trans gr1
 refine oC (OpW.boxK (v := .agg #[.bool b.neg, .slice b3 b.n.length c3, .slice b4 b.d.length c4]) (arr := #[.bool b.neg, .slice b3 b.n.length c3, .slice b4 b.d.length c4]) g2.sat rfl rfl ?_)
 intro b6 h2 w2 gr2 qb2
 refine ma (oN (wS (sr ?_)))
 have g3 := g2.trans gr2
 refine oC (lA (cs := [.bool a.neg, .slice b1 a.n.length c1, .slice b2 a.d.length c2]) Tryd.isAgg24 Tryd.sizeOf24 rfl (g3.sat _ _ (gr2.le _ _ qb1)) rfl rfl ?_)
 refine oC (lA (cs := [.bool b.neg, .slice b3 b.n.length c3, .slice b4 b.d.length c4]) Tryd.isAgg24 Tryd.sizeOf24 rfl (g3.sat _ _ qb2) rfl rfl ?_)
 refine oC (OpW.buildSliceO (arr := #[.bool a.neg, .slice b1 a.n.length c1, .slice b2 a.d.length c2, .bool b.neg, .slice b3 b.n.length c3, .slice b4 b.d.length c4]) g3.sat Tryd.underlying50 Tryd.zeroValue24 Tryd.sizeOf24 rfl (fillF2 (.bool a.neg) (.slice b1 a.n.length c1) (.slice b2 a.d.length c2) (.bool b.neg) (.slice b3 b.n.length c3) (.slice b4 b.d.length c4)) ?_)
 intro b7 w3 gr3 n1 lo1 o1
 have lo2 := Nat.le_trans g3.ext.size lo1
 have g5 := g3.trans gr3
 obtain ⟨h3, g4, l1, qb3, fr1⟩ := freeze_ex g5 o1 n1 lo2
 have f1 : LR rpF h3 (.slice (some ⟨b7, 0, none⟩) 2 2) [a, b] := LR.own' qb3 (css := [[.bool a.neg, .slice b1 a.n.length c1, .slice b2 a.d.length c2], [.bool b.neg, .slice b3 b.n.length c3, .slice b4 b.d.length c4]]) rfl (Rows.cons (F.mk (U.mono u1 ((gr1.le.trans gr2.le).trans l1)) (U.mono u2 ((gr1.le.trans gr2.le).trans l1))) (Rows.cons (F.mk (U.mono u3 ((gr1.le.trans gr2.le).trans l1)) (U.mono u4 ((gr1.le.trans gr2.le).trans l1))) Rows.nil)) rfl (Nat.le_refl _)
 refine oC (cF Tryd.call25 (lsmall_c (l := [a, b]) g4.sat f1 (Nat.le_of_ble_eq_true rfl)) rfl ?_)
 intro r1 h4 w4 gr4 hr1
 subst hr1
 refine oC (OpW.notB (a := smallL ([a, b])) (r := !(smallL ([a, b]))) rfl rfl (oN (Wp.cond (t := !(smallL ([a, b]))) rfl (fun c5 => ?_) (fun c5 => ?_))))
 replace c5 : ¬ (smallL ([a, b]) = true) := (raw_f (not_t c5))
 refine sr ?_
 have g6 := g4.trans gr4
 refine oC (cF Tryd.call20 (known_c  g6.sat (tb.mono (((gr1.le.trans gr2.le).trans l1).trans gr4.le)) ) rfl ?_)
 intro r2 h5 w5 gr5 hr2
 subst hr2
 refine ma (oN (Wp.ret (fin1_ret rfl (resOf_tmp (v := .bool true) rfl) ?_)))
 have g7 := g6.trans gr5
 refine ⟨h5, g7, ?_⟩
 exact rfl
 replace c5 : ¬ (¬ (smallL ([a, b]) = true)) := (fun n => n (not_f c5))
 have hsm := small_bf2 (by have hx := c5; simpa using hx)
 refine Wp.skip (wS ?_)
 have g8 := g4.trans gr4
 refine Wp.dagL 10 [19, 20, 21, 22, 23, 24, 25, 26, 27, 5] [eqv (.pointer (some ⟨b5, 0, none⟩)), eqv (.bool a.neg), eqv (.pointer (some ⟨b5, 1, none⟩)), eqv (.slice b1 a.n.length c1), fun hq _ x => U hq x a.n, eqv (.pointer (some ⟨b5, 2, none⟩)), eqv (.slice b2 a.d.length c2), fun hq _ x => U hq x a.d, fun hq _ x => ∃ b8z c6z b9z c7z, x = .agg #[.bool a.neg, .slice b8z a.n.length c6z, .slice b9z a.d.length c7z] ∧ U hq (.slice b8z a.n.length c6z) a.n ∧ U hq (.slice b9z a.d.length c7z) a.d, fun h w x => ∃ b, x = .pointer (some ⟨b, 0, none⟩) ∧ w4.heap.size ≤ b ∧ h b = none ∧ w.heap[b]? = some (.cells #[.bool false, .slice none 0 0, .slice none 0 0] 24 (0, 0))] mixed g8.sat rfl (by decide +kernel) ⟨sQ _, sQ _, sQ _, sQ _, (stab_U a.n), sQ _, sQ _, (stab_U a.d), (fun _ _ _ _ _ g ⟨_, _, _, _, e, f0, f1⟩ => ⟨_, _, _, _, e, U.mono f0 g.le, U.mono f1 g.le⟩), stab_own _ _ _, trivial⟩ ?_ ?_
 intro stab
 refine ⟨?_, ?_, ?_, ?_, ?_, ?_, ?_, ?_, ?_, ?_, trivial⟩
 intro ρ1 h6 w6 g9 hdd1 hdo1
 have e1 : ρ1 2 = .pointer (some ⟨b5, 0, none⟩) := hdo1 2 rfl
 refine gP (fA (o := 0) Tryd.underlying24 rfl Tryd.sizeOf4 (by decide) e1 rfl ?_)
 exact ⟨_, h6, rfl, g9, fun j x _ p => p, rfl⟩
 intro ρ2 h7 w7 g10 hdd2 hdo2
 have e2 : ρ2 19 = .pointer (some ⟨b5, 0, none⟩) := hdd2 0 (by decide)
 have g11 := g8.trans g10
 refine gP (lO (v := .bool a.neg) Tryd.isAgg4 e2 (g11.sat _ _ ((((gr2.le.trans l1).trans gr4.le).trans g10.le) _ _ qb1)) rfl ?_)
 exact ⟨_, h7, rfl, g10, fun j x _ p => p, rfl⟩
 intro ρ3 h8 w8 g12 hdd3 hdo3
 have e3 : ρ3 2 = .pointer (some ⟨b5, 0, none⟩) := hdo3 2 rfl
 refine gP (fA (o := 1) Tryd.underlying24 rfl Tryd.sizeOf22 (by decide) e3 rfl ?_)
 exact ⟨_, h8, rfl, g12, fun j x _ p => p, rfl⟩
 intro ρ4 h9 w9 g13 hdd4 hdo4
 have e4 : ρ4 21 = .pointer (some ⟨b5, 1, none⟩) := hdd4 2 (by decide)
 have g14 := g8.trans g13
 refine gP (lO (v := .slice b1 a.n.length c1) Tryd.isAgg22 e4 (g14.sat _ _ ((((gr2.le.trans l1).trans gr4.le).trans g13.le) _ _ qb1)) rfl ?_)
 exact ⟨_, h9, rfl, g13, fun j x _ p => p, rfl⟩
 intro ρ5 h10 w10 g15 hdd5 hdo5
 have e5 : ρ5 22 = .slice b1 a.n.length c1 := hdd5 3 (by decide)
 have g16 := g8.trans g15
 refine gP (OpW.cloneU g16.sat Tryd.underlying22 Tryd.type51 rfl rfl rfl rfl e5 (U.mono u1 ((((gr1.le.trans gr2.le).trans l1).trans gr4.le).trans g15.le)) (by omega) (by simp only [Tryd.t51]; omega) ?_)
 intro r3 h11 w11 gr6 hr3
 exact ⟨r3, h11, rfl, g15.trans gr6, fun j x _ => stab j _ _ _ _ x gr6, hr3⟩
 intro ρ6 h12 w12 g17 hdd6 hdo6
 have e6 : ρ6 2 = .pointer (some ⟨b5, 0, none⟩) := hdo6 2 rfl
 refine gP (fA (o := 2) Tryd.underlying24 rfl Tryd.sizeOf22 (by decide) e6 rfl ?_)
 exact ⟨_, h12, rfl, g17, fun j x _ p => p, rfl⟩
 intro ρ7 h13 w13 g18 hdd7 hdo7
 have e7 : ρ7 24 = .pointer (some ⟨b5, 2, none⟩) := hdd7 5 (by decide)
 have g19 := g8.trans g18
 refine gP (lO (v := .slice b2 a.d.length c2) Tryd.isAgg22 e7 (g19.sat _ _ ((((gr2.le.trans l1).trans gr4.le).trans g18.le) _ _ qb1)) rfl ?_)
 exact ⟨_, h13, rfl, g18, fun j x _ p => p, rfl⟩
 intro ρ8 h14 w14 g20 hdd8 hdo8
 have e8 : ρ8 25 = .slice b2 a.d.length c2 := hdd8 6 (by decide)
 have g21 := g8.trans g20
 refine gP (OpW.cloneU g21.sat Tryd.underlying22 Tryd.type51 rfl rfl rfl rfl e8 (U.mono u2 ((((gr1.le.trans gr2.le).trans l1).trans gr4.le).trans g20.le)) (by omega) (by simp only [Tryd.t51]; omega) ?_)
 intro r4 h15 w15 gr7 hr4
 exact ⟨r4, h15, rfl, g20.trans gr7, fun j x _ => stab j _ _ _ _ x gr7, hr4⟩
 intro ρ9 h16 w16 g22 hdd9 hdo9
 have e9 : ρ9 20 = .bool a.neg := hdd9 1 (by decide)
 have q1 : U h16 (ρ9 23) a.n := hdd9 4 (by decide)
 obtain ⟨x1, hx1⟩ : ∃ x, ρ9 23 = x := ⟨_, rfl⟩
 rw [hx1] at q1
 obtain ⟨b8, c6, rfl, k5⟩ := U.shape q1
 have q2 : U h16 (ρ9 26) a.d := hdd9 7 (by decide)
 obtain ⟨x2, hx2⟩ : ∃ x, ρ9 26 = x := ⟨_, rfl⟩
 rw [hx2] at q2
 obtain ⟨b9, c7, rfl, k6⟩ := U.shape q2
 refine gP (OpW.build (places := [(0, 1), (1, 1), (2, 1)]) (cs := [.bool a.neg, .slice b8 a.n.length c6, .slice b9 a.d.length c7]) Tryd.underlying24 Tryd.zeroValue24 (fun _ => by kernel_rfl) (by show Instr.fill _ _ [(0, ρ9 20), (1, ρ9 23), (2, ρ9 26)] = _; rw [e9, hx1, hx2]; rfl) ?_)
 exact ⟨_, h16, rfl, g22, fun j x _ p => p, ⟨_, _, _, _, rfl, q1, q2⟩⟩
 intro ρ10 h17 w17 g23 hdd10 hdo10
 have g24 := g8.trans g23
 refine gP (OpW.allocO (arr := #[.bool false, .slice none 0 0, .slice none 0 0]) g24.sat Tryd.zeroValue24 rfl ?_)
 intro b10 w18 gr8 n2 lo3 o2
 exact ⟨_, h17, rfl, g23.trans gr8, fun j x _ => stab j _ _ _ _ x gr8, b10, rfl, Nat.le_trans g23.ext.size lo3, n2, o2⟩
 intro ρ11 h18 w19 g25 hdp1 hdo11
 have e10 : ρ11 2 = .pointer (some ⟨b5, 0, none⟩) := hdo11 2 rfl
 have e11 : ρ11 3 = .pointer (some ⟨b6, 0, none⟩) := hdo11 3 rfl
 obtain ⟨b11, hx3, lo4, n3, o3⟩ : ∃ b, ρ11 5 = .pointer (some ⟨b, 0, none⟩) ∧ _ := hdp1 9 rfl
 have lo5 := Nat.le_trans g8.ext.size lo4
 have q3 : ∃ b8z c6z b9z c7z, (ρ11 27) = .agg #[.bool a.neg, .slice b8z a.n.length c6z, .slice b9z a.d.length c7z] ∧ U h18 (.slice b8z a.n.length c6z) a.n ∧ U h18 (.slice b9z a.d.length c7z) a.d := hdp1 8 rfl
 obtain ⟨b12, c8, b13, c9, e12, q4, q5⟩ := q3
 have e12 : ρ11 27 = .agg #[.bool a.neg, .slice b12 a.n.length c8, .slice b13 a.d.length c9] := e12
 refine Ops.forget [(2, .pointer (some ⟨b5, 0, none⟩)), (3, .pointer (some ⟨b6, 0, none⟩)), (5, .pointer (some ⟨b11, 0, none⟩)), (27, .agg #[.bool a.neg, .slice b12 a.n.length c8, .slice b13 a.d.length c9])] ⟨e10, e11, hx3, e12, trivial⟩ (fun ρ12 => ?_)
 refine oC (sA (cs := [.bool a.neg, .slice b12 a.n.length c8, .slice b13 a.d.length c9]) Tryd.sizeOf24 rfl rfl rfl rfl o3 rfl ?_)
 intro w20 p1
 refine oN (wS ?_)
 have g26 := (g8.trans g25).put p1 n3 lo5
 refine Wp.dagL 10 [28, 29, 30, 31, 32, 33, 34, 35, 36, 6] [eqv (.pointer (some ⟨b6, 0, none⟩)), eqv (.bool b.neg), eqv (.pointer (some ⟨b6, 1, none⟩)), eqv (.slice b3 b.n.length c3), fun hq _ x => U hq x b.n, eqv (.pointer (some ⟨b6, 2, none⟩)), eqv (.slice b4 b.d.length c4), fun hq _ x => U hq x b.d, fun hq _ x => ∃ b14z c10z b15z c11z, x = .agg #[.bool b.neg, .slice b14z b.n.length c10z, .slice b15z b.d.length c11z] ∧ U hq (.slice b14z b.n.length c10z) b.n ∧ U hq (.slice b15z b.d.length c11z) b.d, fun h w x => ∃ b, x = .pointer (some ⟨b, 0, none⟩) ∧ w20.heap.size ≤ b ∧ h b = none ∧ w.heap[b]? = some (.cells #[.bool false, .slice none 0 0, .slice none 0 0] 24 (0, 0))] mixed g26.sat rfl (by decide +kernel) ⟨sQ _, sQ _, sQ _, sQ _, (stab_U b.n), sQ _, sQ _, (stab_U b.d), (fun _ _ _ _ _ g ⟨_, _, _, _, e, f0, f1⟩ => ⟨_, _, _, _, e, U.mono f0 g.le, U.mono f1 g.le⟩), stab_own _ _ _, trivial⟩ ?_ ?_
 intro stab
 refine ⟨?_, ?_, ?_, ?_, ?_, ?_, ?_, ?_, ?_, ?_, trivial⟩
 intro ρ13 h19 w21 g27 hdd11 hdo12
 have e13 : ρ13 3 = .pointer (some ⟨b6, 0, none⟩) := hdo12 3 rfl
 refine gP (fA (o := 0) Tryd.underlying24 rfl Tryd.sizeOf4 (by decide) e13 rfl ?_)
 exact ⟨_, h19, rfl, g27, fun j x _ p => p, rfl⟩
 intro ρ14 h20 w22 g28 hdd12 hdo13
 have e14 : ρ14 28 = .pointer (some ⟨b6, 0, none⟩) := hdd12 0 (by decide)
 have g29 := g26.trans g28
 refine gP (lO (v := .bool b.neg) Tryd.isAgg4 e14 (g29.sat _ _ ((((l1.trans gr4.le).trans g25.le).trans g28.le) _ _ qb2)) rfl ?_)
 exact ⟨_, h20, rfl, g28, fun j x _ p => p, rfl⟩
 intro ρ15 h21 w23 g30 hdd13 hdo14
 have e15 : ρ15 3 = .pointer (some ⟨b6, 0, none⟩) := hdo14 3 rfl
 refine gP (fA (o := 1) Tryd.underlying24 rfl Tryd.sizeOf22 (by decide) e15 rfl ?_)
 exact ⟨_, h21, rfl, g30, fun j x _ p => p, rfl⟩
 intro ρ16 h22 w24 g31 hdd14 hdo15
 have e16 : ρ16 30 = .pointer (some ⟨b6, 1, none⟩) := hdd14 2 (by decide)
 have g32 := g26.trans g31
 refine gP (lO (v := .slice b3 b.n.length c3) Tryd.isAgg22 e16 (g32.sat _ _ ((((l1.trans gr4.le).trans g25.le).trans g31.le) _ _ qb2)) rfl ?_)
 exact ⟨_, h22, rfl, g31, fun j x _ p => p, rfl⟩
 intro ρ17 h23 w25 g33 hdd15 hdo16
 have e17 : ρ17 31 = .slice b3 b.n.length c3 := hdd15 3 (by decide)
 have g34 := g26.trans g33
 refine gP (OpW.cloneU g34.sat Tryd.underlying22 Tryd.type51 rfl rfl rfl rfl e17 (U.mono u3 (((((gr1.le.trans gr2.le).trans l1).trans gr4.le).trans g25.le).trans g33.le)) (by omega) (by simp only [Tryd.t51]; omega) ?_)
 intro r5 h24 w26 gr9 hr5
 exact ⟨r5, h24, rfl, g33.trans gr9, fun j x _ => stab j _ _ _ _ x gr9, hr5⟩
 intro ρ18 h25 w27 g35 hdd16 hdo17
 have e18 : ρ18 3 = .pointer (some ⟨b6, 0, none⟩) := hdo17 3 rfl
 refine gP (fA (o := 2) Tryd.underlying24 rfl Tryd.sizeOf22 (by decide) e18 rfl ?_)
 exact ⟨_, h25, rfl, g35, fun j x _ p => p, rfl⟩
 intro ρ19 h26 w28 g36 hdd17 hdo18
 have e19 : ρ19 33 = .pointer (some ⟨b6, 2, none⟩) := hdd17 5 (by decide)
 have g37 := g26.trans g36
 refine gP (lO (v := .slice b4 b.d.length c4) Tryd.isAgg22 e19 (g37.sat _ _ ((((l1.trans gr4.le).trans g25.le).trans g36.le) _ _ qb2)) rfl ?_)
 exact ⟨_, h26, rfl, g36, fun j x _ p => p, rfl⟩
 intro ρ20 h27 w29 g38 hdd18 hdo19
 have e20 : ρ20 34 = .slice b4 b.d.length c4 := hdd18 6 (by decide)
 have g39 := g26.trans g38
 refine gP (OpW.cloneU g39.sat Tryd.underlying22 Tryd.type51 rfl rfl rfl rfl e20 (U.mono u4 (((((gr1.le.trans gr2.le).trans l1).trans gr4.le).trans g25.le).trans g38.le)) (by omega) (by simp only [Tryd.t51]; omega) ?_)
 intro r6 h28 w30 gr10 hr6
 exact ⟨r6, h28, rfl, g38.trans gr10, fun j x _ => stab j _ _ _ _ x gr10, hr6⟩
 intro ρ21 h29 w31 g40 hdd19 hdo20
 have e21 : ρ21 29 = .bool b.neg := hdd19 1 (by decide)
 have q6 : U h29 (ρ21 32) b.n := hdd19 4 (by decide)
 obtain ⟨x3, hx4⟩ : ∃ x, ρ21 32 = x := ⟨_, rfl⟩
 rw [hx4] at q6
 obtain ⟨b14, c10, rfl, k7⟩ := U.shape q6
 have q7 : U h29 (ρ21 35) b.d := hdd19 7 (by decide)
 obtain ⟨x4, hx5⟩ : ∃ x, ρ21 35 = x := ⟨_, rfl⟩
 rw [hx5] at q7
 obtain ⟨b15, c11, rfl, k8⟩ := U.shape q7
 refine gP (OpW.build (places := [(0, 1), (1, 1), (2, 1)]) (cs := [.bool b.neg, .slice b14 b.n.length c10, .slice b15 b.d.length c11]) Tryd.underlying24 Tryd.zeroValue24 (fun _ => by kernel_rfl) (by show Instr.fill _ _ [(0, ρ21 29), (1, ρ21 32), (2, ρ21 35)] = _; rw [e21, hx4, hx5]; rfl) ?_)
 exact ⟨_, h29, rfl, g40, fun j x _ p => p, ⟨_, _, _, _, rfl, q6, q7⟩⟩
 intro ρ22 h30 w32 g41 hdd20 hdo21
 have g42 := g26.trans g41
 refine gP (OpW.allocO (arr := #[.bool false, .slice none 0 0, .slice none 0 0]) g42.sat Tryd.zeroValue24 rfl ?_)
 intro b16 w33 gr11 n4 lo6 o5
 exact ⟨_, h30, rfl, g41.trans gr11, fun j x _ => stab j _ _ _ _ x gr11, b16, rfl, Nat.le_trans g41.ext.size lo6, n4, o5⟩
 intro ρ23 h31 w34 g43 hdp2 hdo22
 have e22 : ρ23 2 = .pointer (some ⟨b5, 0, none⟩) := hdo22 2 rfl
 have e23 : ρ23 3 = .pointer (some ⟨b6, 0, none⟩) := hdo22 3 rfl
 have e24 : ρ23 5 = .pointer (some ⟨b11, 0, none⟩) := hdo22 5 rfl
 obtain ⟨b17, hx6, lo7, n5, o6⟩ : ∃ b, ρ23 6 = .pointer (some ⟨b, 0, none⟩) ∧ _ := hdp2 9 rfl
 have lo8 := Nat.le_trans g26.ext.size lo7
 have ne1 : b11 ≠ b17 := Nat.ne_of_lt (Nat.lt_of_lt_of_le (blk_lt p1.at_) lo7)
 have q8 : ∃ b14z c10z b15z c11z, (ρ23 36) = .agg #[.bool b.neg, .slice b14z b.n.length c10z, .slice b15z b.d.length c11z] ∧ U h31 (.slice b14z b.n.length c10z) b.n ∧ U h31 (.slice b15z b.d.length c11z) b.d := hdp2 8 rfl
 obtain ⟨b18, c12, b19, c13, e25, q9, q10⟩ := q8
 have e25 : ρ23 36 = .agg #[.bool b.neg, .slice b18 b.n.length c12, .slice b19 b.d.length c13] := e25
 refine Ops.forget [(2, .pointer (some ⟨b5, 0, none⟩)), (3, .pointer (some ⟨b6, 0, none⟩)), (5, .pointer (some ⟨b11, 0, none⟩)), (6, .pointer (some ⟨b17, 0, none⟩)), (36, .agg #[.bool b.neg, .slice b18 b.n.length c12, .slice b19 b.d.length c13])] ⟨e22, e23, e24, hx6, e25, trivial⟩ (fun ρ24 => ?_)
 refine oC (sA (cs := [.bool b.neg, .slice b18 b.n.length c12, .slice b19 b.d.length c13]) Tryd.sizeOf24 rfl rfl rfl rfl o6 rfl ?_)
 intro w35 p2
 refine oN ?_
 have g45 := (g26.trans g43).put p2 n5 lo8
 have o8 := p2.kp ne1 (g43.kp ⟨p1.at_, n3⟩)
 obtain ⟨h32, g44, l2, qb4, fr2⟩ := freeze_ex g45 o8.1 o8.2 lo5
 have o9 := oz fr2 (Ne.symm ne1) ⟨p2.at_, n5⟩
 obtain ⟨h33, g46, l3, qb5, fr3⟩ := freeze_ex g44 o9.1 o9.2 lo8
 refine sr (oC (lA (cs := [.bool a.neg, .slice b12 a.n.length c8, .slice b13 a.d.length c9]) Tryd.isAgg24 Tryd.sizeOf24 rfl (g46.sat _ _ (l3 _ _ qb4)) rfl rfl ?_))
 refine oC (cF Tryd.call21 (PowF_c (a := a) (n := ((1 : Nat) : Int)) g46.sat (F.mk (U.mono q4 ((g43.le.trans l2).trans l3)) (U.mono q5 ((g43.le.trans l2).trans l3))) (by omega) (by omega) (by omega)) rfl ?_)
 intro r7 h34 w36 gr12 hr7
 obtain ⟨r8, r9, rfl, hr8, hr9⟩ := hr7
 obtain ⟨b20, c14, b21, c15, rfl, k9, k10, u5, u6⟩ := F.shape hr8.1
 have sf1 := Kf.sf hr8
 subst hr9
 refine mv (oC (OpW.extract (v := .agg #[.bool ((frK (powQ a.rat ((1 : Nat) : Int))).neg), .slice b20 ((frK (powQ a.rat ((1 : Nat) : Int))).n.length) c14, .slice b21 ((frK (powQ a.rat ((1 : Nat) : Int))).d.length) c15]) rfl rfl ?_))
 refine oC (OpW.extract (v := .int .i64 (powE a.rat ((1 : Nat) : Int))) rfl rfl ?_)
 have g47 := g46.trans gr12
 refine oC (OpW.allocO (arr := #[.bool false, .slice none 0 0, .slice none 0 0]) g47.sat Tryd.zeroValue24 rfl ?_)
 intro b22 w37 gr13 n6 lo9 o10
 have lo10 := Nat.le_trans g47.ext.size lo9
 refine oC (sA (cs := [.bool ((frK (powQ a.rat ((1 : Nat) : Int))).neg), .slice b20 ((frK (powQ a.rat ((1 : Nat) : Int))).n.length) c14, .slice b21 ((frK (powQ a.rat ((1 : Nat) : Int))).d.length) c15]) Tryd.sizeOf24 rfl rfl rfl rfl o10 rfl ?_)
 intro w38 p3
 refine ma (oN (wS (fg [(2, .pointer (some ⟨b5, 0, none⟩)), (3, .pointer (some ⟨b6, 0, none⟩)), (5, .pointer (some ⟨b11, 0, none⟩)), (6, .pointer (some ⟨b17, 0, none⟩)), (7, .pointer (some ⟨b22, 0, none⟩))] rfl (fun ρ25 => ?_))))
 have g48 := (g47.trans gr13).put p3 n6 lo10
 refine Wp.dagL 22 [42, 43, 44, 45, 46, 47, 48, 49, 50, 51, 52, 53, 54, 55, 56, 57, 58, 59, 60, 61, 62, 9] [eqv (.agg #[.bool a.neg, .slice b12 a.n.length c8, .slice b13 a.d.length c9]), fun hq _ x => Kf h33 hq x a.rat, eqv (.agg #[.bool a.neg, .slice b12 a.n.length c8, .slice b13 a.d.length c9]), fun hq _ x => Kf h33 hq x (-a.rat), eqv (.agg #[.bool a.neg, .slice b12 a.n.length c8, .slice b13 a.d.length c9]), eqv (.agg #[.bool b.neg, .slice b18 b.n.length c12, .slice b19 b.d.length c13]), fun hq _ x => Kf h33 hq x (a.rat + b.rat), eqv (.agg #[.bool a.neg, .slice b12 a.n.length c8, .slice b13 a.d.length c9]), eqv (.agg #[.bool b.neg, .slice b18 b.n.length c12, .slice b19 b.d.length c13]), fun hq _ x => Kf h33 hq x (a.rat - b.rat), eqv (.agg #[.bool a.neg, .slice b12 a.n.length c8, .slice b13 a.d.length c9]), eqv (.agg #[.bool b.neg, .slice b18 b.n.length c12, .slice b19 b.d.length c13]), fun hq _ x => Kf h33 hq x (a.rat * b.rat), eqv (.agg #[.bool ((frK (powQ a.rat ((1 : Nat) : Int))).neg), .slice b20 ((frK (powQ a.rat ((1 : Nat) : Int))).n.length) c14, .slice b21 ((frK (powQ a.rat ((1 : Nat) : Int))).d.length) c15]), eqv (.agg #[.bool a.neg, .slice b12 a.n.length c8, .slice b13 a.d.length c9]), fun hq _ x => LR rpF hq x ([a]), fun hq _ x => Kf h33 hq x (sumF ([a])), eqv (.agg #[.bool a.neg, .slice b12 a.n.length c8, .slice b13 a.d.length c9]), fun hq _ x => LR rpF hq x ([a]), fun hq _ x => Kf h33 hq x (prodF ([a])), fun hq _ x => LWF h33 hq x, fun hq _ x => LWF h33 hq x] mixed g48.sat rfl (by decide +kernel) ⟨sQ _, (stab_Kf _ a.rat), sQ _, (stab_Kf _ (-a.rat)), sQ _, sQ _, (stab_Kf _ (a.rat + b.rat)), sQ _, sQ _, (stab_Kf _ (a.rat - b.rat)), sQ _, sQ _, (stab_Kf _ (a.rat * b.rat)), sQ _, sQ _, (stab_LR rpF ([a])), (stab_Kf _ (sumF ([a]))), sQ _, (stab_LR rpF ([a])), (stab_Kf _ (prodF ([a]))), (stab_LWF _), (stab_LWF _), trivial⟩ ?_ ?_
 intro stab
 refine ⟨?_, ?_, ?_, ?_, ?_, ?_, ?_, ?_, ?_, ?_, ?_, ?_, ?_, ?_, ?_, ?_, ?_, ?_, ?_, ?_, ?_, ?_, trivial⟩
 intro ρ26 h35 w39 g49 hdd21 hdo23
 have e26 : ρ26 5 = .pointer (some ⟨b11, 0, none⟩) := hdo23 5 rfl
 have g50 := g48.trans g49
 refine gP (lA (cs := [.bool a.neg, .slice b12 a.n.length c8, .slice b13 a.d.length c9]) Tryd.isAgg24 Tryd.sizeOf24 e26 (g50.sat _ _ (((l3.trans gr12.le).trans g49.le) _ _ qb4)) rfl rfl ?_)
 exact ⟨_, h35, rfl, g49, fun j x _ p => p, rfl⟩
 intro ρ27 h36 w40 g51 hdd22 hdo24
 have e27 : ρ27 42 = .agg #[.bool a.neg, .slice b12 a.n.length c8, .slice b13 a.d.length c9] := hdd22 0 (by decide)
 have g52 := g48.trans g51
 refine gP (cF Tryd.call50 (CanonF_c (a := a) g52.sat (F.mk (U.mono q4 ((((g43.le.trans l2).trans l3).trans gr12.le).trans g51.le)) (U.mono q5 ((((g43.le.trans l2).trans l3).trans gr12.le).trans g51.le))) (by omega)) (cx e27 cxn) ?_)
 intro r10 h37 w41 gr14 hr10
 replace hr10 := Kf.weak (gr12.le.trans g51.le) hr10
 exact ⟨r10, h37, rfl, g51.trans gr14, fun j x _ => stab j _ _ _ _ x gr14, hr10⟩
 intro ρ28 h38 w42 g53 hdd23 hdo25
 have e28 : ρ28 5 = .pointer (some ⟨b11, 0, none⟩) := hdo25 5 rfl
 have g54 := g48.trans g53
 refine gP (lA (cs := [.bool a.neg, .slice b12 a.n.length c8, .slice b13 a.d.length c9]) Tryd.isAgg24 Tryd.sizeOf24 e28 (g54.sat _ _ (((l3.trans gr12.le).trans g53.le) _ _ qb4)) rfl rfl ?_)
 exact ⟨_, h38, rfl, g53, fun j x _ p => p, rfl⟩
 intro ρ29 h39 w43 g55 hdd24 hdo26
 have e29 : ρ29 44 = .agg #[.bool a.neg, .slice b12 a.n.length c8, .slice b13 a.d.length c9] := hdd24 2 (by decide)
 have g56 := g48.trans g55
 refine gP (cF Tryd.call45 (NegF_c (a := a) g56.sat (F.mk (U.mono q4 ((((g43.le.trans l2).trans l3).trans gr12.le).trans g55.le)) (U.mono q5 ((((g43.le.trans l2).trans l3).trans gr12.le).trans g55.le))) (by omega)) (cx e29 cxn) ?_)
 intro r11 h40 w44 gr15 hr11
 replace hr11 := Kf.weak (gr12.le.trans g55.le) hr11
 exact ⟨r11, h40, rfl, g55.trans gr15, fun j x _ => stab j _ _ _ _ x gr15, hr11⟩
 intro ρ30 h41 w45 g57 hdd25 hdo27
 have e30 : ρ30 5 = .pointer (some ⟨b11, 0, none⟩) := hdo27 5 rfl
 have g58 := g48.trans g57
 refine gP (lA (cs := [.bool a.neg, .slice b12 a.n.length c8, .slice b13 a.d.length c9]) Tryd.isAgg24 Tryd.sizeOf24 e30 (g58.sat _ _ (((l3.trans gr12.le).trans g57.le) _ _ qb4)) rfl rfl ?_)
 exact ⟨_, h41, rfl, g57, fun j x _ p => p, rfl⟩
 intro ρ31 h42 w46 g59 hdd26 hdo28
 have e31 : ρ31 6 = .pointer (some ⟨b17, 0, none⟩) := hdo28 6 rfl
 have g60 := g48.trans g59
 refine gP (lA (cs := [.bool b.neg, .slice b18 b.n.length c12, .slice b19 b.d.length c13]) Tryd.isAgg24 Tryd.sizeOf24 e31 (g60.sat _ _ ((gr12.le.trans g59.le) _ _ qb5)) rfl rfl ?_)
 exact ⟨_, h42, rfl, g59, fun j x _ p => p, rfl⟩
 intro ρ32 h43 w47 g61 hdd27 hdo29
 have e32 : ρ32 46 = .agg #[.bool a.neg, .slice b12 a.n.length c8, .slice b13 a.d.length c9] := hdd27 4 (by decide)
 have e33 : ρ32 47 = .agg #[.bool b.neg, .slice b18 b.n.length c12, .slice b19 b.d.length c13] := hdd27 5 (by decide)
 have g62 := g48.trans g61
 refine gP (cF Tryd.call42 (AddF_c (a := a) (b := b) g62.sat (F.mk (U.mono q4 ((((g43.le.trans l2).trans l3).trans gr12.le).trans g61.le)) (U.mono q5 ((((g43.le.trans l2).trans l3).trans gr12.le).trans g61.le))) (F.mk (U.mono q9 (((l2.trans l3).trans gr12.le).trans g61.le)) (U.mono q10 (((l2.trans l3).trans gr12.le).trans g61.le))) (by omega)) (cx e32 (cx e33 cxn)) ?_)
 intro r12 h44 w48 gr16 hr12
 replace hr12 := Kf.weak (gr12.le.trans g61.le) hr12
 exact ⟨r12, h44, rfl, g61.trans gr16, fun j x _ => stab j _ _ _ _ x gr16, hr12⟩
 intro ρ33 h45 w49 g63 hdd28 hdo30
 have e34 : ρ33 5 = .pointer (some ⟨b11, 0, none⟩) := hdo30 5 rfl
 have g64 := g48.trans g63
 refine gP (lA (cs := [.bool a.neg, .slice b12 a.n.length c8, .slice b13 a.d.length c9]) Tryd.isAgg24 Tryd.sizeOf24 e34 (g64.sat _ _ (((l3.trans gr12.le).trans g63.le) _ _ qb4)) rfl rfl ?_)
 exact ⟨_, h45, rfl, g63, fun j x _ p => p, rfl⟩
 intro ρ34 h46 w50 g65 hdd29 hdo31
 have e35 : ρ34 6 = .pointer (some ⟨b17, 0, none⟩) := hdo31 6 rfl
 have g66 := g48.trans g65
 refine gP (lA (cs := [.bool b.neg, .slice b18 b.n.length c12, .slice b19 b.d.length c13]) Tryd.isAgg24 Tryd.sizeOf24 e35 (g66.sat _ _ ((gr12.le.trans g65.le) _ _ qb5)) rfl rfl ?_)
 exact ⟨_, h46, rfl, g65, fun j x _ p => p, rfl⟩
 intro ρ35 h47 w51 g67 hdd30 hdo32
 have e36 : ρ35 49 = .agg #[.bool a.neg, .slice b12 a.n.length c8, .slice b13 a.d.length c9] := hdd30 7 (by decide)
 have e37 : ρ35 50 = .agg #[.bool b.neg, .slice b18 b.n.length c12, .slice b19 b.d.length c13] := hdd30 8 (by decide)
 have g68 := g48.trans g67
 refine gP (cF Tryd.call44 (SubF_c (a := a) (b := b) g68.sat (F.mk (U.mono q4 ((((g43.le.trans l2).trans l3).trans gr12.le).trans g67.le)) (U.mono q5 ((((g43.le.trans l2).trans l3).trans gr12.le).trans g67.le))) (F.mk (U.mono q9 (((l2.trans l3).trans gr12.le).trans g67.le)) (U.mono q10 (((l2.trans l3).trans gr12.le).trans g67.le))) (by omega)) (cx e36 (cx e37 cxn)) ?_)
 intro r13 h48 w52 gr17 hr13
 replace hr13 := Kf.weak (gr12.le.trans g67.le) hr13
 exact ⟨r13, h48, rfl, g67.trans gr17, fun j x _ => stab j _ _ _ _ x gr17, hr13⟩
 intro ρ36 h49 w53 g69 hdd31 hdo33
 have e38 : ρ36 5 = .pointer (some ⟨b11, 0, none⟩) := hdo33 5 rfl
 have g70 := g48.trans g69
 refine gP (lA (cs := [.bool a.neg, .slice b12 a.n.length c8, .slice b13 a.d.length c9]) Tryd.isAgg24 Tryd.sizeOf24 e38 (g70.sat _ _ (((l3.trans gr12.le).trans g69.le) _ _ qb4)) rfl rfl ?_)
 exact ⟨_, h49, rfl, g69, fun j x _ p => p, rfl⟩
 intro ρ37 h50 w54 g71 hdd32 hdo34
 have e39 : ρ37 6 = .pointer (some ⟨b17, 0, none⟩) := hdo34 6 rfl
 have g72 := g48.trans g71
 refine gP (lA (cs := [.bool b.neg, .slice b18 b.n.length c12, .slice b19 b.d.length c13]) Tryd.isAgg24 Tryd.sizeOf24 e39 (g72.sat _ _ ((gr12.le.trans g71.le) _ _ qb5)) rfl rfl ?_)
 exact ⟨_, h50, rfl, g71, fun j x _ p => p, rfl⟩
 intro ρ38 h51 w55 g73 hdd33 hdo35
 have e40 : ρ38 52 = .agg #[.bool a.neg, .slice b12 a.n.length c8, .slice b13 a.d.length c9] := hdd33 10 (by decide)
 have e41 : ρ38 53 = .agg #[.bool b.neg, .slice b18 b.n.length c12, .slice b19 b.d.length c13] := hdd33 11 (by decide)
 have g74 := g48.trans g73
 refine gP (cF Tryd.call48 (MulF_c (a := a) (b := b) g74.sat (F.mk (U.mono q4 ((((g43.le.trans l2).trans l3).trans gr12.le).trans g73.le)) (U.mono q5 ((((g43.le.trans l2).trans l3).trans gr12.le).trans g73.le))) (F.mk (U.mono q9 (((l2.trans l3).trans gr12.le).trans g73.le)) (U.mono q10 (((l2.trans l3).trans gr12.le).trans g73.le))) (by omega)) (cx e40 (cx e41 cxn)) ?_)
 intro r14 h52 w56 gr18 hr14
 replace hr14 := Kf.weak (gr12.le.trans g73.le) hr14
 exact ⟨r14, h52, rfl, g73.trans gr18, fun j x _ => stab j _ _ _ _ x gr18, hr14⟩
 intro ρ39 h53 w57 g75 hdd34 hdo36
 have e42 : ρ39 7 = .pointer (some ⟨b22, 0, none⟩) := hdo36 7 rfl
 have o12 := g75.kp ⟨p3.at_, n6⟩
 refine gP (lA (cs := [.bool ((frK (powQ a.rat ((1 : Nat) : Int))).neg), .slice b20 ((frK (powQ a.rat ((1 : Nat) : Int))).n.length) c14, .slice b21 ((frK (powQ a.rat ((1 : Nat) : Int))).d.length) c15]) Tryd.isAgg24 Tryd.sizeOf24 e42 o12.1 rfl rfl ?_)
 exact ⟨_, h53, rfl, g75, fun j x _ p => p, rfl⟩
 intro ρ40 h54 w58 g76 hdd35 hdo37
 have e43 : ρ40 5 = .pointer (some ⟨b11, 0, none⟩) := hdo37 5 rfl
 have g77 := g48.trans g76
 refine gP (lA (cs := [.bool a.neg, .slice b12 a.n.length c8, .slice b13 a.d.length c9]) Tryd.isAgg24 Tryd.sizeOf24 e43 (g77.sat _ _ (((l3.trans gr12.le).trans g76.le) _ _ qb4)) rfl rfl ?_)
 exact ⟨_, h54, rfl, g76, fun j x _ p => p, rfl⟩
 intro ρ41 h55 w59 g78 hdd36 hdo38
 have e44 : ρ41 56 = .agg #[.bool a.neg, .slice b12 a.n.length c8, .slice b13 a.d.length c9] := hdd36 14 (by decide)
 have g79 := g48.trans g78
 refine gP (OpW.buildSliceO (arr := #[.bool a.neg, .slice b12 a.n.length c8, .slice b13 a.d.length c9]) g79.sat Tryd.underlying50 Tryd.zeroValue24 Tryd.sizeOf24 rfl (by show Instr.fill _ _ [(0, ρ41 56)] = _; rw [e44]; exact (fillF1 (.bool a.neg) (.slice b12 a.n.length c8) (.slice b13 a.d.length c9))) ?_)
 intro b23 w60 gr19 n7 lo11 o13
 obtain ⟨h57, gr21, le1, qb6, fr4⟩ := freeze_ex gr19 o13 n7 lo11
 have q11 : LR rpF h57 (.slice (some ⟨b23, 0, none⟩) 1 1) ([a]) := LR.own' qb6 (css := [[.bool a.neg, .slice b12 a.n.length c8, .slice b13 a.d.length c9]]) rfl ((show Rows rpF h55 [[.bool a.neg, .slice b12 a.n.length c8, .slice b13 a.d.length c9]] [a] from (Rows.cons (F.mk (U.mono q4 ((((g43.le.trans l2).trans l3).trans gr12.le).trans g78.le)) (U.mono q5 ((((g43.le.trans l2).trans l3).trans gr12.le).trans g78.le))) Rows.nil)).mono gr21.le) rfl (Nat.le_refl _)
 exact ⟨_, h57, rfl, g78.trans gr21, fun j x _ => stab j _ _ _ _ x gr21, q11⟩
 intro ρ42 h58 w61 g80 hdd37 hdo39
 have q12 : LR rpF h58 (ρ42 57) ([a]) := hdd37 15 (by decide)
 have g81 := g48.trans g80
 refine gP (cF Tryd.call52 (sumF_c (l := [a]) g81.sat q12 (by first | omega | (simp only [bf_frK, frK_rat, wts_cons, wts_nil]; omega))) rfl ?_)
 intro r15 h59 w62 gr22 hr15
 replace hr15 := Kf.weak (gr12.le.trans g80.le) hr15
 exact ⟨r15, h59, rfl, g80.trans gr22, fun j x _ => stab j _ _ _ _ x gr22, hr15⟩
 intro ρ43 h60 w63 g82 hdd38 hdo40
 have e45 : ρ43 5 = .pointer (some ⟨b11, 0, none⟩) := hdo40 5 rfl
 have g83 := g48.trans g82
 refine gP (lA (cs := [.bool a.neg, .slice b12 a.n.length c8, .slice b13 a.d.length c9]) Tryd.isAgg24 Tryd.sizeOf24 e45 (g83.sat _ _ (((l3.trans gr12.le).trans g82.le) _ _ qb4)) rfl rfl ?_)
 exact ⟨_, h60, rfl, g82, fun j x _ p => p, rfl⟩
 intro ρ44 h61 w64 g84 hdd39 hdo41
 have e46 : ρ44 59 = .agg #[.bool a.neg, .slice b12 a.n.length c8, .slice b13 a.d.length c9] := hdd39 17 (by decide)
 have g85 := g48.trans g84
 refine gP (OpW.buildSliceO (arr := #[.bool a.neg, .slice b12 a.n.length c8, .slice b13 a.d.length c9]) g85.sat Tryd.underlying50 Tryd.zeroValue24 Tryd.sizeOf24 rfl (by show Instr.fill _ _ [(0, ρ44 59)] = _; rw [e46]; exact (fillF1 (.bool a.neg) (.slice b12 a.n.length c8) (.slice b13 a.d.length c9))) ?_)
 intro b24 w65 gr23 n8 lo12 o14
 obtain ⟨h63, gr25, le2, qb7, fr5⟩ := freeze_ex gr23 o14 n8 lo12
 have q13 : LR rpF h63 (.slice (some ⟨b24, 0, none⟩) 1 1) ([a]) := LR.own' qb7 (css := [[.bool a.neg, .slice b12 a.n.length c8, .slice b13 a.d.length c9]]) rfl ((show Rows rpF h61 [[.bool a.neg, .slice b12 a.n.length c8, .slice b13 a.d.length c9]] [a] from (Rows.cons (F.mk (U.mono q4 ((((g43.le.trans l2).trans l3).trans gr12.le).trans g84.le)) (U.mono q5 ((((g43.le.trans l2).trans l3).trans gr12.le).trans g84.le))) Rows.nil)).mono gr25.le) rfl (Nat.le_refl _)
 exact ⟨_, h63, rfl, g84.trans gr25, fun j x _ => stab j _ _ _ _ x gr25, q13⟩
 intro ρ45 h64 w66 g86 hdd40 hdo42
 have q14 : LR rpF h64 (ρ45 60) ([a]) := hdd40 18 (by decide)
 have g87 := g48.trans g86
 refine gP (cF Tryd.call53 (productF_c (l := [a]) g87.sat q14 (by first | omega | (simp only [bf_frK, frK_rat, wts_cons, wts_nil]; omega))) rfl ?_)
 intro r16 h65 w67 gr26 hr16
 replace hr16 := Kf.weak (gr12.le.trans g86.le) hr16
 exact ⟨r16, h65, rfl, g86.trans gr26, fun j x _ => stab j _ _ _ _ x gr26, hr16⟩
 intro ρ46 h66 w68 g88 hdd41 hdo43
 have q15 : Kf h33 h66 (ρ46 43) a.rat := hdd41 1 (by decide)
 obtain ⟨x5, hx7⟩ : ∃ x, ρ46 43 = x := ⟨_, rfl⟩
 rw [hx7] at q15
 obtain ⟨b25, c16, b26, c17, rfl, k11, k12, u7, u8⟩ := F.shape q15.1
 have sf2 := Kf.sf q15
 have q16 : Kf h33 h66 (ρ46 45) (-a.rat) := hdd41 3 (by decide)
 obtain ⟨x6, hx8⟩ : ∃ x, ρ46 45 = x := ⟨_, rfl⟩
 rw [hx8] at q16
 obtain ⟨b27, c18, b28, c19, rfl, k13, k14, u9, u10⟩ := F.shape q16.1
 have sf3 := Kf.sf q16
 have q17 : Kf h33 h66 (ρ46 48) (a.rat + b.rat) := hdd41 6 (by decide)
 obtain ⟨x7, hx9⟩ : ∃ x, ρ46 48 = x := ⟨_, rfl⟩
 rw [hx9] at q17
 obtain ⟨b29, c20, b30, c21, rfl, k15, k16, u11, u12⟩ := F.shape q17.1
 have sf4 := Kf.sf q17
 have q18 : Kf h33 h66 (ρ46 51) (a.rat - b.rat) := hdd41 9 (by decide)
 obtain ⟨x8, hx10⟩ : ∃ x, ρ46 51 = x := ⟨_, rfl⟩
 rw [hx10] at q18
 obtain ⟨b31, c22, b32, c23, rfl, k17, k18, u13, u14⟩ := F.shape q18.1
 have sf5 := Kf.sf q18
 have q19 : Kf h33 h66 (ρ46 54) (a.rat * b.rat) := hdd41 12 (by decide)
 obtain ⟨x9, hx11⟩ : ∃ x, ρ46 54 = x := ⟨_, rfl⟩
 rw [hx11] at q19
 obtain ⟨b33, c24, b34, c25, rfl, k19, k20, u15, u16⟩ := F.shape q19.1
 have sf6 := Kf.sf q19
 have e47 : ρ46 55 = .agg #[.bool ((frK (powQ a.rat ((1 : Nat) : Int))).neg), .slice b20 ((frK (powQ a.rat ((1 : Nat) : Int))).n.length) c14, .slice b21 ((frK (powQ a.rat ((1 : Nat) : Int))).d.length) c15] := hdd41 13 (by decide)
 have q20 : Kf h33 h66 (ρ46 58) (sumF ([a])) := hdd41 16 (by decide)
 obtain ⟨x10, hx12⟩ : ∃ x, ρ46 58 = x := ⟨_, rfl⟩
 rw [hx12] at q20
 obtain ⟨b35, c26, b36, c27, rfl, k21, k22, u17, u18⟩ := F.shape q20.1
 have sf7 := Kf.sf q20
 have q21 : Kf h33 h66 (ρ46 61) (prodF ([a])) := hdd41 19 (by decide)
 obtain ⟨x11, hx13⟩ : ∃ x, ρ46 61 = x := ⟨_, rfl⟩
 rw [hx13] at q21
 obtain ⟨b37, c28, b38, c29, rfl, k23, k24, u19, u20⟩ := F.shape q21.1
 have sf8 := Kf.sf q21
 have g89 := g48.trans g88
 refine gP (OpW.buildSliceO (arr := #[.bool ((frK a.rat).neg), .slice b25 ((frK a.rat).n.length) c16, .slice b26 ((frK a.rat).d.length) c17, .bool ((frK (-a.rat)).neg), .slice b27 ((frK (-a.rat)).n.length) c18, .slice b28 ((frK (-a.rat)).d.length) c19, .bool ((frK (a.rat + b.rat)).neg), .slice b29 ((frK (a.rat + b.rat)).n.length) c20, .slice b30 ((frK (a.rat + b.rat)).d.length) c21, .bool ((frK (a.rat - b.rat)).neg), .slice b31 ((frK (a.rat - b.rat)).n.length) c22, .slice b32 ((frK (a.rat - b.rat)).d.length) c23, .bool ((frK (a.rat * b.rat)).neg), .slice b33 ((frK (a.rat * b.rat)).n.length) c24, .slice b34 ((frK (a.rat * b.rat)).d.length) c25, .bool ((frK (powQ a.rat ((1 : Nat) : Int))).neg), .slice b20 ((frK (powQ a.rat ((1 : Nat) : Int))).n.length) c14, .slice b21 ((frK (powQ a.rat ((1 : Nat) : Int))).d.length) c15, .bool ((frK (sumF ([a]))).neg), .slice b35 ((frK (sumF ([a]))).n.length) c26, .slice b36 ((frK (sumF ([a]))).d.length) c27, .bool ((frK (prodF ([a]))).neg), .slice b37 ((frK (prodF ([a]))).n.length) c28, .slice b38 ((frK (prodF ([a]))).d.length) c29]) g89.sat Tryd.underlying50 Tryd.zeroValue24 Tryd.sizeOf24 rfl (by show Instr.fill _ _ [(0, ρ46 43), (1, ρ46 45), (2, ρ46 48), (3, ρ46 51), (4, ρ46 54), (5, ρ46 55), (6, ρ46 58), (7, ρ46 61)] = _; rw [e47, hx10, hx11, hx12, hx13, hx7, hx8, hx9]; exact (fillF8 (.bool ((frK a.rat).neg)) (.slice b25 ((frK a.rat).n.length) c16) (.slice b26 ((frK a.rat).d.length) c17) (.bool ((frK (-a.rat)).neg)) (.slice b27 ((frK (-a.rat)).n.length) c18) (.slice b28 ((frK (-a.rat)).d.length) c19) (.bool ((frK (a.rat + b.rat)).neg)) (.slice b29 ((frK (a.rat + b.rat)).n.length) c20) (.slice b30 ((frK (a.rat + b.rat)).d.length) c21) (.bool ((frK (a.rat - b.rat)).neg)) (.slice b31 ((frK (a.rat - b.rat)).n.length) c22) (.slice b32 ((frK (a.rat - b.rat)).d.length) c23) (.bool ((frK (a.rat * b.rat)).neg)) (.slice b33 ((frK (a.rat * b.rat)).n.length) c24) (.slice b34 ((frK (a.rat * b.rat)).d.length) c25) (.bool ((frK (powQ a.rat ((1 : Nat) : Int))).neg)) (.slice b20 ((frK (powQ a.rat ((1 : Nat) : Int))).n.length) c14) (.slice b21 ((frK (powQ a.rat ((1 : Nat) : Int))).d.length) c15) (.bool ((frK (sumF ([a]))).neg)) (.slice b35 ((frK (sumF ([a]))).n.length) c26) (.slice b36 ((frK (sumF ([a]))).d.length) c27) (.bool ((frK (prodF ([a]))).neg)) (.slice b37 ((frK (prodF ([a]))).n.length) c28) (.slice b38 ((frK (prodF ([a]))).d.length) c29))) ?_)
 intro b39 w69 gr27 n9 lo13 o15
 obtain ⟨h67, gr28, le3, qb8, fr6⟩ := freeze_ex gr27 o15 n9 lo13
 have q22 : LWF h33 h67 (.slice (some ⟨b39, 0, none⟩) 8 8) := ⟨b39, [⟨(frK a.rat).neg, b25, (frK a.rat).n.length, c16, b26, (frK a.rat).d.length, c17⟩, ⟨(frK (-a.rat)).neg, b27, (frK (-a.rat)).n.length, c18, b28, (frK (-a.rat)).d.length, c19⟩, ⟨(frK (a.rat + b.rat)).neg, b29, (frK (a.rat + b.rat)).n.length, c20, b30, (frK (a.rat + b.rat)).d.length, c21⟩, ⟨(frK (a.rat - b.rat)).neg, b31, (frK (a.rat - b.rat)).n.length, c22, b32, (frK (a.rat - b.rat)).d.length, c23⟩, ⟨(frK (a.rat * b.rat)).neg, b33, (frK (a.rat * b.rat)).n.length, c24, b34, (frK (a.rat * b.rat)).d.length, c25⟩, ⟨(frK (powQ a.rat ((1 : Nat) : Int))).neg, b20, (frK (powQ a.rat ((1 : Nat) : Int))).n.length, c14, b21, (frK (powQ a.rat ((1 : Nat) : Int))).d.length, c15⟩, ⟨(frK (sumF ([a]))).neg, b35, (frK (sumF ([a]))).n.length, c26, b36, (frK (sumF ([a]))).d.length, c27⟩, ⟨(frK (prodF ([a]))).neg, b37, (frK (prodF ([a]))).n.length, c28, b38, (frK (prodF ([a]))).d.length, c29⟩], _, _, rfl, rfl, qb8, RelA.lit (r := rpW) (css := [[.bool ((frK a.rat).neg), .slice b25 ((frK a.rat).n.length) c16, .slice b26 ((frK a.rat).d.length) c17], [.bool ((frK (-a.rat)).neg), .slice b27 ((frK (-a.rat)).n.length) c18, .slice b28 ((frK (-a.rat)).d.length) c19], [.bool ((frK (a.rat + b.rat)).neg), .slice b29 ((frK (a.rat + b.rat)).n.length) c20, .slice b30 ((frK (a.rat + b.rat)).d.length) c21], [.bool ((frK (a.rat - b.rat)).neg), .slice b31 ((frK (a.rat - b.rat)).n.length) c22, .slice b32 ((frK (a.rat - b.rat)).d.length) c23], [.bool ((frK (a.rat * b.rat)).neg), .slice b33 ((frK (a.rat * b.rat)).n.length) c24, .slice b34 ((frK (a.rat * b.rat)).d.length) c25], [.bool ((frK (powQ a.rat ((1 : Nat) : Int))).neg), .slice b20 ((frK (powQ a.rat ((1 : Nat) : Int))).n.length) c14, .slice b21 ((frK (powQ a.rat ((1 : Nat) : Int))).d.length) c15], [.bool ((frK (sumF ([a]))).neg), .slice b35 ((frK (sumF ([a]))).n.length) c26, .slice b36 ((frK (sumF ([a]))).d.length) c27], [.bool ((frK (prodF ([a]))).neg), .slice b37 ((frK (prodF ([a]))).n.length) c28, .slice b38 ((frK (prodF ([a]))).d.length) c29]]) (Rows.cons rfl (Rows.cons rfl (Rows.cons rfl (Rows.cons rfl (Rows.cons rfl (Rows.cons rfl (Rows.cons rfl (Rows.cons rfl Rows.nil)))))))), ⟨⟨SW.of sf2.1 n9 le3, SW.of sf2.2 n9 le3⟩, ⟨⟨SW.of sf3.1 n9 le3, SW.of sf3.2 n9 le3⟩, ⟨⟨SW.of sf4.1 n9 le3, SW.of sf4.2 n9 le3⟩, ⟨⟨SW.of sf5.1 n9 le3, SW.of sf5.2 n9 le3⟩, ⟨⟨SW.of sf6.1 n9 le3, SW.of sf6.2 n9 le3⟩, ⟨⟨SW.of (SF.mono sf1.1 g88.le) n9 le3, SW.of (SF.mono sf1.2 g88.le) n9 le3⟩, ⟨⟨SW.of sf7.1 n9 le3, SW.of sf7.2 n9 le3⟩, ⟨⟨SW.of sf8.1 n9 le3, SW.of sf8.2 n9 le3⟩, trivial⟩⟩⟩⟩⟩⟩⟩⟩, ⟨⟨Nat.le_trans (bq_K a.rat).1 (by omega), Nat.le_trans (bq_K a.rat).2 (by omega)⟩, ⟨⟨Nat.le_trans (bq_K (-a.rat)).1 (by omega), Nat.le_trans (bq_K (-a.rat)).2 (by omega)⟩, ⟨⟨Nat.le_trans (bq_K (a.rat + b.rat)).1 (by omega), Nat.le_trans (bq_K (a.rat + b.rat)).2 (by omega)⟩, ⟨⟨Nat.le_trans (bq_K (a.rat - b.rat)).1 (by omega), Nat.le_trans (bq_K (a.rat - b.rat)).2 (by omega)⟩, ⟨⟨Nat.le_trans (bq_K (a.rat * b.rat)).1 (by omega), Nat.le_trans (bq_K (a.rat * b.rat)).2 (by omega)⟩, ⟨⟨Nat.le_trans (bq_K (powQ a.rat ((1 : Nat) : Int))).1 (by omega), Nat.le_trans (bq_K (powQ a.rat ((1 : Nat) : Int))).2 (by omega)⟩, ⟨⟨Nat.le_trans (bq_K (sumF ([a]))).1 (by omega), Nat.le_trans (bq_K (sumF ([a]))).2 (by omega)⟩, ⟨⟨Nat.le_trans (bq_K (prodF ([a]))).1 (by omega), Nat.le_trans (bq_K (prodF ([a]))).2 (by omega)⟩, trivial⟩⟩⟩⟩⟩⟩⟩⟩⟩
 exact ⟨_, h67, rfl, g88.trans gr28, fun j x _ => stab j _ _ _ _ x gr28, q22⟩
 intro ρ47 h68 w70 g90 hdd42 hdo44
 have q23 : LWF h33 h68 (ρ47 62) := hdd42 20 (by decide)
 refine gP (OpW.assign (v := (ρ47 62)) rfl ?_)
 exact ⟨_, h68, rfl, g90, fun j x _ p => p, q23⟩
 intro ρ48 h69 w71 g91 hdp3 hdo45
 have e48 : ρ48 2 = .pointer (some ⟨b5, 0, none⟩) := hdo45 2 rfl
 have e49 : ρ48 3 = .pointer (some ⟨b6, 0, none⟩) := hdo45 3 rfl
 have e50 : ρ48 5 = .pointer (some ⟨b11, 0, none⟩) := hdo45 5 rfl
 have e51 : ρ48 6 = .pointer (some ⟨b17, 0, none⟩) := hdo45 6 rfl
 have q24 : LWF h33 h69 (ρ48 9) := hdp3 21 rfl
 obtain ⟨x12, hx14⟩ : ∃ x, ρ48 9 = x := ⟨_, rfl⟩
 rw [hx14] at q24
 obtain ⟨b40, rfl⟩ := LWF.shape q24
 refine Ops.forget [(2, .pointer (some ⟨b5, 0, none⟩)), (3, .pointer (some ⟨b6, 0, none⟩)), (5, .pointer (some ⟨b11, 0, none⟩)), (6, .pointer (some ⟨b17, 0, none⟩)), (9, .slice (some ⟨b40, 0, none⟩) 8 8)] ⟨e48, e49, e50, e51, hx14, trivial⟩ (fun ρ49 => (oN ?_))
 have g93 := g48.trans g91
 obtain ⟨h70, ws1, l4, g92, q25, k25, hwb, hw⟩ := rewind g93 (((((((gr1.le.trans gr2.le).trans l1).trans gr4.le).trans g25.le).trans g43.le).trans l2).trans l3) (gr12.le.trans g91.le) q24
 refine wS (sr (ma (oN (Wp.block (Wp.loop (σ := Nat) (fun (i : Nat) (ρ : Env) (w' : World) => ∃ ρb h', ρ = upds ρb [(2, .pointer (some ⟨b5, 0, none⟩)), (3, .pointer (some ⟨b6, 0, none⟩)), (5, .pointer (some ⟨b11, 0, none⟩)), (6, .pointer (some ⟨b17, 0, none⟩)), (9, .slice (some ⟨b40, 0, none⟩) 8 8), (10, .int .i64 ((i : Nat) : Int))] ∧ Gr h w h' w' ∧ PH.le h70 h' ∧ (i ≤ 8) ∧ (∀ i, i < 8 → Wr h' w.heap.size w' (ws1.getD i wf0).b1 (ws1.getD i wf0).l1 ∧ Wr h' w.heap.size w' (ws1.getD i wf0).b2 (ws1.getD i wf0).l2)) (fun (i : Nat) => 8 - i) 0 ?_ ?_)))))
 exact ⟨_, h70, nm rfl, g92, PH.le.refl _, (by omega), hw⟩
 rintro i ρ50 w72 ⟨ρ51, h71, rfl, g94, l5, hi, hw⟩
 refine wS (sr (mv (mv (oC (OpW.lenS Tryd.underlying50 (l := 8) rfl ?_)))))
 refine oC (OpW.lss (a := ((i : Nat) : Int)) (b := ((8 : Nat) : Int)) (r := decide (i < 8)) rfl rfl (lt_nat (a := i) (b := 8)) (oN (Wp.cond (t := decide (i < 8)) rfl (fun c30 => ?_) (fun c30 => ?_))))
 replace c30 : i < 8 := (of_decide_eq_true c30)
 refine Wp.skip (wS (Wp.block (wS (sr (ma (oN (Wp.block (Wp.loop (σ := Nat) (fun (k : Nat) (ρ : Env) (w' : World) => ∃ ρb h', ρ = upds ρb [(2, .pointer (some ⟨b5, 0, none⟩)), (3, .pointer (some ⟨b6, 0, none⟩)), (5, .pointer (some ⟨b11, 0, none⟩)), (6, .pointer (some ⟨b17, 0, none⟩)), (9, .slice (some ⟨b40, 0, none⟩) 8 8), (10, .int .i64 ((i : Nat) : Int)), (11, .int .i64 ((k : Nat) : Int))] ∧ Gr h w h' w' ∧ PH.le h71 h' ∧ (k ≤ (ws1.getD i wf0).l1) ∧ (∀ i, i < 8 → Wr h' w.heap.size w' (ws1.getD i wf0).b1 (ws1.getD i wf0).l1 ∧ Wr h' w.heap.size w' (ws1.getD i wf0).b2 (ws1.getD i wf0).l2)) (fun (k : Nat) => (ws1.getD i wf0).l1 - k) 0 ?_ ?_))))))))
 exact ⟨_, h71, nm rfl, g94, PH.le.refl _, (by omega), hw⟩
 rintro k ρ52 w73 ⟨ρ53, h72, rfl, g95, l6, hk, hw1⟩
 have hb8 := Wb.at hwb i
 refine wS (sr (mv (mv (mv (oC (OpW.indexL (i := ((i : Nat) : Int)) (j := i) wf0 (s := 3) rfl Tryd.underlying50 Tryd.sizeOf24 rfl (LR.mono q25 (l5.trans l6)) rfl (by omega) (by omega) ?_))))))
 intro b41 o16 a1 e52 z1 cs1 qb9 qv1 qf1 qr1
 obtain rfl := qr1
 refine oC (fA (o := o16 + 1) Tryd.underlying24 rfl Tryd.sizeOf22 (by decide) rfl rfl ?_)
 refine oC (lO (v := .slice (ws1.getD i wf0).b1 ((ws1.getD i wf0).l1) ((ws1.getD i wf0).c1)) Tryd.isAgg22 rfl (g95.sat _ _ qb9) (cut_cell qv1 1 (by decide) rfl) ?_)
 refine oC (OpW.lenS Tryd.underlying22 (l := (ws1.getD i wf0).l1) rfl ?_)
 refine oC (OpW.lss (a := ((k : Nat) : Int)) (b := (((ws1.getD i wf0).l1 : Nat) : Int)) (r := decide (k < (ws1.getD i wf0).l1)) rfl rfl (lt_nat (a := k) (b := (ws1.getD i wf0).l1)) (oN (Wp.cond (t := decide (k < (ws1.getD i wf0).l1)) rfl (fun c31 => ?_) (fun c31 => ?_))))
 replace c31 : k < (ws1.getD i wf0).l1 := (of_decide_eq_true c31)
 refine Wp.skip (wS (Wp.block (fg [(2, .pointer (some ⟨b5, 0, none⟩)), (3, .pointer (some ⟨b6, 0, none⟩)), (5, .pointer (some ⟨b11, 0, none⟩)), (6, .pointer (some ⟨b17, 0, none⟩)), (9, .slice (some ⟨b40, 0, none⟩) 8 8), (10, .int .i64 ((i : Nat) : Int)), (11, .int .i64 ((k : Nat) : Int))] rfl (fun ρ54 => (wR (mv (mv (oC (OpW.indexL (i := ((i : Nat) : Int)) (j := i) wf0 (s := 3) rfl Tryd.underlying50 Tryd.sizeOf24 rfl (LR.mono q25 (l5.trans l6)) rfl (by omega) (by omega) ?_)))))))))
 intro b42 o17 a2 e53 z2 cs2 qb10 qv2 qf2 qr2
 obtain rfl := qr2
 refine oC (fA (o := o17 + 1) Tryd.underlying24 rfl Tryd.sizeOf22 (by decide) rfl rfl ?_)
 refine oC (lO (v := .slice (ws1.getD i wf0).b1 ((ws1.getD i wf0).l1) ((ws1.getD i wf0).c1)) Tryd.isAgg22 rfl (g95.sat _ _ qb10) (cut_cell qv2 1 (by decide) rfl) (mv ?_))
 obtain ⟨b43, of1, a3, e54, hbs1, hn1, hlo1, hb1, hf1⟩ := (hw1 i (by omega)).1 (by omega)
 refine oC (iA (b := b43) (off := of1) (l := (ws1.getD i wf0).l1) (c := (ws1.getD i wf0).c1) (i := ((k : Nat) : Int)) (o := of1 + k) Tryd.underlying22 Tryd.sizeOf51 (congrArg (fun x => Value.slice x ((ws1.getD i wf0).l1) ((ws1.getD i wf0).c1)) hbs1) rfl (by omega) (by omega) ?_)
 refine oC (OpW.store1 (v := .int .u32 ((77 : Nat) : Int)) Tryd.sizeOf51 rfl rfl rfl hb1 (by omega) ?_)
 intro w74 p4
 have hw1n := fun i hi => And.intro (Wr.put hb1 p4 (hw1 i hi).1) (Wr.put hb1 p4 (hw1 i hi).2)
 refine oN (fg [(2, .pointer (some ⟨b5, 0, none⟩)), (3, .pointer (some ⟨b6, 0, none⟩)), (5, .pointer (some ⟨b11, 0, none⟩)), (6, .pointer (some ⟨b17, 0, none⟩)), (9, .slice (some ⟨b40, 0, none⟩) 8 8), (10, .int .i64 ((i : Nat) : Int)), (11, .int .i64 ((k : Nat) : Int))] rfl (fun ρ55 => (wR (mv (oC (OpW.add (a := ((k : Nat) : Int)) (b := ((1 : Nat) : Int)) (r := ((k + 1 : Nat) : Int)) rfl rfl (add_i64 (a := k) (b := 1) (by omega)) (ma (oN ?_))))))))
 have g96 := g95.put p4 hn1 hlo1
 exact ⟨(k + 1), ⟨_, h72, nm rfl, g96, l6, (by omega), hw1n⟩, (by omega)⟩
 replace c31 : ¬ (k < (ws1.getD i wf0).l1) := (of_decide_eq_false c31)
 refine Wp.exit (wS (fg [(2, .pointer (some ⟨b5, 0, none⟩)), (3, .pointer (some ⟨b6, 0, none⟩)), (5, .pointer (some ⟨b11, 0, none⟩)), (6, .pointer (some ⟨b17, 0, none⟩)), (9, .slice (some ⟨b40, 0, none⟩) 8 8), (10, .int .i64 ((i : Nat) : Int))] rfl (fun ρ56 => (wR (ma (oN (Wp.block (Wp.loop (σ := Nat) (fun (m : Nat) (ρ : Env) (w' : World) => ∃ ρb h', ρ = upds ρb [(2, .pointer (some ⟨b5, 0, none⟩)), (3, .pointer (some ⟨b6, 0, none⟩)), (5, .pointer (some ⟨b11, 0, none⟩)), (6, .pointer (some ⟨b17, 0, none⟩)), (9, .slice (some ⟨b40, 0, none⟩) 8 8), (10, .int .i64 ((i : Nat) : Int)), (12, .int .i64 ((m : Nat) : Int))] ∧ Gr h w h' w' ∧ PH.le h72 h' ∧ (m ≤ (ws1.getD i wf0).l2) ∧ (∀ i, i < 8 → Wr h' w.heap.size w' (ws1.getD i wf0).b1 (ws1.getD i wf0).l1 ∧ Wr h' w.heap.size w' (ws1.getD i wf0).b2 (ws1.getD i wf0).l2)) (fun (m : Nat) => (ws1.getD i wf0).l2 - m) 0 ?_ ?_))))))))
 exact ⟨_, h72, nm rfl, g95, PH.le.refl _, (by omega), hw1⟩
 rintro m ρ57 w75 ⟨ρ58, h73, rfl, g97, l7, hm, hw2⟩
 have hb8 := Wb.at hwb i
 refine wS (sr (mv (mv (mv (oC (OpW.indexL (i := ((i : Nat) : Int)) (j := i) wf0 (s := 3) rfl Tryd.underlying50 Tryd.sizeOf24 rfl (LR.mono q25 ((l5.trans l6).trans l7)) rfl (by omega) (by omega) ?_))))))
 intro b44 o18 a4 e55 z3 cs3 qb11 qv3 qf3 qr3
 obtain rfl := qr3
 refine oC (fA (o := o18 + 2) Tryd.underlying24 rfl Tryd.sizeOf22 (by decide) rfl rfl ?_)
 refine oC (lO (v := .slice (ws1.getD i wf0).b2 ((ws1.getD i wf0).l2) ((ws1.getD i wf0).c2)) Tryd.isAgg22 rfl (g97.sat _ _ qb11) (cut_cell qv3 2 (by decide) rfl) ?_)
 refine oC (OpW.lenS Tryd.underlying22 (l := (ws1.getD i wf0).l2) rfl ?_)
 refine oC (OpW.lss (a := ((m : Nat) : Int)) (b := (((ws1.getD i wf0).l2 : Nat) : Int)) (r := decide (m < (ws1.getD i wf0).l2)) rfl rfl (lt_nat (a := m) (b := (ws1.getD i wf0).l2)) (oN (Wp.cond (t := decide (m < (ws1.getD i wf0).l2)) rfl (fun c32 => ?_) (fun c32 => ?_))))
 replace c32 : m < (ws1.getD i wf0).l2 := (of_decide_eq_true c32)
 refine Wp.skip (wS (Wp.block (fg [(2, .pointer (some ⟨b5, 0, none⟩)), (3, .pointer (some ⟨b6, 0, none⟩)), (5, .pointer (some ⟨b11, 0, none⟩)), (6, .pointer (some ⟨b17, 0, none⟩)), (9, .slice (some ⟨b40, 0, none⟩) 8 8), (10, .int .i64 ((i : Nat) : Int)), (12, .int .i64 ((m : Nat) : Int))] rfl (fun ρ59 => (wR (mv (mv (oC (OpW.indexL (i := ((i : Nat) : Int)) (j := i) wf0 (s := 3) rfl Tryd.underlying50 Tryd.sizeOf24 rfl (LR.mono q25 ((l5.trans l6).trans l7)) rfl (by omega) (by omega) ?_)))))))))
 intro b45 o19 a5 e56 z4 cs4 qb12 qv4 qf4 qr4
 obtain rfl := qr4
 refine oC (fA (o := o19 + 2) Tryd.underlying24 rfl Tryd.sizeOf22 (by decide) rfl rfl ?_)
 refine oC (lO (v := .slice (ws1.getD i wf0).b2 ((ws1.getD i wf0).l2) ((ws1.getD i wf0).c2)) Tryd.isAgg22 rfl (g97.sat _ _ qb12) (cut_cell qv4 2 (by decide) rfl) (mv ?_))
 obtain ⟨b46, of2, a6, e57, hbs2, hn2, hlo2, hb2, hf2⟩ := (hw2 i (by omega)).2 (by omega)
 refine oC (iA (b := b46) (off := of2) (l := (ws1.getD i wf0).l2) (c := (ws1.getD i wf0).c2) (i := ((m : Nat) : Int)) (o := of2 + m) Tryd.underlying22 Tryd.sizeOf51 (congrArg (fun x => Value.slice x ((ws1.getD i wf0).l2) ((ws1.getD i wf0).c2)) hbs2) rfl (by omega) (by omega) ?_)
 refine oC (OpW.store1 (v := .int .u32 ((78 : Nat) : Int)) Tryd.sizeOf51 rfl rfl rfl hb2 (by omega) ?_)
 intro w76 p5
 have hw2n := fun i hi => And.intro (Wr.put hb2 p5 (hw2 i hi).1) (Wr.put hb2 p5 (hw2 i hi).2)
 refine oN (fg [(2, .pointer (some ⟨b5, 0, none⟩)), (3, .pointer (some ⟨b6, 0, none⟩)), (5, .pointer (some ⟨b11, 0, none⟩)), (6, .pointer (some ⟨b17, 0, none⟩)), (9, .slice (some ⟨b40, 0, none⟩) 8 8), (10, .int .i64 ((i : Nat) : Int)), (12, .int .i64 ((m : Nat) : Int))] rfl (fun ρ60 => (wR (mv (oC (OpW.add (a := ((m : Nat) : Int)) (b := ((1 : Nat) : Int)) (r := ((m + 1 : Nat) : Int)) rfl rfl (add_i64 (a := m) (b := 1) (by omega)) (ma (oN ?_))))))))
 have g98 := g97.put p5 hn2 hlo2
 exact ⟨(m + 1), ⟨_, h73, nm rfl, g98, l7, (by omega), hw2n⟩, (by omega)⟩
 replace c32 : ¬ (m < (ws1.getD i wf0).l2) := (of_decide_eq_false c32)
 refine Wp.exit (fg [(2, .pointer (some ⟨b5, 0, none⟩)), (3, .pointer (some ⟨b6, 0, none⟩)), (5, .pointer (some ⟨b11, 0, none⟩)), (6, .pointer (some ⟨b17, 0, none⟩)), (9, .slice (some ⟨b40, 0, none⟩) 8 8), (10, .int .i64 ((i : Nat) : Int))] rfl (fun ρ61 => (wR (mv (oC (OpW.add (a := ((i : Nat) : Int)) (b := ((1 : Nat) : Int)) (r := ((i + 1 : Nat) : Int)) rfl rfl (add_i64 (a := i) (b := 1) (by omega)) (ma (oN ?_))))))))
 exact ⟨(i + 1), ⟨_, h73, nm rfl, g97, ((l5.trans l6).trans l7), (by omega), hw2⟩, (by omega)⟩
 replace c30 : ¬ (i < 8) := (of_decide_eq_false c30)
 refine Wp.exit (sr (oC (lA (cs := [.bool a.neg, .slice b12 a.n.length c8, .slice b13 a.d.length c9]) Tryd.isAgg24 Tryd.sizeOf24 rfl (g94.sat _ _ (((l3.trans l4).trans l5) _ _ qb4)) rfl rfl ?_)))
 refine oC (lA (cs := [.bool a.neg, .slice b1 a.n.length c1, .slice b2 a.d.length c2]) Tryd.isAgg24 Tryd.sizeOf24 rfl (g94.sat _ _ (((((((((gr2.le.trans l1).trans gr4.le).trans g25.le).trans g43.le).trans l2).trans l3).trans l4).trans l5) _ _ qb1)) rfl rfl ?_)
 refine oC (cF Tryd.call22 (rSame_c (f := a) (g := a) g94.sat (F.mk (U.mono q4 ((((g43.le.trans l2).trans l3).trans l4).trans l5)) (U.mono q5 ((((g43.le.trans l2).trans l3).trans l4).trans l5))) (F.mk (U.mono u1 (((((((((gr1.le.trans gr2.le).trans l1).trans gr4.le).trans g25.le).trans g43.le).trans l2).trans l3).trans l4).trans l5)) (U.mono u2 (((((((((gr1.le.trans gr2.le).trans l1).trans gr4.le).trans g25.le).trans g43.le).trans l2).trans l3).trans l4).trans l5))) (by omega) (by omega)) rfl ?_)
 intro r17 h74 w77 gr29 hr17
 replace hr17 := hr17.trans (congrArg Value.bool (sameF_self _))
 subst hr17
 refine mv ?_
 have g99 := g94.trans gr29
 refine oL rfl rfl rfl (lA (cs := [.bool b.neg, .slice b18 b.n.length c12, .slice b19 b.d.length c13]) Tryd.isAgg24 Tryd.sizeOf24 rfl (g99.sat _ _ (((l4.trans l5).trans gr29.le) _ _ qb5)) rfl rfl ?_)
 refine oL rfl rfl rfl (lA (cs := [.bool b.neg, .slice b3 b.n.length c3, .slice b4 b.d.length c4]) Tryd.isAgg24 Tryd.sizeOf24 rfl (g99.sat _ _ (((((((((l1.trans gr4.le).trans g25.le).trans g43.le).trans l2).trans l3).trans l4).trans l5).trans gr29.le) _ _ qb2)) rfl rfl ?_)
 refine oL rfl rfl rfl (cF Tryd.call22 (rSame_c (f := b) (g := b) g99.sat (F.mk (U.mono q9 ((((l2.trans l3).trans l4).trans l5).trans gr29.le)) (U.mono q10 ((((l2.trans l3).trans l4).trans l5).trans gr29.le))) (F.mk (U.mono u3 ((((((((((gr1.le.trans gr2.le).trans l1).trans gr4.le).trans g25.le).trans g43.le).trans l2).trans l3).trans l4).trans l5).trans gr29.le)) (U.mono u4 ((((((((((gr1.le.trans gr2.le).trans l1).trans gr4.le).trans g25.le).trans g43.le).trans l2).trans l3).trans l4).trans l5).trans gr29.le))) (by omega) (by omega)) rfl ?_)
 intro r18 h75 w78 gr30 hr18
 replace hr18 := hr18.trans (congrArg Value.bool (sameF_self _))
 subst hr18
 refine oC (pT (v := .bool true) rfl rfl (mv ?_))
 have g100 := g99.trans gr30
 refine oL rfl rfl rfl (cF Tryd.call20 (known_c  g100.sat (tb.mono (((((((((((gr1.le.trans gr2.le).trans l1).trans gr4.le).trans g25.le).trans g43.le).trans l2).trans l3).trans l4).trans l5).trans gr29.le).trans gr30.le)) ) rfl ?_)
 intro r19 h76 w79 gr31 hr19
 subst hr19
 refine oC (pT (v := .bool true) rfl rfl (ma (oN (Wp.ret (fin1_ret rfl (resOf_tmp (v := .bool true) rfl) ?_)))))
 have g101 := g100.trans gr31
 refine ⟨h76, g101, ?_⟩
 exact rfl
end Go.Ear
