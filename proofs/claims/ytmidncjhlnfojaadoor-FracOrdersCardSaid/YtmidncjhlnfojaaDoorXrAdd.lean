/- About package frac: XrAdd. -/
import Derived.Test.YtmidncjhlnfojaaDoorNatLaw2
import Derived.Test.YtmidncjhlnfojaaDoorEarShort
import Derived.Test.YtmidncjhlnfojaaDoorProg
import Derived.Test.YtmidncjhlnfojaaDoorNatLaw3
import Derived.Test.YtmidncjhlnfojaaDoorEarFrac
import Derived.Test.YtmidncjhlnfojaaDoorEarDec
import Derived.Test.YtmidncjhlnfojaaDoorItoaLay
import Derived.Lib.ItoaMem
import Derived.Test.YtmidncjhlnfojaaDoorEarApi
import Derived.Test.YtmidncjhlnfojaaDoorEarRef2
import Derived.Test.YtmidncjhlnfojaaDoorK1
import Derived.Test.YtmidncjhlnfojaaDoorK10
import Derived.Test.YtmidncjhlnfojaaDoorK12
import Derived.Test.YtmidncjhlnfojaaDoorXrlow
import Derived.Test.YtmidncjhlnfojaaDoorXrtimes
set_option linter.all false
namespace Go.Ear
open Go.Proofs
set_option maxRecDepth 20000
set_option linter.unusedVariables false
set_option maxHeartbeats 2000000
theorem rAdd_c {h : PH} {w : World} {v0 : Value} {a : Fr} {v1 : Value} {b : Fr} (hs : Sat h w) (pv0 : F h v0 a) (pv1 : F h v1 b) (hp0 : bf a + bf b ≤ 134217000) :
    Calls Tryd.prog 43 #[v0, v1] w (Ret h w fun h' r => Kn h' r (a.rat + b.rat)) := by
 obtain ⟨b1, c1, b2, c2, rfl, k1, k2, u1, u2⟩ := F.shape pv0
 have hbq1 := F.bq pv0
 obtain ⟨b3, c3, b4, c4, rfl, k3, k4, u3, u4⟩ := F.shape pv1
 have hbq2 := F.bq pv1
 have ha1 := sz_valn (F.fit pv0).1
 have ha2 := sz_lowF (F.fit pv0).2
 have ha3 := lowF_ne a
 have ha4 := bf_n a
 have ha5 := bf_d a
 have ha6 := bf_pos a
 have hb1 := sz_valn (F.fit pv1).1
 have hb2 := sz_lowF (F.fit pv1).2
 have hb3 := lowF_ne b
 have hb4 := bf_n b
 have hb5 := bf_d b
 have hb6 := bf_pos b
 have m1 := sz_mul (val a.n) (lowF b)
 have m2 := sz_mul (val b.n) (lowF a)
 have m3 := sz_mul (lowF a) (lowF b)
 have m4 := sz_add (val a.n * lowF b) (val b.n * lowF a)
 have m5 := sz_mono (Nat.sub_le (val a.n * lowF b) (val b.n * lowF a))
 have m6 := sz_mono (Nat.sub_le (val b.n * lowF a) (val a.n * lowF b))
 have l1 : (digs ((val a.n * lowF b) + (val b.n * lowF a))).length ≤ 536870912 := Nat.le_trans m4 (by omega)
 have l2 : (digs (lowF a * lowF b)).length ≤ 536870912 := Nat.le_trans m3 (by omega)
 have l3 : (digs ((val a.n * lowF b) - (val b.n * lowF a))).length ≤ 536870912 := Nat.le_trans m5 (by omega)
 have l4 : (digs ((val b.n * lowF a) - (val a.n * lowF b))).length ≤ 536870912 := Nat.le_trans m6 (by omega)
 have hD := Nat.mul_ne_zero ha3 hb3
 refine calls_ear (vs := [.agg #[.bool a.neg, .slice b1 a.n.length c1, .slice b2 a.d.length c2], .agg #[.bool b.neg, .slice b3 b.n.length c3, .slice b4 b.d.length c4]]) Tryd.func43 rfl rfl ?_
 have g1 := Gr.refl hs
 refine sr (oC (OpW.boxK (v := .agg #[.bool a.neg, .slice b1 a.n.length c1, .slice b2 a.d.length c2]) (arr := #[.bool a.neg, .slice b1 a.n.length c1, .slice b2 a.d.length c2]) g1.sat rfl rfl ?_))
 intro b5 h1 w1 gr1 qb1
 have g2 := g1.trans gr1
 refine oC (OpW.boxK (v := .agg #[.bool b.neg, .slice b3 b.n.length c3, .slice b4 b.d.length c4]) (arr := #[.bool b.neg, .slice b3 b.n.length c3, .slice b4 b.d.length c4]) g2.sat rfl rfl ?_)
 intro b6 h2 w2 gr2 qb2
 have g3 := g2.trans gr2
 refine oC (OpW.allocO (arr := #[.bool false, .slice none 0 0, .slice none 0 0]) g3.sat Tryd.zeroValue24 rfl ?_)
 intro b7 w3 gr3 n1 lo1 o1
 have lo2 := Nat.le_trans g3.ext.size lo1
 refine oN (wS ?_)
 have g4 := g3.trans gr3
 refine Wp.dagL 20 [8, 9, 10, 11, 12, 13, 14, 15, 16, 17, 18, 19, 20, 21, 22, 23, 24, 5, 6, 7] [eqv (.pointer (some ⟨b5, 1, none⟩)), eqv (.slice b1 a.n.length c1), fun h _ x => N h x (val a.n), eqv (.agg #[.bool b.neg, .slice b3 b.n.length c3, .slice b4 b.d.length c4]), fun h _ x => N h x (lowF b), fun h _ x => N h x ((val a.n) * (lowF b)), eqv (.pointer (some ⟨b6, 1, none⟩)), eqv (.slice b3 b.n.length c3), fun h _ x => N h x (val b.n), eqv (.agg #[.bool a.neg, .slice b1 a.n.length c1, .slice b2 a.d.length c2]), fun h _ x => N h x (lowF a), fun h _ x => N h x ((val b.n) * (lowF a)), eqv (.agg #[.bool a.neg, .slice b1 a.n.length c1, .slice b2 a.d.length c2]), fun h _ x => N h x (lowF a), eqv (.agg #[.bool b.neg, .slice b3 b.n.length c3, .slice b4 b.d.length c4]), fun h _ x => N h x (lowF b), fun h _ x => N h x ((lowF a) * (lowF b)), fun h _ x => N h x ((val a.n) * (lowF b)), fun h _ x => N h x ((val b.n) * (lowF a)), fun h _ x => N h x ((lowF a) * (lowF b))] mixed g4.sat rfl (by decide +kernel) ⟨sQ _, sQ _, (stab_N (val a.n)), sQ _, (stab_N (lowF b)), (stab_N ((val a.n) * (lowF b))), sQ _, sQ _, (stab_N (val b.n)), sQ _, (stab_N (lowF a)), (stab_N ((val b.n) * (lowF a))), sQ _, (stab_N (lowF a)), sQ _, (stab_N (lowF b)), (stab_N ((lowF a) * (lowF b))), (stab_N ((val a.n) * (lowF b))), (stab_N ((val b.n) * (lowF a))), (stab_N ((lowF a) * (lowF b))), trivial⟩ ?_ ?_
 intro stab
 refine ⟨?_, ?_, ?_, ?_, ?_, ?_, ?_, ?_, ?_, ?_, ?_, ?_, ?_, ?_, ?_, ?_, ?_, ?_, ?_, ?_, trivial⟩
 intro ρ1 h3 w4 g5 hdd1 hdo1
 have e1 : ρ1 2 = .pointer (some ⟨b5, 0, none⟩) := hdo1 2 rfl
 refine gP (fA (o := 1) Tryd.underlying24 rfl Tryd.sizeOf22 (by decide) e1 rfl ?_)
 exact ⟨_, h3, rfl, g5, fun j x _ p => p, rfl⟩
 intro ρ2 h4 w5 g6 hdd2 hdo2
 have e2 : ρ2 8 = .pointer (some ⟨b5, 1, none⟩) := hdd2 0 (by decide)
 have g7 := g4.trans g6
 refine gP (lO (v := .slice b1 a.n.length c1) Tryd.isAgg22 e2 (g7.sat _ _ ((gr2.le.trans g6.le) _ _ qb1)) rfl ?_)
 exact ⟨_, h4, rfl, g6, fun j x _ p => p, rfl⟩
 intro ρ3 h5 w6 g8 hdd3 hdo3
 have e3 : ρ3 9 = .slice b1 a.n.length c1 := hdd3 1 (by decide)
 have g9 := g4.trans g8
 refine gP (cF Tryd.call76 (rtrim_c (l := a.n) g9.sat (U.mono u1 ((gr1.le.trans gr2.le).trans g8.le)) (by first | omega | (simp only [List.length_set, List.length_replicate]; omega))) (cx e3 cxn) ?_)
 intro r1 h6 w7 gr4 hr1
 exact ⟨r1, h6, rfl, g8.trans gr4, fun j x _ => stab j _ _ _ _ x gr4, hr1⟩
 intro ρ4 h7 w8 g10 hdd4 hdo4
 have e4 : ρ4 3 = .pointer (some ⟨b6, 0, none⟩) := hdo4 3 rfl
 have g11 := g4.trans g10
 refine gP (lA (cs := [.bool b.neg, .slice b3 b.n.length c3, .slice b4 b.d.length c4]) Tryd.isAgg24 Tryd.sizeOf24 e4 (g11.sat _ _ (g10.le _ _ qb2)) rfl rfl ?_)
 exact ⟨_, h7, rfl, g10, fun j x _ p => p, rfl⟩
 intro ρ5 h8 w9 g12 hdd5 hdo5
 have e5 : ρ5 11 = .agg #[.bool b.neg, .slice b3 b.n.length c3, .slice b4 b.d.length c4] := hdd5 3 (by decide)
 have g13 := g4.trans g12
 refine gP (cF Tryd.call94 (rlow_c (f := b) g13.sat (F.mk (U.mono u3 ((gr1.le.trans gr2.le).trans g12.le)) (U.mono u4 ((gr1.le.trans gr2.le).trans g12.le))) (by omega)) (cx e5 cxn) ?_)
 intro r2 h9 w10 gr5 hr2
 exact ⟨r2, h9, rfl, g12.trans gr5, fun j x _ => stab j _ _ _ _ x gr5, hr2⟩
 intro ρ6 h10 w11 g14 hdd6 hdo6
 have q1 : N h10 (ρ6 10) (val a.n) := hdd6 2 (by decide)
 have q2 : N h10 (ρ6 12) (lowF b) := hdd6 4 (by decide)
 have g15 := g4.trans g14
 refine gP (cF Tryd.call93 (rtimes_c (a := val a.n) (b := lowF b) g15.sat q1 q2 (by omega) (by omega)) rfl ?_)
 intro r3 h11 w12 gr6 hr3
 exact ⟨r3, h11, rfl, g14.trans gr6, fun j x _ => stab j _ _ _ _ x gr6, hr3⟩
 intro ρ7 h12 w13 g16 hdd7 hdo7
 have e6 : ρ7 3 = .pointer (some ⟨b6, 0, none⟩) := hdo7 3 rfl
 refine gP (fA (o := 1) Tryd.underlying24 rfl Tryd.sizeOf22 (by decide) e6 rfl ?_)
 exact ⟨_, h12, rfl, g16, fun j x _ p => p, rfl⟩
 intro ρ8 h13 w14 g17 hdd8 hdo8
 have e7 : ρ8 14 = .pointer (some ⟨b6, 1, none⟩) := hdd8 6 (by decide)
 have g18 := g4.trans g17
 refine gP (lO (v := .slice b3 b.n.length c3) Tryd.isAgg22 e7 (g18.sat _ _ (g17.le _ _ qb2)) rfl ?_)
 exact ⟨_, h13, rfl, g17, fun j x _ p => p, rfl⟩
 intro ρ9 h14 w15 g19 hdd9 hdo9
 have e8 : ρ9 15 = .slice b3 b.n.length c3 := hdd9 7 (by decide)
 have g20 := g4.trans g19
 refine gP (cF Tryd.call76 (rtrim_c (l := b.n) g20.sat (U.mono u3 ((gr1.le.trans gr2.le).trans g19.le)) (by first | omega | (simp only [List.length_set, List.length_replicate]; omega))) (cx e8 cxn) ?_)
 intro r4 h15 w16 gr7 hr4
 exact ⟨r4, h15, rfl, g19.trans gr7, fun j x _ => stab j _ _ _ _ x gr7, hr4⟩
 intro ρ10 h16 w17 g21 hdd10 hdo10
 have e9 : ρ10 2 = .pointer (some ⟨b5, 0, none⟩) := hdo10 2 rfl
 have g22 := g4.trans g21
 refine gP (lA (cs := [.bool a.neg, .slice b1 a.n.length c1, .slice b2 a.d.length c2]) Tryd.isAgg24 Tryd.sizeOf24 e9 (g22.sat _ _ ((gr2.le.trans g21.le) _ _ qb1)) rfl rfl ?_)
 exact ⟨_, h16, rfl, g21, fun j x _ p => p, rfl⟩
 intro ρ11 h17 w18 g23 hdd11 hdo11
 have e10 : ρ11 17 = .agg #[.bool a.neg, .slice b1 a.n.length c1, .slice b2 a.d.length c2] := hdd11 9 (by decide)
 have g24 := g4.trans g23
 refine gP (cF Tryd.call94 (rlow_c (f := a) g24.sat (F.mk (U.mono u1 ((gr1.le.trans gr2.le).trans g23.le)) (U.mono u2 ((gr1.le.trans gr2.le).trans g23.le))) (by omega)) (cx e10 cxn) ?_)
 intro r5 h18 w19 gr8 hr5
 exact ⟨r5, h18, rfl, g23.trans gr8, fun j x _ => stab j _ _ _ _ x gr8, hr5⟩
 intro ρ12 h19 w20 g25 hdd12 hdo12
 have q3 : N h19 (ρ12 16) (val b.n) := hdd12 8 (by decide)
 have q4 : N h19 (ρ12 18) (lowF a) := hdd12 10 (by decide)
 have g26 := g4.trans g25
 refine gP (cF Tryd.call93 (rtimes_c (a := val b.n) (b := lowF a) g26.sat q3 q4 (by omega) (by omega)) rfl ?_)
 intro r6 h20 w21 gr9 hr6
 exact ⟨r6, h20, rfl, g25.trans gr9, fun j x _ => stab j _ _ _ _ x gr9, hr6⟩
 intro ρ13 h21 w22 g27 hdd13 hdo13
 have e11 : ρ13 2 = .pointer (some ⟨b5, 0, none⟩) := hdo13 2 rfl
 have g28 := g4.trans g27
 refine gP (lA (cs := [.bool a.neg, .slice b1 a.n.length c1, .slice b2 a.d.length c2]) Tryd.isAgg24 Tryd.sizeOf24 e11 (g28.sat _ _ ((gr2.le.trans g27.le) _ _ qb1)) rfl rfl ?_)
 exact ⟨_, h21, rfl, g27, fun j x _ p => p, rfl⟩
 intro ρ14 h22 w23 g29 hdd14 hdo14
 have e12 : ρ14 20 = .agg #[.bool a.neg, .slice b1 a.n.length c1, .slice b2 a.d.length c2] := hdd14 12 (by decide)
 have g30 := g4.trans g29
 refine gP (cF Tryd.call94 (rlow_c (f := a) g30.sat (F.mk (U.mono u1 ((gr1.le.trans gr2.le).trans g29.le)) (U.mono u2 ((gr1.le.trans gr2.le).trans g29.le))) (by omega)) (cx e12 cxn) ?_)
 intro r7 h23 w24 gr10 hr7
 exact ⟨r7, h23, rfl, g29.trans gr10, fun j x _ => stab j _ _ _ _ x gr10, hr7⟩
 intro ρ15 h24 w25 g31 hdd15 hdo15
 have e13 : ρ15 3 = .pointer (some ⟨b6, 0, none⟩) := hdo15 3 rfl
 have g32 := g4.trans g31
 refine gP (lA (cs := [.bool b.neg, .slice b3 b.n.length c3, .slice b4 b.d.length c4]) Tryd.isAgg24 Tryd.sizeOf24 e13 (g32.sat _ _ (g31.le _ _ qb2)) rfl rfl ?_)
 exact ⟨_, h24, rfl, g31, fun j x _ p => p, rfl⟩
 intro ρ16 h25 w26 g33 hdd16 hdo16
 have e14 : ρ16 22 = .agg #[.bool b.neg, .slice b3 b.n.length c3, .slice b4 b.d.length c4] := hdd16 14 (by decide)
 have g34 := g4.trans g33
 refine gP (cF Tryd.call94 (rlow_c (f := b) g34.sat (F.mk (U.mono u3 ((gr1.le.trans gr2.le).trans g33.le)) (U.mono u4 ((gr1.le.trans gr2.le).trans g33.le))) (by omega)) (cx e14 cxn) ?_)
 intro r8 h26 w27 gr11 hr8
 exact ⟨r8, h26, rfl, g33.trans gr11, fun j x _ => stab j _ _ _ _ x gr11, hr8⟩
 intro ρ17 h27 w28 g35 hdd17 hdo17
 have q5 : N h27 (ρ17 21) (lowF a) := hdd17 13 (by decide)
 have q6 : N h27 (ρ17 23) (lowF b) := hdd17 15 (by decide)
 have g36 := g4.trans g35
 refine gP (cF Tryd.call93 (rtimes_c (a := lowF a) (b := lowF b) g36.sat q5 q6 (by omega) (by omega)) rfl ?_)
 intro r9 h28 w29 gr12 hr9
 exact ⟨r9, h28, rfl, g35.trans gr12, fun j x _ => stab j _ _ _ _ x gr12, hr9⟩
 intro ρ18 h29 w30 g37 hdd18 hdo18
 have q7 : N h29 (ρ18 13) ((val a.n) * (lowF b)) := hdd18 5 (by decide)
 refine gP (OpW.assign (v := (ρ18 13)) rfl ?_)
 exact ⟨_, h29, rfl, g37, fun j x _ p => p, q7⟩
 intro ρ19 h30 w31 g38 hdd19 hdo19
 have q8 : N h30 (ρ19 19) ((val b.n) * (lowF a)) := hdd19 11 (by decide)
 refine gP (OpW.assign (v := (ρ19 19)) rfl ?_)
 exact ⟨_, h30, rfl, g38, fun j x _ p => p, q8⟩
 intro ρ20 h31 w32 g39 hdd20 hdo20
 have q9 : N h31 (ρ20 24) ((lowF a) * (lowF b)) := hdd20 16 (by decide)
 refine gP (OpW.assign (v := (ρ20 24)) rfl ?_)
 exact ⟨_, h31, rfl, g39, fun j x _ p => p, q9⟩
 intro ρ21 h32 w33 g40 hdp1 hdo21
 have e15 : ρ21 2 = .pointer (some ⟨b5, 0, none⟩) := hdo21 2 rfl
 have e16 : ρ21 3 = .pointer (some ⟨b6, 0, none⟩) := hdo21 3 rfl
 have e17 : ρ21 4 = .pointer (some ⟨b7, 0, none⟩) := hdo21 4 rfl
 have q10 : N h32 (ρ21 5) ((val a.n) * (lowF b)) := hdp1 17 rfl
 obtain ⟨x1, hx1⟩ : ∃ x, ρ21 5 = x := ⟨_, rfl⟩
 rw [hx1] at q10
 obtain ⟨b8, c5, rfl, k5⟩ := N.shape q10
 have q11 : N h32 (ρ21 6) ((val b.n) * (lowF a)) := hdp1 18 rfl
 obtain ⟨x2, hx2⟩ : ∃ x, ρ21 6 = x := ⟨_, rfl⟩
 rw [hx2] at q11
 obtain ⟨b9, c6, rfl, k6⟩ := N.shape q11
 have q12 : N h32 (ρ21 7) ((lowF a) * (lowF b)) := hdp1 19 rfl
 obtain ⟨x3, hx3⟩ : ∃ x, ρ21 7 = x := ⟨_, rfl⟩
 rw [hx3] at q12
 obtain ⟨b10, c7, rfl, k7⟩ := N.shape q12
 refine Ops.forget [(2, .pointer (some ⟨b5, 0, none⟩)), (3, .pointer (some ⟨b6, 0, none⟩)), (4, .pointer (some ⟨b7, 0, none⟩)), (5, .slice b8 ((digs ((val a.n) * (lowF b))).length) c5), (6, .slice b9 ((digs ((val b.n) * (lowF a))).length) c6), (7, .slice b10 ((digs ((lowF a) * (lowF b))).length) c7)] ⟨e15, e16, e17, hx1, hx2, hx3, trivial⟩ (fun ρ22 => (oN (wS (sr (oC (fA (o := 0) Tryd.underlying24 rfl Tryd.sizeOf4 (by decide) rfl rfl ?_))))))
 have g41 := g4.trans g40
 refine oC (lO (v := .bool a.neg) Tryd.isAgg4 rfl (g41.sat _ _ ((gr2.le.trans g40.le) _ _ qb1)) rfl ?_)
 refine oC (fA (o := 0) Tryd.underlying24 rfl Tryd.sizeOf4 (by decide) rfl rfl ?_)
 refine oC (lO (v := .bool b.neg) Tryd.isAgg4 rfl (g41.sat _ _ (g40.le _ _ qb2)) rfl ?_)
 refine oC (OpW.eqlB (a := a.neg) (b := b.neg) (r := a.neg == b.neg) Tryd.underlying4 rfl rfl rfl (oN (Wp.cond (t := a.neg == b.neg) rfl (fun c8 => ?_) (fun c8 => ?_))))
 replace c8 : a.neg = b.neg := (beq_t c8)
 refine wS (fg [(2, .pointer (some ⟨b5, 0, none⟩)), (4, .pointer (some ⟨b7, 0, none⟩)), (5, .slice b8 ((digs ((val a.n) * (lowF b))).length) c5), (6, .slice b9 ((digs ((val b.n) * (lowF a))).length) c6), (7, .slice b10 ((digs ((lowF a) * (lowF b))).length) c7)] rfl (fun ρ23 => ?_))
 refine Wp.dagL 7 [30, 31, 32, 33, 34, 35, 36] [eqv (.pointer (some ⟨b5, 0, none⟩)), eqv (.bool a.neg), eqv (.slice b8 ((digs ((val a.n) * (lowF b))).length) c5), eqv (.slice b9 ((digs ((val b.n) * (lowF a))).length) c6), fun h _ x => N h x (((val a.n) * (lowF b)) + ((val b.n) * (lowF a))), eqv (.slice b10 ((digs ((lowF a) * (lowF b))).length) c7), fun h _ x => Kn h x ((Fr.mk a.neg (digs (((val a.n) * (lowF b)) + ((val b.n) * (lowF a)))) (digs ((lowF a) * (lowF b)))).rat)] mixed g41.sat rfl (by decide +kernel) ⟨sQ _, sQ _, sQ _, sQ _, (stab_N (((val a.n) * (lowF b)) + ((val b.n) * (lowF a)))), sQ _, (stab_K ((Fr.mk a.neg (digs (((val a.n) * (lowF b)) + ((val b.n) * (lowF a)))) (digs ((lowF a) * (lowF b)))).rat)), trivial⟩ ?_ ?_
 intro stab
 refine ⟨?_, ?_, ?_, ?_, ?_, ?_, ?_, trivial⟩
 intro ρ24 h33 w34 g42 hdd21 hdo22
 have e18 : ρ24 2 = .pointer (some ⟨b5, 0, none⟩) := hdo22 2 rfl
 refine gP (fA (o := 0) Tryd.underlying24 rfl Tryd.sizeOf4 (by decide) e18 rfl ?_)
 exact ⟨_, h33, rfl, g42, fun j x _ p => p, rfl⟩
 intro ρ25 h34 w35 g43 hdd22 hdo23
 have e19 : ρ25 30 = .pointer (some ⟨b5, 0, none⟩) := hdd22 0 (by decide)
 have g44 := g41.trans g43
 refine gP (lO (v := .bool a.neg) Tryd.isAgg4 e19 (g44.sat _ _ (((gr2.le.trans g40.le).trans g43.le) _ _ qb1)) rfl ?_)
 exact ⟨_, h34, rfl, g43, fun j x _ p => p, rfl⟩
 intro ρ26 h35 w36 g45 hdd23 hdo24
 have e20 : ρ26 5 = .slice b8 ((digs ((val a.n) * (lowF b))).length) c5 := hdo24 5 rfl
 refine gP (OpW.move (v := .slice b8 ((digs ((val a.n) * (lowF b))).length) c5) e20 ?_)
 exact ⟨_, h35, rfl, g45, fun j x _ p => p, rfl⟩
 intro ρ27 h36 w37 g46 hdd24 hdo25
 have e21 : ρ27 6 = .slice b9 ((digs ((val b.n) * (lowF a))).length) c6 := hdo25 6 rfl
 refine gP (OpW.move (v := .slice b9 ((digs ((val b.n) * (lowF a))).length) c6) e21 ?_)
 exact ⟨_, h36, rfl, g46, fun j x _ p => p, rfl⟩
 intro ρ28 h37 w38 g47 hdd25 hdo26
 have e22 : ρ28 32 = .slice b8 ((digs ((val a.n) * (lowF b))).length) c5 := hdd25 2 (by decide)
 have e23 : ρ28 33 = .slice b9 ((digs ((val b.n) * (lowF a))).length) c6 := hdd25 3 (by decide)
 have g48 := g41.trans g47
 refine gP (cF Tryd.call96 (rplus_c (a := (val a.n) * (lowF b)) (b := (val b.n) * (lowF a)) g48.sat (N.mono q10 g47.le) (N.mono q11 g47.le) (by omega) (by omega)) (cx e22 (cx e23 cxn)) ?_)
 intro r10 h38 w39 gr13 hr10
 exact ⟨r10, h38, rfl, g47.trans gr13, fun j x _ => stab j _ _ _ _ x gr13, hr10⟩
 intro ρ29 h39 w40 g49 hdd26 hdo27
 have e24 : ρ29 7 = .slice b10 ((digs ((lowF a) * (lowF b))).length) c7 := hdo27 7 rfl
 refine gP (OpW.move (v := .slice b10 ((digs ((lowF a) * (lowF b))).length) c7) e24 ?_)
 exact ⟨_, h39, rfl, g49, fun j x _ p => p, rfl⟩
 intro ρ30 h40 w41 g50 hdd27 hdo28
 have e25 : ρ30 31 = .bool a.neg := hdd27 1 (by decide)
 have q13 : N h40 (ρ30 34) (((val a.n) * (lowF b)) + ((val b.n) * (lowF a))) := hdd27 4 (by decide)
 have e26 : ρ30 35 = .slice b10 ((digs ((lowF a) * (lowF b))).length) c7 := hdd27 5 (by decide)
 have g51 := g41.trans g50
 refine gP (cF Tryd.call81 (rmake1_c (s := a.neg) (n := digs (((val a.n) * (lowF b)) + ((val b.n) * (lowF a)))) (d := digs ((lowF a) * (lowF b))) g51.sat q13 (U.mono q12 g50.le) (by omega) (by first | omega | exact Nat.zero_le _)) (cx e25 (cx rfl (cx e26 cxn))) ?_)
 intro r11 h41 w42 gr14 hr11
 exact ⟨r11, h41, rfl, g50.trans gr14, fun j x _ => stab j _ _ _ _ x gr14, hr11⟩
 intro ρ31 h42 w43 g52 hdp2 hdo29
 have e27 : ρ31 4 = .pointer (some ⟨b7, 0, none⟩) := hdo29 4 rfl
 have q14 : Kn h42 (ρ31 36) ((Fr.mk a.neg (digs (((val a.n) * (lowF b)) + ((val b.n) * (lowF a)))) (digs ((lowF a) * (lowF b)))).rat) := hdp2 6 rfl
 obtain ⟨x4, hx4⟩ : ∃ x, ρ31 36 = x := ⟨_, rfl⟩
 rw [hx4] at q14
 obtain ⟨b11, c9, b12, c10, rfl, k8, k9, u5, u6⟩ := F.shape q14
 refine Ops.forget [(4, .pointer (some ⟨b7, 0, none⟩)), (36, .agg #[.bool ((frK ((Fr.mk a.neg (digs (((val a.n) * (lowF b)) + ((val b.n) * (lowF a)))) (digs ((lowF a) * (lowF b)))).rat)).neg), .slice b11 ((frK ((Fr.mk a.neg (digs (((val a.n) * (lowF b)) + ((val b.n) * (lowF a)))) (digs ((lowF a) * (lowF b)))).rat)).n.length) c9, .slice b12 ((frK ((Fr.mk a.neg (digs (((val a.n) * (lowF b)) + ((val b.n) * (lowF a)))) (digs ((lowF a) * (lowF b)))).rat)).d.length) c10])] ⟨e27, hx4, trivial⟩ (fun ρ32 => ?_)
 have o2 := g52.kp (g40.kp ⟨o1, n1⟩)
 refine oC (sA (cs := [.bool ((frK ((Fr.mk a.neg (digs (((val a.n) * (lowF b)) + ((val b.n) * (lowF a)))) (digs ((lowF a) * (lowF b)))).rat)).neg), .slice b11 ((frK ((Fr.mk a.neg (digs (((val a.n) * (lowF b)) + ((val b.n) * (lowF a)))) (digs ((lowF a) * (lowF b)))).rat)).n.length) c9, .slice b12 ((frK ((Fr.mk a.neg (digs (((val a.n) * (lowF b)) + ((val b.n) * (lowF a)))) (digs ((lowF a) * (lowF b)))).rat)).d.length) c10]) Tryd.sizeOf24 rfl rfl rfl rfl o2.1 rfl ?_)
 intro w44 p1
 refine oN (Wp.ret (fin1_ret rfl (resOf_cellA (cs := [.bool ((frK ((Fr.mk a.neg (digs (((val a.n) * (lowF b)) + ((val b.n) * (lowF a)))) (digs ((lowF a) * (lowF b)))).rat)).neg), .slice b11 ((frK ((Fr.mk a.neg (digs (((val a.n) * (lowF b)) + ((val b.n) * (lowF a)))) (digs ((lowF a) * (lowF b)))).rat)).n.length) c9, .slice b12 ((frK ((Fr.mk a.neg (digs (((val a.n) * (lowF b)) + ((val b.n) * (lowF a)))) (digs ((lowF a) * (lowF b)))).rat)).d.length) c10]) Tryd.isAgg24 Tryd.sizeOf24 rfl p1.at_ (Nat.le_of_ble_eq_true rfl) rfl) ?_))
 have g53 := (g41.trans g52).put p1 o2.2 lo2
 refine ⟨h42, g53, ?_⟩
 exact (Kn.cast ((mk_rat hD).trans (add_F (by assumption))) (F.mk u5 u6))
 replace c8 : ¬ (a.neg = b.neg) := (beq_f c8)
 refine Wp.skip (wS (wS (fg [(2, .pointer (some ⟨b5, 0, none⟩)), (3, .pointer (some ⟨b6, 0, none⟩)), (4, .pointer (some ⟨b7, 0, none⟩)), (5, .slice b8 ((digs ((val a.n) * (lowF b))).length) c5), (6, .slice b9 ((digs ((val b.n) * (lowF a))).length) c6), (7, .slice b10 ((digs ((lowF a) * (lowF b))).length) c7)] rfl (fun ρ33 => (wR (mv (mv (oC (cF Tryd.call100 (rorder_c (a := (val a.n) * (lowF b)) (b := (val b.n) * (lowF a)) g41.sat q10 q11 (by omega) (by omega)) rfl ?_)))))))))
 intro r12 h43 w45 gr15 hr12
 subst hr12
 refine oC (OpW.geq (a := (cmpN ((val a.n) * (lowF b)) ((val b.n) * (lowF a)))) (b := ((0 : Nat) : Int)) (r := decide (((0 : Nat) : Int) ≤ (cmpN ((val a.n) * (lowF b)) ((val b.n) * (lowF a))))) rfl rfl rfl (oN (Wp.cond (t := decide (((0 : Nat) : Int) ≤ (cmpN ((val a.n) * (lowF b)) ((val b.n) * (lowF a))))) rfl (fun c11 => ?_) (fun c11 => ?_))))
 replace c11 : ((0 : Nat) : Int) ≤ (cmpN ((val a.n) * (lowF b)) ((val b.n) * (lowF a))) := (of_decide_eq_true c11)
 have hge := cmpN_nonneg c11
 refine wS ?_
 have g54 := g41.trans gr15
 refine Wp.dagL 7 [41, 42, 43, 44, 45, 46, 47] [eqv (.pointer (some ⟨b5, 0, none⟩)), eqv (.bool a.neg), eqv (.slice b8 ((digs ((val a.n) * (lowF b))).length) c5), eqv (.slice b9 ((digs ((val b.n) * (lowF a))).length) c6), fun h _ x => N h x (((val a.n) * (lowF b)) - ((val b.n) * (lowF a))), eqv (.slice b10 ((digs ((lowF a) * (lowF b))).length) c7), fun h _ x => Kn h x ((Fr.mk a.neg (digs (((val a.n) * (lowF b)) - ((val b.n) * (lowF a)))) (digs ((lowF a) * (lowF b)))).rat)] mixed g54.sat rfl (by decide +kernel) ⟨sQ _, sQ _, sQ _, sQ _, (stab_N (((val a.n) * (lowF b)) - ((val b.n) * (lowF a)))), sQ _, (stab_K ((Fr.mk a.neg (digs (((val a.n) * (lowF b)) - ((val b.n) * (lowF a)))) (digs ((lowF a) * (lowF b)))).rat)), trivial⟩ ?_ ?_
 intro stab
 refine ⟨?_, ?_, ?_, ?_, ?_, ?_, ?_, trivial⟩
 intro ρ34 h44 w46 g55 hdd28 hdo30
 have e28 : ρ34 2 = .pointer (some ⟨b5, 0, none⟩) := hdo30 2 rfl
 refine gP (fA (o := 0) Tryd.underlying24 rfl Tryd.sizeOf4 (by decide) e28 rfl ?_)
 exact ⟨_, h44, rfl, g55, fun j x _ p => p, rfl⟩
 intro ρ35 h45 w47 g56 hdd29 hdo31
 have e29 : ρ35 41 = .pointer (some ⟨b5, 0, none⟩) := hdd29 0 (by decide)
 have g57 := g54.trans g56
 refine gP (lO (v := .bool a.neg) Tryd.isAgg4 e29 (g57.sat _ _ ((((gr2.le.trans g40.le).trans gr15.le).trans g56.le) _ _ qb1)) rfl ?_)
 exact ⟨_, h45, rfl, g56, fun j x _ p => p, rfl⟩
 intro ρ36 h46 w48 g58 hdd30 hdo32
 have e30 : ρ36 5 = .slice b8 ((digs ((val a.n) * (lowF b))).length) c5 := hdo32 5 rfl
 refine gP (OpW.move (v := .slice b8 ((digs ((val a.n) * (lowF b))).length) c5) e30 ?_)
 exact ⟨_, h46, rfl, g58, fun j x _ p => p, rfl⟩
 intro ρ37 h47 w49 g59 hdd31 hdo33
 have e31 : ρ37 6 = .slice b9 ((digs ((val b.n) * (lowF a))).length) c6 := hdo33 6 rfl
 refine gP (OpW.move (v := .slice b9 ((digs ((val b.n) * (lowF a))).length) c6) e31 ?_)
 exact ⟨_, h47, rfl, g59, fun j x _ p => p, rfl⟩
 intro ρ38 h48 w50 g60 hdd32 hdo34
 have e32 : ρ38 43 = .slice b8 ((digs ((val a.n) * (lowF b))).length) c5 := hdd32 2 (by decide)
 have e33 : ρ38 44 = .slice b9 ((digs ((val b.n) * (lowF a))).length) c6 := hdd32 3 (by decide)
 have g61 := g54.trans g60
 refine gP (cF Tryd.call101 (rminus_c (a := (val a.n) * (lowF b)) (b := (val b.n) * (lowF a)) g61.sat (N.mono q10 (gr15.le.trans g60.le)) (N.mono q11 (gr15.le.trans g60.le)) (by omega) (by omega) (by omega)) (cx e32 (cx e33 cxn)) ?_)
 intro r13 h49 w51 gr16 hr13
 exact ⟨r13, h49, rfl, g60.trans gr16, fun j x _ => stab j _ _ _ _ x gr16, hr13⟩
 intro ρ39 h50 w52 g62 hdd33 hdo35
 have e34 : ρ39 7 = .slice b10 ((digs ((lowF a) * (lowF b))).length) c7 := hdo35 7 rfl
 refine gP (OpW.move (v := .slice b10 ((digs ((lowF a) * (lowF b))).length) c7) e34 ?_)
 exact ⟨_, h50, rfl, g62, fun j x _ p => p, rfl⟩
 intro ρ40 h51 w53 g63 hdd34 hdo36
 have e35 : ρ40 42 = .bool a.neg := hdd34 1 (by decide)
 have q15 : N h51 (ρ40 45) (((val a.n) * (lowF b)) - ((val b.n) * (lowF a))) := hdd34 4 (by decide)
 have e36 : ρ40 46 = .slice b10 ((digs ((lowF a) * (lowF b))).length) c7 := hdd34 5 (by decide)
 have g64 := g54.trans g63
 refine gP (cF Tryd.call81 (rmake1_c (s := a.neg) (n := digs (((val a.n) * (lowF b)) - ((val b.n) * (lowF a)))) (d := digs ((lowF a) * (lowF b))) g64.sat q15 (U.mono q12 (gr15.le.trans g63.le)) (by omega) (by first | omega | exact Nat.zero_le _)) (cx e35 (cx rfl (cx e36 cxn))) ?_)
 intro r14 h52 w54 gr17 hr14
 exact ⟨r14, h52, rfl, g63.trans gr17, fun j x _ => stab j _ _ _ _ x gr17, hr14⟩
 intro ρ41 h53 w55 g65 hdp3 hdo37
 have e37 : ρ41 4 = .pointer (some ⟨b7, 0, none⟩) := hdo37 4 rfl
 have q16 : Kn h53 (ρ41 47) ((Fr.mk a.neg (digs (((val a.n) * (lowF b)) - ((val b.n) * (lowF a)))) (digs ((lowF a) * (lowF b)))).rat) := hdp3 6 rfl
 obtain ⟨x5, hx5⟩ : ∃ x, ρ41 47 = x := ⟨_, rfl⟩
 rw [hx5] at q16
 obtain ⟨b13, c12, b14, c13, rfl, k10, k11, u7, u8⟩ := F.shape q16
 refine Ops.forget [(4, .pointer (some ⟨b7, 0, none⟩)), (47, .agg #[.bool ((frK ((Fr.mk a.neg (digs (((val a.n) * (lowF b)) - ((val b.n) * (lowF a)))) (digs ((lowF a) * (lowF b)))).rat)).neg), .slice b13 ((frK ((Fr.mk a.neg (digs (((val a.n) * (lowF b)) - ((val b.n) * (lowF a)))) (digs ((lowF a) * (lowF b)))).rat)).n.length) c12, .slice b14 ((frK ((Fr.mk a.neg (digs (((val a.n) * (lowF b)) - ((val b.n) * (lowF a)))) (digs ((lowF a) * (lowF b)))).rat)).d.length) c13])] ⟨e37, hx5, trivial⟩ (fun ρ42 => ?_)
 have o4 := g65.kp (gr15.kp (g40.kp ⟨o1, n1⟩))
 refine oC (sA (cs := [.bool ((frK ((Fr.mk a.neg (digs (((val a.n) * (lowF b)) - ((val b.n) * (lowF a)))) (digs ((lowF a) * (lowF b)))).rat)).neg), .slice b13 ((frK ((Fr.mk a.neg (digs (((val a.n) * (lowF b)) - ((val b.n) * (lowF a)))) (digs ((lowF a) * (lowF b)))).rat)).n.length) c12, .slice b14 ((frK ((Fr.mk a.neg (digs (((val a.n) * (lowF b)) - ((val b.n) * (lowF a)))) (digs ((lowF a) * (lowF b)))).rat)).d.length) c13]) Tryd.sizeOf24 rfl rfl rfl rfl o4.1 rfl ?_)
 intro w56 p2
 refine oN (Wp.ret (fin1_ret rfl (resOf_cellA (cs := [.bool ((frK ((Fr.mk a.neg (digs (((val a.n) * (lowF b)) - ((val b.n) * (lowF a)))) (digs ((lowF a) * (lowF b)))).rat)).neg), .slice b13 ((frK ((Fr.mk a.neg (digs (((val a.n) * (lowF b)) - ((val b.n) * (lowF a)))) (digs ((lowF a) * (lowF b)))).rat)).n.length) c12, .slice b14 ((frK ((Fr.mk a.neg (digs (((val a.n) * (lowF b)) - ((val b.n) * (lowF a)))) (digs ((lowF a) * (lowF b)))).rat)).d.length) c13]) Tryd.isAgg24 Tryd.sizeOf24 rfl p2.at_ (Nat.le_of_ble_eq_true rfl) rfl) ?_))
 have g66 := (g54.trans g65).put p2 o4.2 lo2
 refine ⟨h53, g66, ?_⟩
 exact (Kn.cast ((mk_rat hD).trans (sub_F (by assumption) hge)) (F.mk u7 u8))
 replace c11 : ¬ (((0 : Nat) : Int) ≤ (cmpN ((val a.n) * (lowF b)) ((val b.n) * (lowF a)))) := (of_decide_eq_false c11)
 have hge := Nat.le_of_lt (cmpN_nneg c11)
 refine Wp.skip (wS ?_)
 have g67 := g41.trans gr15
 refine Wp.dagL 7 [48, 49, 50, 51, 52, 53, 54] [eqv (.pointer (some ⟨b6, 0, none⟩)), eqv (.bool b.neg), eqv (.slice b9 ((digs ((val b.n) * (lowF a))).length) c6), eqv (.slice b8 ((digs ((val a.n) * (lowF b))).length) c5), fun h _ x => N h x (((val b.n) * (lowF a)) - ((val a.n) * (lowF b))), eqv (.slice b10 ((digs ((lowF a) * (lowF b))).length) c7), fun h _ x => Kn h x ((Fr.mk b.neg (digs (((val b.n) * (lowF a)) - ((val a.n) * (lowF b)))) (digs ((lowF a) * (lowF b)))).rat)] mixed g67.sat rfl (by decide +kernel) ⟨sQ _, sQ _, sQ _, sQ _, (stab_N (((val b.n) * (lowF a)) - ((val a.n) * (lowF b)))), sQ _, (stab_K ((Fr.mk b.neg (digs (((val b.n) * (lowF a)) - ((val a.n) * (lowF b)))) (digs ((lowF a) * (lowF b)))).rat)), trivial⟩ ?_ ?_
 intro stab
 refine ⟨?_, ?_, ?_, ?_, ?_, ?_, ?_, trivial⟩
 intro ρ43 h54 w57 g68 hdd35 hdo38
 have e38 : ρ43 3 = .pointer (some ⟨b6, 0, none⟩) := hdo38 3 rfl
 refine gP (fA (o := 0) Tryd.underlying24 rfl Tryd.sizeOf4 (by decide) e38 rfl ?_)
 exact ⟨_, h54, rfl, g68, fun j x _ p => p, rfl⟩
 intro ρ44 h55 w58 g69 hdd36 hdo39
 have e39 : ρ44 48 = .pointer (some ⟨b6, 0, none⟩) := hdd36 0 (by decide)
 have g70 := g67.trans g69
 refine gP (lO (v := .bool b.neg) Tryd.isAgg4 e39 (g70.sat _ _ (((g40.le.trans gr15.le).trans g69.le) _ _ qb2)) rfl ?_)
 exact ⟨_, h55, rfl, g69, fun j x _ p => p, rfl⟩
 intro ρ45 h56 w59 g71 hdd37 hdo40
 have e40 : ρ45 6 = .slice b9 ((digs ((val b.n) * (lowF a))).length) c6 := hdo40 6 rfl
 refine gP (OpW.move (v := .slice b9 ((digs ((val b.n) * (lowF a))).length) c6) e40 ?_)
 exact ⟨_, h56, rfl, g71, fun j x _ p => p, rfl⟩
 intro ρ46 h57 w60 g72 hdd38 hdo41
 have e41 : ρ46 5 = .slice b8 ((digs ((val a.n) * (lowF b))).length) c5 := hdo41 5 rfl
 refine gP (OpW.move (v := .slice b8 ((digs ((val a.n) * (lowF b))).length) c5) e41 ?_)
 exact ⟨_, h57, rfl, g72, fun j x _ p => p, rfl⟩
 intro ρ47 h58 w61 g73 hdd39 hdo42
 have e42 : ρ47 50 = .slice b9 ((digs ((val b.n) * (lowF a))).length) c6 := hdd39 2 (by decide)
 have e43 : ρ47 51 = .slice b8 ((digs ((val a.n) * (lowF b))).length) c5 := hdd39 3 (by decide)
 have g74 := g67.trans g73
 refine gP (cF Tryd.call101 (rminus_c (a := (val b.n) * (lowF a)) (b := (val a.n) * (lowF b)) g74.sat (N.mono q11 (gr15.le.trans g73.le)) (N.mono q10 (gr15.le.trans g73.le)) (by omega) (by omega) (by omega)) (cx e42 (cx e43 cxn)) ?_)
 intro r15 h59 w62 gr18 hr15
 exact ⟨r15, h59, rfl, g73.trans gr18, fun j x _ => stab j _ _ _ _ x gr18, hr15⟩
 intro ρ48 h60 w63 g75 hdd40 hdo43
 have e44 : ρ48 7 = .slice b10 ((digs ((lowF a) * (lowF b))).length) c7 := hdo43 7 rfl
 refine gP (OpW.move (v := .slice b10 ((digs ((lowF a) * (lowF b))).length) c7) e44 ?_)
 exact ⟨_, h60, rfl, g75, fun j x _ p => p, rfl⟩
 intro ρ49 h61 w64 g76 hdd41 hdo44
 have e45 : ρ49 49 = .bool b.neg := hdd41 1 (by decide)
 have q17 : N h61 (ρ49 52) (((val b.n) * (lowF a)) - ((val a.n) * (lowF b))) := hdd41 4 (by decide)
 have e46 : ρ49 53 = .slice b10 ((digs ((lowF a) * (lowF b))).length) c7 := hdd41 5 (by decide)
 have g77 := g67.trans g76
 refine gP (cF Tryd.call81 (rmake1_c (s := b.neg) (n := digs (((val b.n) * (lowF a)) - ((val a.n) * (lowF b)))) (d := digs ((lowF a) * (lowF b))) g77.sat q17 (U.mono q12 (gr15.le.trans g76.le)) (by omega) (by first | omega | exact Nat.zero_le _)) (cx e45 (cx rfl (cx e46 cxn))) ?_)
 intro r16 h62 w65 gr19 hr16
 exact ⟨r16, h62, rfl, g76.trans gr19, fun j x _ => stab j _ _ _ _ x gr19, hr16⟩
 intro ρ50 h63 w66 g78 hdp4 hdo45
 have e47 : ρ50 4 = .pointer (some ⟨b7, 0, none⟩) := hdo45 4 rfl
 have q18 : Kn h63 (ρ50 54) ((Fr.mk b.neg (digs (((val b.n) * (lowF a)) - ((val a.n) * (lowF b)))) (digs ((lowF a) * (lowF b)))).rat) := hdp4 6 rfl
 obtain ⟨x6, hx6⟩ : ∃ x, ρ50 54 = x := ⟨_, rfl⟩
 rw [hx6] at q18
 obtain ⟨b15, c14, b16, c15, rfl, k12, k13, u9, u10⟩ := F.shape q18
 refine Ops.forget [(4, .pointer (some ⟨b7, 0, none⟩)), (54, .agg #[.bool ((frK ((Fr.mk b.neg (digs (((val b.n) * (lowF a)) - ((val a.n) * (lowF b)))) (digs ((lowF a) * (lowF b)))).rat)).neg), .slice b15 ((frK ((Fr.mk b.neg (digs (((val b.n) * (lowF a)) - ((val a.n) * (lowF b)))) (digs ((lowF a) * (lowF b)))).rat)).n.length) c14, .slice b16 ((frK ((Fr.mk b.neg (digs (((val b.n) * (lowF a)) - ((val a.n) * (lowF b)))) (digs ((lowF a) * (lowF b)))).rat)).d.length) c15])] ⟨e47, hx6, trivial⟩ (fun ρ51 => ?_)
 have o6 := g78.kp (gr15.kp (g40.kp ⟨o1, n1⟩))
 refine oC (sA (cs := [.bool ((frK ((Fr.mk b.neg (digs (((val b.n) * (lowF a)) - ((val a.n) * (lowF b)))) (digs ((lowF a) * (lowF b)))).rat)).neg), .slice b15 ((frK ((Fr.mk b.neg (digs (((val b.n) * (lowF a)) - ((val a.n) * (lowF b)))) (digs ((lowF a) * (lowF b)))).rat)).n.length) c14, .slice b16 ((frK ((Fr.mk b.neg (digs (((val b.n) * (lowF a)) - ((val a.n) * (lowF b)))) (digs ((lowF a) * (lowF b)))).rat)).d.length) c15]) Tryd.sizeOf24 rfl rfl rfl rfl o6.1 rfl ?_)
 intro w67 p3
 refine oN (Wp.ret (fin1_ret rfl (resOf_cellA (cs := [.bool ((frK ((Fr.mk b.neg (digs (((val b.n) * (lowF a)) - ((val a.n) * (lowF b)))) (digs ((lowF a) * (lowF b)))).rat)).neg), .slice b15 ((frK ((Fr.mk b.neg (digs (((val b.n) * (lowF a)) - ((val a.n) * (lowF b)))) (digs ((lowF a) * (lowF b)))).rat)).n.length) c14, .slice b16 ((frK ((Fr.mk b.neg (digs (((val b.n) * (lowF a)) - ((val a.n) * (lowF b)))) (digs ((lowF a) * (lowF b)))).rat)).d.length) c15]) Tryd.isAgg24 Tryd.sizeOf24 rfl p3.at_ (Nat.le_of_ble_eq_true rfl) rfl) ?_))
 have g79 := (g67.trans g78).put p3 o6.2 lo2
 refine ⟨h63, g79, ?_⟩
 exact (Kn.cast ((mk_rat hD).trans (sub_F' (by assumption) hge)) (F.mk u9 u10))
end Go.Ear
