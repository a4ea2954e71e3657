/- About package frac: XrMul. -/
import Derived.Test.YtmidncjhlnfojaaDoorNatLaw2
import Derived.Test.YtmidncjhlnfojaaDoorEarShort
import Derived.Test.YtmidncjhlnfojaaDoorProg
import Derived.Test.YtmidncjhlnfojaaDoorNatLaw3
import Derived.Test.YtmidncjhlnfojaaDoorEarFrac
import Derived.Test.YtmidncjhlnfojaaDoorEarDec
import Derived.Test.YtmidncjhlnfojaaDoorItoaLay
import Derived.Lib.ItoaMem
import Derived.Test.YtmidncjhlnfojaaDoorEarApi
import Derived.Test.YtmidncjhlnfojaaDoorEarRef2
import Derived.Test.YtmidncjhlnfojaaDoorK1
import Derived.Test.YtmidncjhlnfojaaDoorK10
import Derived.Test.YtmidncjhlnfojaaDoorK12
import Derived.Test.YtmidncjhlnfojaaDoorXrlow
import Derived.Test.YtmidncjhlnfojaaDoorXrtimes
set_option linter.all false
namespace Go.Ear
open Go.Proofs
set_option maxRecDepth 20000
set_option linter.unusedVariables false
set_option maxHeartbeats 2000000
theorem rMul_c {h : PH} {w : World} {v0 : Value} {a : Fr} {v1 : Value} {b : Fr} (hs : Sat h w) (pv0 : F h v0 a) (pv1 : F h v1 b) (hp0 : bf a + bf b ≤ 134217000) :
    Calls Tryd.prog 37 #[v0, v1] w (Ret h w fun h' r => Kn h' r (a.rat * b.rat)) := by
 obtain ⟨b1, c1, b2, c2, rfl, k1, k2, u1, u2⟩ := F.shape pv0
 have hbq1 := F.bq pv0
 obtain ⟨b3, c3, b4, c4, rfl, k3, k4, u3, u4⟩ := F.shape pv1
 have hbq2 := F.bq pv1
 have ha1 := sz_valn (F.fit pv0).1
 have ha2 := sz_lowF (F.fit pv0).2
 have ha3 := lowF_ne a
 have ha4 := bf_n a
 have ha5 := bf_d a
 have ha6 := bf_pos a
 have hb1 := sz_valn (F.fit pv1).1
 have hb2 := sz_lowF (F.fit pv1).2
 have hb3 := lowF_ne b
 have hb4 := bf_n b
 have hb5 := bf_d b
 have hb6 := bf_pos b
 have m1 := sz_mul (val a.n) (val b.n)
 have m3 := sz_mul (lowF a) (lowF b)
 have l1 : (digs (val a.n * val b.n)).length ≤ 536870912 := Nat.le_trans m1 (by omega)
 have l2 : (digs (lowF a * lowF b)).length ≤ 536870912 := Nat.le_trans m3 (by omega)
 have hD := Nat.mul_ne_zero ha3 hb3
 refine calls_ear (vs := [.agg #[.bool a.neg, .slice b1 a.n.length c1, .slice b2 a.d.length c2], .agg #[.bool b.neg, .slice b3 b.n.length c3, .slice b4 b.d.length c4]]) Tryd.func37 rfl rfl ?_
 have g1 := Gr.refl hs
 refine sr (oC (OpW.boxK (v := .agg #[.bool a.neg, .slice b1 a.n.length c1, .slice b2 a.d.length c2]) (arr := #[.bool a.neg, .slice b1 a.n.length c1, .slice b2 a.d.length c2]) g1.sat rfl rfl ?_))
 intro b5 h1 w1 gr1 qb1
 have g2 := g1.trans gr1
 refine oC (OpW.boxK (v := .agg #[.bool b.neg, .slice b3 b.n.length c3, .slice b4 b.d.length c4]) (arr := #[.bool b.neg, .slice b3 b.n.length c3, .slice b4 b.d.length c4]) g2.sat rfl rfl ?_)
 intro b6 h2 w2 gr2 qb2
 have g3 := g2.trans gr2
 refine oC (OpW.allocO (arr := #[.bool false, .slice none 0 0, .slice none 0 0]) g3.sat Tryd.zeroValue24 rfl ?_)
 intro b7 w3 gr3 n1 lo1 o1
 have lo2 := Nat.le_trans g3.ext.size lo1
 refine oN (wS ?_)
 have g4 := g3.trans gr3
 refine Wp.dagL 18 [5, 6, 7, 8, 9, 10, 11, 12, 13, 14, 15, 16, 17, 18, 19, 20, 21, 22] [eqv (.pointer (some ⟨b5, 0, none⟩)), eqv (.bool a.neg), eqv (.pointer (some ⟨b6, 0, none⟩)), eqv (.bool b.neg), eqv (.bool (a.neg != b.neg)), eqv (.pointer (some ⟨b5, 1, none⟩)), eqv (.slice b1 a.n.length c1), fun h _ x => N h x (val a.n), eqv (.pointer (some ⟨b6, 1, none⟩)), eqv (.slice b3 b.n.length c3), fun h _ x => N h x (val b.n), fun h _ x => N h x ((val a.n) * (val b.n)), eqv (.agg #[.bool a.neg, .slice b1 a.n.length c1, .slice b2 a.d.length c2]), fun h _ x => N h x (lowF a), eqv (.agg #[.bool b.neg, .slice b3 b.n.length c3, .slice b4 b.d.length c4]), fun h _ x => N h x (lowF b), fun h _ x => N h x ((lowF a) * (lowF b)), fun h _ x => Kn h x ((Fr.mk (a.neg != b.neg) (digs ((val a.n) * (val b.n))) (digs ((lowF a) * (lowF b)))).rat)] mixed g4.sat rfl (by decide +kernel) ⟨sQ _, sQ _, sQ _, sQ _, sQ _, sQ _, sQ _, (stab_N (val a.n)), sQ _, sQ _, (stab_N (val b.n)), (stab_N ((val a.n) * (val b.n))), sQ _, (stab_N (lowF a)), sQ _, (stab_N (lowF b)), (stab_N ((lowF a) * (lowF b))), (stab_K ((Fr.mk (a.neg != b.neg) (digs ((val a.n) * (val b.n))) (digs ((lowF a) * (lowF b)))).rat)), trivial⟩ ?_ ?_
 intro stab
 refine ⟨?_, ?_, ?_, ?_, ?_, ?_, ?_, ?_, ?_, ?_, ?_, ?_, ?_, ?_, ?_, ?_, ?_, ?_, trivial⟩
 intro ρ1 h3 w4 g5 hdd1 hdo1
 have e1 : ρ1 2 = .pointer (some ⟨b5, 0, none⟩) := hdo1 2 rfl
 refine gP (fA (o := 0) Tryd.underlying24 rfl Tryd.sizeOf4 (by decide) e1 rfl ?_)
 exact ⟨_, h3, rfl, g5, fun j x _ p => p, rfl⟩
 intro ρ2 h4 w5 g6 hdd2 hdo2
 have e2 : ρ2 5 = .pointer (some ⟨b5, 0, none⟩) := hdd2 0 (by decide)
 have g7 := g4.trans g6
 refine gP (lO (v := .bool a.neg) Tryd.isAgg4 e2 (g7.sat _ _ ((gr2.le.trans g6.le) _ _ qb1)) rfl ?_)
 exact ⟨_, h4, rfl, g6, fun j x _ p => p, rfl⟩
 intro ρ3 h5 w6 g8 hdd3 hdo3
 have e3 : ρ3 3 = .pointer (some ⟨b6, 0, none⟩) := hdo3 3 rfl
 refine gP (fA (o := 0) Tryd.underlying24 rfl Tryd.sizeOf4 (by decide) e3 rfl ?_)
 exact ⟨_, h5, rfl, g8, fun j x _ p => p, rfl⟩
 intro ρ4 h6 w7 g9 hdd4 hdo4
 have e4 : ρ4 7 = .pointer (some ⟨b6, 0, none⟩) := hdd4 2 (by decide)
 have g10 := g4.trans g9
 refine gP (lO (v := .bool b.neg) Tryd.isAgg4 e4 (g10.sat _ _ (g9.le _ _ qb2)) rfl ?_)
 exact ⟨_, h6, rfl, g9, fun j x _ p => p, rfl⟩
 intro ρ5 h7 w8 g11 hdd5 hdo5
 have e5 : ρ5 6 = .bool a.neg := hdd5 1 (by decide)
 have e6 : ρ5 8 = .bool b.neg := hdd5 3 (by decide)
 refine gP (OpW.neqB (a := a.neg) (b := b.neg) (r := a.neg != b.neg) Tryd.underlying4 e5 e6 rfl ?_)
 exact ⟨_, h7, rfl, g11, fun j x _ p => p, rfl⟩
 intro ρ6 h8 w9 g12 hdd6 hdo6
 have e7 : ρ6 2 = .pointer (some ⟨b5, 0, none⟩) := hdo6 2 rfl
 refine gP (fA (o := 1) Tryd.underlying24 rfl Tryd.sizeOf22 (by decide) e7 rfl ?_)
 exact ⟨_, h8, rfl, g12, fun j x _ p => p, rfl⟩
 intro ρ7 h9 w10 g13 hdd7 hdo7
 have e8 : ρ7 10 = .pointer (some ⟨b5, 1, none⟩) := hdd7 5 (by decide)
 have g14 := g4.trans g13
 refine gP (lO (v := .slice b1 a.n.length c1) Tryd.isAgg22 e8 (g14.sat _ _ ((gr2.le.trans g13.le) _ _ qb1)) rfl ?_)
 exact ⟨_, h9, rfl, g13, fun j x _ p => p, rfl⟩
 intro ρ8 h10 w11 g15 hdd8 hdo8
 have e9 : ρ8 11 = .slice b1 a.n.length c1 := hdd8 6 (by decide)
 have g16 := g4.trans g15
 refine gP (cF Tryd.call76 (rtrim_c (l := a.n) g16.sat (U.mono u1 ((gr1.le.trans gr2.le).trans g15.le)) (by first | omega | (simp only [List.length_set, List.length_replicate]; omega))) (cx e9 cxn) ?_)
 intro r1 h11 w12 gr4 hr1
 exact ⟨r1, h11, rfl, g15.trans gr4, fun j x _ => stab j _ _ _ _ x gr4, hr1⟩
 intro ρ9 h12 w13 g17 hdd9 hdo9
 have e10 : ρ9 3 = .pointer (some ⟨b6, 0, none⟩) := hdo9 3 rfl
 refine gP (fA (o := 1) Tryd.underlying24 rfl Tryd.sizeOf22 (by decide) e10 rfl ?_)
 exact ⟨_, h12, rfl, g17, fun j x _ p => p, rfl⟩
 intro ρ10 h13 w14 g18 hdd10 hdo10
 have e11 : ρ10 13 = .pointer (some ⟨b6, 1, none⟩) := hdd10 8 (by decide)
 have g19 := g4.trans g18
 refine gP (lO (v := .slice b3 b.n.length c3) Tryd.isAgg22 e11 (g19.sat _ _ (g18.le _ _ qb2)) rfl ?_)
 exact ⟨_, h13, rfl, g18, fun j x _ p => p, rfl⟩
 intro ρ11 h14 w15 g20 hdd11 hdo11
 have e12 : ρ11 14 = .slice b3 b.n.length c3 := hdd11 9 (by decide)
 have g21 := g4.trans g20
 refine gP (cF Tryd.call76 (rtrim_c (l := b.n) g21.sat (U.mono u3 ((gr1.le.trans gr2.le).trans g20.le)) (by first | omega | (simp only [List.length_set, List.length_replicate]; omega))) (cx e12 cxn) ?_)
 intro r2 h15 w16 gr5 hr2
 exact ⟨r2, h15, rfl, g20.trans gr5, fun j x _ => stab j _ _ _ _ x gr5, hr2⟩
 intro ρ12 h16 w17 g22 hdd12 hdo12
 have q1 : N h16 (ρ12 12) (val a.n) := hdd12 7 (by decide)
 have q2 : N h16 (ρ12 15) (val b.n) := hdd12 10 (by decide)
 have g23 := g4.trans g22
 refine gP (cF Tryd.call93 (rtimes_c (a := val a.n) (b := val b.n) g23.sat q1 q2 (by omega) (by omega)) rfl ?_)
 intro r3 h17 w18 gr6 hr3
 exact ⟨r3, h17, rfl, g22.trans gr6, fun j x _ => stab j _ _ _ _ x gr6, hr3⟩
 intro ρ13 h18 w19 g24 hdd13 hdo13
 have e13 : ρ13 2 = .pointer (some ⟨b5, 0, none⟩) := hdo13 2 rfl
 have g25 := g4.trans g24
 refine gP (lA (cs := [.bool a.neg, .slice b1 a.n.length c1, .slice b2 a.d.length c2]) Tryd.isAgg24 Tryd.sizeOf24 e13 (g25.sat _ _ ((gr2.le.trans g24.le) _ _ qb1)) rfl rfl ?_)
 exact ⟨_, h18, rfl, g24, fun j x _ p => p, rfl⟩
 intro ρ14 h19 w20 g26 hdd14 hdo14
 have e14 : ρ14 17 = .agg #[.bool a.neg, .slice b1 a.n.length c1, .slice b2 a.d.length c2] := hdd14 12 (by decide)
 have g27 := g4.trans g26
 refine gP (cF Tryd.call94 (rlow_c (f := a) g27.sat (F.mk (U.mono u1 ((gr1.le.trans gr2.le).trans g26.le)) (U.mono u2 ((gr1.le.trans gr2.le).trans g26.le))) (by omega)) (cx e14 cxn) ?_)
 intro r4 h20 w21 gr7 hr4
 exact ⟨r4, h20, rfl, g26.trans gr7, fun j x _ => stab j _ _ _ _ x gr7, hr4⟩
 intro ρ15 h21 w22 g28 hdd15 hdo15
 have e15 : ρ15 3 = .pointer (some ⟨b6, 0, none⟩) := hdo15 3 rfl
 have g29 := g4.trans g28
 refine gP (lA (cs := [.bool b.neg, .slice b3 b.n.length c3, .slice b4 b.d.length c4]) Tryd.isAgg24 Tryd.sizeOf24 e15 (g29.sat _ _ (g28.le _ _ qb2)) rfl rfl ?_)
 exact ⟨_, h21, rfl, g28, fun j x _ p => p, rfl⟩
 intro ρ16 h22 w23 g30 hdd16 hdo16
 have e16 : ρ16 19 = .agg #[.bool b.neg, .slice b3 b.n.length c3, .slice b4 b.d.length c4] := hdd16 14 (by decide)
 have g31 := g4.trans g30
 refine gP (cF Tryd.call94 (rlow_c (f := b) g31.sat (F.mk (U.mono u3 ((gr1.le.trans gr2.le).trans g30.le)) (U.mono u4 ((gr1.le.trans gr2.le).trans g30.le))) (by omega)) (cx e16 cxn) ?_)
 intro r5 h23 w24 gr8 hr5
 exact ⟨r5, h23, rfl, g30.trans gr8, fun j x _ => stab j _ _ _ _ x gr8, hr5⟩
 intro ρ17 h24 w25 g32 hdd17 hdo17
 have q3 : N h24 (ρ17 18) (lowF a) := hdd17 13 (by decide)
 have q4 : N h24 (ρ17 20) (lowF b) := hdd17 15 (by decide)
 have g33 := g4.trans g32
 refine gP (cF Tryd.call93 (rtimes_c (a := lowF a) (b := lowF b) g33.sat q3 q4 (by omega) (by omega)) rfl ?_)
 intro r6 h25 w26 gr9 hr6
 exact ⟨r6, h25, rfl, g32.trans gr9, fun j x _ => stab j _ _ _ _ x gr9, hr6⟩
 intro ρ18 h26 w27 g34 hdd18 hdo18
 have e17 : ρ18 9 = .bool (a.neg != b.neg) := hdd18 4 (by decide)
 have q5 : N h26 (ρ18 16) ((val a.n) * (val b.n)) := hdd18 11 (by decide)
 have q6 : N h26 (ρ18 21) ((lowF a) * (lowF b)) := hdd18 16 (by decide)
 have g35 := g4.trans g34
 refine gP (cF Tryd.call81 (rmake1_c (s := a.neg != b.neg) (n := digs ((val a.n) * (val b.n))) (d := digs ((lowF a) * (lowF b))) g35.sat q5 q6 (by omega) (by first | omega | exact Nat.zero_le _)) (cx e17 (cx rfl (cx rfl cxn))) ?_)
 intro r7 h27 w28 gr10 hr7
 exact ⟨r7, h27, rfl, g34.trans gr10, fun j x _ => stab j _ _ _ _ x gr10, hr7⟩
 intro ρ19 h28 w29 g36 hdp1 hdo19
 have e18 : ρ19 4 = .pointer (some ⟨b7, 0, none⟩) := hdo19 4 rfl
 have q7 : Kn h28 (ρ19 22) ((Fr.mk (a.neg != b.neg) (digs ((val a.n) * (val b.n))) (digs ((lowF a) * (lowF b)))).rat) := hdp1 17 rfl
 obtain ⟨x1, hx1⟩ : ∃ x, ρ19 22 = x := ⟨_, rfl⟩
 rw [hx1] at q7
 obtain ⟨b8, c5, b9, c6, rfl, k5, k6, u5, u6⟩ := F.shape q7
 refine Ops.forget [(4, .pointer (some ⟨b7, 0, none⟩)), (22, .agg #[.bool ((frK ((Fr.mk (a.neg != b.neg) (digs ((val a.n) * (val b.n))) (digs ((lowF a) * (lowF b)))).rat)).neg), .slice b8 ((frK ((Fr.mk (a.neg != b.neg) (digs ((val a.n) * (val b.n))) (digs ((lowF a) * (lowF b)))).rat)).n.length) c5, .slice b9 ((frK ((Fr.mk (a.neg != b.neg) (digs ((val a.n) * (val b.n))) (digs ((lowF a) * (lowF b)))).rat)).d.length) c6])] ⟨e18, hx1, trivial⟩ (fun ρ20 => ?_)
 have o2 := g36.kp ⟨o1, n1⟩
 refine oC (sA (cs := [.bool ((frK ((Fr.mk (a.neg != b.neg) (digs ((val a.n) * (val b.n))) (digs ((lowF a) * (lowF b)))).rat)).neg), .slice b8 ((frK ((Fr.mk (a.neg != b.neg) (digs ((val a.n) * (val b.n))) (digs ((lowF a) * (lowF b)))).rat)).n.length) c5, .slice b9 ((frK ((Fr.mk (a.neg != b.neg) (digs ((val a.n) * (val b.n))) (digs ((lowF a) * (lowF b)))).rat)).d.length) c6]) Tryd.sizeOf24 rfl rfl rfl rfl o2.1 rfl ?_)
 intro w30 p1
 refine oN (Wp.ret (fin1_ret rfl (resOf_cellA (cs := [.bool ((frK ((Fr.mk (a.neg != b.neg) (digs ((val a.n) * (val b.n))) (digs ((lowF a) * (lowF b)))).rat)).neg), .slice b8 ((frK ((Fr.mk (a.neg != b.neg) (digs ((val a.n) * (val b.n))) (digs ((lowF a) * (lowF b)))).rat)).n.length) c5, .slice b9 ((frK ((Fr.mk (a.neg != b.neg) (digs ((val a.n) * (val b.n))) (digs ((lowF a) * (lowF b)))).rat)).d.length) c6]) Tryd.isAgg24 Tryd.sizeOf24 rfl p1.at_ (Nat.le_of_ble_eq_true rfl) rfl) ?_))
 have g37 := (g4.trans g36).put p1 o2.2 lo2
 refine ⟨h28, g37, ?_⟩
 exact (Kn.cast ((mk_rat hD).trans mul_F) (F.mk u5 u6))
end Go.Ear
