/- About package frac: XrDown. -/
import Derived.Test.YtmidncjhlnfojaaDoorNatLaw2
import Derived.Test.YtmidncjhlnfojaaDoorEarShort
import Derived.Test.YtmidncjhlnfojaaDoorProg
import Derived.Test.YtmidncjhlnfojaaDoorNatLaw3
import Derived.Test.YtmidncjhlnfojaaDoorEarFrac
import Derived.Test.YtmidncjhlnfojaaDoorEarDec
import Derived.Test.YtmidncjhlnfojaaDoorItoaLay
import Derived.Lib.ItoaMem
import Derived.Test.YtmidncjhlnfojaaDoorEarApi
import Derived.Test.YtmidncjhlnfojaaDoorEarRef2
import Derived.Test.YtmidncjhlnfojaaDoorK1
import Derived.Test.YtmidncjhlnfojaaDoorK10
import Derived.Test.YtmidncjhlnfojaaDoorK11
import Derived.Test.YtmidncjhlnfojaaDoorK12
import Derived.Test.YtmidncjhlnfojaaDoorX10
set_option linter.all false
namespace Go.Ear
open Go.Proofs
set_option maxRecDepth 20000
set_option linter.unusedVariables false
set_option maxHeartbeats 2000000
theorem rDown_c {h : PH} {w : World} {v0 : Value} {a : Fr} (hs : Sat h w) (pv0 : F h v0 a) (hp0 : bf a ≤ 100000000) :
    Calls Tryd.prog 61 #[v0] w (Ret h w fun h' r => Kn h' r ((a.rat.floor : Int) : Rat)) := by
 obtain ⟨b1, c1, b2, c2, rfl, k1, k2, u1, u2⟩ := F.shape pv0
 have hbq1 := F.bq pv0
 have ha1 := sz_valn (F.fit pv0).1
 have ha2 := sz_lowF (F.fit pv0).2
 have ha3 := lowF_ne a
 have ha4 := bf_n a
 have ha5 := bf_d a
 have ha6 := bf_pos a
 have hqs := sz_mono (Nat.div_le_self (val a.n) (lowF a))
 have hqm := sz_mono (Nat.le_of_lt (Nat.mod_lt (val a.n) (Nat.pos_of_ne_zero ha3)))
 have hqp := sz_add (val a.n / lowF a) 1
 have h1 := sz_one
 have l1 : (digs (val a.n / lowF a)).length ≤ 536870912 := Nat.le_trans hqs (by omega)
 have l2 : (digs (val a.n / lowF a + 1)).length ≤ 536870912 := Nat.le_trans hqp (by omega)
 have l3 : (digs (val a.n % lowF a)).length ≤ 536870912 := Nat.le_trans hqm (by omega)
 refine calls_ear (vs := [.agg #[.bool a.neg, .slice b1 a.n.length c1, .slice b2 a.d.length c2]]) Tryd.func61 rfl rfl ?_
 have g1 := Gr.refl hs
 refine sr (oC (OpW.boxK (v := .agg #[.bool a.neg, .slice b1 a.n.length c1, .slice b2 a.d.length c2]) (arr := #[.bool a.neg, .slice b1 a.n.length c1, .slice b2 a.d.length c2]) g1.sat rfl rfl ?_))
 intro b3 h1 w1 gr1 qb1
 have g2 := g1.trans gr1
 refine oC (OpW.allocO (arr := #[.bool false, .slice none 0 0, .slice none 0 0]) g2.sat Tryd.zeroValue24 rfl ?_)
 intro b4 w2 gr2 n1 lo1 o1
 have lo2 := Nat.le_trans g2.ext.size lo1
 refine oN (wS ?_)
 have g3 := g2.trans gr2
 refine Wp.dagL 11 [6, 7, 8, 9, 10, 11, 5, 12, 13, 3, 4] [eqv (.pointer (some ⟨b3, 1, none⟩)), eqv (.slice b1 a.n.length c1), fun h _ x => N h x (val a.n), eqv (.agg #[.bool a.neg, .slice b1 a.n.length c1, .slice b2 a.d.length c2]), fun h _ x => N h x (lowF a), fun h _ x => ∃ x1 x2, x = .tuple #[x1, x2] ∧ N h x1 ((val a.n) / (lowF a)) ∧ N h x2 ((val a.n) % (lowF a)), fun h _ x => ∃ b5z c3z b6z c4z, x = .tuple #[.slice b5z ((digs ((val a.n) / (lowF a))).length) c3z, .slice b6z ((digs ((val a.n) % (lowF a))).length) c4z] ∧ N h (.slice b5z ((digs ((val a.n) / (lowF a))).length) c3z) ((val a.n) / (lowF a)) ∧ N h (.slice b6z ((digs ((val a.n) % (lowF a))).length) c4z) ((val a.n) % (lowF a)), fun h _ x => ∃ b7z c5z, x = .slice b7z ((digs ((val a.n) / (lowF a))).length) c5z ∧ N h (.slice b7z ((digs ((val a.n) / (lowF a))).length) c5z) ((val a.n) / (lowF a)), fun h _ x => ∃ b10z c8z, x = .slice b10z ((digs ((val a.n) % (lowF a))).length) c8z ∧ N h (.slice b10z ((digs ((val a.n) % (lowF a))).length) c8z) ((val a.n) % (lowF a)), fun h _ x => ∃ b11z c9z, x = .slice b11z ((digs ((val a.n) / (lowF a))).length) c9z ∧ N h (.slice b11z ((digs ((val a.n) / (lowF a))).length) c9z) ((val a.n) / (lowF a)), fun h _ x => ∃ b12z c10z, x = .slice b12z ((digs ((val a.n) % (lowF a))).length) c10z ∧ N h (.slice b12z ((digs ((val a.n) % (lowF a))).length) c10z) ((val a.n) % (lowF a))] mixed g3.sat rfl (by decide +kernel) ⟨sQ _, sQ _, (stab_N (val a.n)), sQ _, (stab_N (lowF a)), (stab_tup2 (stab_N ((val a.n) / (lowF a))) (stab_N ((val a.n) % (lowF a)))), (fun _ _ _ _ _ g ⟨_, _, _, _, e, f0, f1⟩ => ⟨_, _, _, _, e, N.mono f0 g.le, N.mono f1 g.le⟩), (fun _ _ _ _ _ g ⟨_, _, e, f0⟩ => ⟨_, _, e, N.mono f0 g.le⟩), (fun _ _ _ _ _ g ⟨_, _, e, f0⟩ => ⟨_, _, e, N.mono f0 g.le⟩), (fun _ _ _ _ _ g ⟨_, _, e, f0⟩ => ⟨_, _, e, N.mono f0 g.le⟩), (fun _ _ _ _ _ g ⟨_, _, e, f0⟩ => ⟨_, _, e, N.mono f0 g.le⟩), trivial⟩ ?_ ?_
 intro stab
 refine ⟨?_, ?_, ?_, ?_, ?_, ?_, ?_, ?_, ?_, ?_, ?_, trivial⟩
 intro ρ1 h2 w3 g4 hdd1 hdo1
 have e1 : ρ1 1 = .pointer (some ⟨b3, 0, none⟩) := hdo1 1 rfl
 refine gP (fA (o := 1) Tryd.underlying24 rfl Tryd.sizeOf22 (by decide) e1 rfl ?_)
 exact ⟨_, h2, rfl, g4, fun j x _ p => p, rfl⟩
 intro ρ2 h3 w4 g5 hdd2 hdo2
 have e2 : ρ2 6 = .pointer (some ⟨b3, 1, none⟩) := hdd2 0 (by decide)
 have g6 := g3.trans g5
 refine gP (lO (v := .slice b1 a.n.length c1) Tryd.isAgg22 e2 (g6.sat _ _ (g5.le _ _ qb1)) rfl ?_)
 exact ⟨_, h3, rfl, g5, fun j x _ p => p, rfl⟩
 intro ρ3 h4 w5 g7 hdd3 hdo3
 have e3 : ρ3 7 = .slice b1 a.n.length c1 := hdd3 1 (by decide)
 have g8 := g3.trans g7
 refine gP (cF Tryd.call76 (rtrim_c (l := a.n) g8.sat (U.mono u1 (gr1.le.trans g7.le)) (by first | omega | (simp only [List.length_set, List.length_replicate]; omega))) (cx e3 cxn) ?_)
 intro r1 h5 w6 gr3 hr1
 exact ⟨r1, h5, rfl, g7.trans gr3, fun j x _ => stab j _ _ _ _ x gr3, hr1⟩
 intro ρ4 h6 w7 g9 hdd4 hdo4
 have e4 : ρ4 1 = .pointer (some ⟨b3, 0, none⟩) := hdo4 1 rfl
 have g10 := g3.trans g9
 refine gP (lA (cs := [.bool a.neg, .slice b1 a.n.length c1, .slice b2 a.d.length c2]) Tryd.isAgg24 Tryd.sizeOf24 e4 (g10.sat _ _ (g9.le _ _ qb1)) rfl rfl ?_)
 exact ⟨_, h6, rfl, g9, fun j x _ p => p, rfl⟩
 intro ρ5 h7 w8 g11 hdd5 hdo5
 have e5 : ρ5 9 = .agg #[.bool a.neg, .slice b1 a.n.length c1, .slice b2 a.d.length c2] := hdd5 3 (by decide)
 have g12 := g3.trans g11
 refine gP (cF Tryd.call94 (rlow_c (f := a) g12.sat (F.mk (U.mono u1 (gr1.le.trans g11.le)) (U.mono u2 (gr1.le.trans g11.le))) (by omega)) (cx e5 cxn) ?_)
 intro r2 h8 w9 gr4 hr2
 exact ⟨r2, h8, rfl, g11.trans gr4, fun j x _ => stab j _ _ _ _ x gr4, hr2⟩
 intro ρ6 h9 w10 g13 hdd6 hdo6
 have q1 : N h9 (ρ6 8) (val a.n) := hdd6 2 (by decide)
 have q2 : N h9 (ρ6 10) (lowF a) := hdd6 4 (by decide)
 have g14 := g3.trans g13
 refine gP (cF Tryd.call108 (rdivide_c (a := val a.n) (b := lowF a) g14.sat q1 q2 (by omega) (by omega) (by omega)) rfl ?_)
 intro r3 h10 w11 gr5 hr3
 exact ⟨r3, h10, rfl, g13.trans gr5, fun j x _ => stab j _ _ _ _ x gr5, hr3⟩
 intro ρ7 h11 w12 g15 hdd7 hdo7
 have q3 : ∃ x3 x4, (ρ7 11) = .tuple #[x3, x4] ∧ N h11 x3 ((val a.n) / (lowF a)) ∧ N h11 x4 ((val a.n) % (lowF a)) := hdd7 5 (by decide)
 obtain ⟨x5, hx1⟩ : ∃ x, ρ7 11 = x := ⟨_, rfl⟩
 rw [hx1] at q3
 obtain ⟨r4, r5, rfl, hr4, hr5⟩ := q3
 obtain ⟨b5, c3, rfl, k3⟩ := N.shape hr4
 obtain ⟨b6, c4, rfl, k4⟩ := N.shape hr5
 refine gP (OpW.move (v := .tuple #[.slice b5 ((digs ((val a.n) / (lowF a))).length) c3, .slice b6 ((digs ((val a.n) % (lowF a))).length) c4]) hx1 ?_)
 exact ⟨_, h11, rfl, g15, fun j x _ p => p, ⟨_, _, _, _, rfl, hr4, hr5⟩⟩
 intro ρ8 h12 w13 g16 hdd8 hdo8
 have q4 : ∃ b5z c3z b6z c4z, (ρ8 5) = .tuple #[.slice b5z ((digs ((val a.n) / (lowF a))).length) c3z, .slice b6z ((digs ((val a.n) % (lowF a))).length) c4z] ∧ N h12 (.slice b5z ((digs ((val a.n) / (lowF a))).length) c3z) ((val a.n) / (lowF a)) ∧ N h12 (.slice b6z ((digs ((val a.n) % (lowF a))).length) c4z) ((val a.n) % (lowF a)) := hdd8 6 (by decide)
 obtain ⟨b7, c5, b8, c6, e6, q5, q6⟩ := q4
 have e6 : ρ8 5 = .tuple #[.slice b7 ((digs ((val a.n) / (lowF a))).length) c5, .slice b8 ((digs ((val a.n) % (lowF a))).length) c6] := e6
 refine gP (OpW.extract (v := .slice b7 ((digs ((val a.n) / (lowF a))).length) c5) e6 rfl ?_)
 exact ⟨_, h12, rfl, g16, fun j x _ p => p, ⟨_, _, rfl, q5⟩⟩
 intro ρ9 h13 w14 g17 hdd9 hdo9
 have q7 : ∃ b5z c3z b6z c4z, (ρ9 5) = .tuple #[.slice b5z ((digs ((val a.n) / (lowF a))).length) c3z, .slice b6z ((digs ((val a.n) % (lowF a))).length) c4z] ∧ N h13 (.slice b5z ((digs ((val a.n) / (lowF a))).length) c3z) ((val a.n) / (lowF a)) ∧ N h13 (.slice b6z ((digs ((val a.n) % (lowF a))).length) c4z) ((val a.n) % (lowF a)) := hdd9 6 (by decide)
 obtain ⟨b9, c7, b10, c8, e7, q8, q9⟩ := q7
 have e7 : ρ9 5 = .tuple #[.slice b9 ((digs ((val a.n) / (lowF a))).length) c7, .slice b10 ((digs ((val a.n) % (lowF a))).length) c8] := e7
 refine gP (OpW.extract (v := .slice b10 ((digs ((val a.n) % (lowF a))).length) c8) e7 rfl ?_)
 exact ⟨_, h13, rfl, g17, fun j x _ p => p, ⟨_, _, rfl, q9⟩⟩
 intro ρ10 h14 w15 g18 hdd10 hdo10
 have q10 : ∃ b7z c5z, (ρ10 12) = .slice b7z ((digs ((val a.n) / (lowF a))).length) c5z ∧ N h14 (.slice b7z ((digs ((val a.n) / (lowF a))).length) c5z) ((val a.n) / (lowF a)) := hdd10 7 (by decide)
 obtain ⟨b11, c9, e8, q11⟩ := q10
 have e8 : ρ10 12 = .slice b11 ((digs ((val a.n) / (lowF a))).length) c9 := e8
 refine gP (OpW.assign (v := .slice b11 ((digs ((val a.n) / (lowF a))).length) c9) e8 ?_)
 exact ⟨_, h14, rfl, g18, fun j x _ p => p, ⟨_, _, rfl, q11⟩⟩
 intro ρ11 h15 w16 g19 hdd11 hdo11
 have q12 : ∃ b10z c8z, (ρ11 13) = .slice b10z ((digs ((val a.n) % (lowF a))).length) c8z ∧ N h15 (.slice b10z ((digs ((val a.n) % (lowF a))).length) c8z) ((val a.n) % (lowF a)) := hdd11 8 (by decide)
 obtain ⟨b12, c10, e9, q13⟩ := q12
 have e9 : ρ11 13 = .slice b12 ((digs ((val a.n) % (lowF a))).length) c10 := e9
 refine gP (OpW.assign (v := .slice b12 ((digs ((val a.n) % (lowF a))).length) c10) e9 ?_)
 exact ⟨_, h15, rfl, g19, fun j x _ p => p, ⟨_, _, rfl, q13⟩⟩
 intro ρ12 h16 w17 g20 hdp1 hdo12
 have e10 : ρ12 1 = .pointer (some ⟨b3, 0, none⟩) := hdo12 1 rfl
 have e11 : ρ12 2 = .pointer (some ⟨b4, 0, none⟩) := hdo12 2 rfl
 have q14 : ∃ b11z c9z, (ρ12 3) = .slice b11z ((digs ((val a.n) / (lowF a))).length) c9z ∧ N h16 (.slice b11z ((digs ((val a.n) / (lowF a))).length) c9z) ((val a.n) / (lowF a)) := hdp1 9 rfl
 obtain ⟨b13, c11, e12, q15⟩ := q14
 have e12 : ρ12 3 = .slice b13 ((digs ((val a.n) / (lowF a))).length) c11 := e12
 have q16 : ∃ b12z c10z, (ρ12 4) = .slice b12z ((digs ((val a.n) % (lowF a))).length) c10z ∧ N h16 (.slice b12z ((digs ((val a.n) % (lowF a))).length) c10z) ((val a.n) % (lowF a)) := hdp1 10 rfl
 obtain ⟨b14, c12, e13, q17⟩ := q16
 have e13 : ρ12 4 = .slice b14 ((digs ((val a.n) % (lowF a))).length) c12 := e13
 refine Ops.forget [(1, .pointer (some ⟨b3, 0, none⟩)), (2, .pointer (some ⟨b4, 0, none⟩)), (3, .slice b13 ((digs ((val a.n) / (lowF a))).length) c11), (4, .slice b14 ((digs ((val a.n) % (lowF a))).length) c12)] ⟨e10, e11, e12, e13, trivial⟩ (fun ρ13 => (oN (wS (sr (oC (fA (o := 0) Tryd.underlying24 rfl Tryd.sizeOf4 (by decide) rfl rfl ?_))))))
 have g21 := g3.trans g20
 refine oC (lO (v := .bool a.neg) Tryd.isAgg4 rfl (g21.sat _ _ (g20.le _ _ qb1)) rfl (mv ?_))
 cases c13 : a.neg
 replace c13 : ¬ (a.neg = true) := (raw_f c13)
 refine oD rfl rfl rfl rfl (oD rfl rfl rfl rfl (oD rfl rfl rfl rfl (oD rfl rfl rfl rfl (oC (pF (v := .bool false) rfl rfl (oN (Wp.cond_f rfl (Wp.skip (sr (oC (fA (o := 0) Tryd.underlying24 rfl Tryd.sizeOf4 (by decide) rfl rfl ?_)))))))))))
 refine oC (lO (v := .bool a.neg) Tryd.isAgg4 rfl (g21.sat _ _ (g20.le _ _ qb1)) rfl (mv (oC (cF Tryd.call81 (rmake1_c (s := a.neg) (n := digs ((val a.n) / (lowF a))) (d := []) g21.sat q15 (U.nil _ none _) (by omega) (by first | omega | exact Nat.zero_le _)) rfl ?_))))
 intro r6 h17 w18 gr6 hr6
 obtain ⟨b15, c14, b16, c15, rfl, k5, k6, u3, u4⟩ := F.shape hr6
 have o2 := gr6.kp (g20.kp ⟨o1, n1⟩)
 refine oC (sA (cs := [.bool ((frK ((Fr.mk a.neg (digs ((val a.n) / (lowF a))) ([])).rat)).neg), .slice b15 ((frK ((Fr.mk a.neg (digs ((val a.n) / (lowF a))) ([])).rat)).n.length) c14, .slice b16 ((frK ((Fr.mk a.neg (digs ((val a.n) / (lowF a))) ([])).rat)).d.length) c15]) Tryd.sizeOf24 rfl rfl rfl rfl o2.1 rfl ?_)
 intro w19 p1
 refine oN (Wp.ret (fin1_ret rfl (resOf_cellA (cs := [.bool ((frK ((Fr.mk a.neg (digs ((val a.n) / (lowF a))) ([])).rat)).neg), .slice b15 ((frK ((Fr.mk a.neg (digs ((val a.n) / (lowF a))) ([])).rat)).n.length) c14, .slice b16 ((frK ((Fr.mk a.neg (digs ((val a.n) / (lowF a))) ([])).rat)).d.length) c15]) Tryd.isAgg24 Tryd.sizeOf24 rfl p1.at_ (Nat.le_of_ble_eq_true rfl) rfl) ?_))
 have g22 := (g21.trans gr6).put p1 o2.2 lo2
 refine ⟨h17, g22, ?_⟩
 exact (Kn.cast (mk_rat1.trans (down_s (by first | rw [if_pos ⟨by assumption, len_pos.1 (by assumption)⟩] | rw [if_neg (fun e => absurd e.1 (by assumption))] | rw [if_neg (fun e => absurd (len_pos.2 e.2) (by assumption))]))) (F.mk u3 u4))
 replace c13 : a.neg = true := c13
 refine oL rfl rfl rfl (OpW.move (v := .slice b14 ((digs ((val a.n) % (lowF a))).length) c12) rfl ?_)
 refine oL rfl rfl rfl (cF Tryd.call76 (rtrim_c (l := digs ((val a.n) % (lowF a))) g21.sat q17 (by first | omega | (simp only [List.length_set, List.length_replicate]; omega))) rfl ?_)
 intro r7 h18 w20 gr7 hr7
 simp only [frK_rat, bf_frK, val_digs] at hr7
 obtain ⟨b17, c16, rfl, k7⟩ := N.shape hr7
 refine oL rfl rfl rfl (OpW.lenS Tryd.underlying22 (l := (digs ((val a.n) % (lowF a))).length) rfl ?_)
 refine oL rfl rfl rfl (OpW.gtr (a := (((digs ((val a.n) % (lowF a))).length : Nat) : Int)) (b := ((0 : Nat) : Int)) (r := decide (0 < (digs ((val a.n) % (lowF a))).length)) rfl rfl (lt_nat (a := 0) (b := (digs ((val a.n) % (lowF a))).length)) ?_)
 refine oC (pT (v := .bool (decide (0 < (digs ((val a.n) % (lowF a))).length))) rfl rfl (oN (Wp.cond (t := decide (0 < (digs ((val a.n) % (lowF a))).length)) rfl (fun c17 => ?_) (fun c17 => ?_))))
 replace c17 : 0 < (digs ((val a.n) % (lowF a))).length := (of_decide_eq_true c17)
 refine wR (mv ?_)
 have g23 := g21.trans gr7
 have o5 := gr7.kp (g20.kp ⟨o1, n1⟩)
 have lt1 := blk_lt o5.1
 refine oC (OpW.buildSliceO (arr := #[.int .u32 ((1 : Nat) : Int)]) g23.sat Tryd.underlying22 Tryd.zeroValue51 Tryd.sizeOf51 rfl rfl ?_)
 intro b18 w21 gr8 n2 lo3 o4
 have lo4 := Nat.le_trans g23.ext.size lo3
 have ne1 : b4 ≠ b18 := Nat.ne_of_lt (Nat.lt_of_lt_of_le lt1 lo3)
 have g25 := g23.trans gr8
 obtain ⟨h19, g24, l1, qb2, fr1⟩ := freeze_ex g25 o4 n2 lo4
 have f1 := U.own (l := [1]) qb2 (fun x hx => by simp at hx; omega) (cap := 1) rfl (Nat.le_refl _)
 refine oC (cF Tryd.call96 (rplus_c (a := (val a.n) / (lowF a)) (b := 1) g24.sat (N.mono q15 (gr7.le.trans l1)) (U.ofDigs f1 digs_lit1) (by omega) (by omega)) rfl ?_)
 intro r8 h20 w22 gr9 hr8
 obtain ⟨b19, c18, rfl, k8⟩ := N.shape hr8
 refine ma (oN (wS (fg [(1, .pointer (some ⟨b3, 0, none⟩)), (2, .pointer (some ⟨b4, 0, none⟩)), (3, .slice b19 ((digs (((val a.n) / (lowF a)) + 1)).length) c18)] rfl (fun ρ14 => (wR (oC (fA (o := 0) Tryd.underlying24 rfl Tryd.sizeOf4 (by decide) rfl rfl ?_)))))))
 have g26 := g24.trans gr9
 refine oC (lO (v := .bool a.neg) Tryd.isAgg4 rfl (g26.sat _ _ ((((g20.le.trans gr7.le).trans l1).trans gr9.le) _ _ qb1)) rfl (mv (oC (cF Tryd.call81 (rmake1_c (s := a.neg) (n := digs (((val a.n) / (lowF a)) + 1)) (d := []) g26.sat hr8 (U.nil _ none _) (by omega) (by first | omega | exact Nat.zero_le _)) rfl ?_))))
 intro r9 h21 w23 gr10 hr9
 obtain ⟨b20, c19, b21, c20, rfl, k9, k10, u5, u6⟩ := F.shape hr9
 have o6 := gr10.kp (gr9.kp (oz fr1 ne1 (gr8.kp o5)))
 refine oC (sA (cs := [.bool ((frK ((Fr.mk a.neg (digs (((val a.n) / (lowF a)) + 1)) ([])).rat)).neg), .slice b20 ((frK ((Fr.mk a.neg (digs (((val a.n) / (lowF a)) + 1)) ([])).rat)).n.length) c19, .slice b21 ((frK ((Fr.mk a.neg (digs (((val a.n) / (lowF a)) + 1)) ([])).rat)).d.length) c20]) Tryd.sizeOf24 rfl rfl rfl rfl o6.1 rfl ?_)
 intro w24 p2
 refine oN (Wp.ret (fin1_ret rfl (resOf_cellA (cs := [.bool ((frK ((Fr.mk a.neg (digs (((val a.n) / (lowF a)) + 1)) ([])).rat)).neg), .slice b20 ((frK ((Fr.mk a.neg (digs (((val a.n) / (lowF a)) + 1)) ([])).rat)).n.length) c19, .slice b21 ((frK ((Fr.mk a.neg (digs (((val a.n) / (lowF a)) + 1)) ([])).rat)).d.length) c20]) Tryd.isAgg24 Tryd.sizeOf24 rfl p2.at_ (Nat.le_of_ble_eq_true rfl) rfl) ?_))
 have g27 := (g26.trans gr10).put p2 o6.2 lo2
 refine ⟨h21, g27, ?_⟩
 exact (Kn.cast (mk_rat1.trans (down_s (by first | rw [if_pos ⟨by assumption, len_pos.1 (by assumption)⟩] | rw [if_neg (fun e => absurd e.1 (by assumption))] | rw [if_neg (fun e => absurd (len_pos.2 e.2) (by assumption))]))) (F.mk u5 u6))
 replace c17 : ¬ (0 < (digs ((val a.n) % (lowF a))).length) := (of_decide_eq_false c17)
 refine Wp.skip (sr (oC (fA (o := 0) Tryd.underlying24 rfl Tryd.sizeOf4 (by decide) rfl rfl ?_)))
 have g28 := g21.trans gr7
 refine oC (lO (v := .bool a.neg) Tryd.isAgg4 rfl (g28.sat _ _ ((g20.le.trans gr7.le) _ _ qb1)) rfl (mv (oC (cF Tryd.call81 (rmake1_c (s := a.neg) (n := digs ((val a.n) / (lowF a))) (d := []) g28.sat (U.mono q15 gr7.le) (U.nil _ none _) (by omega) (by first | omega | exact Nat.zero_le _)) rfl ?_))))
 intro r10 h22 w25 gr11 hr10
 obtain ⟨b22, c21, b23, c22, rfl, k11, k12, u7, u8⟩ := F.shape hr10
 have o8 := gr11.kp (gr7.kp (g20.kp ⟨o1, n1⟩))
 refine oC (sA (cs := [.bool ((frK ((Fr.mk a.neg (digs ((val a.n) / (lowF a))) ([])).rat)).neg), .slice b22 ((frK ((Fr.mk a.neg (digs ((val a.n) / (lowF a))) ([])).rat)).n.length) c21, .slice b23 ((frK ((Fr.mk a.neg (digs ((val a.n) / (lowF a))) ([])).rat)).d.length) c22]) Tryd.sizeOf24 rfl rfl rfl rfl o8.1 rfl ?_)
 intro w26 p3
 refine oN (Wp.ret (fin1_ret rfl (resOf_cellA (cs := [.bool ((frK ((Fr.mk a.neg (digs ((val a.n) / (lowF a))) ([])).rat)).neg), .slice b22 ((frK ((Fr.mk a.neg (digs ((val a.n) / (lowF a))) ([])).rat)).n.length) c21, .slice b23 ((frK ((Fr.mk a.neg (digs ((val a.n) / (lowF a))) ([])).rat)).d.length) c22]) Tryd.isAgg24 Tryd.sizeOf24 rfl p3.at_ (Nat.le_of_ble_eq_true rfl) rfl) ?_))
 have g29 := (g28.trans gr11).put p3 o8.2 lo2
 refine ⟨h22, g29, ?_⟩
 exact (Kn.cast (mk_rat1.trans (down_s (by first | rw [if_pos ⟨by assumption, len_pos.1 (by assumption)⟩] | rw [if_neg (fun e => absurd e.1 (by assumption))] | rw [if_neg (fun e => absurd (len_pos.2 e.2) (by assumption))]))) (F.mk u7 u8))
end Go.Ear
