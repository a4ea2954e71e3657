/- About package frac: K4. -/
import Derived.Test.YtmidncjhlnfojaaDoorNatLaw2
import Derived.Test.YtmidncjhlnfojaaDoorEarShort
import Derived.Test.YtmidncjhlnfojaaDoorProg
import Derived.Test.YtmidncjhlnfojaaDoorNatLaw3
import Derived.Test.YtmidncjhlnfojaaDoorEarFrac
import Derived.Test.YtmidncjhlnfojaaDoorK1
import Derived.Test.YtmidncjhlnfojaaDoorK2
import Derived.Test.YtmidncjhlnfojaaDoorK3
set_option linter.all false
namespace Go.Ear
open Go.Proofs
set_option maxRecDepth 20000
set_option linter.unusedVariables false
set_option maxHeartbeats 2000000
theorem reduced_c {h : PH} {w : World} {s : Bool} {v1 : Value} {n : Nat} {v2 : Value} {d : Nat} (hs : Sat h w) (pv1 : N h v1 n) (pv2 : N h v2 d) (hp0 : d ≠ 0) (hp1 : sz n ≤ 536870912) (hp2 : sz d ≤ 536870912) :
    Calls Tryd.prog 88 #[.bool s, v1, v2] w (Ret h w fun h' r => Qn h' r (ratOf s n d)) := by
 obtain ⟨b1, c1, rfl, k1⟩ := N.shape pv1
 obtain ⟨b2, c2, rfl, k2⟩ := N.shape pv2
 have hgp := gcd_pos' (n := n) hp0
 have hgs := sz_mono (Nat.gcd_le_right n (Nat.pos_of_ne_zero hp0))
 refine calls_ear (vs := [.bool s, .slice b1 ((digs n).length) c1, .slice b2 ((digs d).length) c2]) Tryd.func88 rfl rfl ?_
 have g1 := Gr.refl hs
 refine sr (oC (OpW.allocO (arr := #[.bool false, .slice none 0 0, .slice none 0 0]) g1.sat Tryd.zeroValue66 rfl ?_))
 intro b3 w1 gr1 n1 lo1 o1
 have lo2 := Nat.le_trans g1.ext.size lo1
 refine oN (sr (mv (mv ?_)))
 have g2 := g1.trans gr1
 refine oC (cF Tryd.call104 (gcd_c (a := n) (b := d) g2.sat pv1 pv2 (by omega) (by omega)) rfl ?_)
 intro r1 h1 w2 gr2 hr1
 obtain ⟨b4, c3, rfl, k3⟩ := N.shape hr1
 refine ma (oN (sr (mv (mv ?_))))
 have g3 := g2.trans gr2
 refine oC (cF Tryd.call92 (div_c (a := n) (b := Nat.gcd n d) g3.sat (N.mono pv1 gr2.le) hr1 (by omega) (by omega) (by omega)) rfl ?_)
 intro r2 h2 w3 gr3 hr2
 obtain ⟨r3, r4, rfl, hr3, hr4⟩ := hr2
 obtain ⟨b5, c4, rfl, k4⟩ := N.shape hr3
 obtain ⟨b6, c5, rfl, k5⟩ := N.shape hr4
 refine mv (oC (OpW.extract (v := .slice b5 ((digs (n / (Nat.gcd n d))).length) c4) rfl rfl ?_))
 refine oC (OpW.extract (v := .slice b6 ((digs (n % (Nat.gcd n d))).length) c5) rfl rfl (ma (oN (wS (fg [(0, .bool s), (1, .slice b5 ((digs (n / (Nat.gcd n d))).length) c4), (2, .slice b2 ((digs d).length) c2), (6, .pointer (some ⟨b3, 0, none⟩)), (7, .slice b4 ((digs (Nat.gcd n d)).length) c3)] rfl (fun ρ1 => (wR (mv (mv ?_)))))))))
 have g4 := g3.trans gr3
 refine oC (cF Tryd.call92 (div_c (a := d) (b := Nat.gcd n d) g4.sat (N.mono pv2 (gr2.le.trans gr3.le)) (N.mono hr1 gr3.le) (by omega) (by omega) (by omega)) rfl ?_)
 intro r5 h3 w4 gr4 hr5
 obtain ⟨r6, r7, rfl, hr6, hr7⟩ := hr5
 obtain ⟨b7, c6, rfl, k6⟩ := N.shape hr6
 obtain ⟨b8, c7, rfl, k7⟩ := N.shape hr7
 refine mv (oC (OpW.extract (v := .slice b7 ((digs (d / (Nat.gcd n d))).length) c6) rfl rfl ?_))
 refine oC (OpW.extract (v := .slice b8 ((digs (d % (Nat.gcd n d))).length) c7) rfl rfl (ma (oN (wS (fg [(0, .bool s), (1, .slice b5 ((digs (n / (Nat.gcd n d))).length) c4), (2, .slice b7 ((digs (d / (Nat.gcd n d))).length) c6), (6, .pointer (some ⟨b3, 0, none⟩))] rfl (fun ρ2 => (wR (mv (mv ?_)))))))))
 cases c8 : s
 replace c8 : ¬ (s = true) := (raw_f c8)
 refine oD rfl rfl rfl rfl (oD rfl rfl rfl rfl (oD rfl rfl rfl rfl (oC (pF (v := .bool false) rfl rfl (mv (mv (oC (OpW.build (places := [(0, 1), (1, 1), (2, 1)]) (cs := [.bool false, .slice b5 ((digs (n / (Nat.gcd n d))).length) c4, .slice b7 ((digs (d / (Nat.gcd n d))).length) c6]) Tryd.underlying66 Tryd.zeroValue66 (fun _ => by kernel_rfl) rfl ?_))))))))
 have o2 := gr4.kp (gr3.kp (gr2.kp ⟨o1, n1⟩))
 refine oC (sA (cs := [.bool false, .slice b5 ((digs (n / (Nat.gcd n d))).length) c4, .slice b7 ((digs (d / (Nat.gcd n d))).length) c6]) Tryd.sizeOf66 rfl rfl rfl rfl o2.1 rfl ?_)
 intro w5 p1
 refine oN (Wp.ret (fin1_ret rfl (resOf_cellA (cs := [.bool false, .slice b5 ((digs (n / (Nat.gcd n d))).length) c4, .slice b7 ((digs (d / (Nat.gcd n d))).length) c6]) Tryd.isAgg66 Tryd.sizeOf66 rfl p1.at_ (Nat.le_of_ble_eq_true rfl) rfl) ?_))
 have g5 := (g4.trans gr4).put p1 o2.2 lo2
 refine ⟨h3, g5, ?_⟩
 exact Qn.mk (N.mono hr3 gr4.le) hr6 (by first | exact ratOf_neg (s := false) hp0 | (rw [digs_len_pos]; exact ratOf_neg (s := true) hp0) | (rw [digs_len_pos]; exact ratOf_neg hp0)) (ratOf_abs hp0) (ratOf_den hp0)
 replace c8 : s = true := c8
 refine oL rfl rfl rfl (OpW.move (v := .slice b5 ((digs (n / (Nat.gcd n d))).length) c4) rfl ?_)
 refine oL rfl rfl rfl (OpW.lenS Tryd.underlying64 (l := (digs (n / (Nat.gcd n d))).length) rfl ?_)
 refine oL rfl rfl rfl (OpW.gtr (a := (((digs (n / (Nat.gcd n d))).length : Nat) : Int)) (b := ((0 : Nat) : Int)) (r := decide (0 < (digs (n / (Nat.gcd n d))).length)) rfl rfl (lt_nat (a := 0) (b := (digs (n / (Nat.gcd n d))).length)) ?_)
 refine oC (pT (v := .bool (decide (0 < (digs (n / (Nat.gcd n d))).length))) rfl rfl (mv (mv (oC (OpW.build (places := [(0, 1), (1, 1), (2, 1)]) (cs := [.bool (decide (0 < (digs (n / (Nat.gcd n d))).length)), .slice b5 ((digs (n / (Nat.gcd n d))).length) c4, .slice b7 ((digs (d / (Nat.gcd n d))).length) c6]) Tryd.underlying66 Tryd.zeroValue66 (fun _ => by kernel_rfl) rfl ?_)))))
 have o4 := gr4.kp (gr3.kp (gr2.kp ⟨o1, n1⟩))
 refine oC (sA (cs := [.bool (decide (0 < (digs (n / (Nat.gcd n d))).length)), .slice b5 ((digs (n / (Nat.gcd n d))).length) c4, .slice b7 ((digs (d / (Nat.gcd n d))).length) c6]) Tryd.sizeOf66 rfl rfl rfl rfl o4.1 rfl ?_)
 intro w6 p2
 refine oN (Wp.ret (fin1_ret rfl (resOf_cellA (cs := [.bool (decide (0 < (digs (n / (Nat.gcd n d))).length)), .slice b5 ((digs (n / (Nat.gcd n d))).length) c4, .slice b7 ((digs (d / (Nat.gcd n d))).length) c6]) Tryd.isAgg66 Tryd.sizeOf66 rfl p2.at_ (Nat.le_of_ble_eq_true rfl) rfl) ?_))
 have g6 := (g4.trans gr4).put p2 o4.2 lo2
 refine ⟨h3, g6, ?_⟩
 exact Qn.mk (N.mono hr3 gr4.le) hr6 (by first | exact ratOf_neg (s := false) hp0 | (rw [digs_len_pos]; exact ratOf_neg (s := true) hp0) | (rw [digs_len_pos]; exact ratOf_neg hp0)) (ratOf_abs hp0) (ratOf_den hp0)
theorem take_c {h : PH} {w : World} {v0 : Value} {f : Fr} (hs : Sat h w) (pv0 : F h v0 f) (hp0 : f.n.length ≤ 536870912) (hp1 : f.d.length ≤ 536870912) :
    Calls Tryd.prog 70 #[v0] w (Ret h w fun h' r => Qn h' r f.rat) := by
 obtain ⟨b1, c1, b2, c2, rfl, k1, k2, u1, u2⟩ := F.shape pv0
 have hbq1 := F.bq pv0
 have hsz := F.szs pv0
 obtain ⟨hsn, hsd⟩ := hsz
 have h1 := sz_one
 have hlz := len_zero (n := val f.d)
 refine calls_ear (vs := [.agg #[.bool f.neg, .slice b1 f.n.length c1, .slice b2 f.d.length c2]]) Tryd.func70 rfl rfl ?_
 have g1 := Gr.refl hs
 refine sr (oC (OpW.boxK (v := .agg #[.bool f.neg, .slice b1 f.n.length c1, .slice b2 f.d.length c2]) (arr := #[.bool f.neg, .slice b1 f.n.length c1, .slice b2 f.d.length c2]) g1.sat rfl rfl ?_))
 intro b3 h1 w1 gr1 qb1
 have g2 := g1.trans gr1
 refine oC (OpW.allocO (arr := #[.bool false, .slice none 0 0, .slice none 0 0]) g2.sat Tryd.zeroValue66 rfl ?_)
 intro b4 w2 gr2 n1 lo1 o1
 have lo2 := Nat.le_trans g2.ext.size lo1
 refine oN (sr (oC (fA (o := 2) Tryd.underlying24 rfl Tryd.sizeOf22 (by decide) rfl rfl ?_)))
 have g3 := g2.trans gr2
 refine oC (lO (v := .slice b2 f.d.length c2) Tryd.isAgg22 rfl (g3.sat _ _ qb1) rfl ?_)
 refine oC (cF Tryd.call103 (trimmed_c (l := f.d) g3.sat (U.mono u2 gr1.le) (by omega)) rfl ?_)
 intro r1 h2 w3 gr3 hr1
 obtain ⟨b5, c3, rfl, k3⟩ := N.shape hr1
 refine ma (oN (wS (sr (mv (oC (OpW.lenS Tryd.underlying64 (l := (digs (val f.d)).length) rfl ?_))))))
 refine oC (OpW.eqlI (a := (((digs (val f.d)).length : Nat) : Int)) (b := ((0 : Nat) : Int)) (r := decide ((digs (val f.d)).length = 0)) rfl rfl (eq_nat (a := (digs (val f.d)).length) (b := 0)) (oN (Wp.cond (t := decide ((digs (val f.d)).length = 0)) rfl (fun c4 => ?_) (fun c4 => ?_))))
 replace c4 : (digs (val f.d)).length = 0 := (of_decide_eq_true c4)
 refine wR ?_
 have g4 := g3.trans gr3
 refine oC (cF Tryd.call86 (small_c (n := 1) g4.sat  (by omega)) rfl ?_)
 intro r2 h3 w4 gr4 hr2
 obtain ⟨b6, c5, rfl, k4⟩ := N.shape hr2
 refine ma (oN (wS (fg [(1, .pointer (some ⟨b3, 0, none⟩)), (2, .pointer (some ⟨b4, 0, none⟩)), (3, .slice b6 ((digs 1).length) c5)] rfl (fun ρ1 => ?_))))
 have g5 := g4.trans gr4
 refine Wp.dagL 7 [11, 12, 13, 14, 15, 16, 17] [eqv (.pointer (some ⟨b3, 0, none⟩)), eqv (.bool f.neg), eqv (.pointer (some ⟨b3, 1, none⟩)), eqv (.slice b1 f.n.length c1), fun h _ x => N h x (val f.n), eqv (.slice b6 ((digs 1).length) c5), fun h _ x => Qn h x (ratOf f.neg (val f.n) 1)] mixed g5.sat rfl (by decide +kernel) ⟨sQ _, sQ _, sQ _, sQ _, (stab_N (val f.n)), sQ _, (stab_Q (ratOf f.neg (val f.n) 1)), trivial⟩ ?_ ?_
 intro stab
 refine ⟨?_, ?_, ?_, ?_, ?_, ?_, ?_, trivial⟩
 intro ρ2 h4 w5 g6 hdd1 hdo1
 have e1 : ρ2 1 = .pointer (some ⟨b3, 0, none⟩) := hdo1 1 rfl
 refine gP (fA (o := 0) Tryd.underlying24 rfl Tryd.sizeOf4 (by decide) e1 rfl ?_)
 exact ⟨_, h4, rfl, g6, fun j x _ p => p, rfl⟩
 intro ρ3 h5 w6 g7 hdd2 hdo2
 have e2 : ρ3 11 = .pointer (some ⟨b3, 0, none⟩) := hdd2 0 (by decide)
 have g8 := g5.trans g7
 refine gP (lO (v := .bool f.neg) Tryd.isAgg4 e2 (g8.sat _ _ (((gr3.le.trans gr4.le).trans g7.le) _ _ qb1)) rfl ?_)
 exact ⟨_, h5, rfl, g7, fun j x _ p => p, rfl⟩
 intro ρ4 h6 w7 g9 hdd3 hdo3
 have e3 : ρ4 1 = .pointer (some ⟨b3, 0, none⟩) := hdo3 1 rfl
 refine gP (fA (o := 1) Tryd.underlying24 rfl Tryd.sizeOf22 (by decide) e3 rfl ?_)
 exact ⟨_, h6, rfl, g9, fun j x _ p => p, rfl⟩
 intro ρ5 h7 w8 g10 hdd4 hdo4
 have e4 : ρ5 13 = .pointer (some ⟨b3, 1, none⟩) := hdd4 2 (by decide)
 have g11 := g5.trans g10
 refine gP (lO (v := .slice b1 f.n.length c1) Tryd.isAgg22 e4 (g11.sat _ _ (((gr3.le.trans gr4.le).trans g10.le) _ _ qb1)) rfl ?_)
 exact ⟨_, h7, rfl, g10, fun j x _ p => p, rfl⟩
 intro ρ6 h8 w9 g12 hdd5 hdo5
 have e5 : ρ6 14 = .slice b1 f.n.length c1 := hdd5 3 (by decide)
 have g13 := g5.trans g12
 refine gP (cF Tryd.call103 (trimmed_c (l := f.n) g13.sat (U.mono u1 (((gr1.le.trans gr3.le).trans gr4.le).trans g12.le)) (by omega)) (cx e5 cxn) ?_)
 intro r3 h9 w10 gr5 hr3
 exact ⟨r3, h9, rfl, g12.trans gr5, fun j x _ => stab j _ _ _ _ x gr5, hr3⟩
 intro ρ7 h10 w11 g14 hdd6 hdo6
 have e6 : ρ7 3 = .slice b6 ((digs 1).length) c5 := hdo6 3 rfl
 refine gP (OpW.move (v := .slice b6 ((digs 1).length) c5) e6 ?_)
 exact ⟨_, h10, rfl, g14, fun j x _ p => p, rfl⟩
 intro ρ8 h11 w12 g15 hdd7 hdo7
 have e7 : ρ8 12 = .bool f.neg := hdd7 1 (by decide)
 have q1 : N h11 (ρ8 15) (val f.n) := hdd7 4 (by decide)
 have e8 : ρ8 16 = .slice b6 ((digs 1).length) c5 := hdd7 5 (by decide)
 have g16 := g5.trans g15
 refine gP (cF Tryd.call88 (reduced_c (s := f.neg) (n := val f.n) (d := 1) g16.sat q1 (N.mono hr2 g15.le) (by omega) (by omega) (by omega)) (cx e7 (cx rfl (cx e8 cxn))) ?_)
 intro r4 h12 w13 gr6 hr4
 exact ⟨r4, h12, rfl, g15.trans gr6, fun j x _ => stab j _ _ _ _ x gr6, hr4⟩
 intro ρ9 h13 w14 g17 hdp1 hdo8
 have e9 : ρ9 2 = .pointer (some ⟨b4, 0, none⟩) := hdo8 2 rfl
 have q2 : Qn h13 (ρ9 17) (ratOf f.neg (val f.n) 1) := hdp1 6 rfl
 obtain ⟨x1, hx1⟩ : ∃ x, ρ9 17 = x := ⟨_, rfl⟩
 rw [hx1] at q2
 obtain ⟨b7, c6, b8, c7, rfl, k5, k6, u3, u4⟩ := Qn.shape q2
 refine Ops.forget [(2, .pointer (some ⟨b4, 0, none⟩)), (17, .agg #[.bool (decide ((ratOf f.neg (val f.n) 1).num < 0)), .slice b7 ((digs ((ratOf f.neg (val f.n) 1).num.natAbs)).length) c6, .slice b8 ((digs ((ratOf f.neg (val f.n) 1).den)).length) c7])] ⟨e9, hx1, trivial⟩ (fun ρ10 => ?_)
 have o2 := g17.kp (gr4.kp (gr3.kp ⟨o1, n1⟩))
 refine oC (sA (cs := [.bool (decide ((ratOf f.neg (val f.n) 1).num < 0)), .slice b7 ((digs ((ratOf f.neg (val f.n) 1).num.natAbs)).length) c6, .slice b8 ((digs ((ratOf f.neg (val f.n) 1).den)).length) c7]) Tryd.sizeOf66 rfl rfl rfl rfl o2.1 rfl ?_)
 intro w15 p1
 refine oN (Wp.ret (fin1_ret rfl (resOf_cellA (cs := [.bool (decide ((ratOf f.neg (val f.n) 1).num < 0)), .slice b7 ((digs ((ratOf f.neg (val f.n) 1).num.natAbs)).length) c6, .slice b8 ((digs ((ratOf f.neg (val f.n) 1).den)).length) c7]) Tryd.isAgg66 Tryd.sizeOf66 rfl p1.at_ (Nat.le_of_ble_eq_true rfl) rfl) ?_))
 have g18 := (g5.trans g17).put p1 o2.2 lo2
 refine ⟨h13, g18, ?_⟩
 exact (Qn.cast (Fr.rat_z (by omega)) (Qn.mk u3 u4 rfl rfl rfl))
 replace c4 : ¬ ((digs (val f.d)).length = 0) := (of_decide_eq_false c4)
 refine Wp.skip (wS ?_)
 have g19 := g3.trans gr3
 refine Wp.dagL 7 [11, 12, 13, 14, 15, 16, 17] [eqv (.pointer (some ⟨b3, 0, none⟩)), eqv (.bool f.neg), eqv (.pointer (some ⟨b3, 1, none⟩)), eqv (.slice b1 f.n.length c1), fun h _ x => N h x (val f.n), eqv (.slice b5 ((digs (val f.d)).length) c3), fun h _ x => Qn h x (ratOf f.neg (val f.n) (val f.d))] mixed g19.sat rfl (by decide +kernel) ⟨sQ _, sQ _, sQ _, sQ _, (stab_N (val f.n)), sQ _, (stab_Q (ratOf f.neg (val f.n) (val f.d))), trivial⟩ ?_ ?_
 intro stab
 refine ⟨?_, ?_, ?_, ?_, ?_, ?_, ?_, trivial⟩
 intro ρ11 h14 w16 g20 hdd8 hdo9
 have e10 : ρ11 1 = .pointer (some ⟨b3, 0, none⟩) := hdo9 1 rfl
 refine gP (fA (o := 0) Tryd.underlying24 rfl Tryd.sizeOf4 (by decide) e10 rfl ?_)
 exact ⟨_, h14, rfl, g20, fun j x _ p => p, rfl⟩
 intro ρ12 h15 w17 g21 hdd9 hdo10
 have e11 : ρ12 11 = .pointer (some ⟨b3, 0, none⟩) := hdd9 0 (by decide)
 have g22 := g19.trans g21
 refine gP (lO (v := .bool f.neg) Tryd.isAgg4 e11 (g22.sat _ _ ((gr3.le.trans g21.le) _ _ qb1)) rfl ?_)
 exact ⟨_, h15, rfl, g21, fun j x _ p => p, rfl⟩
 intro ρ13 h16 w18 g23 hdd10 hdo11
 have e12 : ρ13 1 = .pointer (some ⟨b3, 0, none⟩) := hdo11 1 rfl
 refine gP (fA (o := 1) Tryd.underlying24 rfl Tryd.sizeOf22 (by decide) e12 rfl ?_)
 exact ⟨_, h16, rfl, g23, fun j x _ p => p, rfl⟩
 intro ρ14 h17 w19 g24 hdd11 hdo12
 have e13 : ρ14 13 = .pointer (some ⟨b3, 1, none⟩) := hdd11 2 (by decide)
 have g25 := g19.trans g24
 refine gP (lO (v := .slice b1 f.n.length c1) Tryd.isAgg22 e13 (g25.sat _ _ ((gr3.le.trans g24.le) _ _ qb1)) rfl ?_)
 exact ⟨_, h17, rfl, g24, fun j x _ p => p, rfl⟩
 intro ρ15 h18 w20 g26 hdd12 hdo13
 have e14 : ρ15 14 = .slice b1 f.n.length c1 := hdd12 3 (by decide)
 have g27 := g19.trans g26
 refine gP (cF Tryd.call103 (trimmed_c (l := f.n) g27.sat (U.mono u1 ((gr1.le.trans gr3.le).trans g26.le)) (by omega)) (cx e14 cxn) ?_)
 intro r5 h19 w21 gr7 hr5
 exact ⟨r5, h19, rfl, g26.trans gr7, fun j x _ => stab j _ _ _ _ x gr7, hr5⟩
 intro ρ16 h20 w22 g28 hdd13 hdo14
 have e15 : ρ16 3 = .slice b5 ((digs (val f.d)).length) c3 := hdo14 3 rfl
 refine gP (OpW.move (v := .slice b5 ((digs (val f.d)).length) c3) e15 ?_)
 exact ⟨_, h20, rfl, g28, fun j x _ p => p, rfl⟩
 intro ρ17 h21 w23 g29 hdd14 hdo15
 have e16 : ρ17 12 = .bool f.neg := hdd14 1 (by decide)
 have q3 : N h21 (ρ17 15) (val f.n) := hdd14 4 (by decide)
 have e17 : ρ17 16 = .slice b5 ((digs (val f.d)).length) c3 := hdd14 5 (by decide)
 have g30 := g19.trans g29
 refine gP (cF Tryd.call88 (reduced_c (s := f.neg) (n := val f.n) (d := val f.d) g30.sat q3 (N.mono hr1 g29.le) (by omega) (by omega) (by omega)) (cx e16 (cx rfl (cx e17 cxn))) ?_)
 intro r6 h22 w24 gr8 hr6
 exact ⟨r6, h22, rfl, g29.trans gr8, fun j x _ => stab j _ _ _ _ x gr8, hr6⟩
 intro ρ18 h23 w25 g31 hdp2 hdo16
 have e18 : ρ18 2 = .pointer (some ⟨b4, 0, none⟩) := hdo16 2 rfl
 have q4 : Qn h23 (ρ18 17) (ratOf f.neg (val f.n) (val f.d)) := hdp2 6 rfl
 obtain ⟨x2, hx2⟩ : ∃ x, ρ18 17 = x := ⟨_, rfl⟩
 rw [hx2] at q4
 obtain ⟨b9, c8, b10, c9, rfl, k7, k8, u5, u6⟩ := Qn.shape q4
 refine Ops.forget [(2, .pointer (some ⟨b4, 0, none⟩)), (17, .agg #[.bool (decide ((ratOf f.neg (val f.n) (val f.d)).num < 0)), .slice b9 ((digs ((ratOf f.neg (val f.n) (val f.d)).num.natAbs)).length) c8, .slice b10 ((digs ((ratOf f.neg (val f.n) (val f.d)).den)).length) c9])] ⟨e18, hx2, trivial⟩ (fun ρ19 => ?_)
 have o4 := g31.kp (gr3.kp ⟨o1, n1⟩)
 refine oC (sA (cs := [.bool (decide ((ratOf f.neg (val f.n) (val f.d)).num < 0)), .slice b9 ((digs ((ratOf f.neg (val f.n) (val f.d)).num.natAbs)).length) c8, .slice b10 ((digs ((ratOf f.neg (val f.n) (val f.d)).den)).length) c9]) Tryd.sizeOf66 rfl rfl rfl rfl o4.1 rfl ?_)
 intro w26 p2
 refine oN (Wp.ret (fin1_ret rfl (resOf_cellA (cs := [.bool (decide ((ratOf f.neg (val f.n) (val f.d)).num < 0)), .slice b9 ((digs ((ratOf f.neg (val f.n) (val f.d)).num.natAbs)).length) c8, .slice b10 ((digs ((ratOf f.neg (val f.n) (val f.d)).den)).length) c9]) Tryd.isAgg66 Tryd.sizeOf66 rfl p2.at_ (Nat.le_of_ble_eq_true rfl) rfl) ?_))
 have g32 := (g19.trans g31).put p2 o4.2 lo2
 refine ⟨h23, g32, ?_⟩
 exact (Qn.cast (Fr.rat_nz (by omega)) (Qn.mk u5 u6 rfl rfl rfl))
theorem zero_c {h : PH} {w : World} {v0 : Value} {q : Rat} (hs : Sat h w) (pv0 : Qn h v0 q) :
    Calls Tryd.prog 71 #[v0] w (Ret h w fun h' r => r = .bool (decide (q = 0))) := by
 obtain ⟨b1, c1, b2, c2, rfl, k1, k2, u1, u2⟩ := Qn.shape pv0
 refine calls_ear (vs := [.agg #[.bool (decide (q.num < 0)), .slice b1 ((digs q.num.natAbs).length) c1, .slice b2 ((digs q.den).length) c2]]) Tryd.func71 rfl rfl ?_
 have g1 := Gr.refl hs
 refine sr (oC (OpW.boxK (v := .agg #[.bool (decide (q.num < 0)), .slice b1 ((digs q.num.natAbs).length) c1, .slice b2 ((digs q.den).length) c2]) (arr := #[.bool (decide (q.num < 0)), .slice b1 ((digs q.num.natAbs).length) c1, .slice b2 ((digs q.den).length) c2]) g1.sat rfl rfl ?_))
 intro b3 h1 w1 gr1 qb1
 refine ma (oN (sr (oC (fA (o := 1) Tryd.underlying66 rfl Tryd.sizeOf64 (by decide) rfl rfl ?_))))
 have g2 := g1.trans gr1
 refine oC (lO (v := .slice b1 ((digs q.num.natAbs).length) c1) Tryd.isAgg64 rfl (g2.sat _ _ qb1) rfl ?_)
 refine oC (OpW.lenS Tryd.underlying64 (l := (digs q.num.natAbs).length) rfl ?_)
 refine oC (OpW.eqlI (a := (((digs q.num.natAbs).length : Nat) : Int)) (b := ((0 : Nat) : Int)) (r := decide ((digs q.num.natAbs).length = 0)) rfl rfl (eq_nat (a := (digs q.num.natAbs).length) (b := 0)) (ma (oN (Wp.ret (fin1_ret rfl (resOf_tmp (v := .bool (decide ((digs q.num.natAbs).length = 0))) rfl) ?_)))))
 refine ⟨h1, g2, ?_⟩
 exact (boolv (decide_eq_decide.2 num_zero))
theorem sign_c {h : PH} {w : World} {v0 : Value} {q : Rat} (hs : Sat h w) (pv0 : Qn h v0 q) :
    Calls Tryd.prog 97 #[v0] w (Ret h w fun h' r => r = .int .i64 (sgQ q)) := by
 obtain ⟨b1, c1, b2, c2, rfl, k1, k2, u1, u2⟩ := Qn.shape pv0
 refine calls_ear (vs := [.agg #[.bool (decide (q.num < 0)), .slice b1 ((digs q.num.natAbs).length) c1, .slice b2 ((digs q.den).length) c2]]) Tryd.func97 rfl rfl ?_
 have g1 := Gr.refl hs
 refine sr (oC (OpW.boxK (v := .agg #[.bool (decide (q.num < 0)), .slice b1 ((digs q.num.natAbs).length) c1, .slice b2 ((digs q.den).length) c2]) (arr := #[.bool (decide (q.num < 0)), .slice b1 ((digs q.num.natAbs).length) c1, .slice b2 ((digs q.den).length) c2]) g1.sat rfl rfl ?_))
 intro b3 h1 w1 gr1 qb1
 refine ma (oN (wS (Wp.block (sr ?_))))
 have g2 := g1.trans gr1
 refine oC (lA (cs := [.bool (decide (q.num < 0)), .slice b1 ((digs q.num.natAbs).length) c1, .slice b2 ((digs q.den).length) c2]) Tryd.isAgg66 Tryd.sizeOf66 rfl (g2.sat _ _ qb1) rfl rfl ?_)
 refine oC (cF Tryd.call71 (zero_c (q := q) g2.sat (Qn.mk (N.mono u1 gr1.le) (N.mono u2 gr1.le) rfl rfl rfl) ) rfl ?_)
 intro r1 h2 w2 gr2 hr1
 subst hr1
 refine ma (oN (Wp.cond (t := decide (q = 0)) rfl (fun c3 => ?_) (fun c3 => ?_)))
 replace c3 : q = 0 := (of_decide_eq_true c3)
 refine sr (ma (oN (Wp.ret (fin1_ret rfl (resOf_tmp (v := .int .i64 ((0 : Nat) : Int)) rfl) ?_))))
 have g3 := g2.trans gr2
 refine ⟨h2, g3, ?_⟩
 exact (intv (by simp [sgQ, *]))
 replace c3 : ¬ (q = 0) := (of_decide_eq_false c3)
 refine sr (oC (fA (o := 0) Tryd.underlying66 rfl Tryd.sizeOf4 (by decide) rfl rfl ?_))
 have g4 := g2.trans gr2
 refine oC (lO (v := .bool (decide (q.num < 0))) Tryd.isAgg4 rfl (g4.sat _ _ (gr2.le _ _ qb1)) rfl (ma (oN (Wp.cond (t := decide (q.num < 0)) rfl (fun c4 => ?_) (fun c4 => ?_)))))
 replace c4 : q.num < 0 := (of_decide_eq_true c4)
 refine sr (ma (oN (Wp.ret (fin1_ret rfl (resOf_tmp (v := .int .i64 (-1)) rfl) ?_))))
 refine ⟨h2, g4, ?_⟩
 exact (intv (by simp [sgQ, *]))
 replace c4 : ¬ (q.num < 0) := (of_decide_eq_false c4)
 refine Wp.skip (sr (ma (oN (Wp.ret (fin1_ret rfl (resOf_tmp (v := .int .i64 ((1 : Nat) : Int)) rfl) ?_)))))
 refine ⟨h2, g4, ?_⟩
 exact (intv (by simp [sgQ, *]))
theorem minus_c {h : PH} {w : World} {v0 : Value} {q : Rat} (hs : Sat h w) (pv0 : Qn h v0 q) :
    Calls Tryd.prog 99 #[v0] w (Ret h w fun h' r => Qn h' r (-q)) := by
 obtain ⟨b1, c1, b2, c2, rfl, k1, k2, u1, u2⟩ := Qn.shape pv0
 refine calls_ear (vs := [.agg #[.bool (decide (q.num < 0)), .slice b1 ((digs q.num.natAbs).length) c1, .slice b2 ((digs q.den).length) c2]]) Tryd.func99 rfl rfl ?_
 have g1 := Gr.refl hs
 refine sr (oC (OpW.boxK (v := .agg #[.bool (decide (q.num < 0)), .slice b1 ((digs q.num.natAbs).length) c1, .slice b2 ((digs q.den).length) c2]) (arr := #[.bool (decide (q.num < 0)), .slice b1 ((digs q.num.natAbs).length) c1, .slice b2 ((digs q.den).length) c2]) g1.sat rfl rfl ?_))
 intro b3 h1 w1 gr1 qb1
 have g2 := g1.trans gr1
 refine oC (OpW.allocO (arr := #[.bool false, .slice none 0 0, .slice none 0 0]) g2.sat Tryd.zeroValue66 rfl ?_)
 intro b4 w2 gr2 n1 lo1 o1
 have lo2 := Nat.le_trans g2.ext.size lo1
 refine oN (sr (oC (fA (o := 0) Tryd.underlying66 rfl Tryd.sizeOf4 (by decide) rfl rfl ?_)))
 have g3 := g2.trans gr2
 refine oC (lO (v := .bool (decide (q.num < 0))) Tryd.isAgg4 rfl (g3.sat _ _ qb1) rfl ?_)
 refine oC (OpW.notB (a := decide (q.num < 0)) (r := !(decide (q.num < 0))) rfl rfl (mv ?_))
 cases c3 : (!(decide (q.num < 0)))
 replace c3 : ¬ (¬ (q.num < 0)) := (fun n => n (of_decide_eq_true (not_f c3)))
 refine oD rfl rfl rfl rfl (oD rfl rfl rfl rfl (oD rfl rfl rfl rfl (oD rfl rfl rfl rfl (oC (pF (v := .bool false) rfl rfl ?_)))))
 refine oC (fA (o := 1) Tryd.underlying66 rfl Tryd.sizeOf64 (by decide) rfl rfl ?_)
 refine oC (lO (v := .slice b1 ((digs q.num.natAbs).length) c1) Tryd.isAgg64 rfl (g3.sat _ _ qb1) rfl ?_)
 refine oC (fA (o := 2) Tryd.underlying66 rfl Tryd.sizeOf64 (by decide) rfl rfl ?_)
 refine oC (lO (v := .slice b2 ((digs q.den).length) c2) Tryd.isAgg64 rfl (g3.sat _ _ qb1) rfl ?_)
 refine oC (OpW.build (places := [(0, 1), (1, 1), (2, 1)]) (cs := [.bool false, .slice b1 ((digs q.num.natAbs).length) c1, .slice b2 ((digs q.den).length) c2]) Tryd.underlying66 Tryd.zeroValue66 (fun _ => by kernel_rfl) rfl ?_)
 refine oC (sA (cs := [.bool false, .slice b1 ((digs q.num.natAbs).length) c1, .slice b2 ((digs q.den).length) c2]) Tryd.sizeOf66 rfl rfl rfl rfl o1 rfl ?_)
 intro w3 p1
 refine oN (Wp.ret (fin1_ret rfl (resOf_cellA (cs := [.bool false, .slice b1 ((digs q.num.natAbs).length) c1, .slice b2 ((digs q.den).length) c2]) Tryd.isAgg66 Tryd.sizeOf66 rfl p1.at_ (Nat.le_of_ble_eq_true rfl) rfl) ?_))
 have g4 := g3.put p1 n1 lo2
 refine ⟨h1, g4, ?_⟩
 exact Qn.mk (N.mono u1 gr1.le) (N.mono u2 gr1.le) (by first | exact neg_mk | (rw [eq_comm, decide_eq_false_iff_not, Rat.neg_num]; omega) | (rw [digs_len_pos, Rat.neg_num]; congr 1; apply propext; omega)) neg_abs (Rat.neg_den ..).symm
 replace c3 : ¬ (q.num < 0) := (of_decide_eq_false (not_t c3))
 refine oL rfl rfl rfl (fA (o := 1) Tryd.underlying66 rfl Tryd.sizeOf64 (by decide) rfl rfl ?_)
 refine oL rfl rfl rfl (lO (v := .slice b1 ((digs q.num.natAbs).length) c1) Tryd.isAgg64 rfl (g3.sat _ _ qb1) rfl ?_)
 refine oL rfl rfl rfl (OpW.lenS Tryd.underlying64 (l := (digs q.num.natAbs).length) rfl ?_)
 refine oL rfl rfl rfl (OpW.gtr (a := (((digs q.num.natAbs).length : Nat) : Int)) (b := ((0 : Nat) : Int)) (r := decide (0 < (digs q.num.natAbs).length)) rfl rfl (lt_nat (a := 0) (b := (digs q.num.natAbs).length)) ?_)
 refine oC (pT (v := .bool (decide (0 < (digs q.num.natAbs).length))) rfl rfl ?_)
 refine oC (fA (o := 1) Tryd.underlying66 rfl Tryd.sizeOf64 (by decide) rfl rfl ?_)
 refine oC (lO (v := .slice b1 ((digs q.num.natAbs).length) c1) Tryd.isAgg64 rfl (g3.sat _ _ qb1) rfl ?_)
 refine oC (fA (o := 2) Tryd.underlying66 rfl Tryd.sizeOf64 (by decide) rfl rfl ?_)
 refine oC (lO (v := .slice b2 ((digs q.den).length) c2) Tryd.isAgg64 rfl (g3.sat _ _ qb1) rfl ?_)
 refine oC (OpW.build (places := [(0, 1), (1, 1), (2, 1)]) (cs := [.bool (decide (0 < (digs q.num.natAbs).length)), .slice b1 ((digs q.num.natAbs).length) c1, .slice b2 ((digs q.den).length) c2]) Tryd.underlying66 Tryd.zeroValue66 (fun _ => by kernel_rfl) rfl ?_)
 refine oC (sA (cs := [.bool (decide (0 < (digs q.num.natAbs).length)), .slice b1 ((digs q.num.natAbs).length) c1, .slice b2 ((digs q.den).length) c2]) Tryd.sizeOf66 rfl rfl rfl rfl o1 rfl ?_)
 intro w4 p2
 refine oN (Wp.ret (fin1_ret rfl (resOf_cellA (cs := [.bool (decide (0 < (digs q.num.natAbs).length)), .slice b1 ((digs q.num.natAbs).length) c1, .slice b2 ((digs q.den).length) c2]) Tryd.isAgg66 Tryd.sizeOf66 rfl p2.at_ (Nat.le_of_ble_eq_true rfl) rfl) ?_))
 have g5 := g3.put p2 n1 lo2
 refine ⟨h1, g5, ?_⟩
 exact Qn.mk (N.mono u1 gr1.le) (N.mono u2 gr1.le) (by first | exact neg_mk | (rw [eq_comm, decide_eq_false_iff_not, Rat.neg_num]; omega) | (rw [digs_len_pos, Rat.neg_num]; congr 1; apply propext; omega)) neg_abs (Rat.neg_den ..).symm
theorem inverse_c {h : PH} {w : World} {v0 : Value} {q : Rat} (hs : Sat h w) (pv0 : Qn h v0 q) (hp0 : q ≠ 0) :
    Calls Tryd.prog 72 #[v0] w (Ret h w fun h' r => Qn h' r (q⁻¹)) := by
 obtain ⟨b1, c1, b2, c2, rfl, k1, k2, u1, u2⟩ := Qn.shape pv0
 refine calls_ear (vs := [.agg #[.bool (decide (q.num < 0)), .slice b1 ((digs q.num.natAbs).length) c1, .slice b2 ((digs q.den).length) c2]]) Tryd.func72 rfl rfl ?_
 have g1 := Gr.refl hs
 refine sr (oC (OpW.boxK (v := .agg #[.bool (decide (q.num < 0)), .slice b1 ((digs q.num.natAbs).length) c1, .slice b2 ((digs q.den).length) c2]) (arr := #[.bool (decide (q.num < 0)), .slice b1 ((digs q.num.natAbs).length) c1, .slice b2 ((digs q.den).length) c2]) g1.sat rfl rfl ?_))
 intro b3 h1 w1 gr1 qb1
 have g2 := g1.trans gr1
 refine oC (OpW.allocO (arr := #[.bool false, .slice none 0 0, .slice none 0 0]) g2.sat Tryd.zeroValue66 rfl ?_)
 intro b4 w2 gr2 n1 lo1 o1
 have lo2 := Nat.le_trans g2.ext.size lo1
 refine oN (sr (oC (fA (o := 0) Tryd.underlying66 rfl Tryd.sizeOf4 (by decide) rfl rfl ?_)))
 have g3 := g2.trans gr2
 refine oC (lO (v := .bool (decide (q.num < 0))) Tryd.isAgg4 rfl (g3.sat _ _ qb1) rfl ?_)
 refine oC (fA (o := 2) Tryd.underlying66 rfl Tryd.sizeOf64 (by decide) rfl rfl ?_)
 refine oC (lO (v := .slice b2 ((digs q.den).length) c2) Tryd.isAgg64 rfl (g3.sat _ _ qb1) rfl ?_)
 refine oC (fA (o := 1) Tryd.underlying66 rfl Tryd.sizeOf64 (by decide) rfl rfl ?_)
 refine oC (lO (v := .slice b1 ((digs q.num.natAbs).length) c1) Tryd.isAgg64 rfl (g3.sat _ _ qb1) rfl ?_)
 refine oC (OpW.build (places := [(0, 1), (1, 1), (2, 1)]) (cs := [.bool (decide (q.num < 0)), .slice b2 ((digs q.den).length) c2, .slice b1 ((digs q.num.natAbs).length) c1]) Tryd.underlying66 Tryd.zeroValue66 (fun _ => by kernel_rfl) rfl ?_)
 refine oC (sA (cs := [.bool (decide (q.num < 0)), .slice b2 ((digs q.den).length) c2, .slice b1 ((digs q.num.natAbs).length) c1]) Tryd.sizeOf66 rfl rfl rfl rfl o1 rfl ?_)
 intro w3 p1
 refine oN (Wp.ret (fin1_ret rfl (resOf_cellA (cs := [.bool (decide (q.num < 0)), .slice b2 ((digs q.den).length) c2, .slice b1 ((digs q.num.natAbs).length) c1]) Tryd.isAgg66 Tryd.sizeOf66 rfl p1.at_ (Nat.le_of_ble_eq_true rfl) rfl) ?_))
 have g4 := g3.put p1 n1 lo2
 refine ⟨h1, g4, ?_⟩
 exact Qn.mk (N.mono u2 gr1.le) (N.mono u1 gr1.le) inv_sign (inv_abs hp0) (inv_den hp0)
theorem nmul_c {h : PH} {w : World} {v0 : Value} {a : Rat} {v1 : Value} {b : Rat} (hs : Sat h w) (pv0 : Qn h v0 a) (pv1 : Qn h v1 b) (hp0 : bq a ≤ 134217728) (hp1 : bq b ≤ 134217728) :
    Calls Tryd.prog 78 #[v0, v1] w (Ret h w fun h' r => Qn h' r (a * b)) := by
 obtain ⟨b1, c1, b2, c2, rfl, k1, k2, u1, u2⟩ := Qn.shape pv0
 obtain ⟨b3, c3, b4, c4, rfl, k3, k4, u3, u4⟩ := Qn.shape pv1
 have ha1 := bq_num a
 have ha2 := bq_den a
 have hb1 := bq_num b
 have hb2 := bq_den b
 have hda := a.den_nz
 have hdb := b.den_nz
 have hdab := Nat.mul_ne_zero a.den_nz b.den_nz
 have m1 := sz_mul a.num.natAbs b.den
 have m2 := sz_mul b.num.natAbs a.den
 have m3 := sz_mul a.den b.den
 have m4 := sz_mul a.num.natAbs b.num.natAbs
 have m5 := sz_add (a.num.natAbs * b.den) (b.num.natAbs * a.den)
 have m6 := sz_mono (Nat.sub_le (a.num.natAbs * b.den) (b.num.natAbs * a.den))
 have m7 := sz_mono (Nat.sub_le (b.num.natAbs * a.den) (a.num.natAbs * b.den))
 refine calls_ear (vs := [.agg #[.bool (decide (a.num < 0)), .slice b1 ((digs a.num.natAbs).length) c1, .slice b2 ((digs a.den).length) c2], .agg #[.bool (decide (b.num < 0)), .slice b3 ((digs b.num.natAbs).length) c3, .slice b4 ((digs b.den).length) c4]]) Tryd.func78 rfl rfl ?_
 have g1 := Gr.refl hs
 refine sr (oC (OpW.boxK (v := .agg #[.bool (decide (a.num < 0)), .slice b1 ((digs a.num.natAbs).length) c1, .slice b2 ((digs a.den).length) c2]) (arr := #[.bool (decide (a.num < 0)), .slice b1 ((digs a.num.natAbs).length) c1, .slice b2 ((digs a.den).length) c2]) g1.sat rfl rfl ?_))
 intro b5 h1 w1 gr1 qb1
 have g2 := g1.trans gr1
 refine oC (OpW.boxK (v := .agg #[.bool (decide (b.num < 0)), .slice b3 ((digs b.num.natAbs).length) c3, .slice b4 ((digs b.den).length) c4]) (arr := #[.bool (decide (b.num < 0)), .slice b3 ((digs b.num.natAbs).length) c3, .slice b4 ((digs b.den).length) c4]) g2.sat rfl rfl ?_)
 intro b6 h2 w2 gr2 qb2
 have g3 := g2.trans gr2
 refine oC (OpW.allocO (arr := #[.bool false, .slice none 0 0, .slice none 0 0]) g3.sat Tryd.zeroValue66 rfl ?_)
 intro b7 w3 gr3 n1 lo1 o1
 have lo2 := Nat.le_trans g3.ext.size lo1
 refine oN (wS ?_)
 have g4 := g3.trans gr3
 refine Wp.dagL 16 [5, 6, 7, 8, 9, 10, 11, 12, 13, 14, 15, 16, 17, 18, 19, 20] [eqv (.pointer (some ⟨b5, 0, none⟩)), eqv (.bool (decide (a.num < 0))), eqv (.pointer (some ⟨b6, 0, none⟩)), eqv (.bool (decide (b.num < 0))), eqv (.bool ((decide (a.num < 0)) != (decide (b.num < 0)))), eqv (.pointer (some ⟨b5, 1, none⟩)), eqv (.slice b1 ((digs a.num.natAbs).length) c1), eqv (.pointer (some ⟨b6, 1, none⟩)), eqv (.slice b3 ((digs b.num.natAbs).length) c3), fun h _ x => N h x (a.num.natAbs * b.num.natAbs), eqv (.pointer (some ⟨b5, 2, none⟩)), eqv (.slice b2 ((digs a.den).length) c2), eqv (.pointer (some ⟨b6, 2, none⟩)), eqv (.slice b4 ((digs b.den).length) c4), fun h _ x => N h x (a.den * b.den), fun h _ x => Qn h x (ratOf ((decide (a.num < 0)) != (decide (b.num < 0))) (a.num.natAbs * b.num.natAbs) (a.den * b.den))] mixed g4.sat rfl (by decide +kernel) ⟨sQ _, sQ _, sQ _, sQ _, sQ _, sQ _, sQ _, sQ _, sQ _, (stab_N (a.num.natAbs * b.num.natAbs)), sQ _, sQ _, sQ _, sQ _, (stab_N (a.den * b.den)), (stab_Q (ratOf ((decide (a.num < 0)) != (decide (b.num < 0))) (a.num.natAbs * b.num.natAbs) (a.den * b.den))), trivial⟩ ?_ ?_
 intro stab
 refine ⟨?_, ?_, ?_, ?_, ?_, ?_, ?_, ?_, ?_, ?_, ?_, ?_, ?_, ?_, ?_, ?_, trivial⟩
 intro ρ1 h3 w4 g5 hdd1 hdo1
 have e1 : ρ1 2 = .pointer (some ⟨b5, 0, none⟩) := hdo1 2 rfl
 refine gP (fA (o := 0) Tryd.underlying66 rfl Tryd.sizeOf4 (by decide) e1 rfl ?_)
 exact ⟨_, h3, rfl, g5, fun j x _ p => p, rfl⟩
 intro ρ2 h4 w5 g6 hdd2 hdo2
 have e2 : ρ2 5 = .pointer (some ⟨b5, 0, none⟩) := hdd2 0 (by decide)
 have g7 := g4.trans g6
 refine gP (lO (v := .bool (decide (a.num < 0))) Tryd.isAgg4 e2 (g7.sat _ _ ((gr2.le.trans g6.le) _ _ qb1)) rfl ?_)
 exact ⟨_, h4, rfl, g6, fun j x _ p => p, rfl⟩
 intro ρ3 h5 w6 g8 hdd3 hdo3
 have e3 : ρ3 3 = .pointer (some ⟨b6, 0, none⟩) := hdo3 3 rfl
 refine gP (fA (o := 0) Tryd.underlying66 rfl Tryd.sizeOf4 (by decide) e3 rfl ?_)
 exact ⟨_, h5, rfl, g8, fun j x _ p => p, rfl⟩
 intro ρ4 h6 w7 g9 hdd4 hdo4
 have e4 : ρ4 7 = .pointer (some ⟨b6, 0, none⟩) := hdd4 2 (by decide)
 have g10 := g4.trans g9
 refine gP (lO (v := .bool (decide (b.num < 0))) Tryd.isAgg4 e4 (g10.sat _ _ (g9.le _ _ qb2)) rfl ?_)
 exact ⟨_, h6, rfl, g9, fun j x _ p => p, rfl⟩
 intro ρ5 h7 w8 g11 hdd5 hdo5
 have e5 : ρ5 6 = .bool (decide (a.num < 0)) := hdd5 1 (by decide)
 have e6 : ρ5 8 = .bool (decide (b.num < 0)) := hdd5 3 (by decide)
 refine gP (OpW.neqB (a := decide (a.num < 0)) (b := decide (b.num < 0)) (r := (decide (a.num < 0)) != (decide (b.num < 0))) Tryd.underlying4 e5 e6 rfl ?_)
 exact ⟨_, h7, rfl, g11, fun j x _ p => p, rfl⟩
 intro ρ6 h8 w9 g12 hdd6 hdo6
 have e7 : ρ6 2 = .pointer (some ⟨b5, 0, none⟩) := hdo6 2 rfl
 refine gP (fA (o := 1) Tryd.underlying66 rfl Tryd.sizeOf64 (by decide) e7 rfl ?_)
 exact ⟨_, h8, rfl, g12, fun j x _ p => p, rfl⟩
 intro ρ7 h9 w10 g13 hdd7 hdo7
 have e8 : ρ7 10 = .pointer (some ⟨b5, 1, none⟩) := hdd7 5 (by decide)
 have g14 := g4.trans g13
 refine gP (lO (v := .slice b1 ((digs a.num.natAbs).length) c1) Tryd.isAgg64 e8 (g14.sat _ _ ((gr2.le.trans g13.le) _ _ qb1)) rfl ?_)
 exact ⟨_, h9, rfl, g13, fun j x _ p => p, rfl⟩
 intro ρ8 h10 w11 g15 hdd8 hdo8
 have e9 : ρ8 3 = .pointer (some ⟨b6, 0, none⟩) := hdo8 3 rfl
 refine gP (fA (o := 1) Tryd.underlying66 rfl Tryd.sizeOf64 (by decide) e9 rfl ?_)
 exact ⟨_, h10, rfl, g15, fun j x _ p => p, rfl⟩
 intro ρ9 h11 w12 g16 hdd9 hdo9
 have e10 : ρ9 12 = .pointer (some ⟨b6, 1, none⟩) := hdd9 7 (by decide)
 have g17 := g4.trans g16
 refine gP (lO (v := .slice b3 ((digs b.num.natAbs).length) c3) Tryd.isAgg64 e10 (g17.sat _ _ (g16.le _ _ qb2)) rfl ?_)
 exact ⟨_, h11, rfl, g16, fun j x _ p => p, rfl⟩
 intro ρ10 h12 w13 g18 hdd10 hdo10
 have e11 : ρ10 11 = .slice b1 ((digs a.num.natAbs).length) c1 := hdd10 6 (by decide)
 have e12 : ρ10 13 = .slice b3 ((digs b.num.natAbs).length) c3 := hdd10 8 (by decide)
 have g19 := g4.trans g18
 refine gP (cF Tryd.call89 (mul_c (a := a.num.natAbs) (b := b.num.natAbs) g19.sat (N.mono u1 ((gr1.le.trans gr2.le).trans g18.le)) (N.mono u3 ((gr1.le.trans gr2.le).trans g18.le)) (by omega) (by omega)) (cx e11 (cx e12 cxn)) ?_)
 intro r1 h13 w14 gr4 hr1
 exact ⟨r1, h13, rfl, g18.trans gr4, fun j x _ => stab j _ _ _ _ x gr4, hr1⟩
 intro ρ11 h14 w15 g20 hdd11 hdo11
 have e13 : ρ11 2 = .pointer (some ⟨b5, 0, none⟩) := hdo11 2 rfl
 refine gP (fA (o := 2) Tryd.underlying66 rfl Tryd.sizeOf64 (by decide) e13 rfl ?_)
 exact ⟨_, h14, rfl, g20, fun j x _ p => p, rfl⟩
 intro ρ12 h15 w16 g21 hdd12 hdo12
 have e14 : ρ12 15 = .pointer (some ⟨b5, 2, none⟩) := hdd12 10 (by decide)
 have g22 := g4.trans g21
 refine gP (lO (v := .slice b2 ((digs a.den).length) c2) Tryd.isAgg64 e14 (g22.sat _ _ ((gr2.le.trans g21.le) _ _ qb1)) rfl ?_)
 exact ⟨_, h15, rfl, g21, fun j x _ p => p, rfl⟩
 intro ρ13 h16 w17 g23 hdd13 hdo13
 have e15 : ρ13 3 = .pointer (some ⟨b6, 0, none⟩) := hdo13 3 rfl
 refine gP (fA (o := 2) Tryd.underlying66 rfl Tryd.sizeOf64 (by decide) e15 rfl ?_)
 exact ⟨_, h16, rfl, g23, fun j x _ p => p, rfl⟩
 intro ρ14 h17 w18 g24 hdd14 hdo14
 have e16 : ρ14 17 = .pointer (some ⟨b6, 2, none⟩) := hdd14 12 (by decide)
 have g25 := g4.trans g24
 refine gP (lO (v := .slice b4 ((digs b.den).length) c4) Tryd.isAgg64 e16 (g25.sat _ _ (g24.le _ _ qb2)) rfl ?_)
 exact ⟨_, h17, rfl, g24, fun j x _ p => p, rfl⟩
 intro ρ15 h18 w19 g26 hdd15 hdo15
 have e17 : ρ15 16 = .slice b2 ((digs a.den).length) c2 := hdd15 11 (by decide)
 have e18 : ρ15 18 = .slice b4 ((digs b.den).length) c4 := hdd15 13 (by decide)
 have g27 := g4.trans g26
 refine gP (cF Tryd.call89 (mul_c (a := a.den) (b := b.den) g27.sat (N.mono u2 ((gr1.le.trans gr2.le).trans g26.le)) (N.mono u4 ((gr1.le.trans gr2.le).trans g26.le)) (by omega) (by omega)) (cx e17 (cx e18 cxn)) ?_)
 intro r2 h19 w20 gr5 hr2
 exact ⟨r2, h19, rfl, g26.trans gr5, fun j x _ => stab j _ _ _ _ x gr5, hr2⟩
 intro ρ16 h20 w21 g28 hdd16 hdo16
 have e19 : ρ16 9 = .bool ((decide (a.num < 0)) != (decide (b.num < 0))) := hdd16 4 (by decide)
 have q1 : N h20 (ρ16 14) (a.num.natAbs * b.num.natAbs) := hdd16 9 (by decide)
 have q2 : N h20 (ρ16 19) (a.den * b.den) := hdd16 14 (by decide)
 have g29 := g4.trans g28
 refine gP (cF Tryd.call88 (reduced_c (s := (decide (a.num < 0)) != (decide (b.num < 0))) (n := a.num.natAbs * b.num.natAbs) (d := a.den * b.den) g29.sat q1 q2 (by omega) (by omega) (by omega)) (cx e19 (cx rfl (cx rfl cxn))) ?_)
 intro r3 h21 w22 gr6 hr3
 exact ⟨r3, h21, rfl, g28.trans gr6, fun j x _ => stab j _ _ _ _ x gr6, hr3⟩
 intro ρ17 h22 w23 g30 hdp1 hdo17
 have e20 : ρ17 4 = .pointer (some ⟨b7, 0, none⟩) := hdo17 4 rfl
 have q3 : Qn h22 (ρ17 20) (ratOf ((decide (a.num < 0)) != (decide (b.num < 0))) (a.num.natAbs * b.num.natAbs) (a.den * b.den)) := hdp1 15 rfl
 obtain ⟨x1, hx1⟩ : ∃ x, ρ17 20 = x := ⟨_, rfl⟩
 rw [hx1] at q3
 obtain ⟨b8, c5, b9, c6, rfl, k5, k6, u5, u6⟩ := Qn.shape q3
 refine Ops.forget [(4, .pointer (some ⟨b7, 0, none⟩)), (20, .agg #[.bool (decide ((ratOf ((decide (a.num < 0)) != (decide (b.num < 0))) (a.num.natAbs * b.num.natAbs) (a.den * b.den)).num < 0)), .slice b8 ((digs ((ratOf ((decide (a.num < 0)) != (decide (b.num < 0))) (a.num.natAbs * b.num.natAbs) (a.den * b.den)).num.natAbs)).length) c5, .slice b9 ((digs ((ratOf ((decide (a.num < 0)) != (decide (b.num < 0))) (a.num.natAbs * b.num.natAbs) (a.den * b.den)).den)).length) c6])] ⟨e20, hx1, trivial⟩ (fun ρ18 => ?_)
 have o2 := g30.kp ⟨o1, n1⟩
 refine oC (sA (cs := [.bool (decide ((ratOf ((decide (a.num < 0)) != (decide (b.num < 0))) (a.num.natAbs * b.num.natAbs) (a.den * b.den)).num < 0)), .slice b8 ((digs ((ratOf ((decide (a.num < 0)) != (decide (b.num < 0))) (a.num.natAbs * b.num.natAbs) (a.den * b.den)).num.natAbs)).length) c5, .slice b9 ((digs ((ratOf ((decide (a.num < 0)) != (decide (b.num < 0))) (a.num.natAbs * b.num.natAbs) (a.den * b.den)).den)).length) c6]) Tryd.sizeOf66 rfl rfl rfl rfl o2.1 rfl ?_)
 intro w24 p1
 refine oN (Wp.ret (fin1_ret rfl (resOf_cellA (cs := [.bool (decide ((ratOf ((decide (a.num < 0)) != (decide (b.num < 0))) (a.num.natAbs * b.num.natAbs) (a.den * b.den)).num < 0)), .slice b8 ((digs ((ratOf ((decide (a.num < 0)) != (decide (b.num < 0))) (a.num.natAbs * b.num.natAbs) (a.den * b.den)).num.natAbs)).length) c5, .slice b9 ((digs ((ratOf ((decide (a.num < 0)) != (decide (b.num < 0))) (a.num.natAbs * b.num.natAbs) (a.den * b.den)).den)).length) c6]) Tryd.isAgg66 Tryd.sizeOf66 rfl p1.at_ (Nat.le_of_ble_eq_true rfl) rfl) ?_))
 have g31 := (g4.trans g30).put p1 o2.2 lo2
 refine ⟨h22, g31, ?_⟩
 exact (Qn.cast mul_mk (Qn.mk u5 u6 rfl rfl rfl))
theorem nadd_c {h : PH} {w : World} {v0 : Value} {a : Rat} {v1 : Value} {b : Rat} (hs : Sat h w) (pv0 : Qn h v0 a) (pv1 : Qn h v1 b) (hp0 : bq a ≤ 134217728) (hp1 : bq b ≤ 134217728) :
    Calls Tryd.prog 98 #[v0, v1] w (Ret h w fun h' r => Qn h' r (a + b)) := by
 obtain ⟨b1, c1, b2, c2, rfl, k1, k2, u1, u2⟩ := Qn.shape pv0
 obtain ⟨b3, c3, b4, c4, rfl, k3, k4, u3, u4⟩ := Qn.shape pv1
 have ha1 := bq_num a
 have ha2 := bq_den a
 have hb1 := bq_num b
 have hb2 := bq_den b
 have hda := a.den_nz
 have hdb := b.den_nz
 have hdab := Nat.mul_ne_zero a.den_nz b.den_nz
 have m1 := sz_mul a.num.natAbs b.den
 have m2 := sz_mul b.num.natAbs a.den
 have m3 := sz_mul a.den b.den
 have m4 := sz_mul a.num.natAbs b.num.natAbs
 have m5 := sz_add (a.num.natAbs * b.den) (b.num.natAbs * a.den)
 have m6 := sz_mono (Nat.sub_le (a.num.natAbs * b.den) (b.num.natAbs * a.den))
 have m7 := sz_mono (Nat.sub_le (b.num.natAbs * a.den) (a.num.natAbs * b.den))
 refine calls_ear (vs := [.agg #[.bool (decide (a.num < 0)), .slice b1 ((digs a.num.natAbs).length) c1, .slice b2 ((digs a.den).length) c2], .agg #[.bool (decide (b.num < 0)), .slice b3 ((digs b.num.natAbs).length) c3, .slice b4 ((digs b.den).length) c4]]) Tryd.func98 rfl rfl ?_
 have g1 := Gr.refl hs
 refine sr (oC (OpW.boxK (v := .agg #[.bool (decide (a.num < 0)), .slice b1 ((digs a.num.natAbs).length) c1, .slice b2 ((digs a.den).length) c2]) (arr := #[.bool (decide (a.num < 0)), .slice b1 ((digs a.num.natAbs).length) c1, .slice b2 ((digs a.den).length) c2]) g1.sat rfl rfl ?_))
 intro b5 h1 w1 gr1 qb1
 have g2 := g1.trans gr1
 refine oC (OpW.boxK (v := .agg #[.bool (decide (b.num < 0)), .slice b3 ((digs b.num.natAbs).length) c3, .slice b4 ((digs b.den).length) c4]) (arr := #[.bool (decide (b.num < 0)), .slice b3 ((digs b.num.natAbs).length) c3, .slice b4 ((digs b.den).length) c4]) g2.sat rfl rfl ?_)
 intro b6 h2 w2 gr2 qb2
 have g3 := g2.trans gr2
 refine oC (OpW.allocO (arr := #[.bool false, .slice none 0 0, .slice none 0 0]) g3.sat Tryd.zeroValue66 rfl ?_)
 intro b7 w3 gr3 n1 lo1 o1
 have lo2 := Nat.le_trans g3.ext.size lo1
 refine oN (wS ?_)
 have g4 := g3.trans gr3
 refine Wp.dagL 18 [8, 9, 10, 11, 12, 13, 14, 15, 16, 17, 18, 19, 20, 21, 22, 5, 6, 7] [eqv (.pointer (some ⟨b5, 1, none⟩)), eqv (.slice b1 ((digs a.num.natAbs).length) c1), eqv (.pointer (some ⟨b6, 2, none⟩)), eqv (.slice b4 ((digs b.den).length) c4), fun h _ x => N h x (a.num.natAbs * b.den), eqv (.pointer (some ⟨b6, 1, none⟩)), eqv (.slice b3 ((digs b.num.natAbs).length) c3), eqv (.pointer (some ⟨b5, 2, none⟩)), eqv (.slice b2 ((digs a.den).length) c2), fun h _ x => N h x (b.num.natAbs * a.den), eqv (.pointer (some ⟨b5, 2, none⟩)), eqv (.slice b2 ((digs a.den).length) c2), eqv (.pointer (some ⟨b6, 2, none⟩)), eqv (.slice b4 ((digs b.den).length) c4), fun h _ x => N h x (a.den * b.den), fun h _ x => N h x (a.num.natAbs * b.den), fun h _ x => N h x (b.num.natAbs * a.den), fun h _ x => N h x (a.den * b.den)] mixed g4.sat rfl (by decide +kernel) ⟨sQ _, sQ _, sQ _, sQ _, (stab_N (a.num.natAbs * b.den)), sQ _, sQ _, sQ _, sQ _, (stab_N (b.num.natAbs * a.den)), sQ _, sQ _, sQ _, sQ _, (stab_N (a.den * b.den)), (stab_N (a.num.natAbs * b.den)), (stab_N (b.num.natAbs * a.den)), (stab_N (a.den * b.den)), trivial⟩ ?_ ?_
 intro stab
 refine ⟨?_, ?_, ?_, ?_, ?_, ?_, ?_, ?_, ?_, ?_, ?_, ?_, ?_, ?_, ?_, ?_, ?_, ?_, trivial⟩
 intro ρ1 h3 w4 g5 hdd1 hdo1
 have e1 : ρ1 2 = .pointer (some ⟨b5, 0, none⟩) := hdo1 2 rfl
 refine gP (fA (o := 1) Tryd.underlying66 rfl Tryd.sizeOf64 (by decide) e1 rfl ?_)
 exact ⟨_, h3, rfl, g5, fun j x _ p => p, rfl⟩
 intro ρ2 h4 w5 g6 hdd2 hdo2
 have e2 : ρ2 8 = .pointer (some ⟨b5, 1, none⟩) := hdd2 0 (by decide)
 have g7 := g4.trans g6
 refine gP (lO (v := .slice b1 ((digs a.num.natAbs).length) c1) Tryd.isAgg64 e2 (g7.sat _ _ ((gr2.le.trans g6.le) _ _ qb1)) rfl ?_)
 exact ⟨_, h4, rfl, g6, fun j x _ p => p, rfl⟩
 intro ρ3 h5 w6 g8 hdd3 hdo3
 have e3 : ρ3 3 = .pointer (some ⟨b6, 0, none⟩) := hdo3 3 rfl
 refine gP (fA (o := 2) Tryd.underlying66 rfl Tryd.sizeOf64 (by decide) e3 rfl ?_)
 exact ⟨_, h5, rfl, g8, fun j x _ p => p, rfl⟩
 intro ρ4 h6 w7 g9 hdd4 hdo4
 have e4 : ρ4 10 = .pointer (some ⟨b6, 2, none⟩) := hdd4 2 (by decide)
 have g10 := g4.trans g9
 refine gP (lO (v := .slice b4 ((digs b.den).length) c4) Tryd.isAgg64 e4 (g10.sat _ _ (g9.le _ _ qb2)) rfl ?_)
 exact ⟨_, h6, rfl, g9, fun j x _ p => p, rfl⟩
 intro ρ5 h7 w8 g11 hdd5 hdo5
 have e5 : ρ5 9 = .slice b1 ((digs a.num.natAbs).length) c1 := hdd5 1 (by decide)
 have e6 : ρ5 11 = .slice b4 ((digs b.den).length) c4 := hdd5 3 (by decide)
 have g12 := g4.trans g11
 refine gP (cF Tryd.call89 (mul_c (a := a.num.natAbs) (b := b.den) g12.sat (N.mono u1 ((gr1.le.trans gr2.le).trans g11.le)) (N.mono u4 ((gr1.le.trans gr2.le).trans g11.le)) (by omega) (by omega)) (cx e5 (cx e6 cxn)) ?_)
 intro r1 h8 w9 gr4 hr1
 exact ⟨r1, h8, rfl, g11.trans gr4, fun j x _ => stab j _ _ _ _ x gr4, hr1⟩
 intro ρ6 h9 w10 g13 hdd6 hdo6
 have e7 : ρ6 3 = .pointer (some ⟨b6, 0, none⟩) := hdo6 3 rfl
 refine gP (fA (o := 1) Tryd.underlying66 rfl Tryd.sizeOf64 (by decide) e7 rfl ?_)
 exact ⟨_, h9, rfl, g13, fun j x _ p => p, rfl⟩
 intro ρ7 h10 w11 g14 hdd7 hdo7
 have e8 : ρ7 13 = .pointer (some ⟨b6, 1, none⟩) := hdd7 5 (by decide)
 have g15 := g4.trans g14
 refine gP (lO (v := .slice b3 ((digs b.num.natAbs).length) c3) Tryd.isAgg64 e8 (g15.sat _ _ (g14.le _ _ qb2)) rfl ?_)
 exact ⟨_, h10, rfl, g14, fun j x _ p => p, rfl⟩
 intro ρ8 h11 w12 g16 hdd8 hdo8
 have e9 : ρ8 2 = .pointer (some ⟨b5, 0, none⟩) := hdo8 2 rfl
 refine gP (fA (o := 2) Tryd.underlying66 rfl Tryd.sizeOf64 (by decide) e9 rfl ?_)
 exact ⟨_, h11, rfl, g16, fun j x _ p => p, rfl⟩
 intro ρ9 h12 w13 g17 hdd9 hdo9
 have e10 : ρ9 15 = .pointer (some ⟨b5, 2, none⟩) := hdd9 7 (by decide)
 have g18 := g4.trans g17
 refine gP (lO (v := .slice b2 ((digs a.den).length) c2) Tryd.isAgg64 e10 (g18.sat _ _ ((gr2.le.trans g17.le) _ _ qb1)) rfl ?_)
 exact ⟨_, h12, rfl, g17, fun j x _ p => p, rfl⟩
 intro ρ10 h13 w14 g19 hdd10 hdo10
 have e11 : ρ10 14 = .slice b3 ((digs b.num.natAbs).length) c3 := hdd10 6 (by decide)
 have e12 : ρ10 16 = .slice b2 ((digs a.den).length) c2 := hdd10 8 (by decide)
 have g20 := g4.trans g19
 refine gP (cF Tryd.call89 (mul_c (a := b.num.natAbs) (b := a.den) g20.sat (N.mono u3 ((gr1.le.trans gr2.le).trans g19.le)) (N.mono u2 ((gr1.le.trans gr2.le).trans g19.le)) (by omega) (by omega)) (cx e11 (cx e12 cxn)) ?_)
 intro r2 h14 w15 gr5 hr2
 exact ⟨r2, h14, rfl, g19.trans gr5, fun j x _ => stab j _ _ _ _ x gr5, hr2⟩
 intro ρ11 h15 w16 g21 hdd11 hdo11
 have e13 : ρ11 2 = .pointer (some ⟨b5, 0, none⟩) := hdo11 2 rfl
 refine gP (fA (o := 2) Tryd.underlying66 rfl Tryd.sizeOf64 (by decide) e13 rfl ?_)
 exact ⟨_, h15, rfl, g21, fun j x _ p => p, rfl⟩
 intro ρ12 h16 w17 g22 hdd12 hdo12
 have e14 : ρ12 18 = .pointer (some ⟨b5, 2, none⟩) := hdd12 10 (by decide)
 have g23 := g4.trans g22
 refine gP (lO (v := .slice b2 ((digs a.den).length) c2) Tryd.isAgg64 e14 (g23.sat _ _ ((gr2.le.trans g22.le) _ _ qb1)) rfl ?_)
 exact ⟨_, h16, rfl, g22, fun j x _ p => p, rfl⟩
 intro ρ13 h17 w18 g24 hdd13 hdo13
 have e15 : ρ13 3 = .pointer (some ⟨b6, 0, none⟩) := hdo13 3 rfl
 refine gP (fA (o := 2) Tryd.underlying66 rfl Tryd.sizeOf64 (by decide) e15 rfl ?_)
 exact ⟨_, h17, rfl, g24, fun j x _ p => p, rfl⟩
 intro ρ14 h18 w19 g25 hdd14 hdo14
 have e16 : ρ14 20 = .pointer (some ⟨b6, 2, none⟩) := hdd14 12 (by decide)
 have g26 := g4.trans g25
 refine gP (lO (v := .slice b4 ((digs b.den).length) c4) Tryd.isAgg64 e16 (g26.sat _ _ (g25.le _ _ qb2)) rfl ?_)
 exact ⟨_, h18, rfl, g25, fun j x _ p => p, rfl⟩
 intro ρ15 h19 w20 g27 hdd15 hdo15
 have e17 : ρ15 19 = .slice b2 ((digs a.den).length) c2 := hdd15 11 (by decide)
 have e18 : ρ15 21 = .slice b4 ((digs b.den).length) c4 := hdd15 13 (by decide)
 have g28 := g4.trans g27
 refine gP (cF Tryd.call89 (mul_c (a := a.den) (b := b.den) g28.sat (N.mono u2 ((gr1.le.trans gr2.le).trans g27.le)) (N.mono u4 ((gr1.le.trans gr2.le).trans g27.le)) (by omega) (by omega)) (cx e17 (cx e18 cxn)) ?_)
 intro r3 h20 w21 gr6 hr3
 exact ⟨r3, h20, rfl, g27.trans gr6, fun j x _ => stab j _ _ _ _ x gr6, hr3⟩
 intro ρ16 h21 w22 g29 hdd16 hdo16
 have q1 : N h21 (ρ16 12) (a.num.natAbs * b.den) := hdd16 4 (by decide)
 refine gP (OpW.assign (v := (ρ16 12)) rfl ?_)
 exact ⟨_, h21, rfl, g29, fun j x _ p => p, q1⟩
 intro ρ17 h22 w23 g30 hdd17 hdo17
 have q2 : N h22 (ρ17 17) (b.num.natAbs * a.den) := hdd17 9 (by decide)
 refine gP (OpW.assign (v := (ρ17 17)) rfl ?_)
 exact ⟨_, h22, rfl, g30, fun j x _ p => p, q2⟩
 intro ρ18 h23 w24 g31 hdd18 hdo18
 have q3 : N h23 (ρ18 22) (a.den * b.den) := hdd18 14 (by decide)
 refine gP (OpW.assign (v := (ρ18 22)) rfl ?_)
 exact ⟨_, h23, rfl, g31, fun j x _ p => p, q3⟩
 intro ρ19 h24 w25 g32 hdp1 hdo19
 have e19 : ρ19 2 = .pointer (some ⟨b5, 0, none⟩) := hdo19 2 rfl
 have e20 : ρ19 3 = .pointer (some ⟨b6, 0, none⟩) := hdo19 3 rfl
 have e21 : ρ19 4 = .pointer (some ⟨b7, 0, none⟩) := hdo19 4 rfl
 have q4 : N h24 (ρ19 5) (a.num.natAbs * b.den) := hdp1 15 rfl
 obtain ⟨x1, hx1⟩ : ∃ x, ρ19 5 = x := ⟨_, rfl⟩
 rw [hx1] at q4
 obtain ⟨b8, c5, rfl, k5⟩ := N.shape q4
 have q5 : N h24 (ρ19 6) (b.num.natAbs * a.den) := hdp1 16 rfl
 obtain ⟨x2, hx2⟩ : ∃ x, ρ19 6 = x := ⟨_, rfl⟩
 rw [hx2] at q5
 obtain ⟨b9, c6, rfl, k6⟩ := N.shape q5
 have q6 : N h24 (ρ19 7) (a.den * b.den) := hdp1 17 rfl
 obtain ⟨x3, hx3⟩ : ∃ x, ρ19 7 = x := ⟨_, rfl⟩
 rw [hx3] at q6
 obtain ⟨b10, c7, rfl, k7⟩ := N.shape q6
 refine Ops.forget [(2, .pointer (some ⟨b5, 0, none⟩)), (3, .pointer (some ⟨b6, 0, none⟩)), (4, .pointer (some ⟨b7, 0, none⟩)), (5, .slice b8 ((digs (a.num.natAbs * b.den)).length) c5), (6, .slice b9 ((digs (b.num.natAbs * a.den)).length) c6), (7, .slice b10 ((digs (a.den * b.den)).length) c7)] ⟨e19, e20, e21, hx1, hx2, hx3, trivial⟩ (fun ρ20 => (oN (wS (sr (oC (fA (o := 0) Tryd.underlying66 rfl Tryd.sizeOf4 (by decide) rfl rfl ?_))))))
 have g33 := g4.trans g32
 refine oC (lO (v := .bool (decide (a.num < 0))) Tryd.isAgg4 rfl (g33.sat _ _ ((gr2.le.trans g32.le) _ _ qb1)) rfl ?_)
 refine oC (fA (o := 0) Tryd.underlying66 rfl Tryd.sizeOf4 (by decide) rfl rfl ?_)
 refine oC (lO (v := .bool (decide (b.num < 0))) Tryd.isAgg4 rfl (g33.sat _ _ (g32.le _ _ qb2)) rfl ?_)
 refine oC (OpW.eqlB (a := decide (a.num < 0)) (b := decide (b.num < 0)) (r := (decide (a.num < 0)) == (decide (b.num < 0))) Tryd.underlying4 rfl rfl rfl (oN (Wp.cond (t := (decide (a.num < 0)) == (decide (b.num < 0))) rfl (fun c8 => ?_) (fun c8 => ?_))))
 replace c8 : (decide (a.num < 0)) = (decide (b.num < 0)) := (beq_t c8)
 refine wS (fg [(2, .pointer (some ⟨b5, 0, none⟩)), (4, .pointer (some ⟨b7, 0, none⟩)), (5, .slice b8 ((digs (a.num.natAbs * b.den)).length) c5), (6, .slice b9 ((digs (b.num.natAbs * a.den)).length) c6), (7, .slice b10 ((digs (a.den * b.den)).length) c7)] rfl (fun ρ21 => ?_))
 refine Wp.dagL 7 [28, 29, 30, 31, 32, 33, 34] [eqv (.pointer (some ⟨b5, 0, none⟩)), eqv (.bool (decide (a.num < 0))), eqv (.slice b8 ((digs (a.num.natAbs * b.den)).length) c5), eqv (.slice b9 ((digs (b.num.natAbs * a.den)).length) c6), fun h _ x => N h x ((a.num.natAbs * b.den) + (b.num.natAbs * a.den)), eqv (.slice b10 ((digs (a.den * b.den)).length) c7), fun h _ x => Qn h x (ratOf (decide (a.num < 0)) ((a.num.natAbs * b.den) + (b.num.natAbs * a.den)) (a.den * b.den))] mixed g33.sat rfl (by decide +kernel) ⟨sQ _, sQ _, sQ _, sQ _, (stab_N ((a.num.natAbs * b.den) + (b.num.natAbs * a.den))), sQ _, (stab_Q (ratOf (decide (a.num < 0)) ((a.num.natAbs * b.den) + (b.num.natAbs * a.den)) (a.den * b.den))), trivial⟩ ?_ ?_
 intro stab
 refine ⟨?_, ?_, ?_, ?_, ?_, ?_, ?_, trivial⟩
 intro ρ22 h25 w26 g34 hdd19 hdo20
 have e22 : ρ22 2 = .pointer (some ⟨b5, 0, none⟩) := hdo20 2 rfl
 refine gP (fA (o := 0) Tryd.underlying66 rfl Tryd.sizeOf4 (by decide) e22 rfl ?_)
 exact ⟨_, h25, rfl, g34, fun j x _ p => p, rfl⟩
 intro ρ23 h26 w27 g35 hdd20 hdo21
 have e23 : ρ23 28 = .pointer (some ⟨b5, 0, none⟩) := hdd20 0 (by decide)
 have g36 := g33.trans g35
 refine gP (lO (v := .bool (decide (a.num < 0))) Tryd.isAgg4 e23 (g36.sat _ _ (((gr2.le.trans g32.le).trans g35.le) _ _ qb1)) rfl ?_)
 exact ⟨_, h26, rfl, g35, fun j x _ p => p, rfl⟩
 intro ρ24 h27 w28 g37 hdd21 hdo22
 have e24 : ρ24 5 = .slice b8 ((digs (a.num.natAbs * b.den)).length) c5 := hdo22 5 rfl
 refine gP (OpW.move (v := .slice b8 ((digs (a.num.natAbs * b.den)).length) c5) e24 ?_)
 exact ⟨_, h27, rfl, g37, fun j x _ p => p, rfl⟩
 intro ρ25 h28 w29 g38 hdd22 hdo23
 have e25 : ρ25 6 = .slice b9 ((digs (b.num.natAbs * a.den)).length) c6 := hdo23 6 rfl
 refine gP (OpW.move (v := .slice b9 ((digs (b.num.natAbs * a.den)).length) c6) e25 ?_)
 exact ⟨_, h28, rfl, g38, fun j x _ p => p, rfl⟩
 intro ρ26 h29 w30 g39 hdd23 hdo24
 have e26 : ρ26 30 = .slice b8 ((digs (a.num.natAbs * b.den)).length) c5 := hdd23 2 (by decide)
 have e27 : ρ26 31 = .slice b9 ((digs (b.num.natAbs * a.den)).length) c6 := hdd23 3 (by decide)
 have g40 := g33.trans g39
 refine gP (cF Tryd.call90 (add_c (a := a.num.natAbs * b.den) (b := b.num.natAbs * a.den) g40.sat (N.mono q4 g39.le) (N.mono q5 g39.le) (by omega) (by omega)) (cx e26 (cx e27 cxn)) ?_)
 intro r4 h30 w31 gr7 hr4
 exact ⟨r4, h30, rfl, g39.trans gr7, fun j x _ => stab j _ _ _ _ x gr7, hr4⟩
 intro ρ27 h31 w32 g41 hdd24 hdo25
 have e28 : ρ27 7 = .slice b10 ((digs (a.den * b.den)).length) c7 := hdo25 7 rfl
 refine gP (OpW.move (v := .slice b10 ((digs (a.den * b.den)).length) c7) e28 ?_)
 exact ⟨_, h31, rfl, g41, fun j x _ p => p, rfl⟩
 intro ρ28 h32 w33 g42 hdd25 hdo26
 have e29 : ρ28 29 = .bool (decide (a.num < 0)) := hdd25 1 (by decide)
 have q7 : N h32 (ρ28 32) ((a.num.natAbs * b.den) + (b.num.natAbs * a.den)) := hdd25 4 (by decide)
 have e30 : ρ28 33 = .slice b10 ((digs (a.den * b.den)).length) c7 := hdd25 5 (by decide)
 have g43 := g33.trans g42
 refine gP (cF Tryd.call88 (reduced_c (s := decide (a.num < 0)) (n := (a.num.natAbs * b.den) + (b.num.natAbs * a.den)) (d := a.den * b.den) g43.sat q7 (N.mono q6 g42.le) (by omega) (by omega) (by omega)) (cx e29 (cx rfl (cx e30 cxn))) ?_)
 intro r5 h33 w34 gr8 hr5
 exact ⟨r5, h33, rfl, g42.trans gr8, fun j x _ => stab j _ _ _ _ x gr8, hr5⟩
 intro ρ29 h34 w35 g44 hdp2 hdo27
 have e31 : ρ29 4 = .pointer (some ⟨b7, 0, none⟩) := hdo27 4 rfl
 have q8 : Qn h34 (ρ29 34) (ratOf (decide (a.num < 0)) ((a.num.natAbs * b.den) + (b.num.natAbs * a.den)) (a.den * b.den)) := hdp2 6 rfl
 obtain ⟨x4, hx4⟩ : ∃ x, ρ29 34 = x := ⟨_, rfl⟩
 rw [hx4] at q8
 obtain ⟨b11, c9, b12, c10, rfl, k8, k9, u5, u6⟩ := Qn.shape q8
 refine Ops.forget [(4, .pointer (some ⟨b7, 0, none⟩)), (34, .agg #[.bool (decide ((ratOf (decide (a.num < 0)) ((a.num.natAbs * b.den) + (b.num.natAbs * a.den)) (a.den * b.den)).num < 0)), .slice b11 ((digs ((ratOf (decide (a.num < 0)) ((a.num.natAbs * b.den) + (b.num.natAbs * a.den)) (a.den * b.den)).num.natAbs)).length) c9, .slice b12 ((digs ((ratOf (decide (a.num < 0)) ((a.num.natAbs * b.den) + (b.num.natAbs * a.den)) (a.den * b.den)).den)).length) c10])] ⟨e31, hx4, trivial⟩ (fun ρ30 => ?_)
 have o2 := g44.kp (g32.kp ⟨o1, n1⟩)
 refine oC (sA (cs := [.bool (decide ((ratOf (decide (a.num < 0)) ((a.num.natAbs * b.den) + (b.num.natAbs * a.den)) (a.den * b.den)).num < 0)), .slice b11 ((digs ((ratOf (decide (a.num < 0)) ((a.num.natAbs * b.den) + (b.num.natAbs * a.den)) (a.den * b.den)).num.natAbs)).length) c9, .slice b12 ((digs ((ratOf (decide (a.num < 0)) ((a.num.natAbs * b.den) + (b.num.natAbs * a.den)) (a.den * b.den)).den)).length) c10]) Tryd.sizeOf66 rfl rfl rfl rfl o2.1 rfl ?_)
 intro w36 p1
 refine oN (Wp.ret (fin1_ret rfl (resOf_cellA (cs := [.bool (decide ((ratOf (decide (a.num < 0)) ((a.num.natAbs * b.den) + (b.num.natAbs * a.den)) (a.den * b.den)).num < 0)), .slice b11 ((digs ((ratOf (decide (a.num < 0)) ((a.num.natAbs * b.den) + (b.num.natAbs * a.den)) (a.den * b.den)).num.natAbs)).length) c9, .slice b12 ((digs ((ratOf (decide (a.num < 0)) ((a.num.natAbs * b.den) + (b.num.natAbs * a.den)) (a.den * b.den)).den)).length) c10]) Tryd.isAgg66 Tryd.sizeOf66 rfl p1.at_ (Nat.le_of_ble_eq_true rfl) rfl) ?_))
 have g45 := (g33.trans g44).put p1 o2.2 lo2
 refine ⟨h34, g45, ?_⟩
 exact (Qn.cast (add_same (by assumption)) (Qn.mk u5 u6 rfl rfl rfl))
 replace c8 : ¬ ((decide (a.num < 0)) = (decide (b.num < 0))) := (beq_f c8)
 refine Wp.skip (wS (wS (fg [(2, .pointer (some ⟨b5, 0, none⟩)), (3, .pointer (some ⟨b6, 0, none⟩)), (4, .pointer (some ⟨b7, 0, none⟩)), (5, .slice b8 ((digs (a.num.natAbs * b.den)).length) c5), (6, .slice b9 ((digs (b.num.natAbs * a.den)).length) c6), (7, .slice b10 ((digs (a.den * b.den)).length) c7)] rfl (fun ρ31 => (wR (mv (mv (oC (cF Tryd.call85 (compare_c (a := a.num.natAbs * b.den) (b := b.num.natAbs * a.den) g33.sat q4 q5 (by omega) (by omega)) rfl ?_)))))))))
 intro r6 h35 w37 gr9 hr6
 subst hr6
 refine oC (OpW.lss (a := (cmpN (a.num.natAbs * b.den) (b.num.natAbs * a.den))) (b := ((0 : Nat) : Int)) (r := decide ((cmpN (a.num.natAbs * b.den) (b.num.natAbs * a.den)) < ((0 : Nat) : Int))) rfl rfl rfl (oN (Wp.cond (t := decide ((cmpN (a.num.natAbs * b.den) (b.num.natAbs * a.den)) < ((0 : Nat) : Int))) rfl (fun c11 => ?_) (fun c11 => ?_))))
 replace c11 : (cmpN (a.num.natAbs * b.den) (b.num.natAbs * a.den)) < ((0 : Nat) : Int) := (of_decide_eq_true c11)
 have hlt := (cmpN_neg.1 (by assumption))
 refine wS ?_
 have g46 := g33.trans gr9
 refine Wp.dagL 7 [39, 40, 41, 42, 43, 44, 45] [eqv (.pointer (some ⟨b6, 0, none⟩)), eqv (.bool (decide (b.num < 0))), eqv (.slice b9 ((digs (b.num.natAbs * a.den)).length) c6), eqv (.slice b8 ((digs (a.num.natAbs * b.den)).length) c5), fun h _ x => N h x ((b.num.natAbs * a.den) - (a.num.natAbs * b.den)), eqv (.slice b10 ((digs (a.den * b.den)).length) c7), fun h _ x => Qn h x (ratOf (decide (b.num < 0)) ((b.num.natAbs * a.den) - (a.num.natAbs * b.den)) (a.den * b.den))] mixed g46.sat rfl (by decide +kernel) ⟨sQ _, sQ _, sQ _, sQ _, (stab_N ((b.num.natAbs * a.den) - (a.num.natAbs * b.den))), sQ _, (stab_Q (ratOf (decide (b.num < 0)) ((b.num.natAbs * a.den) - (a.num.natAbs * b.den)) (a.den * b.den))), trivial⟩ ?_ ?_
 intro stab
 refine ⟨?_, ?_, ?_, ?_, ?_, ?_, ?_, trivial⟩
 intro ρ32 h36 w38 g47 hdd26 hdo28
 have e32 : ρ32 3 = .pointer (some ⟨b6, 0, none⟩) := hdo28 3 rfl
 refine gP (fA (o := 0) Tryd.underlying66 rfl Tryd.sizeOf4 (by decide) e32 rfl ?_)
 exact ⟨_, h36, rfl, g47, fun j x _ p => p, rfl⟩
 intro ρ33 h37 w39 g48 hdd27 hdo29
 have e33 : ρ33 39 = .pointer (some ⟨b6, 0, none⟩) := hdd27 0 (by decide)
 have g49 := g46.trans g48
 refine gP (lO (v := .bool (decide (b.num < 0))) Tryd.isAgg4 e33 (g49.sat _ _ (((g32.le.trans gr9.le).trans g48.le) _ _ qb2)) rfl ?_)
 exact ⟨_, h37, rfl, g48, fun j x _ p => p, rfl⟩
 intro ρ34 h38 w40 g50 hdd28 hdo30
 have e34 : ρ34 6 = .slice b9 ((digs (b.num.natAbs * a.den)).length) c6 := hdo30 6 rfl
 refine gP (OpW.move (v := .slice b9 ((digs (b.num.natAbs * a.den)).length) c6) e34 ?_)
 exact ⟨_, h38, rfl, g50, fun j x _ p => p, rfl⟩
 intro ρ35 h39 w41 g51 hdd29 hdo31
 have e35 : ρ35 5 = .slice b8 ((digs (a.num.natAbs * b.den)).length) c5 := hdo31 5 rfl
 refine gP (OpW.move (v := .slice b8 ((digs (a.num.natAbs * b.den)).length) c5) e35 ?_)
 exact ⟨_, h39, rfl, g51, fun j x _ p => p, rfl⟩
 intro ρ36 h40 w42 g52 hdd30 hdo32
 have e36 : ρ36 41 = .slice b9 ((digs (b.num.natAbs * a.den)).length) c6 := hdd30 2 (by decide)
 have e37 : ρ36 42 = .slice b8 ((digs (a.num.natAbs * b.den)).length) c5 := hdd30 3 (by decide)
 have g53 := g46.trans g52
 refine gP (cF Tryd.call122 (sub_c (a := b.num.natAbs * a.den) (b := a.num.natAbs * b.den) g53.sat (N.mono q5 (gr9.le.trans g52.le)) (N.mono q4 (gr9.le.trans g52.le)) (by omega) (by omega) (by omega)) (cx e36 (cx e37 cxn)) ?_)
 intro r7 h41 w43 gr10 hr7
 exact ⟨r7, h41, rfl, g52.trans gr10, fun j x _ => stab j _ _ _ _ x gr10, hr7⟩
 intro ρ37 h42 w44 g54 hdd31 hdo33
 have e38 : ρ37 7 = .slice b10 ((digs (a.den * b.den)).length) c7 := hdo33 7 rfl
 refine gP (OpW.move (v := .slice b10 ((digs (a.den * b.den)).length) c7) e38 ?_)
 exact ⟨_, h42, rfl, g54, fun j x _ p => p, rfl⟩
 intro ρ38 h43 w45 g55 hdd32 hdo34
 have e39 : ρ38 40 = .bool (decide (b.num < 0)) := hdd32 1 (by decide)
 have q9 : N h43 (ρ38 43) ((b.num.natAbs * a.den) - (a.num.natAbs * b.den)) := hdd32 4 (by decide)
 have e40 : ρ38 44 = .slice b10 ((digs (a.den * b.den)).length) c7 := hdd32 5 (by decide)
 have g56 := g46.trans g55
 refine gP (cF Tryd.call88 (reduced_c (s := decide (b.num < 0)) (n := (b.num.natAbs * a.den) - (a.num.natAbs * b.den)) (d := a.den * b.den) g56.sat q9 (N.mono q6 (gr9.le.trans g55.le)) (by omega) (by omega) (by omega)) (cx e39 (cx rfl (cx e40 cxn))) ?_)
 intro r8 h44 w46 gr11 hr8
 exact ⟨r8, h44, rfl, g55.trans gr11, fun j x _ => stab j _ _ _ _ x gr11, hr8⟩
 intro ρ39 h45 w47 g57 hdp3 hdo35
 have e41 : ρ39 4 = .pointer (some ⟨b7, 0, none⟩) := hdo35 4 rfl
 have q10 : Qn h45 (ρ39 45) (ratOf (decide (b.num < 0)) ((b.num.natAbs * a.den) - (a.num.natAbs * b.den)) (a.den * b.den)) := hdp3 6 rfl
 obtain ⟨x5, hx5⟩ : ∃ x, ρ39 45 = x := ⟨_, rfl⟩
 rw [hx5] at q10
 obtain ⟨b13, c12, b14, c13, rfl, k10, k11, u7, u8⟩ := Qn.shape q10
 refine Ops.forget [(4, .pointer (some ⟨b7, 0, none⟩)), (45, .agg #[.bool (decide ((ratOf (decide (b.num < 0)) ((b.num.natAbs * a.den) - (a.num.natAbs * b.den)) (a.den * b.den)).num < 0)), .slice b13 ((digs ((ratOf (decide (b.num < 0)) ((b.num.natAbs * a.den) - (a.num.natAbs * b.den)) (a.den * b.den)).num.natAbs)).length) c12, .slice b14 ((digs ((ratOf (decide (b.num < 0)) ((b.num.natAbs * a.den) - (a.num.natAbs * b.den)) (a.den * b.den)).den)).length) c13])] ⟨e41, hx5, trivial⟩ (fun ρ40 => ?_)
 have o4 := g57.kp (gr9.kp (g32.kp ⟨o1, n1⟩))
 refine oC (sA (cs := [.bool (decide ((ratOf (decide (b.num < 0)) ((b.num.natAbs * a.den) - (a.num.natAbs * b.den)) (a.den * b.den)).num < 0)), .slice b13 ((digs ((ratOf (decide (b.num < 0)) ((b.num.natAbs * a.den) - (a.num.natAbs * b.den)) (a.den * b.den)).num.natAbs)).length) c12, .slice b14 ((digs ((ratOf (decide (b.num < 0)) ((b.num.natAbs * a.den) - (a.num.natAbs * b.den)) (a.den * b.den)).den)).length) c13]) Tryd.sizeOf66 rfl rfl rfl rfl o4.1 rfl ?_)
 intro w48 p2
 refine oN (Wp.ret (fin1_ret rfl (resOf_cellA (cs := [.bool (decide ((ratOf (decide (b.num < 0)) ((b.num.natAbs * a.den) - (a.num.natAbs * b.den)) (a.den * b.den)).num < 0)), .slice b13 ((digs ((ratOf (decide (b.num < 0)) ((b.num.natAbs * a.den) - (a.num.natAbs * b.den)) (a.den * b.den)).num.natAbs)).length) c12, .slice b14 ((digs ((ratOf (decide (b.num < 0)) ((b.num.natAbs * a.den) - (a.num.natAbs * b.den)) (a.den * b.den)).den)).length) c13]) Tryd.isAgg66 Tryd.sizeOf66 rfl p2.at_ (Nat.le_of_ble_eq_true rfl) rfl) ?_))
 have g58 := (g46.trans g57).put p2 o4.2 lo2
 refine ⟨h45, g58, ?_⟩
 exact (Qn.cast (add_lt (by assumption) (Nat.le_of_lt hlt)) (Qn.mk u7 u8 rfl rfl rfl))
 replace c11 : ¬ ((cmpN (a.num.natAbs * b.den) (b.num.natAbs * a.den)) < ((0 : Nat) : Int)) := (of_decide_eq_false c11)
 have hge := Nat.le_of_not_lt (fun e => absurd (cmpN_neg.2 e) (by assumption))
 refine Wp.skip (wS ?_)
 have g59 := g33.trans gr9
 refine Wp.dagL 7 [46, 47, 48, 49, 50, 51, 52] [eqv (.pointer (some ⟨b5, 0, none⟩)), eqv (.bool (decide (a.num < 0))), eqv (.slice b8 ((digs (a.num.natAbs * b.den)).length) c5), eqv (.slice b9 ((digs (b.num.natAbs * a.den)).length) c6), fun h _ x => N h x ((a.num.natAbs * b.den) - (b.num.natAbs * a.den)), eqv (.slice b10 ((digs (a.den * b.den)).length) c7), fun h _ x => Qn h x (ratOf (decide (a.num < 0)) ((a.num.natAbs * b.den) - (b.num.natAbs * a.den)) (a.den * b.den))] mixed g59.sat rfl (by decide +kernel) ⟨sQ _, sQ _, sQ _, sQ _, (stab_N ((a.num.natAbs * b.den) - (b.num.natAbs * a.den))), sQ _, (stab_Q (ratOf (decide (a.num < 0)) ((a.num.natAbs * b.den) - (b.num.natAbs * a.den)) (a.den * b.den))), trivial⟩ ?_ ?_
 intro stab
 refine ⟨?_, ?_, ?_, ?_, ?_, ?_, ?_, trivial⟩
 intro ρ41 h46 w49 g60 hdd33 hdo36
 have e42 : ρ41 2 = .pointer (some ⟨b5, 0, none⟩) := hdo36 2 rfl
 refine gP (fA (o := 0) Tryd.underlying66 rfl Tryd.sizeOf4 (by decide) e42 rfl ?_)
 exact ⟨_, h46, rfl, g60, fun j x _ p => p, rfl⟩
 intro ρ42 h47 w50 g61 hdd34 hdo37
 have e43 : ρ42 46 = .pointer (some ⟨b5, 0, none⟩) := hdd34 0 (by decide)
 have g62 := g59.trans g61
 refine gP (lO (v := .bool (decide (a.num < 0))) Tryd.isAgg4 e43 (g62.sat _ _ ((((gr2.le.trans g32.le).trans gr9.le).trans g61.le) _ _ qb1)) rfl ?_)
 exact ⟨_, h47, rfl, g61, fun j x _ p => p, rfl⟩
 intro ρ43 h48 w51 g63 hdd35 hdo38
 have e44 : ρ43 5 = .slice b8 ((digs (a.num.natAbs * b.den)).length) c5 := hdo38 5 rfl
 refine gP (OpW.move (v := .slice b8 ((digs (a.num.natAbs * b.den)).length) c5) e44 ?_)
 exact ⟨_, h48, rfl, g63, fun j x _ p => p, rfl⟩
 intro ρ44 h49 w52 g64 hdd36 hdo39
 have e45 : ρ44 6 = .slice b9 ((digs (b.num.natAbs * a.den)).length) c6 := hdo39 6 rfl
 refine gP (OpW.move (v := .slice b9 ((digs (b.num.natAbs * a.den)).length) c6) e45 ?_)
 exact ⟨_, h49, rfl, g64, fun j x _ p => p, rfl⟩
 intro ρ45 h50 w53 g65 hdd37 hdo40
 have e46 : ρ45 48 = .slice b8 ((digs (a.num.natAbs * b.den)).length) c5 := hdd37 2 (by decide)
 have e47 : ρ45 49 = .slice b9 ((digs (b.num.natAbs * a.den)).length) c6 := hdd37 3 (by decide)
 have g66 := g59.trans g65
 refine gP (cF Tryd.call122 (sub_c (a := a.num.natAbs * b.den) (b := b.num.natAbs * a.den) g66.sat (N.mono q4 (gr9.le.trans g65.le)) (N.mono q5 (gr9.le.trans g65.le)) (by omega) (by omega) (by omega)) (cx e46 (cx e47 cxn)) ?_)
 intro r9 h51 w54 gr12 hr9
 exact ⟨r9, h51, rfl, g65.trans gr12, fun j x _ => stab j _ _ _ _ x gr12, hr9⟩
 intro ρ46 h52 w55 g67 hdd38 hdo41
 have e48 : ρ46 7 = .slice b10 ((digs (a.den * b.den)).length) c7 := hdo41 7 rfl
 refine gP (OpW.move (v := .slice b10 ((digs (a.den * b.den)).length) c7) e48 ?_)
 exact ⟨_, h52, rfl, g67, fun j x _ p => p, rfl⟩
 intro ρ47 h53 w56 g68 hdd39 hdo42
 have e49 : ρ47 47 = .bool (decide (a.num < 0)) := hdd39 1 (by decide)
 have q11 : N h53 (ρ47 50) ((a.num.natAbs * b.den) - (b.num.natAbs * a.den)) := hdd39 4 (by decide)
 have e50 : ρ47 51 = .slice b10 ((digs (a.den * b.den)).length) c7 := hdd39 5 (by decide)
 have g69 := g59.trans g68
 refine gP (cF Tryd.call88 (reduced_c (s := decide (a.num < 0)) (n := (a.num.natAbs * b.den) - (b.num.natAbs * a.den)) (d := a.den * b.den) g69.sat q11 (N.mono q6 (gr9.le.trans g68.le)) (by omega) (by omega) (by omega)) (cx e49 (cx rfl (cx e50 cxn))) ?_)
 intro r10 h54 w57 gr13 hr10
 exact ⟨r10, h54, rfl, g68.trans gr13, fun j x _ => stab j _ _ _ _ x gr13, hr10⟩
 intro ρ48 h55 w58 g70 hdp4 hdo43
 have e51 : ρ48 4 = .pointer (some ⟨b7, 0, none⟩) := hdo43 4 rfl
 have q12 : Qn h55 (ρ48 52) (ratOf (decide (a.num < 0)) ((a.num.natAbs * b.den) - (b.num.natAbs * a.den)) (a.den * b.den)) := hdp4 6 rfl
 obtain ⟨x6, hx6⟩ : ∃ x, ρ48 52 = x := ⟨_, rfl⟩
 rw [hx6] at q12
 obtain ⟨b15, c14, b16, c15, rfl, k12, k13, u9, u10⟩ := Qn.shape q12
 refine Ops.forget [(4, .pointer (some ⟨b7, 0, none⟩)), (52, .agg #[.bool (decide ((ratOf (decide (a.num < 0)) ((a.num.natAbs * b.den) - (b.num.natAbs * a.den)) (a.den * b.den)).num < 0)), .slice b15 ((digs ((ratOf (decide (a.num < 0)) ((a.num.natAbs * b.den) - (b.num.natAbs * a.den)) (a.den * b.den)).num.natAbs)).length) c14, .slice b16 ((digs ((ratOf (decide (a.num < 0)) ((a.num.natAbs * b.den) - (b.num.natAbs * a.den)) (a.den * b.den)).den)).length) c15])] ⟨e51, hx6, trivial⟩ (fun ρ49 => ?_)
 have o6 := g70.kp (gr9.kp (g32.kp ⟨o1, n1⟩))
 refine oC (sA (cs := [.bool (decide ((ratOf (decide (a.num < 0)) ((a.num.natAbs * b.den) - (b.num.natAbs * a.den)) (a.den * b.den)).num < 0)), .slice b15 ((digs ((ratOf (decide (a.num < 0)) ((a.num.natAbs * b.den) - (b.num.natAbs * a.den)) (a.den * b.den)).num.natAbs)).length) c14, .slice b16 ((digs ((ratOf (decide (a.num < 0)) ((a.num.natAbs * b.den) - (b.num.natAbs * a.den)) (a.den * b.den)).den)).length) c15]) Tryd.sizeOf66 rfl rfl rfl rfl o6.1 rfl ?_)
 intro w59 p3
 refine oN (Wp.ret (fin1_ret rfl (resOf_cellA (cs := [.bool (decide ((ratOf (decide (a.num < 0)) ((a.num.natAbs * b.den) - (b.num.natAbs * a.den)) (a.den * b.den)).num < 0)), .slice b15 ((digs ((ratOf (decide (a.num < 0)) ((a.num.natAbs * b.den) - (b.num.natAbs * a.den)) (a.den * b.den)).num.natAbs)).length) c14, .slice b16 ((digs ((ratOf (decide (a.num < 0)) ((a.num.natAbs * b.den) - (b.num.natAbs * a.den)) (a.den * b.den)).den)).length) c15]) Tryd.isAgg66 Tryd.sizeOf66 rfl p3.at_ (Nat.le_of_ble_eq_true rfl) rfl) ?_))
 have g71 := (g59.trans g70).put p3 o6.2 lo2
 refine ⟨h55, g71, ?_⟩
 exact (Qn.cast (add_ge (by assumption) hge) (Qn.mk u9 u10 rfl rfl rfl))
end Go.Ear
