/- About package frac: K5. -/
import Derived.Test.YtmidncjhlnfojaaDoorNatLaw2
import Derived.Test.YtmidncjhlnfojaaDoorEarShort
import Derived.Test.YtmidncjhlnfojaaDoorProg
import Derived.Test.YtmidncjhlnfojaaDoorNatLaw3
import Derived.Test.YtmidncjhlnfojaaDoorEarFrac
import Derived.Test.YtmidncjhlnfojaaDoorK1
import Derived.Test.YtmidncjhlnfojaaDoorK3
set_option linter.all false
namespace Go.Ear
open Go.Proofs
set_option maxRecDepth 20000
set_option linter.unusedVariables false
set_option maxHeartbeats 2000000
theorem give_c {h : PH} {w : World} {v0 : Value} {q : Rat} (hs : Sat h w) (pv0 : Qn h v0 q) (hp0 : bq q ≤ 1073741824) :
    Calls Tryd.prog 74 #[v0] w (Ret h w fun h' r => Kn h' r q) := by
 obtain ⟨b1, c1, b2, c2, rfl, k1, k2, u1, u2⟩ := Qn.shape pv0
 have hq1 := bq_num q
 have hq2 := bq_den q
 have hq3 := hq1
 have hq4 := hq2
 unfold sz at hq3 hq4
 have h1 := sz_one
 refine calls_ear (vs := [.agg #[.bool (decide (q.num < 0)), .slice b1 ((digs q.num.natAbs).length) c1, .slice b2 ((digs q.den).length) c2]]) Tryd.func74 rfl rfl ?_
 have g1 := Gr.refl hs
 refine sr (oC (OpW.boxK (v := .agg #[.bool (decide (q.num < 0)), .slice b1 ((digs q.num.natAbs).length) c1, .slice b2 ((digs q.den).length) c2]) (arr := #[.bool (decide (q.num < 0)), .slice b1 ((digs q.num.natAbs).length) c1, .slice b2 ((digs q.den).length) c2]) g1.sat rfl rfl ?_))
 intro b3 h1 w1 gr1 qb1
 have g2 := g1.trans gr1
 refine oC (OpW.allocO (arr := #[.bool false, .slice none 0 0, .slice none 0 0]) g2.sat Tryd.zeroValue24 rfl ?_)
 intro b4 w2 gr2 n1 lo1 o1
 have lo2 := Nat.le_trans g2.ext.size lo1
 refine oN (wS ?_)
 have g3 := g2.trans gr2
 refine Wp.dagL 7 [4, 5, 6, 7, 8, 9, 3] [eqv (.pointer (some ⟨b3, 0, none⟩)), eqv (.bool (decide (q.num < 0))), eqv (.pointer (some ⟨b3, 1, none⟩)), eqv (.slice b1 ((digs q.num.natAbs).length) c1), fun h _ x => U h x (digs q.num.natAbs), fun h _ x => ∃ b5z c3z, x = .agg #[.bool (decide (q.num < 0)), .slice b5z ((digs q.num.natAbs).length) c3z, .slice none 0 0] ∧ U h (.slice b5z ((digs q.num.natAbs).length) c3z) (digs q.num.natAbs), fun h w x => ∃ b, x = .pointer (some ⟨b, 0, none⟩) ∧ w2.heap.size ≤ b ∧ h b = none ∧ w.heap[b]? = some (.cells #[.bool false, .slice none 0 0, .slice none 0 0] 24 (0, 0))] mixed g3.sat rfl (by decide +kernel) ⟨sQ _, sQ _, sQ _, sQ _, (stab_U (digs q.num.natAbs)), (fun _ _ _ _ _ g ⟨_, _, e, f0⟩ => ⟨_, _, e, U.mono f0 g.le⟩), stab_own _ _ _, trivial⟩ ?_ ?_
 intro stab
 refine ⟨?_, ?_, ?_, ?_, ?_, ?_, ?_, trivial⟩
 intro ρ1 h2 w3 g4 hdd1 hdo1
 have e1 : ρ1 1 = .pointer (some ⟨b3, 0, none⟩) := hdo1 1 rfl
 refine gP (fA (o := 0) Tryd.underlying66 rfl Tryd.sizeOf4 (by decide) e1 rfl ?_)
 exact ⟨_, h2, rfl, g4, fun j x _ p => p, rfl⟩
 intro ρ2 h3 w4 g5 hdd2 hdo2
 have e2 : ρ2 4 = .pointer (some ⟨b3, 0, none⟩) := hdd2 0 (by decide)
 have g6 := g3.trans g5
 refine gP (lO (v := .bool (decide (q.num < 0))) Tryd.isAgg4 e2 (g6.sat _ _ (g5.le _ _ qb1)) rfl ?_)
 exact ⟨_, h3, rfl, g5, fun j x _ p => p, rfl⟩
 intro ρ3 h4 w5 g7 hdd3 hdo3
 have e3 : ρ3 1 = .pointer (some ⟨b3, 0, none⟩) := hdo3 1 rfl
 refine gP (fA (o := 1) Tryd.underlying66 rfl Tryd.sizeOf64 (by decide) e3 rfl ?_)
 exact ⟨_, h4, rfl, g7, fun j x _ p => p, rfl⟩
 intro ρ4 h5 w6 g8 hdd4 hdo4
 have e4 : ρ4 6 = .pointer (some ⟨b3, 1, none⟩) := hdd4 2 (by decide)
 have g9 := g3.trans g8
 refine gP (lO (v := .slice b1 ((digs q.num.natAbs).length) c1) Tryd.isAgg64 e4 (g9.sat _ _ (g8.le _ _ qb1)) rfl ?_)
 exact ⟨_, h5, rfl, g8, fun j x _ p => p, rfl⟩
 intro ρ5 h6 w7 g10 hdd5 hdo5
 have e5 : ρ5 7 = .slice b1 ((digs q.num.natAbs).length) c1 := hdd5 3 (by decide)
 have g11 := g3.trans g10
 refine gP (cF Tryd.call114 (cloneN_c (l := digs q.num.natAbs) g11.sat (U.mono u1 (gr1.le.trans g10.le)) (by omega)) (cx e5 cxn) ?_)
 intro r1 h7 w8 gr3 hr1
 exact ⟨r1, h7, rfl, g10.trans gr3, fun j x _ => stab j _ _ _ _ x gr3, hr1⟩
 intro ρ6 h8 w9 g12 hdd6 hdo6
 have e6 : ρ6 5 = .bool (decide (q.num < 0)) := hdd6 1 (by decide)
 have q1 : U h8 (ρ6 8) (digs q.num.natAbs) := hdd6 4 (by decide)
 obtain ⟨x1, hx1⟩ : ∃ x, ρ6 8 = x := ⟨_, rfl⟩
 rw [hx1] at q1
 obtain ⟨b5, c3, rfl, k3⟩ := U.shape q1
 refine gP (OpW.build (places := [(0, 1), (1, 1), (2, 1)]) (cs := [.bool (decide (q.num < 0)), .slice b5 ((digs q.num.natAbs).length) c3, .slice none 0 0]) Tryd.underlying24 Tryd.zeroValue24 (fun _ => by kernel_rfl) (by show Instr.fill _ _ [(0, ρ6 5), (1, ρ6 8)] = _; rw [e6, hx1]; rfl) ?_)
 exact ⟨_, h8, rfl, g12, fun j x _ p => p, ⟨_, _, rfl, q1⟩⟩
 intro ρ7 h9 w10 g13 hdd7 hdo7
 have g14 := g3.trans g13
 refine gP (OpW.allocO (arr := #[.bool false, .slice none 0 0, .slice none 0 0]) g14.sat Tryd.zeroValue24 rfl ?_)
 intro b6 w11 gr4 n2 lo3 o2
 exact ⟨_, h9, rfl, g13.trans gr4, fun j x _ => stab j _ _ _ _ x gr4, b6, rfl, Nat.le_trans g13.ext.size lo3, n2, o2⟩
 intro ρ8 h10 w12 g15 hdp1 hdo8
 have e7 : ρ8 1 = .pointer (some ⟨b3, 0, none⟩) := hdo8 1 rfl
 have e8 : ρ8 2 = .pointer (some ⟨b4, 0, none⟩) := hdo8 2 rfl
 obtain ⟨b7, hx2, lo4, n3, o3⟩ : ∃ b, ρ8 3 = .pointer (some ⟨b, 0, none⟩) ∧ _ := hdp1 6 rfl
 have lo5 := Nat.le_trans g3.ext.size lo4
 have ne1 : b4 ≠ b7 := Nat.ne_of_lt (Nat.lt_of_lt_of_le (blk_lt o1) lo4)
 have q2 : ∃ b5z c3z, (ρ8 9) = .agg #[.bool (decide (q.num < 0)), .slice b5z ((digs q.num.natAbs).length) c3z, .slice none 0 0] ∧ U h10 (.slice b5z ((digs q.num.natAbs).length) c3z) (digs q.num.natAbs) := hdp1 5 rfl
 obtain ⟨b8, c4, e9, q3⟩ := q2
 have e9 : ρ8 9 = .agg #[.bool (decide (q.num < 0)), .slice b8 ((digs q.num.natAbs).length) c4, .slice none 0 0] := e9
 refine Ops.forget [(1, .pointer (some ⟨b3, 0, none⟩)), (2, .pointer (some ⟨b4, 0, none⟩)), (3, .pointer (some ⟨b7, 0, none⟩)), (9, .agg #[.bool (decide (q.num < 0)), .slice b8 ((digs q.num.natAbs).length) c4, .slice none 0 0])] ⟨e7, e8, hx2, e9, trivial⟩ (fun ρ9 => ?_)
 refine oC (sA (cs := [.bool (decide (q.num < 0)), .slice b8 ((digs q.num.natAbs).length) c4, .slice none 0 0]) Tryd.sizeOf24 rfl rfl rfl rfl o3 rfl ?_)
 intro w13 p1
 refine oN (wS (wS ?_))
 have g16 := (g3.trans g15).put p1 n3 lo5
 refine Wp.dagL 5 [10, 11, 12, 13, 14] [eqv (.pointer (some ⟨b3, 2, none⟩)), eqv (.slice b2 ((digs q.den).length) c2), fun h _ x => N h x 1, eqv (.int .i64 (cmpN q.den 1)), eqv (.bool (decide ((cmpN q.den 1) ≠ ((0 : Nat) : Int))))] mixed g16.sat rfl (by decide +kernel) ⟨sQ _, sQ _, (stab_N 1), sQ _, sQ _, trivial⟩ ?_ ?_
 intro stab
 refine ⟨?_, ?_, ?_, ?_, ?_, trivial⟩
 intro ρ10 h11 w14 g17 hdd8 hdo9
 have e10 : ρ10 1 = .pointer (some ⟨b3, 0, none⟩) := hdo9 1 rfl
 refine gP (fA (o := 2) Tryd.underlying66 rfl Tryd.sizeOf64 (by decide) e10 rfl ?_)
 exact ⟨_, h11, rfl, g17, fun j x _ p => p, rfl⟩
 intro ρ11 h12 w15 g18 hdd9 hdo10
 have e11 : ρ11 10 = .pointer (some ⟨b3, 2, none⟩) := hdd9 0 (by decide)
 have g19 := g16.trans g18
 refine gP (lO (v := .slice b2 ((digs q.den).length) c2) Tryd.isAgg64 e11 (g19.sat _ _ ((g15.le.trans g18.le) _ _ qb1)) rfl ?_)
 exact ⟨_, h12, rfl, g18, fun j x _ p => p, rfl⟩
 intro ρ12 h13 w16 g20 hdd10 hdo11
 have g21 := g16.trans g20
 refine gP (cF Tryd.call86 (small_c (n := 1) g21.sat  (by omega)) rfl ?_)
 intro r2 h14 w17 gr5 hr2
 exact ⟨r2, h14, rfl, g20.trans gr5, fun j x _ => stab j _ _ _ _ x gr5, hr2⟩
 intro ρ13 h15 w18 g22 hdd11 hdo12
 have e12 : ρ13 11 = .slice b2 ((digs q.den).length) c2 := hdd11 1 (by decide)
 have q4 : N h15 (ρ13 12) 1 := hdd11 2 (by decide)
 have g23 := g16.trans g22
 refine gP (cF Tryd.call85 (compare_c (a := q.den) (b := 1) g23.sat (N.mono u2 ((gr1.le.trans g15.le).trans g22.le)) q4 (by omega) (by omega)) (cx e12 (cx rfl cxn)) ?_)
 intro r3 h16 w19 gr6 hr3
 exact ⟨r3, h16, rfl, g22.trans gr6, fun j x _ => stab j _ _ _ _ x gr6, hr3⟩
 intro ρ14 h17 w20 g24 hdd12 hdo13
 have e13 : ρ14 13 = .int .i64 (cmpN q.den 1) := hdd12 3 (by decide)
 refine gP (OpW.neqI (a := (cmpN q.den 1)) (b := ((0 : Nat) : Int)) (r := decide ((cmpN q.den 1) ≠ ((0 : Nat) : Int))) e13 rfl rfl ?_)
 exact ⟨_, h17, rfl, g24, fun j x _ p => p, rfl⟩
 intro ρ15 h18 w21 g25 hdp2 hdo14
 have e14 : ρ15 1 = .pointer (some ⟨b3, 0, none⟩) := hdo14 1 rfl
 have e15 : ρ15 2 = .pointer (some ⟨b4, 0, none⟩) := hdo14 2 rfl
 have e16 : ρ15 3 = .pointer (some ⟨b7, 0, none⟩) := hdo14 3 rfl
 have e17 : ρ15 14 = .bool (decide ((cmpN q.den 1) ≠ ((0 : Nat) : Int))) := hdp2 4 rfl
 refine Ops.forget [(1, .pointer (some ⟨b3, 0, none⟩)), (2, .pointer (some ⟨b4, 0, none⟩)), (3, .pointer (some ⟨b7, 0, none⟩)), (14, .bool (decide ((cmpN q.den 1) ≠ ((0 : Nat) : Int))))] ⟨e14, e15, e16, e17, trivial⟩ (fun ρ16 => (oN (Wp.cond (t := decide ((cmpN q.den 1) ≠ ((0 : Nat) : Int))) rfl (fun c5 => ?_) (fun c5 => ?_))))
 replace c5 : (cmpN q.den 1) ≠ ((0 : Nat) : Int) := (of_decide_eq_true c5)
 refine wR (oC (fA (o := 2) Tryd.underlying66 rfl Tryd.sizeOf64 (by decide) rfl rfl ?_))
 have g26 := g16.trans g25
 refine oC (lO (v := .slice b2 ((digs q.den).length) c2) Tryd.isAgg64 rfl (g26.sat _ _ ((g15.le.trans g25.le) _ _ qb1)) rfl ?_)
 refine oC (cF Tryd.call114 (cloneN_c (l := digs q.den) g26.sat (U.mono u2 ((gr1.le.trans g15.le).trans g25.le)) (by omega)) rfl ?_)
 intro r4 h19 w22 gr7 hr4
 obtain ⟨b9, c6, rfl, k4⟩ := U.shape hr4
 refine oC (fA (o := 2) Tryd.underlying24 rfl Tryd.sizeOf22 (by decide) rfl rfl ?_)
 have o5 := gr7.kp (g25.kp ⟨p1.at_, n3⟩)
 refine oC (s1 (v := .slice b9 ((digs q.den).length) c6) Tryd.sizeOf22 rfl rfl rfl o5.1 rfl ?_)
 intro w23 p2
 refine oN (sr (oC (lA (cs := [.bool (decide (q.num < 0)), .slice b8 ((digs q.num.natAbs).length) c4, .slice b9 ((digs q.den).length) c6]) Tryd.isAgg24 Tryd.sizeOf24 rfl p2.at_ rfl rfl ?_)))
 have o7 := p2.kp ne1 (gr7.kp (g25.kp (p1.kp ne1 (g15.kp ⟨o1, n1⟩))))
 refine oC (sA (cs := [.bool (decide (q.num < 0)), .slice b8 ((digs q.num.natAbs).length) c4, .slice b9 ((digs q.den).length) c6]) Tryd.sizeOf24 rfl rfl rfl rfl o7.1 rfl ?_)
 intro w24 p3
 refine oN (Wp.ret (fin1_ret rfl (resOf_cellA (cs := [.bool (decide (q.num < 0)), .slice b8 ((digs q.num.natAbs).length) c4, .slice b9 ((digs q.den).length) c6]) Tryd.isAgg24 Tryd.sizeOf24 rfl p3.at_ (Nat.le_of_ble_eq_true rfl) rfl) ?_))
 have g27 := ((g26.trans gr7).put p2 o5.2 lo5).put p3 o7.2 lo2
 refine ⟨h19, g27, ?_⟩
 exact Kn.mk (U.mono q3 (g25.le.trans gr7.le)) hr4 rfl rfl (if_neg (fun e => absurd (cmpN_one.2 e) (by assumption))).symm
 replace c5 : ¬ ((cmpN q.den 1) ≠ ((0 : Nat) : Int)) := (of_decide_eq_false c5)
 refine Wp.skip (sr ?_)
 have o9 := g25.kp ⟨p1.at_, n3⟩
 refine oC (lA (cs := [.bool (decide (q.num < 0)), .slice b8 ((digs q.num.natAbs).length) c4, .slice none 0 0]) Tryd.isAgg24 Tryd.sizeOf24 rfl o9.1 rfl rfl ?_)
 have o10 := g25.kp (p1.kp ne1 (g15.kp ⟨o1, n1⟩))
 refine oC (sA (cs := [.bool (decide (q.num < 0)), .slice b8 ((digs q.num.natAbs).length) c4, .slice none 0 0]) Tryd.sizeOf24 rfl rfl rfl rfl o10.1 rfl ?_)
 intro w25 p4
 refine oN (Wp.ret (fin1_ret rfl (resOf_cellA (cs := [.bool (decide (q.num < 0)), .slice b8 ((digs q.num.natAbs).length) c4, .slice none 0 0]) Tryd.isAgg24 Tryd.sizeOf24 rfl p4.at_ (Nat.le_of_ble_eq_true rfl) rfl) ?_))
 have g28 := (g16.trans g25).put p4 o10.2 lo2
 refine ⟨h18, g28, ?_⟩
 exact Kn.mk (U.mono q3 g25.le) (U.nil _ none _) rfl rfl (if_pos (cmpN_one.1 (by omega))).symm
theorem whole_c {h : PH} {w : World} {n : Int} (hs : Sat h w) (hp0 : -9223372036854775808 ≤ n) (hp1 : n ≤ 9223372036854775807) :
    Calls Tryd.prog 79 #[.int .i64 n] w (Ret h w fun h' r => Qn h' r ((n : Int) : Rat)) := by
 refine calls_ear (vs := [.int .i64 n]) Tryd.func79 rfl rfl ?_
 have g1 := Gr.refl hs
 refine sr (oC (OpW.allocO (arr := #[.bool false, .slice none 0 0, .slice none 0 0]) g1.sat Tryd.zeroValue66 rfl ?_))
 intro b1 w1 gr1 n1 lo1 o1
 have lo2 := Nat.le_trans g1.ext.size lo1
 refine oN (wS (sr (mv (oC (OpW.lss (a := n) (b := ((0 : Nat) : Int)) (r := decide (n < ((0 : Nat) : Int))) rfl rfl rfl (oN (Wp.cond (t := decide (n < ((0 : Nat) : Int))) rfl (fun c1 => ?_) (fun c1 => ?_))))))))
 replace c1 : n < ((0 : Nat) : Int) := (of_decide_eq_true c1)
 refine sr (mv (oC (OpW.add (a := n) (b := ((1 : Nat) : Int)) (r := (n + ((1 : Nat) : Int))) rfl rfl (in_i64 (by omega)) ?_)))
 refine oC (OpW.negI (a := (n + ((1 : Nat) : Int))) (r := (-(n + ((1 : Nat) : Int)))) rfl ((in_i64 (by omega)).trans (by omega)) ?_)
 refine oC (OpW.convI (a := (-(n + ((1 : Nat) : Int)))) (r := ((n.natAbs - 1 : Nat) : Int)) Tryd.underlying3 Tryd.underlying77 rfl ((in_u64 (by omega)).trans (by omega)) ?_)
 refine oC (OpW.add (a := ((n.natAbs - 1 : Nat) : Int)) (b := ((1 : Nat) : Int)) (r := ((n.natAbs - 1 + 1 : Nat) : Int)) rfl rfl (add_u64 (a := n.natAbs - 1) (b := 1) (by omega)) ?_)
 have g2 := g1.trans gr1
 refine oC (cF Tryd.call86 (small_c (n := n.natAbs - 1 + 1) g2.sat  (by omega)) rfl ?_)
 intro r1 h1 w2 gr2 hr1
 obtain ⟨b2, c2, rfl, k1⟩ := N.shape hr1
 have g3 := g2.trans gr2
 refine oC (cF Tryd.call86 (small_c (n := 1) g3.sat  (by omega)) rfl ?_)
 intro r2 h2 w3 gr3 hr2
 obtain ⟨b3, c3, rfl, k2⟩ := N.shape hr2
 refine oC (OpW.build (places := [(0, 1), (1, 1), (2, 1)]) (cs := [.bool true, .slice b2 ((digs (n.natAbs - 1 + 1)).length) c2, .slice b3 ((digs 1).length) c3]) Tryd.underlying66 Tryd.zeroValue66 (fun _ => by kernel_rfl) rfl ?_)
 have o2 := gr3.kp (gr2.kp ⟨o1, n1⟩)
 refine oC (sA (cs := [.bool true, .slice b2 ((digs (n.natAbs - 1 + 1)).length) c2, .slice b3 ((digs 1).length) c3]) Tryd.sizeOf66 rfl rfl rfl rfl o2.1 rfl ?_)
 intro w4 p1
 refine oN (Wp.ret (fin1_ret rfl (resOf_cellA (cs := [.bool true, .slice b2 ((digs (n.natAbs - 1 + 1)).length) c2, .slice b3 ((digs 1).length) c3]) Tryd.isAgg66 Tryd.sizeOf66 rfl p1.at_ (Nat.le_of_ble_eq_true rfl) rfl) ?_))
 have g4 := (g3.trans gr3).put p1 o2.2 lo2
 refine ⟨h2, g4, ?_⟩
 exact Qn.mk (N.mono hr1 gr3.le) hr2 (by rw [Rat.num_intCast]; first | exact (decide_eq_true (by omega)).symm | exact (decide_eq_false (by omega)).symm) (by rw [Rat.num_intCast] <;> omega) (by rw [Rat.den_intCast])
 replace c1 : ¬ (n < ((0 : Nat) : Int)) := (of_decide_eq_false c1)
 refine Wp.skip (sr (mv (oC (OpW.convI (a := n) (r := ((n.natAbs : Nat) : Int)) Tryd.underlying3 Tryd.underlying77 rfl ((in_u64 (by omega)).trans (by omega)) ?_))))
 have g5 := g1.trans gr1
 refine oC (cF Tryd.call86 (small_c (n := n.natAbs) g5.sat  (by omega)) rfl ?_)
 intro r3 h3 w5 gr4 hr3
 obtain ⟨b4, c4, rfl, k3⟩ := N.shape hr3
 have g6 := g5.trans gr4
 refine oC (cF Tryd.call86 (small_c (n := 1) g6.sat  (by omega)) rfl ?_)
 intro r4 h4 w6 gr5 hr4
 obtain ⟨b5, c5, rfl, k4⟩ := N.shape hr4
 refine oC (OpW.build (places := [(0, 1), (1, 1), (2, 1)]) (cs := [.bool false, .slice b4 ((digs n.natAbs).length) c4, .slice b5 ((digs 1).length) c5]) Tryd.underlying66 Tryd.zeroValue66 (fun _ => by kernel_rfl) rfl ?_)
 have o4 := gr5.kp (gr4.kp ⟨o1, n1⟩)
 refine oC (sA (cs := [.bool false, .slice b4 ((digs n.natAbs).length) c4, .slice b5 ((digs 1).length) c5]) Tryd.sizeOf66 rfl rfl rfl rfl o4.1 rfl ?_)
 intro w7 p2
 refine oN (Wp.ret (fin1_ret rfl (resOf_cellA (cs := [.bool false, .slice b4 ((digs n.natAbs).length) c4, .slice b5 ((digs 1).length) c5]) Tryd.isAgg66 Tryd.sizeOf66 rfl p2.at_ (Nat.le_of_ble_eq_true rfl) rfl) ?_))
 have g7 := (g6.trans gr5).put p2 o4.2 lo2
 refine ⟨h4, g7, ?_⟩
 exact Qn.mk (N.mono hr3 gr5.le) hr4 (by rw [Rat.num_intCast]; first | exact (decide_eq_true (by omega)).symm | exact (decide_eq_false (by omega)).symm) (by rw [Rat.num_intCast] <;> omega) (by rw [Rat.den_intCast])
theorem floor_c {h : PH} {w : World} {v0 : Value} {q : Rat} (hs : Sat h w) (pv0 : Qn h v0 q) (hp0 : bq q ≤ 536870912) :
    Calls Tryd.prog 80 #[v0] w (Ret h w fun h' r => Qn h' r ((q.floor : Int) : Rat)) := by
 obtain ⟨b1, c1, b2, c2, rfl, k1, k2, u1, u2⟩ := Qn.shape pv0
 have hq1 := bq_num q
 have hq2 := bq_den q
 have hqd := q.den_nz
 have hqs := sz_mono (Nat.div_le_self q.num.natAbs q.den)
 have h1 := sz_one
 refine calls_ear (vs := [.agg #[.bool (decide (q.num < 0)), .slice b1 ((digs q.num.natAbs).length) c1, .slice b2 ((digs q.den).length) c2]]) Tryd.func80 rfl rfl ?_
 have g1 := Gr.refl hs
 refine sr (oC (OpW.boxK (v := .agg #[.bool (decide (q.num < 0)), .slice b1 ((digs q.num.natAbs).length) c1, .slice b2 ((digs q.den).length) c2]) (arr := #[.bool (decide (q.num < 0)), .slice b1 ((digs q.num.natAbs).length) c1, .slice b2 ((digs q.den).length) c2]) g1.sat rfl rfl ?_))
 intro b3 h1 w1 gr1 qb1
 have g2 := g1.trans gr1
 refine oC (OpW.allocO (arr := #[.bool false, .slice none 0 0, .slice none 0 0]) g2.sat Tryd.zeroValue66 rfl ?_)
 intro b4 w2 gr2 n1 lo1 o1
 have lo2 := Nat.le_trans g2.ext.size lo1
 refine oN (sr (oC (fA (o := 1) Tryd.underlying66 rfl Tryd.sizeOf64 (by decide) rfl rfl ?_)))
 have g3 := g2.trans gr2
 refine oC (lO (v := .slice b1 ((digs q.num.natAbs).length) c1) Tryd.isAgg64 rfl (g3.sat _ _ qb1) rfl ?_)
 refine oC (fA (o := 2) Tryd.underlying66 rfl Tryd.sizeOf64 (by decide) rfl rfl ?_)
 refine oC (lO (v := .slice b2 ((digs q.den).length) c2) Tryd.isAgg64 rfl (g3.sat _ _ qb1) rfl ?_)
 refine oC (cF Tryd.call92 (div_c (a := q.num.natAbs) (b := q.den) g3.sat (N.mono u1 gr1.le) (N.mono u2 gr1.le) (by omega) (by omega) (by omega)) rfl ?_)
 intro r1 h2 w3 gr3 hr1
 obtain ⟨r2, r3, rfl, hr2, hr3⟩ := hr1
 obtain ⟨b5, c3, rfl, k3⟩ := N.shape hr2
 obtain ⟨b6, c4, rfl, k4⟩ := N.shape hr3
 refine mv (oC (OpW.extract (v := .slice b5 ((digs (q.num.natAbs / q.den)).length) c3) rfl rfl ?_))
 refine oC (OpW.extract (v := .slice b6 ((digs (q.num.natAbs % q.den)).length) c4) rfl rfl (ma (ma (oN (wS (wS (fg [(1, .pointer (some ⟨b3, 0, none⟩)), (2, .pointer (some ⟨b4, 0, none⟩)), (3, .slice b5 ((digs (q.num.natAbs / q.den)).length) c3), (4, .slice b6 ((digs (q.num.natAbs % q.den)).length) c4)] rfl (fun ρ1 => (wR (Ops.cut (fun ρ' w' => w3 = w' ∧ ∃ ρb, ρ' = upds ρb [(1, .pointer (some ⟨b3, 0, none⟩)), (2, .pointer (some ⟨b4, 0, none⟩)), (3, .slice b5 ((digs (q.num.natAbs / q.den)).length) c3), (19, .bool ((decide (q.num < 0)) && (decide (0 < (digs (q.num.natAbs % q.den)).length))))]) ?_ ?_))))))))))
 refine oC (fA (o := 0) Tryd.underlying66 rfl Tryd.sizeOf4 (by decide) rfl rfl ?_)
 have g4 := g3.trans gr3
 refine oC (lO (v := .bool (decide (q.num < 0))) Tryd.isAgg4 rfl (g4.sat _ _ (gr3.le _ _ qb1)) rfl (mv ?_))
 cases c5 : (decide (q.num < 0))
 replace c5 : ¬ (q.num < 0) := (of_decide_eq_false c5)
 refine oD rfl rfl rfl rfl (oD rfl rfl rfl rfl (oD rfl rfl rfl rfl (oC (pF (v := .bool false) rfl rfl (oN ?_)))))
 exact ⟨rfl, _, nm rfl⟩
 replace c5 : q.num < 0 := (of_decide_eq_true c5)
 refine oL rfl rfl rfl (OpW.move (v := .slice b6 ((digs (q.num.natAbs % q.den)).length) c4) rfl ?_)
 refine oL rfl rfl rfl (OpW.lenS Tryd.underlying64 (l := (digs (q.num.natAbs % q.den)).length) rfl ?_)
 refine oL rfl rfl rfl (OpW.gtr (a := (((digs (q.num.natAbs % q.den)).length : Nat) : Int)) (b := ((0 : Nat) : Int)) (r := decide (0 < (digs (q.num.natAbs % q.den)).length)) rfl rfl (lt_nat (a := 0) (b := (digs (q.num.natAbs % q.den)).length)) ?_)
 refine oC (pT (v := .bool (decide (0 < (digs (q.num.natAbs % q.den)).length))) rfl rfl (oN ?_))
 exact ⟨rfl, _, nm rfl⟩
 rintro ρ2 w4 ⟨rfl, ρ3, rfl⟩
 refine Wp.cond (t := (decide (q.num < 0)) && (decide (0 < (digs (q.num.natAbs % q.den)).length))) rfl (fun c6 => ?_) (fun c6 => ?_)
 replace c6 : (q.num < 0) ∧ (0 < (digs (q.num.natAbs % q.den)).length) := ⟨(of_decide_eq_true (and_l c6)), (of_decide_eq_true (and_r c6))⟩
 refine wR (mv ?_)
 have g5 := g3.trans gr3
 refine oC (cF Tryd.call86 (small_c (n := 1) g5.sat  (by omega)) rfl ?_)
 intro r4 h3 w5 gr4 hr4
 obtain ⟨b7, c7, rfl, k5⟩ := N.shape hr4
 have g6 := g5.trans gr4
 refine oC (cF Tryd.call90 (add_c (a := q.num.natAbs / q.den) (b := 1) g6.sat (N.mono hr2 gr4.le) hr4 (by omega) (by omega)) rfl ?_)
 intro r5 h4 w6 gr5 hr5
 obtain ⟨b8, c8, rfl, k6⟩ := N.shape hr5
 refine ma (oN (sr (oC (fA (o := 0) Tryd.underlying66 rfl Tryd.sizeOf4 (by decide) rfl rfl ?_))))
 have g7 := g6.trans gr5
 refine oC (lO (v := .bool (decide (q.num < 0))) Tryd.isAgg4 rfl (g7.sat _ _ (((gr3.le.trans gr4.le).trans gr5.le) _ _ qb1)) rfl (mv ?_))
 cases c9 : (decide (q.num < 0))
 replace c9 : ¬ (q.num < 0) := (of_decide_eq_false c9)
 refine oD rfl rfl rfl rfl (oD rfl rfl rfl rfl (oD rfl rfl rfl rfl (oC (pF (v := .bool false) rfl rfl (mv (oC (cF Tryd.call86 (small_c (n := 1) g7.sat  (by omega)) rfl ?_)))))))
 intro r6 h5 w7 gr6 hr6
 obtain ⟨b9, c10, rfl, k7⟩ := N.shape hr6
 refine oC (OpW.build (places := [(0, 1), (1, 1), (2, 1)]) (cs := [.bool false, .slice b8 ((digs ((q.num.natAbs / q.den) + 1)).length) c8, .slice b9 ((digs 1).length) c10]) Tryd.underlying66 Tryd.zeroValue66 (fun _ => by kernel_rfl) rfl ?_)
 have o2 := gr6.kp (gr5.kp (gr4.kp (gr3.kp ⟨o1, n1⟩)))
 refine oC (sA (cs := [.bool false, .slice b8 ((digs ((q.num.natAbs / q.den) + 1)).length) c8, .slice b9 ((digs 1).length) c10]) Tryd.sizeOf66 rfl rfl rfl rfl o2.1 rfl ?_)
 intro w8 p1
 refine oN (Wp.ret (fin1_ret rfl (resOf_cellA (cs := [.bool false, .slice b8 ((digs ((q.num.natAbs / q.den) + 1)).length) c8, .slice b9 ((digs 1).length) c10]) Tryd.isAgg66 Tryd.sizeOf66 rfl p1.at_ (Nat.le_of_ble_eq_true rfl) rfl) ?_))
 have g8 := (g7.trans gr6).put p1 o2.2 lo2
 refine ⟨h5, g8, ?_⟩
 have ff := floor_fin (q := q) (b := false) (m := (q.num.natAbs / q.den) + 1) (by first | exact .inl ⟨(by assumption : _ ∧ _).1, len_pos.1 (by assumption : _ ∧ _).2, rfl⟩ | exact .inr ⟨fun e => (by assumption : ¬ (_ ∧ _)) ⟨e.1, len_pos.2 e.2⟩, rfl⟩) (by first | (simp [*, digs_len_pos]; done) | (exfalso; omega) | (simp_all; done) | skip)
 exact Qn.mk (N.mono hr5 gr6.le) hr6 ff.1 ff.2 (floor_den q)
 replace c9 : q.num < 0 := (of_decide_eq_true c9)
 refine oL rfl rfl rfl (OpW.move (v := .slice b8 ((digs ((q.num.natAbs / q.den) + 1)).length) c8) rfl ?_)
 refine oL rfl rfl rfl (OpW.lenS Tryd.underlying64 (l := (digs ((q.num.natAbs / q.den) + 1)).length) rfl ?_)
 refine oL rfl rfl rfl (OpW.gtr (a := (((digs ((q.num.natAbs / q.den) + 1)).length : Nat) : Int)) (b := ((0 : Nat) : Int)) (r := decide (0 < (digs ((q.num.natAbs / q.den) + 1)).length)) rfl rfl (lt_nat (a := 0) (b := (digs ((q.num.natAbs / q.den) + 1)).length)) ?_)
 refine oC (pT (v := .bool (decide (0 < (digs ((q.num.natAbs / q.den) + 1)).length))) rfl rfl (mv (oC (cF Tryd.call86 (small_c (n := 1) g7.sat  (by omega)) rfl ?_))))
 intro r7 h6 w9 gr7 hr7
 obtain ⟨b10, c11, rfl, k8⟩ := N.shape hr7
 refine oC (OpW.build (places := [(0, 1), (1, 1), (2, 1)]) (cs := [.bool (decide (0 < (digs ((q.num.natAbs / q.den) + 1)).length)), .slice b8 ((digs ((q.num.natAbs / q.den) + 1)).length) c8, .slice b10 ((digs 1).length) c11]) Tryd.underlying66 Tryd.zeroValue66 (fun _ => by kernel_rfl) rfl ?_)
 have o4 := gr7.kp (gr5.kp (gr4.kp (gr3.kp ⟨o1, n1⟩)))
 refine oC (sA (cs := [.bool (decide (0 < (digs ((q.num.natAbs / q.den) + 1)).length)), .slice b8 ((digs ((q.num.natAbs / q.den) + 1)).length) c8, .slice b10 ((digs 1).length) c11]) Tryd.sizeOf66 rfl rfl rfl rfl o4.1 rfl ?_)
 intro w10 p2
 refine oN (Wp.ret (fin1_ret rfl (resOf_cellA (cs := [.bool (decide (0 < (digs ((q.num.natAbs / q.den) + 1)).length)), .slice b8 ((digs ((q.num.natAbs / q.den) + 1)).length) c8, .slice b10 ((digs 1).length) c11]) Tryd.isAgg66 Tryd.sizeOf66 rfl p2.at_ (Nat.le_of_ble_eq_true rfl) rfl) ?_))
 have g9 := (g7.trans gr7).put p2 o4.2 lo2
 refine ⟨h6, g9, ?_⟩
 have ff := floor_fin (q := q) (b := decide (0 < (digs ((q.num.natAbs / q.den) + 1)).length)) (m := (q.num.natAbs / q.den) + 1) (by first | exact .inl ⟨(by assumption : _ ∧ _).1, len_pos.1 (by assumption : _ ∧ _).2, rfl⟩ | exact .inr ⟨fun e => (by assumption : ¬ (_ ∧ _)) ⟨e.1, len_pos.2 e.2⟩, rfl⟩) (by first | (simp [*, digs_len_pos]; done) | (exfalso; omega) | (simp_all; done) | skip)
 exact Qn.mk (N.mono hr5 gr7.le) hr7 ff.1 ff.2 (floor_den q)
 replace c6 : ¬ ((q.num < 0) ∧ (0 < (digs (q.num.natAbs % q.den)).length)) := (fun pq => (and_f c6).elim (fun h => (of_decide_eq_false h) pq.1) (fun h => (of_decide_eq_false h) pq.2))
 refine Wp.skip (sr (oC (fA (o := 0) Tryd.underlying66 rfl Tryd.sizeOf4 (by decide) rfl rfl ?_)))
 have g10 := g3.trans gr3
 refine oC (lO (v := .bool (decide (q.num < 0))) Tryd.isAgg4 rfl (g10.sat _ _ (gr3.le _ _ qb1)) rfl (mv ?_))
 cases c12 : (decide (q.num < 0))
 replace c12 : ¬ (q.num < 0) := (of_decide_eq_false c12)
 refine oD rfl rfl rfl rfl (oD rfl rfl rfl rfl (oD rfl rfl rfl rfl (oC (pF (v := .bool false) rfl rfl (mv (oC (cF Tryd.call86 (small_c (n := 1) g10.sat  (by omega)) rfl ?_)))))))
 intro r8 h7 w11 gr8 hr8
 obtain ⟨b11, c13, rfl, k9⟩ := N.shape hr8
 refine oC (OpW.build (places := [(0, 1), (1, 1), (2, 1)]) (cs := [.bool false, .slice b5 ((digs (q.num.natAbs / q.den)).length) c3, .slice b11 ((digs 1).length) c13]) Tryd.underlying66 Tryd.zeroValue66 (fun _ => by kernel_rfl) rfl ?_)
 have o6 := gr8.kp (gr3.kp ⟨o1, n1⟩)
 refine oC (sA (cs := [.bool false, .slice b5 ((digs (q.num.natAbs / q.den)).length) c3, .slice b11 ((digs 1).length) c13]) Tryd.sizeOf66 rfl rfl rfl rfl o6.1 rfl ?_)
 intro w12 p3
 refine oN (Wp.ret (fin1_ret rfl (resOf_cellA (cs := [.bool false, .slice b5 ((digs (q.num.natAbs / q.den)).length) c3, .slice b11 ((digs 1).length) c13]) Tryd.isAgg66 Tryd.sizeOf66 rfl p3.at_ (Nat.le_of_ble_eq_true rfl) rfl) ?_))
 have g11 := (g10.trans gr8).put p3 o6.2 lo2
 refine ⟨h7, g11, ?_⟩
 have ff := floor_fin (q := q) (b := false) (m := q.num.natAbs / q.den) (by first | exact .inl ⟨(by assumption : _ ∧ _).1, len_pos.1 (by assumption : _ ∧ _).2, rfl⟩ | exact .inr ⟨fun e => (by assumption : ¬ (_ ∧ _)) ⟨e.1, len_pos.2 e.2⟩, rfl⟩) (by first | (simp [*, digs_len_pos]; done) | (exfalso; omega) | (simp_all; done) | skip)
 exact Qn.mk (N.mono hr2 gr8.le) hr8 ff.1 ff.2 (floor_den q)
 replace c12 : q.num < 0 := (of_decide_eq_true c12)
 refine oL rfl rfl rfl (OpW.move (v := .slice b5 ((digs (q.num.natAbs / q.den)).length) c3) rfl ?_)
 refine oL rfl rfl rfl (OpW.lenS Tryd.underlying64 (l := (digs (q.num.natAbs / q.den)).length) rfl ?_)
 refine oL rfl rfl rfl (OpW.gtr (a := (((digs (q.num.natAbs / q.den)).length : Nat) : Int)) (b := ((0 : Nat) : Int)) (r := decide (0 < (digs (q.num.natAbs / q.den)).length)) rfl rfl (lt_nat (a := 0) (b := (digs (q.num.natAbs / q.den)).length)) ?_)
 refine oC (pT (v := .bool (decide (0 < (digs (q.num.natAbs / q.den)).length))) rfl rfl (mv (oC (cF Tryd.call86 (small_c (n := 1) g10.sat  (by omega)) rfl ?_))))
 intro r9 h8 w13 gr9 hr9
 obtain ⟨b12, c14, rfl, k10⟩ := N.shape hr9
 refine oC (OpW.build (places := [(0, 1), (1, 1), (2, 1)]) (cs := [.bool (decide (0 < (digs (q.num.natAbs / q.den)).length)), .slice b5 ((digs (q.num.natAbs / q.den)).length) c3, .slice b12 ((digs 1).length) c14]) Tryd.underlying66 Tryd.zeroValue66 (fun _ => by kernel_rfl) rfl ?_)
 have o8 := gr9.kp (gr3.kp ⟨o1, n1⟩)
 refine oC (sA (cs := [.bool (decide (0 < (digs (q.num.natAbs / q.den)).length)), .slice b5 ((digs (q.num.natAbs / q.den)).length) c3, .slice b12 ((digs 1).length) c14]) Tryd.sizeOf66 rfl rfl rfl rfl o8.1 rfl ?_)
 intro w14 p4
 refine oN (Wp.ret (fin1_ret rfl (resOf_cellA (cs := [.bool (decide (0 < (digs (q.num.natAbs / q.den)).length)), .slice b5 ((digs (q.num.natAbs / q.den)).length) c3, .slice b12 ((digs 1).length) c14]) Tryd.isAgg66 Tryd.sizeOf66 rfl p4.at_ (Nat.le_of_ble_eq_true rfl) rfl) ?_))
 have g12 := (g10.trans gr9).put p4 o8.2 lo2
 refine ⟨h8, g12, ?_⟩
 have ff := floor_fin (q := q) (b := decide (0 < (digs (q.num.natAbs / q.den)).length)) (m := q.num.natAbs / q.den) (by first | exact .inl ⟨(by assumption : _ ∧ _).1, len_pos.1 (by assumption : _ ∧ _).2, rfl⟩ | exact .inr ⟨fun e => (by assumption : ¬ (_ ∧ _)) ⟨e.1, len_pos.2 e.2⟩, rfl⟩) (by first | (simp [*, digs_len_pos]; done) | (exfalso; omega) | (simp_all; done) | skip)
 exact Qn.mk (N.mono hr2 gr9.le) hr9 ff.1 ff.2 (floor_den q)
end Go.Ear
