/- About package frac: X19. -/
import Derived.Test.YtmidncjhlnfojaaDoorNatLaw2
import Derived.Test.YtmidncjhlnfojaaDoorEarShort
import Derived.Test.YtmidncjhlnfojaaDoorProg
import Derived.Test.YtmidncjhlnfojaaDoorNatLaw3
import Derived.Test.YtmidncjhlnfojaaDoorEarFrac
import Derived.Test.YtmidncjhlnfojaaDoorEarDec
import Derived.Test.YtmidncjhlnfojaaDoorItoaLay
import Derived.Lib.ItoaMem
import Derived.Test.YtmidncjhlnfojaaDoorEarApi
import Derived.Test.YtmidncjhlnfojaaDoorEarRef2
import Derived.Test.YtmidncjhlnfojaaDoorEarLaw
import Derived.Test.YtmidncjhlnfojaaDoorEarWhole
import Derived.Test.YtmidncjhlnfojaaDoorEarTexts
import Derived.Test.YtmidncjhlnfojaaDoorEarFresh
import Derived.Test.YtmidncjhlnfojaaDoorK1
import Derived.Test.YtmidncjhlnfojaaDoorK2
import Derived.Test.YtmidncjhlnfojaaDoorK4
import Derived.Test.YtmidncjhlnfojaaDoorK5
import Derived.Test.YtmidncjhlnfojaaDoorK6
import Derived.Test.YtmidncjhlnfojaaDoorX6
set_option linter.all false
namespace Go.Ear
open Go.Proofs
set_option maxRecDepth 20000
set_option linter.unusedVariables false
set_option maxHeartbeats 2000000
theorem cloneF_c {h : PH} {w : World} {v0 : Value} {l : List Nat} (hs : Sat h w) (pv0 : U h v0 l) (hp0 : l.length ≤ 1099511627776) :
    Calls Tryd.prog 114 #[v0] w (Ret h w fun h' r => Uf h h' r l) := by
  by_cases hl : l = []
  · subst hl
    exact (cloneN_c hs pv0 hp0).mono fun e w' ⟨r, h', he, g, u⟩ => ⟨r, h', he, g, Uf.ofNil u⟩
  · exact (cloneNO_c hs pv0 hp0 hl).mono fun e w' ⟨r, h', he, g, u⟩ => ⟨r, h', he, g, Uf.thaw pv0.1 u⟩
theorem giveF_c {h : PH} {w : World} {v0 : Value} {q : Rat} (hs : Sat h w) (pv0 : Qn h v0 q) (hp0 : bq q ≤ 1073741824) :
    Calls Tryd.prog 74 #[v0] w (Ret h w fun h' r => Kf h h' r q) := by
 obtain ⟨b1, c1, b2, c2, rfl, k1, k2, u1, u2⟩ := Qn.shape pv0
 have hq1 := bq_num q
 have hq2 := bq_den q
 have hq3 := hq1
 have hq4 := hq2
 unfold sz at hq3 hq4
 have h1 := sz_one
 refine calls_ear (vs := [.agg #[.bool (decide (q.num < 0)), .slice b1 ((digs q.num.natAbs).length) c1, .slice b2 ((digs q.den).length) c2]]) Tryd.func74 rfl rfl ?_
 have g1 := Gr.refl hs
 refine sr (oC (OpW.boxK (v := .agg #[.bool (decide (q.num < 0)), .slice b1 ((digs q.num.natAbs).length) c1, .slice b2 ((digs q.den).length) c2]) (arr := #[.bool (decide (q.num < 0)), .slice b1 ((digs q.num.natAbs).length) c1, .slice b2 ((digs q.den).length) c2]) g1.sat rfl rfl ?_))
 intro b3 h1 w1 gr1 qb1
 have g2 := g1.trans gr1
 refine oC (OpW.allocO (arr := #[.bool false, .slice none 0 0, .slice none 0 0]) g2.sat Tryd.zeroValue24 rfl ?_)
 intro b4 w2 gr2 n1 lo1 o1
 have lo2 := Nat.le_trans g2.ext.size lo1
 refine oN (wS ?_)
 have g3 := g2.trans gr2
 refine Wp.dagL 7 [4, 5, 6, 7, 8, 9, 3] [eqv (.pointer (some ⟨b3, 0, none⟩)), eqv (.bool (decide (q.num < 0))), eqv (.pointer (some ⟨b3, 1, none⟩)), eqv (.slice b1 ((digs q.num.natAbs).length) c1), fun hq _ x => Uf h hq x (digs q.num.natAbs), fun hq _ x => ∃ b5z c3z, x = .agg #[.bool (decide (q.num < 0)), .slice b5z ((digs q.num.natAbs).length) c3z, .slice none 0 0] ∧ U hq (.slice b5z ((digs q.num.natAbs).length) c3z) (digs q.num.natAbs) ∧ SF h hq (.slice b5z ((digs q.num.natAbs).length) c3z), fun h w x => ∃ b, x = .pointer (some ⟨b, 0, none⟩) ∧ w2.heap.size ≤ b ∧ h b = none ∧ w.heap[b]? = some (.cells #[.bool false, .slice none 0 0, .slice none 0 0] 24 (0, 0))] mixed g3.sat rfl (by decide +kernel) ⟨sQ _, sQ _, sQ _, sQ _, (stab_Uf _ (digs q.num.natAbs)), (fun _ _ _ _ _ g ⟨_, _, e, f0, f1⟩ => ⟨_, _, e, U.mono f0 g.le, SF.mono f1 g.le⟩), stab_own _ _ _, trivial⟩ ?_ ?_
 intro stab
 refine ⟨?_, ?_, ?_, ?_, ?_, ?_, ?_, trivial⟩
 intro ρ1 h2 w3 g4 hdd1 hdo1
 have e1 : ρ1 1 = .pointer (some ⟨b3, 0, none⟩) := hdo1 1 rfl
 refine gP (fA (o := 0) Tryd.underlying66 rfl Tryd.sizeOf4 (by decide) e1 rfl ?_)
 exact ⟨_, h2, rfl, g4, fun j x _ p => p, rfl⟩
 intro ρ2 h3 w4 g5 hdd2 hdo2
 have e2 : ρ2 4 = .pointer (some ⟨b3, 0, none⟩) := hdd2 0 (by decide)
 have g6 := g3.trans g5
 refine gP (lO (v := .bool (decide (q.num < 0))) Tryd.isAgg4 e2 (g6.sat _ _ (g5.le _ _ qb1)) rfl ?_)
 exact ⟨_, h3, rfl, g5, fun j x _ p => p, rfl⟩
 intro ρ3 h4 w5 g7 hdd3 hdo3
 have e3 : ρ3 1 = .pointer (some ⟨b3, 0, none⟩) := hdo3 1 rfl
 refine gP (fA (o := 1) Tryd.underlying66 rfl Tryd.sizeOf64 (by decide) e3 rfl ?_)
 exact ⟨_, h4, rfl, g7, fun j x _ p => p, rfl⟩
 intro ρ4 h5 w6 g8 hdd4 hdo4
 have e4 : ρ4 6 = .pointer (some ⟨b3, 1, none⟩) := hdd4 2 (by decide)
 have g9 := g3.trans g8
 refine gP (lO (v := .slice b1 ((digs q.num.natAbs).length) c1) Tryd.isAgg64 e4 (g9.sat _ _ (g8.le _ _ qb1)) rfl ?_)
 exact ⟨_, h5, rfl, g8, fun j x _ p => p, rfl⟩
 intro ρ5 h6 w7 g10 hdd5 hdo5
 have e5 : ρ5 7 = .slice b1 ((digs q.num.natAbs).length) c1 := hdd5 3 (by decide)
 have g11 := g3.trans g10
 refine gP (cF Tryd.call114 (cloneF_c (l := digs q.num.natAbs) g11.sat (U.mono u1 (gr1.le.trans g10.le)) (by omega)) (cx e5 cxn) ?_)
 intro r1 h7 w8 gr3 hr1
 replace hr1 := Uf.weak (gr1.le.trans g10.le) hr1
 exact ⟨r1, h7, rfl, g10.trans gr3, fun j x _ => stab j _ _ _ _ x gr3, hr1⟩
 intro ρ6 h8 w9 g12 hdd6 hdo6
 have e6 : ρ6 5 = .bool (decide (q.num < 0)) := hdd6 1 (by decide)
 have q1 : Uf h h8 (ρ6 8) (digs q.num.natAbs) := hdd6 4 (by decide)
 obtain ⟨x1, hx1⟩ : ∃ x, ρ6 8 = x := ⟨_, rfl⟩
 rw [hx1] at q1
 obtain ⟨b5, c3, rfl, k3⟩ := U.shape q1.1
 refine gP (OpW.build (places := [(0, 1), (1, 1), (2, 1)]) (cs := [.bool (decide (q.num < 0)), .slice b5 ((digs q.num.natAbs).length) c3, .slice none 0 0]) Tryd.underlying24 Tryd.zeroValue24 (fun _ => by kernel_rfl) (by show Instr.fill _ _ [(0, ρ6 5), (1, ρ6 8)] = _; rw [e6, hx1]; rfl) ?_)
 exact ⟨_, h8, rfl, g12, fun j x _ p => p, ⟨_, _, rfl, q1.1, q1.2⟩⟩
 intro ρ7 h9 w10 g13 hdd7 hdo7
 have g14 := g3.trans g13
 refine gP (OpW.allocO (arr := #[.bool false, .slice none 0 0, .slice none 0 0]) g14.sat Tryd.zeroValue24 rfl ?_)
 intro b6 w11 gr4 n2 lo3 o2
 exact ⟨_, h9, rfl, g13.trans gr4, fun j x _ => stab j _ _ _ _ x gr4, b6, rfl, Nat.le_trans g13.ext.size lo3, n2, o2⟩
 intro ρ8 h10 w12 g15 hdp1 hdo8
 have e7 : ρ8 1 = .pointer (some ⟨b3, 0, none⟩) := hdo8 1 rfl
 have e8 : ρ8 2 = .pointer (some ⟨b4, 0, none⟩) := hdo8 2 rfl
 obtain ⟨b7, hx2, lo4, n3, o3⟩ : ∃ b, ρ8 3 = .pointer (some ⟨b, 0, none⟩) ∧ _ := hdp1 6 rfl
 have lo5 := Nat.le_trans g3.ext.size lo4
 have ne1 : b4 ≠ b7 := Nat.ne_of_lt (Nat.lt_of_lt_of_le (blk_lt o1) lo4)
 have q2 : ∃ b5z c3z, (ρ8 9) = .agg #[.bool (decide (q.num < 0)), .slice b5z ((digs q.num.natAbs).length) c3z, .slice none 0 0] ∧ U h10 (.slice b5z ((digs q.num.natAbs).length) c3z) (digs q.num.natAbs) ∧ SF h h10 (.slice b5z ((digs q.num.natAbs).length) c3z) := hdp1 5 rfl
 obtain ⟨b8, c4, e9, q3, q4⟩ := q2
 have e9 : ρ8 9 = .agg #[.bool (decide (q.num < 0)), .slice b8 ((digs q.num.natAbs).length) c4, .slice none 0 0] := e9
 refine Ops.forget [(1, .pointer (some ⟨b3, 0, none⟩)), (2, .pointer (some ⟨b4, 0, none⟩)), (3, .pointer (some ⟨b7, 0, none⟩)), (9, .agg #[.bool (decide (q.num < 0)), .slice b8 ((digs q.num.natAbs).length) c4, .slice none 0 0])] ⟨e7, e8, hx2, e9, trivial⟩ (fun ρ9 => ?_)
 refine oC (sA (cs := [.bool (decide (q.num < 0)), .slice b8 ((digs q.num.natAbs).length) c4, .slice none 0 0]) Tryd.sizeOf24 rfl rfl rfl rfl o3 rfl ?_)
 intro w13 p1
 refine oN (wS (wS ?_))
 have g16 := (g3.trans g15).put p1 n3 lo5
 refine Wp.dagL 5 [10, 11, 12, 13, 14] [eqv (.pointer (some ⟨b3, 2, none⟩)), eqv (.slice b2 ((digs q.den).length) c2), fun hq _ x => N hq x 1, eqv (.int .i64 (cmpN q.den 1)), eqv (.bool (decide ((cmpN q.den 1) ≠ ((0 : Nat) : Int))))] mixed g16.sat rfl (by decide +kernel) ⟨sQ _, sQ _, (stab_N 1), sQ _, sQ _, trivial⟩ ?_ ?_
 intro stab
 refine ⟨?_, ?_, ?_, ?_, ?_, trivial⟩
 intro ρ10 h11 w14 g17 hdd8 hdo9
 have e10 : ρ10 1 = .pointer (some ⟨b3, 0, none⟩) := hdo9 1 rfl
 refine gP (fA (o := 2) Tryd.underlying66 rfl Tryd.sizeOf64 (by decide) e10 rfl ?_)
 exact ⟨_, h11, rfl, g17, fun j x _ p => p, rfl⟩
 intro ρ11 h12 w15 g18 hdd9 hdo10
 have e11 : ρ11 10 = .pointer (some ⟨b3, 2, none⟩) := hdd9 0 (by decide)
 have g19 := g16.trans g18
 refine gP (lO (v := .slice b2 ((digs q.den).length) c2) Tryd.isAgg64 e11 (g19.sat _ _ ((g15.le.trans g18.le) _ _ qb1)) rfl ?_)
 exact ⟨_, h12, rfl, g18, fun j x _ p => p, rfl⟩
 intro ρ12 h13 w16 g20 hdd10 hdo11
 have g21 := g16.trans g20
 refine gP (cF Tryd.call86 (small_c (n := 1) g21.sat  (by omega)) rfl ?_)
 intro r2 h14 w17 gr5 hr2
 exact ⟨r2, h14, rfl, g20.trans gr5, fun j x _ => stab j _ _ _ _ x gr5, hr2⟩
 intro ρ13 h15 w18 g22 hdd11 hdo12
 have e12 : ρ13 11 = .slice b2 ((digs q.den).length) c2 := hdd11 1 (by decide)
 have q5 : N h15 (ρ13 12) 1 := hdd11 2 (by decide)
 have g23 := g16.trans g22
 refine gP (cF Tryd.call85 (compare_c (a := q.den) (b := 1) g23.sat (N.mono u2 ((gr1.le.trans g15.le).trans g22.le)) q5 (by omega) (by omega)) (cx e12 (cx rfl cxn)) ?_)
 intro r3 h16 w19 gr6 hr3
 exact ⟨r3, h16, rfl, g22.trans gr6, fun j x _ => stab j _ _ _ _ x gr6, hr3⟩
 intro ρ14 h17 w20 g24 hdd12 hdo13
 have e13 : ρ14 13 = .int .i64 (cmpN q.den 1) := hdd12 3 (by decide)
 refine gP (OpW.neqI (a := (cmpN q.den 1)) (b := ((0 : Nat) : Int)) (r := decide ((cmpN q.den 1) ≠ ((0 : Nat) : Int))) e13 rfl rfl ?_)
 exact ⟨_, h17, rfl, g24, fun j x _ p => p, rfl⟩
 intro ρ15 h18 w21 g25 hdp2 hdo14
 have e14 : ρ15 1 = .pointer (some ⟨b3, 0, none⟩) := hdo14 1 rfl
 have e15 : ρ15 2 = .pointer (some ⟨b4, 0, none⟩) := hdo14 2 rfl
 have e16 : ρ15 3 = .pointer (some ⟨b7, 0, none⟩) := hdo14 3 rfl
 have e17 : ρ15 14 = .bool (decide ((cmpN q.den 1) ≠ ((0 : Nat) : Int))) := hdp2 4 rfl
 refine Ops.forget [(1, .pointer (some ⟨b3, 0, none⟩)), (2, .pointer (some ⟨b4, 0, none⟩)), (3, .pointer (some ⟨b7, 0, none⟩)), (14, .bool (decide ((cmpN q.den 1) ≠ ((0 : Nat) : Int))))] ⟨e14, e15, e16, e17, trivial⟩ (fun ρ16 => (oN (Wp.cond (t := decide ((cmpN q.den 1) ≠ ((0 : Nat) : Int))) rfl (fun c5 => ?_) (fun c5 => ?_))))
 replace c5 : (cmpN q.den 1) ≠ ((0 : Nat) : Int) := (of_decide_eq_true c5)
 refine wR (oC (fA (o := 2) Tryd.underlying66 rfl Tryd.sizeOf64 (by decide) rfl rfl ?_))
 have g26 := g16.trans g25
 refine oC (lO (v := .slice b2 ((digs q.den).length) c2) Tryd.isAgg64 rfl (g26.sat _ _ ((g15.le.trans g25.le) _ _ qb1)) rfl ?_)
 refine oC (cF Tryd.call114 (cloneF_c (l := digs q.den) g26.sat (U.mono u2 ((gr1.le.trans g15.le).trans g25.le)) (by omega)) rfl ?_)
 intro r4 h19 w22 gr7 hr4
 replace hr4 := Uf.weak ((gr1.le.trans g15.le).trans g25.le) hr4
 obtain ⟨b9, c6, rfl, k4⟩ := U.shape hr4.1
 refine oC (fA (o := 2) Tryd.underlying24 rfl Tryd.sizeOf22 (by decide) rfl rfl ?_)
 have o5 := gr7.kp (g25.kp ⟨p1.at_, n3⟩)
 refine oC (s1 (v := .slice b9 ((digs q.den).length) c6) Tryd.sizeOf22 rfl rfl rfl o5.1 rfl ?_)
 intro w23 p2
 refine oN (sr (oC (lA (cs := [.bool (decide (q.num < 0)), .slice b8 ((digs q.num.natAbs).length) c4, .slice b9 ((digs q.den).length) c6]) Tryd.isAgg24 Tryd.sizeOf24 rfl p2.at_ rfl rfl ?_)))
 have o7 := p2.kp ne1 (gr7.kp (g25.kp (p1.kp ne1 (g15.kp ⟨o1, n1⟩))))
 refine oC (sA (cs := [.bool (decide (q.num < 0)), .slice b8 ((digs q.num.natAbs).length) c4, .slice b9 ((digs q.den).length) c6]) Tryd.sizeOf24 rfl rfl rfl rfl o7.1 rfl ?_)
 intro w24 p3
 refine oN (Wp.ret (fin1_ret rfl (resOf_cellA (cs := [.bool (decide (q.num < 0)), .slice b8 ((digs q.num.natAbs).length) c4, .slice b9 ((digs q.den).length) c6]) Tryd.isAgg24 Tryd.sizeOf24 rfl p3.at_ (Nat.le_of_ble_eq_true rfl) rfl) ?_))
 have g27 := ((g26.trans gr7).put p2 o5.2 lo5).put p3 o7.2 lo2
 refine ⟨h19, g27, ?_⟩
 exact Kf.mk (Kn.mk (U.mono q3 (g25.le.trans gr7.le)) hr4.1 rfl rfl (if_neg (fun e => absurd (cmpN_one.2 e) (by assumption))).symm) (SF.mono q4 (g25.le.trans gr7.le)) hr4.2
 replace c5 : ¬ ((cmpN q.den 1) ≠ ((0 : Nat) : Int)) := (of_decide_eq_false c5)
 refine Wp.skip (sr ?_)
 have o9 := g25.kp ⟨p1.at_, n3⟩
 refine oC (lA (cs := [.bool (decide (q.num < 0)), .slice b8 ((digs q.num.natAbs).length) c4, .slice none 0 0]) Tryd.isAgg24 Tryd.sizeOf24 rfl o9.1 rfl rfl ?_)
 have o10 := g25.kp (p1.kp ne1 (g15.kp ⟨o1, n1⟩))
 refine oC (sA (cs := [.bool (decide (q.num < 0)), .slice b8 ((digs q.num.natAbs).length) c4, .slice none 0 0]) Tryd.sizeOf24 rfl rfl rfl rfl o10.1 rfl ?_)
 intro w25 p4
 refine oN (Wp.ret (fin1_ret rfl (resOf_cellA (cs := [.bool (decide (q.num < 0)), .slice b8 ((digs q.num.natAbs).length) c4, .slice none 0 0]) Tryd.isAgg24 Tryd.sizeOf24 rfl p4.at_ (Nat.le_of_ble_eq_true rfl) rfl) ?_))
 have g28 := (g16.trans g25).put p4 o10.2 lo2
 refine ⟨h18, g28, ?_⟩
 exact Kf.mk (Kn.mk (U.mono q3 g25.le) (U.nil _ none _) rfl rfl (if_pos (cmpN_one.1 (by omega))).symm) (SF.mono q4 g25.le) (SF.nil _ _ none _)
theorem CanonF_c {h : PH} {w : World} {v0 : Value} {a : Fr} (hs : Sat h w) (pv0 : F h v0 a) (hp0 : bf a ≤ 134217000) :
    Calls Tryd.prog 50 #[v0] w (Ret h w fun h' r => Kf h h' r a.rat) := by
 obtain ⟨b1, c1, b2, c2, rfl, k1, k2, u1, u2⟩ := F.shape pv0
 have hbq1 := F.bq pv0
 have hbn := bf_n a
 have hbd := bf_d a
 have hbp := bf_pos a
 refine calls_ear (vs := [.agg #[.bool a.neg, .slice b1 a.n.length c1, .slice b2 a.d.length c2]]) Tryd.func50 rfl rfl ?_
 have g1 := Gr.refl hs
 refine sr (oC (OpW.boxK (v := .agg #[.bool a.neg, .slice b1 a.n.length c1, .slice b2 a.d.length c2]) (arr := #[.bool a.neg, .slice b1 a.n.length c1, .slice b2 a.d.length c2]) g1.sat rfl rfl ?_))
 intro b3 h1 w1 gr1 qb1
 have g2 := g1.trans gr1
 refine oC (OpW.allocO (arr := #[.bool false, .slice none 0 0, .slice none 0 0]) g2.sat Tryd.zeroValue24 rfl ?_)
 intro b4 w2 gr2 n1 lo1 o1
 have lo2 := Nat.le_trans g2.ext.size lo1
 refine oN (sr ?_)
 have g3 := g2.trans gr2
 refine oC (lA (cs := [.bool a.neg, .slice b1 a.n.length c1, .slice b2 a.d.length c2]) Tryd.isAgg24 Tryd.sizeOf24 rfl (g3.sat _ _ qb1) rfl rfl ?_)
 refine oC (cF Tryd.call70 (take_c (f := a) g3.sat (F.mk (U.mono u1 gr1.le) (U.mono u2 gr1.le)) (by omega) (by omega)) rfl ?_)
 intro r1 h2 w3 gr3 hr1
 obtain ⟨b5, c3, b6, c4, rfl, k3, k4, u3, u4⟩ := Qn.shape hr1
 have g4 := g3.trans gr3
 refine oC (cF Tryd.call74 (giveF_c (q := a.rat) g4.sat hr1 (by omega)) rfl ?_)
 intro r2 h3 w4 gr4 hr2
 replace hr2 := Kf.weak (gr1.le.trans gr3.le) hr2
 obtain ⟨b7, c5, b8, c6, rfl, k5, k6, u5, u6⟩ := F.shape hr2.1
 have sf1 := Kf.sf hr2
 have o2 := gr4.kp (gr3.kp ⟨o1, n1⟩)
 refine oC (sA (cs := [.bool ((frK a.rat).neg), .slice b7 ((frK a.rat).n.length) c5, .slice b8 ((frK a.rat).d.length) c6]) Tryd.sizeOf24 rfl rfl rfl rfl o2.1 rfl ?_)
 intro w5 p1
 refine oN (Wp.ret (fin1_ret rfl (resOf_cellA (cs := [.bool ((frK a.rat).neg), .slice b7 ((frK a.rat).n.length) c5, .slice b8 ((frK a.rat).d.length) c6]) Tryd.isAgg24 Tryd.sizeOf24 rfl p1.at_ (Nat.le_of_ble_eq_true rfl) rfl) ?_))
 have g5 := (g4.trans gr4).put p1 o2.2 lo2
 refine ⟨h3, g5, ?_⟩
 exact (Kf.mk (F.mk u5 u6) sf1.1 sf1.2)
theorem NegF_c {h : PH} {w : World} {v0 : Value} {a : Fr} (hs : Sat h w) (pv0 : F h v0 a) (hp0 : bf a ≤ 134217000) :
    Calls Tryd.prog 45 #[v0] w (Ret h w fun h' r => Kf h h' r (-a.rat)) := by
 obtain ⟨b1, c1, b2, c2, rfl, k1, k2, u1, u2⟩ := F.shape pv0
 have hbq1 := F.bq pv0
 have hbn := bf_n a
 have hbd := bf_d a
 have hbp := bf_pos a
 have hn := bq_neg a.rat
 refine calls_ear (vs := [.agg #[.bool a.neg, .slice b1 a.n.length c1, .slice b2 a.d.length c2]]) Tryd.func45 rfl rfl ?_
 have g1 := Gr.refl hs
 refine sr (oC (OpW.boxK (v := .agg #[.bool a.neg, .slice b1 a.n.length c1, .slice b2 a.d.length c2]) (arr := #[.bool a.neg, .slice b1 a.n.length c1, .slice b2 a.d.length c2]) g1.sat rfl rfl ?_))
 intro b3 h1 w1 gr1 qb1
 have g2 := g1.trans gr1
 refine oC (OpW.allocO (arr := #[.bool false, .slice none 0 0, .slice none 0 0]) g2.sat Tryd.zeroValue24 rfl ?_)
 intro b4 w2 gr2 n1 lo1 o1
 have lo2 := Nat.le_trans g2.ext.size lo1
 refine oN (sr ?_)
 have g3 := g2.trans gr2
 refine oC (lA (cs := [.bool a.neg, .slice b1 a.n.length c1, .slice b2 a.d.length c2]) Tryd.isAgg24 Tryd.sizeOf24 rfl (g3.sat _ _ qb1) rfl rfl ?_)
 refine oC (cF Tryd.call70 (take_c (f := a) g3.sat (F.mk (U.mono u1 gr1.le) (U.mono u2 gr1.le)) (by omega) (by omega)) rfl ?_)
 intro r1 h2 w3 gr3 hr1
 obtain ⟨b5, c3, b6, c4, rfl, k3, k4, u3, u4⟩ := Qn.shape hr1
 have g4 := g3.trans gr3
 refine oC (cF Tryd.call99 (minus_c (q := a.rat) g4.sat hr1 ) rfl ?_)
 intro r2 h3 w4 gr4 hr2
 obtain ⟨b7, c5, b8, c6, rfl, k5, k6, u5, u6⟩ := Qn.shape hr2
 have g5 := g4.trans gr4
 refine oC (cF Tryd.call74 (giveF_c (q := -a.rat) g5.sat hr2 (by omega)) rfl ?_)
 intro r3 h4 w5 gr5 hr3
 replace hr3 := Kf.weak ((gr1.le.trans gr3.le).trans gr4.le) hr3
 obtain ⟨b9, c7, b10, c8, rfl, k7, k8, u7, u8⟩ := F.shape hr3.1
 have sf1 := Kf.sf hr3
 have o2 := gr5.kp (gr4.kp (gr3.kp ⟨o1, n1⟩))
 refine oC (sA (cs := [.bool ((frK (-a.rat)).neg), .slice b9 ((frK (-a.rat)).n.length) c7, .slice b10 ((frK (-a.rat)).d.length) c8]) Tryd.sizeOf24 rfl rfl rfl rfl o2.1 rfl ?_)
 intro w6 p1
 refine oN (Wp.ret (fin1_ret rfl (resOf_cellA (cs := [.bool ((frK (-a.rat)).neg), .slice b9 ((frK (-a.rat)).n.length) c7, .slice b10 ((frK (-a.rat)).d.length) c8]) Tryd.isAgg24 Tryd.sizeOf24 rfl p1.at_ (Nat.le_of_ble_eq_true rfl) rfl) ?_))
 have g6 := (g5.trans gr5).put p1 o2.2 lo2
 refine ⟨h4, g6, ?_⟩
 exact (Kf.mk (F.mk u7 u8) sf1.1 sf1.2)
theorem SubF_c {h : PH} {w : World} {v0 : Value} {a : Fr} {v1 : Value} {b : Fr} (hs : Sat h w) (pv0 : F h v0 a) (pv1 : F h v1 b) (hp0 : bf a + bf b ≤ 134217000) :
    Calls Tryd.prog 44 #[v0, v1] w (Ret h w fun h' r => Kf h h' r (a.rat - b.rat)) := by
 obtain ⟨b1, c1, b2, c2, rfl, k1, k2, u1, u2⟩ := F.shape pv0
 have hbq1 := F.bq pv0
 obtain ⟨b3, c3, b4, c4, rfl, k3, k4, u3, u4⟩ := F.shape pv1
 have hbq2 := F.bq pv1
 have hbn := bf_n a
 have hbd := bf_d a
 have hbp := bf_pos a
 have hbn2 := bf_n b
 have hbd2 := bf_d b
 have hbp2 := bf_pos b
 have hn := bq_neg b.rat
 have hsb := bq_sub a.rat b.rat
 rw [Rat.sub_eq_add_neg] at hsb
 refine calls_ear (vs := [.agg #[.bool a.neg, .slice b1 a.n.length c1, .slice b2 a.d.length c2], .agg #[.bool b.neg, .slice b3 b.n.length c3, .slice b4 b.d.length c4]]) Tryd.func44 rfl rfl ?_
 have g1 := Gr.refl hs
 refine sr (oC (OpW.boxK (v := .agg #[.bool a.neg, .slice b1 a.n.length c1, .slice b2 a.d.length c2]) (arr := #[.bool a.neg, .slice b1 a.n.length c1, .slice b2 a.d.length c2]) g1.sat rfl rfl ?_))
 intro b5 h1 w1 gr1 qb1
 have g2 := g1.trans gr1
 refine oC (OpW.boxK (v := .agg #[.bool b.neg, .slice b3 b.n.length c3, .slice b4 b.d.length c4]) (arr := #[.bool b.neg, .slice b3 b.n.length c3, .slice b4 b.d.length c4]) g2.sat rfl rfl ?_)
 intro b6 h2 w2 gr2 qb2
 have g3 := g2.trans gr2
 refine oC (OpW.allocO (arr := #[.bool false, .slice none 0 0, .slice none 0 0]) g3.sat Tryd.zeroValue24 rfl ?_)
 intro b7 w3 gr3 n1 lo1 o1
 have lo2 := Nat.le_trans g3.ext.size lo1
 refine oN (wS ?_)
 have g4 := g3.trans gr3
 refine Wp.dagL 7 [5, 6, 7, 8, 9, 10, 11] [eqv (.agg #[.bool a.neg, .slice b1 a.n.length c1, .slice b2 a.d.length c2]), fun hq _ x => Qn hq x a.rat, eqv (.agg #[.bool b.neg, .slice b3 b.n.length c3, .slice b4 b.d.length c4]), fun hq _ x => Qn hq x b.rat, fun hq _ x => Qn hq x (-b.rat), fun hq _ x => Qn hq x (a.rat + (-b.rat)), fun hq _ x => Kf h hq x (a.rat + (-b.rat))] mixed g4.sat rfl (by decide +kernel) ⟨sQ _, (stab_Q a.rat), sQ _, (stab_Q b.rat), (stab_Q (-b.rat)), (stab_Q (a.rat + (-b.rat))), (stab_Kf _ (a.rat + (-b.rat))), trivial⟩ ?_ ?_
 intro stab
 refine ⟨?_, ?_, ?_, ?_, ?_, ?_, ?_, trivial⟩
 intro ρ1 h3 w4 g5 hdd1 hdo1
 have e1 : ρ1 2 = .pointer (some ⟨b5, 0, none⟩) := hdo1 2 rfl
 have g6 := g4.trans g5
 refine gP (lA (cs := [.bool a.neg, .slice b1 a.n.length c1, .slice b2 a.d.length c2]) Tryd.isAgg24 Tryd.sizeOf24 e1 (g6.sat _ _ ((gr2.le.trans g5.le) _ _ qb1)) rfl rfl ?_)
 exact ⟨_, h3, rfl, g5, fun j x _ p => p, rfl⟩
 intro ρ2 h4 w5 g7 hdd2 hdo2
 have e2 : ρ2 5 = .agg #[.bool a.neg, .slice b1 a.n.length c1, .slice b2 a.d.length c2] := hdd2 0 (by decide)
 have g8 := g4.trans g7
 refine gP (cF Tryd.call70 (take_c (f := a) g8.sat (F.mk (U.mono u1 ((gr1.le.trans gr2.le).trans g7.le)) (U.mono u2 ((gr1.le.trans gr2.le).trans g7.le))) (by omega) (by omega)) (cx e2 cxn) ?_)
 intro r1 h5 w6 gr4 hr1
 exact ⟨r1, h5, rfl, g7.trans gr4, fun j x _ => stab j _ _ _ _ x gr4, hr1⟩
 intro ρ3 h6 w7 g9 hdd3 hdo3
 have e3 : ρ3 3 = .pointer (some ⟨b6, 0, none⟩) := hdo3 3 rfl
 have g10 := g4.trans g9
 refine gP (lA (cs := [.bool b.neg, .slice b3 b.n.length c3, .slice b4 b.d.length c4]) Tryd.isAgg24 Tryd.sizeOf24 e3 (g10.sat _ _ (g9.le _ _ qb2)) rfl rfl ?_)
 exact ⟨_, h6, rfl, g9, fun j x _ p => p, rfl⟩
 intro ρ4 h7 w8 g11 hdd4 hdo4
 have e4 : ρ4 7 = .agg #[.bool b.neg, .slice b3 b.n.length c3, .slice b4 b.d.length c4] := hdd4 2 (by decide)
 have g12 := g4.trans g11
 refine gP (cF Tryd.call70 (take_c (f := b) g12.sat (F.mk (U.mono u3 ((gr1.le.trans gr2.le).trans g11.le)) (U.mono u4 ((gr1.le.trans gr2.le).trans g11.le))) (by omega) (by omega)) (cx e4 cxn) ?_)
 intro r2 h8 w9 gr5 hr2
 exact ⟨r2, h8, rfl, g11.trans gr5, fun j x _ => stab j _ _ _ _ x gr5, hr2⟩
 intro ρ5 h9 w10 g13 hdd5 hdo5
 have q1 : Qn h9 (ρ5 8) b.rat := hdd5 3 (by decide)
 have g14 := g4.trans g13
 refine gP (cF Tryd.call99 (minus_c (q := b.rat) g14.sat q1 ) rfl ?_)
 intro r3 h10 w11 gr6 hr3
 exact ⟨r3, h10, rfl, g13.trans gr6, fun j x _ => stab j _ _ _ _ x gr6, hr3⟩
 intro ρ6 h11 w12 g15 hdd6 hdo6
 have q2 : Qn h11 (ρ6 6) a.rat := hdd6 1 (by decide)
 have q3 : Qn h11 (ρ6 9) (-b.rat) := hdd6 4 (by decide)
 have g16 := g4.trans g15
 refine gP (cF Tryd.call98 (nadd_c (a := a.rat) (b := -b.rat) g16.sat q2 q3 (by omega) (by omega)) rfl ?_)
 intro r4 h12 w13 gr7 hr4
 exact ⟨r4, h12, rfl, g15.trans gr7, fun j x _ => stab j _ _ _ _ x gr7, hr4⟩
 intro ρ7 h13 w14 g17 hdd7 hdo7
 have q4 : Qn h13 (ρ7 10) (a.rat + (-b.rat)) := hdd7 5 (by decide)
 have g18 := g4.trans g17
 refine gP (cF Tryd.call74 (giveF_c (q := a.rat + (-b.rat)) g18.sat q4 (by omega)) rfl ?_)
 intro r5 h14 w15 gr8 hr5
 replace hr5 := Kf.weak ((gr1.le.trans gr2.le).trans g17.le) hr5
 exact ⟨r5, h14, rfl, g17.trans gr8, fun j x _ => stab j _ _ _ _ x gr8, hr5⟩
 intro ρ8 h15 w16 g19 hdp1 hdo8
 have e5 : ρ8 4 = .pointer (some ⟨b7, 0, none⟩) := hdo8 4 rfl
 have q5 : Kf h h15 (ρ8 11) (a.rat + (-b.rat)) := hdp1 6 rfl
 obtain ⟨x1, hx1⟩ : ∃ x, ρ8 11 = x := ⟨_, rfl⟩
 rw [hx1] at q5
 obtain ⟨b8, c5, b9, c6, rfl, k5, k6, u5, u6⟩ := F.shape q5.1
 have sf1 := Kf.sf q5
 refine Ops.forget [(4, .pointer (some ⟨b7, 0, none⟩)), (11, .agg #[.bool ((frK (a.rat + (-b.rat))).neg), .slice b8 ((frK (a.rat + (-b.rat))).n.length) c5, .slice b9 ((frK (a.rat + (-b.rat))).d.length) c6])] ⟨e5, hx1, trivial⟩ (fun ρ9 => ?_)
 have o2 := g19.kp ⟨o1, n1⟩
 refine oC (sA (cs := [.bool ((frK (a.rat + (-b.rat))).neg), .slice b8 ((frK (a.rat + (-b.rat))).n.length) c5, .slice b9 ((frK (a.rat + (-b.rat))).d.length) c6]) Tryd.sizeOf24 rfl rfl rfl rfl o2.1 rfl ?_)
 intro w17 p1
 refine oN (Wp.ret (fin1_ret rfl (resOf_cellA (cs := [.bool ((frK (a.rat + (-b.rat))).neg), .slice b8 ((frK (a.rat + (-b.rat))).n.length) c5, .slice b9 ((frK (a.rat + (-b.rat))).d.length) c6]) Tryd.isAgg24 Tryd.sizeOf24 rfl p1.at_ (Nat.le_of_ble_eq_true rfl) rfl) ?_))
 have g20 := (g4.trans g19).put p1 o2.2 lo2
 refine ⟨h15, g20, ?_⟩
 exact (Kf.cast (Rat.sub_eq_add_neg _ _).symm (Kf.mk (F.mk u5 u6) sf1.1 sf1.2))
theorem sumF_c {h : PH} {w : World} {v0 : Value} {l : List (Fr)} (hs : Sat h w) (pv0 : LR rpF h v0 l) (hp0 : wts l ≤ 134217724) :
    Calls Tryd.prog 52 #[v0] w (Ret h w fun h' r => Kf h h' r (sumF l)) := by
 obtain ⟨b1, c1, rfl, k1⟩ := LR.shape pv0
 have hbs := bq_foldA l (((0 : Nat) : Int) : Rat) (LF.bq pv0)
 have hz : bq (((0 : Nat) : Int) : Rat) ≤ 2 := bq_intc (by decide) (by decide)
 refine calls_ear (vs := [.slice b1 l.length c1]) Tryd.func52 rfl rfl ?_
 have g1 := Gr.refl hs
 refine sr (oC (OpW.allocO (arr := #[.bool false, .slice none 0 0, .slice none 0 0]) g1.sat Tryd.zeroValue24 rfl ?_))
 intro b2 w1 gr1 n1 lo1 o1
 have lo2 := Nat.le_trans g1.ext.size lo1
 refine oN (sr ?_)
 have g2 := g1.trans gr1
 refine oC (cF Tryd.call79 (whole_c (n := ((0 : Nat) : Int)) g2.sat  (by omega) (by omega)) rfl ?_)
 intro r1 h1 w2 gr2 hr1
 obtain ⟨b3, c2, b4, c3, rfl, k2, k3, u1, u2⟩ := Qn.shape hr1
 refine mv ?_
 have g3 := g2.trans gr2
 refine oC (cF Tryd.call102 (foldA_c (q := ((((0 : Nat) : Int) : Int) : Rat)) (l := l) g3.sat hr1 (LR.mono pv0 gr2.le) (by first | omega | (simp only [bf_frK, frK_rat, wts_cons, wts_nil]; omega))) rfl ?_)
 intro r2 h2 w3 gr3 hr2
 obtain ⟨b5, c4, b6, c5, rfl, k4, k5, u3, u4⟩ := Qn.shape hr2
 have g4 := g3.trans gr3
 refine oC (cF Tryd.call74 (giveF_c (q := foldA ((((0 : Nat) : Int) : Int) : Rat) l) g4.sat hr2 (by omega)) rfl ?_)
 intro r3 h3 w4 gr4 hr3
 replace hr3 := Kf.weak (gr2.le.trans gr3.le) hr3
 obtain ⟨b7, c6, b8, c7, rfl, k6, k7, u5, u6⟩ := F.shape hr3.1
 have sf1 := Kf.sf hr3
 have o2 := gr4.kp (gr3.kp (gr2.kp ⟨o1, n1⟩))
 refine oC (sA (cs := [.bool ((frK (foldA ((((0 : Nat) : Int) : Int) : Rat) l)).neg), .slice b7 ((frK (foldA ((((0 : Nat) : Int) : Int) : Rat) l)).n.length) c6, .slice b8 ((frK (foldA ((((0 : Nat) : Int) : Int) : Rat) l)).d.length) c7]) Tryd.sizeOf24 rfl rfl rfl rfl o2.1 rfl ?_)
 intro w5 p1
 refine oN (Wp.ret (fin1_ret rfl (resOf_cellA (cs := [.bool ((frK (foldA ((((0 : Nat) : Int) : Int) : Rat) l)).neg), .slice b7 ((frK (foldA ((((0 : Nat) : Int) : Int) : Rat) l)).n.length) c6, .slice b8 ((frK (foldA ((((0 : Nat) : Int) : Int) : Rat) l)).d.length) c7]) Tryd.isAgg24 Tryd.sizeOf24 rfl p1.at_ (Nat.le_of_ble_eq_true rfl) rfl) ?_))
 have g5 := (g4.trans gr4).put p1 o2.2 lo2
 refine ⟨h3, g5, ?_⟩
 exact (show Kf _ _ _ (sumF l) from (Kf.mk (F.mk u5 u6) sf1.1 sf1.2))
theorem productF_c {h : PH} {w : World} {v0 : Value} {l : List (Fr)} (hs : Sat h w) (pv0 : LR rpF h v0 l) (hp0 : wts l ≤ 134217724) :
    Calls Tryd.prog 53 #[v0] w (Ret h w fun h' r => Kf h h' r (prodF l)) := by
 obtain ⟨b1, c1, rfl, k1⟩ := LR.shape pv0
 have hbs := bq_foldM l (((1 : Nat) : Int) : Rat) (LF.bq pv0)
 have hz : bq (((1 : Nat) : Int) : Rat) ≤ 2 := bq_intc (by decide) (by decide)
 refine calls_ear (vs := [.slice b1 l.length c1]) Tryd.func53 rfl rfl ?_
 have g1 := Gr.refl hs
 refine sr (oC (OpW.allocO (arr := #[.bool false, .slice none 0 0, .slice none 0 0]) g1.sat Tryd.zeroValue24 rfl ?_))
 intro b2 w1 gr1 n1 lo1 o1
 have lo2 := Nat.le_trans g1.ext.size lo1
 refine oN (sr ?_)
 have g2 := g1.trans gr1
 refine oC (cF Tryd.call79 (whole_c (n := ((1 : Nat) : Int)) g2.sat  (by omega) (by omega)) rfl ?_)
 intro r1 h1 w2 gr2 hr1
 obtain ⟨b3, c2, b4, c3, rfl, k2, k3, u1, u2⟩ := Qn.shape hr1
 refine mv ?_
 have g3 := g2.trans gr2
 refine oC (cF Tryd.call102 (foldM_c (q := ((((1 : Nat) : Int) : Int) : Rat)) (l := l) g3.sat hr1 (LR.mono pv0 gr2.le) (by first | omega | (simp only [bf_frK, frK_rat, wts_cons, wts_nil]; omega))) rfl ?_)
 intro r2 h2 w3 gr3 hr2
 obtain ⟨b5, c4, b6, c5, rfl, k4, k5, u3, u4⟩ := Qn.shape hr2
 have g4 := g3.trans gr3
 refine oC (cF Tryd.call74 (giveF_c (q := foldM ((((1 : Nat) : Int) : Int) : Rat) l) g4.sat hr2 (by omega)) rfl ?_)
 intro r3 h3 w4 gr4 hr3
 replace hr3 := Kf.weak (gr2.le.trans gr3.le) hr3
 obtain ⟨b7, c6, b8, c7, rfl, k6, k7, u5, u6⟩ := F.shape hr3.1
 have sf1 := Kf.sf hr3
 have o2 := gr4.kp (gr3.kp (gr2.kp ⟨o1, n1⟩))
 refine oC (sA (cs := [.bool ((frK (foldM ((((1 : Nat) : Int) : Int) : Rat) l)).neg), .slice b7 ((frK (foldM ((((1 : Nat) : Int) : Int) : Rat) l)).n.length) c6, .slice b8 ((frK (foldM ((((1 : Nat) : Int) : Int) : Rat) l)).d.length) c7]) Tryd.sizeOf24 rfl rfl rfl rfl o2.1 rfl ?_)
 intro w5 p1
 refine oN (Wp.ret (fin1_ret rfl (resOf_cellA (cs := [.bool ((frK (foldM ((((1 : Nat) : Int) : Int) : Rat) l)).neg), .slice b7 ((frK (foldM ((((1 : Nat) : Int) : Int) : Rat) l)).n.length) c6, .slice b8 ((frK (foldM ((((1 : Nat) : Int) : Int) : Rat) l)).d.length) c7]) Tryd.isAgg24 Tryd.sizeOf24 rfl p1.at_ (Nat.le_of_ble_eq_true rfl) rfl) ?_))
 have g5 := (g4.trans gr4).put p1 o2.2 lo2
 refine ⟨h3, g5, ?_⟩
 exact (show Kf _ _ _ (prodF l) from (Kf.mk (F.mk u5 u6) sf1.1 sf1.2))
theorem PowF_c {h : PH} {w : World} {v0 : Value} {a : Fr} {n : Int} (hs : Sat h w) (pv0 : F h v0 a) (hp0 : bf a ≤ 100000) (hp1 : -9223372036854775808 ≤ n) (hp2 : n ≤ 9223372036854775807) :
    Calls Tryd.prog 21 #[v0, .int .i64 n] w (Ret h w fun h' r => ∃ x1 x2, r = .tuple #[x1, x2] ∧ Kf h h' x1 (powQ a.rat n) ∧ x2 = .int .i64 (powE a.rat n)) := by
 obtain ⟨b1, c1, b2, c2, rfl, k1, k2, u1, u2⟩ := F.shape pv0
 have hbq1 := F.bq pv0
 have hbn := bf_n a
 have hbd := bf_d a
 have hbp := bf_pos a
 have hq1 := bq_num a.rat
 have hq2 := bq_den a.rat
 have hv1 := bq_num a.rat⁻¹
 have hv2 := bq_den a.rat⁻¹
 have hiv := bq_inv' a.rat
 refine calls_ear (vs := [.agg #[.bool a.neg, .slice b1 a.n.length c1, .slice b2 a.d.length c2], .int .i64 n]) Tryd.func21 rfl rfl ?_
 have g1 := Gr.refl hs
 refine sr (oC (OpW.boxK (v := .agg #[.bool a.neg, .slice b1 a.n.length c1, .slice b2 a.d.length c2]) (arr := #[.bool a.neg, .slice b1 a.n.length c1, .slice b2 a.d.length c2]) g1.sat rfl rfl ?_))
 intro b3 h1 w1 gr1 qb1
 have g2 := g1.trans gr1
 refine oC (OpW.allocO (arr := #[.bool false, .slice none 0 0, .slice none 0 0]) g2.sat Tryd.zeroValue24 rfl ?_)
 intro b4 w2 gr2 n1 lo1 o1
 have lo2 := Nat.le_trans g2.ext.size lo1
 refine ma (oN (wS (sr (Ops.cut (fun ρ' w' => w2 = w' ∧ ∃ ρb, ρ' = upds ρb [(1, .int .i64 n), (2, .pointer (some ⟨b3, 0, none⟩)), (4, .pointer (some ⟨b4, 0, none⟩)), (12, .bool ((decide (((4096 : Nat) : Int) < n)) || (decide (n < (-4096)))))]) ?_ ?_))))
 refine mv (oC (OpW.gtr (a := n) (b := ((4096 : Nat) : Int)) (r := decide (((4096 : Nat) : Int) < n)) rfl rfl rfl (mv ?_)))
 cases c3 : (decide (((4096 : Nat) : Int) < n))
 replace c3 : ¬ (((4096 : Nat) : Int) < n) := (of_decide_eq_false c3)
 refine oL rfl rfl rfl (OpW.move (v := .int .i64 n) rfl ?_)
 refine oL rfl rfl rfl (OpW.lss (a := n) (b := (-4096)) (r := decide (n < (-4096))) rfl rfl rfl ?_)
 refine oC (pF (v := .bool (decide (n < (-4096)))) rfl rfl (oN ?_))
 exact ⟨rfl, _, nm rfl⟩
 replace c3 : ((4096 : Nat) : Int) < n := (of_decide_eq_true c3)
 refine oD rfl rfl rfl rfl (oD rfl rfl rfl rfl (oC (pT (v := .bool true) rfl rfl (oN ?_))))
 exact ⟨rfl, _, nm rfl⟩
 rintro ρ1 w3 ⟨rfl, ρ2, rfl⟩
 refine Wp.cond (t := (decide (((4096 : Nat) : Int) < n)) || (decide (n < (-4096)))) rfl (fun c4 => ?_) (fun c4 => ?_)
 replace c4 : (((4096 : Nat) : Int) < n) ∨ (n < (-4096)) := ((or_t c4).imp (fun h => (of_decide_eq_true h)) (fun h => (of_decide_eq_true h)))
 refine sr (oC (OpW.build (places := [(0, 1), (1, 1), (2, 1)]) (cs := [.bool false, .slice none 0 0, .slice none 0 0]) Tryd.underlying24 Tryd.zeroValue24 (fun _ => by kernel_rfl) rfl ?_))
 refine oC (sA (cs := [.bool false, .slice none 0 0, .slice none 0 0]) Tryd.sizeOf24 rfl rfl rfl rfl o1 rfl ?_)
 intro w4 p1
 refine ma (oN (Wp.ret (fin2_ret rfl (resOf_cellA (cs := [.bool false, .slice none 0 0, .slice none 0 0]) Tryd.isAgg24 Tryd.sizeOf24 rfl p1.at_ (Nat.le_of_ble_eq_true rfl) rfl) (resOf_tmp (v := .int .i64 ((5 : Nat) : Int)) rfl) ?_)))
 have g3 := (g2.trans gr2).put p1 n1 lo2
 refine ⟨h1, g3, ?_⟩
 exact ⟨_, _, rfl, Kf.cast (by unfold powQ; rw [if_pos (by omega)]) (Kfz _ _), intv (by unfold powE; rw [if_pos (by omega)]; rfl)⟩
 replace c4 : ¬ ((((4096 : Nat) : Int) < n) ∨ (n < (-4096))) := (fun pq => pq.elim (of_decide_eq_false (or_l c4)) (of_decide_eq_false (or_r c4)))
 refine Wp.skip (sr ?_)
 have g4 := g2.trans gr2
 refine oC (lA (cs := [.bool a.neg, .slice b1 a.n.length c1, .slice b2 a.d.length c2]) Tryd.isAgg24 Tryd.sizeOf24 rfl (g4.sat _ _ qb1) rfl rfl ?_)
 refine oC (cF Tryd.call70 (take_c (f := a) g4.sat (F.mk (U.mono u1 gr1.le) (U.mono u2 gr1.le)) (by omega) (by omega)) rfl ?_)
 intro r1 h2 w5 gr3 hr1
 obtain ⟨b5, c5, b6, c6, rfl, k3, k4, u3, u4⟩ := Qn.shape hr1
 have g5 := g4.trans gr3
 have o4 := gr3.kp ⟨o1, n1⟩
 have lt1 := blk_lt o4.1
 refine oC (OpW.allocO (arr := #[.bool false, .slice none 0 0, .slice none 0 0]) g5.sat Tryd.zeroValue66 rfl ?_)
 intro b7 w6 gr4 n2 lo3 o3
 have lo4 := Nat.le_trans g5.ext.size lo3
 have ne1 : b4 ≠ b7 := Nat.ne_of_lt (Nat.lt_of_lt_of_le lt1 lo3)
 refine oC (sA (cs := [.bool (decide (a.rat.num < 0)), .slice b5 ((digs a.rat.num.natAbs).length) c5, .slice b6 ((digs a.rat.den).length) c6]) Tryd.sizeOf66 rfl rfl rfl rfl o3 rfl ?_)
 intro w7 p2
 refine oN (wS (sr (mv (oC (OpW.lss (a := n) (b := ((0 : Nat) : Int)) (r := decide (n < ((0 : Nat) : Int))) rfl rfl rfl (oN (Wp.cond (t := decide (n < ((0 : Nat) : Int))) rfl (fun c7 => ?_) (fun c7 => ?_))))))))
 replace c7 : n < ((0 : Nat) : Int) := (of_decide_eq_true c7)
 refine wS (sr (oC (lA (cs := [.bool (decide (a.rat.num < 0)), .slice b5 ((digs a.rat.num.natAbs).length) c5, .slice b6 ((digs a.rat.den).length) c6]) Tryd.isAgg66 Tryd.sizeOf66 rfl p2.at_ rfl rfl ?_)))
 have g6 := (g5.trans gr4).put p2 n2 lo4
 refine oC (cF Tryd.call71 (zero_c (q := a.rat) g6.sat (Qn.mk u3 u4 rfl rfl rfl) ) rfl ?_)
 intro r2 h3 w8 gr5 hr2
 subst hr2
 refine oN (Wp.cond (t := decide (a.rat = 0)) rfl (fun c8 => ?_) (fun c8 => ?_))
 replace c8 : a.rat = 0 := (of_decide_eq_true c8)
 refine wS (fg [(4, .pointer (some ⟨b4, 0, none⟩))] rfl (fun ρ3 => (wR (oC (OpW.build (places := [(0, 1), (1, 1), (2, 1)]) (cs := [.bool false, .slice none 0 0, .slice none 0 0]) Tryd.underlying24 Tryd.zeroValue24 (fun _ => by kernel_rfl) rfl ?_)))))
 have o6 := gr5.kp (p2.kp ne1 (gr4.kp o4))
 refine oC (sA (cs := [.bool false, .slice none 0 0, .slice none 0 0]) Tryd.sizeOf24 rfl rfl rfl rfl o6.1 rfl ?_)
 intro w9 p3
 refine ma (oN (Wp.ret (fin2_ret rfl (resOf_cellA (cs := [.bool false, .slice none 0 0, .slice none 0 0]) Tryd.isAgg24 Tryd.sizeOf24 rfl p3.at_ (Nat.le_of_ble_eq_true rfl) rfl) (resOf_tmp (v := .int .i64 ((3 : Nat) : Int)) rfl) ?_)))
 have g7 := (g6.trans gr5).put p3 o6.2 lo2
 refine ⟨h3, g7, ?_⟩
 exact ⟨_, _, rfl, Kf.cast (by unfold powQ; rw [if_neg (by omega), if_pos (by omega), (by assumption : a.rat = 0), Rat.inv_zero]; exact zpow0 (by omega)) (Kfz _ _), intv (by unfold powE; rw [if_neg (by omega), if_pos ⟨by omega, by assumption⟩]; rfl)⟩
 replace c8 : ¬ (a.rat = 0) := (of_decide_eq_false c8)
 obtain ⟨pn, rfl⟩ : ∃ x : Nat, n = -(x : Int) := ⟨(-n).toNat, by omega⟩
 have hsn := Nat.mul_le_mul (show pn ≤ 4096 by omega) (show sz a.rat⁻¹.num.natAbs ≤ 100000 by omega)
 have hsd := Nat.mul_le_mul (show pn ≤ 4096 by omega) (show sz a.rat⁻¹.den ≤ 100000 by omega)
 have hbp2 := bq_pow a.rat⁻¹ pn
 have hbp3 := Nat.mul_le_mul (show pn ≤ 4096 by omega) (show bq a.rat⁻¹ ≤ 100000 by omega)
 refine Wp.skip (fg [(1, .int .i64 (-((pn : Nat) : Int))), (4, .pointer (some ⟨b4, 0, none⟩)), (6, .pointer (some ⟨b7, 0, none⟩))] rfl (fun ρ4 => (wR ?_)))
 have o8 := gr5.kp ⟨p2.at_, n2⟩
 refine oC (lA (cs := [.bool (decide (a.rat.num < 0)), .slice b5 ((digs a.rat.num.natAbs).length) c5, .slice b6 ((digs a.rat.den).length) c6]) Tryd.isAgg66 Tryd.sizeOf66 rfl o8.1 rfl rfl ?_)
 have g8 := g6.trans gr5
 refine oC (cF Tryd.call72 (inverse_c (q := a.rat) g8.sat (Qn.mk (N.mono u3 gr5.le) (N.mono u4 gr5.le) rfl rfl rfl) (by omega)) rfl ?_)
 intro r3 h4 w10 gr6 hr3
 obtain ⟨b8, c9, b9, c10, rfl, k5, k6, u5, u6⟩ := Qn.shape hr3
 refine mv (oC (OpW.negI (a := (-((pn : Nat) : Int))) (r := ((pn : Nat) : Int)) rfl ((in_i64 (by omega)).trans (by omega)) ?_))
 have o9 := gr6.kp o8
 refine oC (sA (cs := [.bool (decide ((a.rat⁻¹).num < 0)), .slice b8 ((digs ((a.rat⁻¹).num.natAbs)).length) c9, .slice b9 ((digs ((a.rat⁻¹).den)).length) c10]) Tryd.sizeOf66 rfl rfl rfl rfl o9.1 rfl ?_)
 intro w11 p4
 refine ma (oN (wS ?_))
 cases c11 : (decide ((a.rat⁻¹).num < 0))
 have c12 : ¬ ((a.rat⁻¹).num < 0) := (of_decide_eq_false c11)
 have g9 := (g8.trans gr6).put p4 o9.2 lo4
 refine Wp.dagL 17 [25, 26, 27, 28, 29, 30, 31, 32, 33, 34, 35, 36, 37, 38, 39, 40, 41] [eqv (.pointer (some ⟨b7, 0, none⟩)), eqv (.bool (decide ((a.rat⁻¹).num < 0))), eqv (.bool (decide ((a.rat⁻¹).num < 0))), eqv undef, eqv undef, eqv undef, eqv (.bool false), eqv (.pointer (some ⟨b7, 1, none⟩)), eqv (.slice b8 ((digs ((a.rat⁻¹).num.natAbs)).length) c9), eqv (.int .i64 ((pn : Nat) : Int)), fun hq _ x => N hq x (((a.rat⁻¹).num.natAbs) ^ pn), eqv (.pointer (some ⟨b7, 2, none⟩)), eqv (.slice b9 ((digs ((a.rat⁻¹).den)).length) c10), eqv (.int .i64 ((pn : Nat) : Int)), fun hq _ x => N hq x (((a.rat⁻¹).den) ^ pn), fun hq _ x => ∃ b10z c13z b11z c14z, x = .agg #[.bool false, .slice b10z ((digs (((a.rat⁻¹).num.natAbs) ^ pn)).length) c13z, .slice b11z ((digs (((a.rat⁻¹).den) ^ pn)).length) c14z] ∧ N hq (.slice b10z ((digs (((a.rat⁻¹).num.natAbs) ^ pn)).length) c13z) (((a.rat⁻¹).num.natAbs) ^ pn) ∧ N hq (.slice b11z ((digs (((a.rat⁻¹).den) ^ pn)).length) c14z) (((a.rat⁻¹).den) ^ pn), fun hq _ x => Kf h hq x ((a.rat⁻¹) ^ pn)] mixed g9.sat rfl (by decide +kernel) ⟨sQ _, sQ _, sQ _, sQ _, sQ _, sQ _, sQ _, sQ _, sQ _, sQ _, (stab_N (((a.rat⁻¹).num.natAbs) ^ pn)), sQ _, sQ _, sQ _, (stab_N (((a.rat⁻¹).den) ^ pn)), (fun _ _ _ _ _ g ⟨_, _, _, _, e, f0, f1⟩ => ⟨_, _, _, _, e, N.mono f0 g.le, N.mono f1 g.le⟩), (stab_Kf _ ((a.rat⁻¹) ^ pn)), trivial⟩ ?_ ?_
 intro stab
 refine ⟨?_, ?_, ?_, ?_, ?_, ?_, ?_, ?_, ?_, ?_, ?_, ?_, ?_, ?_, ?_, ?_, ?_, trivial⟩
 intro ρ5 h5 w12 g10 hdd1 hdo1
 have e1 : ρ5 6 = .pointer (some ⟨b7, 0, none⟩) := hdo1 6 rfl
 refine gP (fA (o := 0) Tryd.underlying66 rfl Tryd.sizeOf4 (by decide) e1 rfl ?_)
 exact ⟨_, h5, rfl, g10, fun j x _ p => p, rfl⟩
 intro ρ6 h6 w13 g11 hdd2 hdo2
 have e2 : ρ6 25 = .pointer (some ⟨b7, 0, none⟩) := hdd2 0 (by decide)
 have o11 := g11.kp ⟨p4.at_, o9.2⟩
 refine gP (lO (v := .bool (decide ((a.rat⁻¹).num < 0))) Tryd.isAgg4 e2 o11.1 rfl ?_)
 exact ⟨_, h6, rfl, g11, fun j x _ p => p, rfl⟩
 intro ρ7 h7 w14 g12 hdd3 hdo3
 have e3 : ρ7 26 = .bool (decide ((a.rat⁻¹).num < 0)) := hdd3 1 (by decide)
 refine gP (OpW.move (v := .bool (decide ((a.rat⁻¹).num < 0))) e3 ?_)
 exact ⟨_, h7, rfl, g12, fun j x _ p => p, rfl⟩
 intro ρ8 h8 w15 g13 hdd4 hdo4
 have e4 : ρ8 27 = .bool (decide ((a.rat⁻¹).num < 0)) := hdd4 2 (by decide)
 refine OpG.dead (d := 27) (b' := false) ?_ ?_ ?_ ?_ ?_
 · rfl
 · rfl
 · exact (e4.trans (congrArg Value.bool c11))
 · rfl
 exact ⟨undef, h8, rfl, g13, fun j x _ p => p, rfl⟩
 intro ρ9 h9 w16 g14 hdd5 hdo5
 have e5 : ρ9 27 = .bool (decide ((a.rat⁻¹).num < 0)) := hdd5 2 (by decide)
 refine OpG.dead (d := 27) (b' := false) ?_ ?_ ?_ ?_ ?_
 · rfl
 · rfl
 · exact (e5.trans (congrArg Value.bool c11))
 · rfl
 exact ⟨undef, h9, rfl, g14, fun j x _ p => p, rfl⟩
 intro ρ10 h10 w17 g15 hdd6 hdo6
 have e6 : ρ10 27 = .bool (decide ((a.rat⁻¹).num < 0)) := hdd6 2 (by decide)
 refine OpG.dead (d := 27) (b' := false) ?_ ?_ ?_ ?_ ?_
 · rfl
 · rfl
 · exact (e6.trans (congrArg Value.bool c11))
 · rfl
 exact ⟨undef, h10, rfl, g15, fun j x _ p => p, rfl⟩
 intro ρ11 h11 w18 g16 hdd7 hdo7
 have e7 : ρ11 27 = .bool (decide ((a.rat⁻¹).num < 0)) := hdd7 2 (by decide)
 refine gP (pF (v := .bool false) (e7.trans (congrArg Value.bool c11)) rfl ?_)
 exact ⟨_, h11, rfl, g16, fun j x _ p => p, rfl⟩
 intro ρ12 h12 w19 g17 hdd8 hdo8
 have e8 : ρ12 6 = .pointer (some ⟨b7, 0, none⟩) := hdo8 6 rfl
 refine gP (fA (o := 1) Tryd.underlying66 rfl Tryd.sizeOf64 (by decide) e8 rfl ?_)
 exact ⟨_, h12, rfl, g17, fun j x _ p => p, rfl⟩
 intro ρ13 h13 w20 g18 hdd9 hdo9
 have e9 : ρ13 32 = .pointer (some ⟨b7, 1, none⟩) := hdd9 7 (by decide)
 have o12 := g18.kp ⟨p4.at_, o9.2⟩
 refine gP (lO (v := .slice b8 ((digs ((a.rat⁻¹).num.natAbs)).length) c9) Tryd.isAgg64 e9 o12.1 rfl ?_)
 exact ⟨_, h13, rfl, g18, fun j x _ p => p, rfl⟩
 intro ρ14 h14 w21 g19 hdd10 hdo10
 have e10 : ρ14 1 = .int .i64 ((pn : Nat) : Int) := hdo10 1 rfl
 refine gP (OpW.move (v := .int .i64 ((pn : Nat) : Int)) e10 ?_)
 exact ⟨_, h14, rfl, g19, fun j x _ p => p, rfl⟩
 intro ρ15 h15 w22 g20 hdd11 hdo11
 have e11 : ρ15 33 = .slice b8 ((digs ((a.rat⁻¹).num.natAbs)).length) c9 := hdd11 8 (by decide)
 have e12 : ρ15 34 = .int .i64 ((pn : Nat) : Int) := hdd11 9 (by decide)
 have g21 := g9.trans g20
 refine gP (cF Tryd.call73 (power_c (a := (a.rat⁻¹).num.natAbs) (n := pn) g21.sat (N.mono u5 g20.le) (by omega) (by omega)) (cx e11 (cx e12 cxn)) ?_)
 intro r4 h16 w23 gr7 hr4
 exact ⟨r4, h16, rfl, g20.trans gr7, fun j x _ => stab j _ _ _ _ x gr7, hr4⟩
 intro ρ16 h17 w24 g22 hdd12 hdo12
 have e13 : ρ16 6 = .pointer (some ⟨b7, 0, none⟩) := hdo12 6 rfl
 refine gP (fA (o := 2) Tryd.underlying66 rfl Tryd.sizeOf64 (by decide) e13 rfl ?_)
 exact ⟨_, h17, rfl, g22, fun j x _ p => p, rfl⟩
 intro ρ17 h18 w25 g23 hdd13 hdo13
 have e14 : ρ17 36 = .pointer (some ⟨b7, 2, none⟩) := hdd13 11 (by decide)
 have o13 := g23.kp ⟨p4.at_, o9.2⟩
 refine gP (lO (v := .slice b9 ((digs ((a.rat⁻¹).den)).length) c10) Tryd.isAgg64 e14 o13.1 rfl ?_)
 exact ⟨_, h18, rfl, g23, fun j x _ p => p, rfl⟩
 intro ρ18 h19 w26 g24 hdd14 hdo14
 have e15 : ρ18 1 = .int .i64 ((pn : Nat) : Int) := hdo14 1 rfl
 refine gP (OpW.move (v := .int .i64 ((pn : Nat) : Int)) e15 ?_)
 exact ⟨_, h19, rfl, g24, fun j x _ p => p, rfl⟩
 intro ρ19 h20 w27 g25 hdd15 hdo15
 have e16 : ρ19 37 = .slice b9 ((digs ((a.rat⁻¹).den)).length) c10 := hdd15 12 (by decide)
 have e17 : ρ19 38 = .int .i64 ((pn : Nat) : Int) := hdd15 13 (by decide)
 have g26 := g9.trans g25
 refine gP (cF Tryd.call73 (power_c (a := (a.rat⁻¹).den) (n := pn) g26.sat (N.mono u6 g25.le) (by omega) (by omega)) (cx e16 (cx e17 cxn)) ?_)
 intro r5 h21 w28 gr8 hr5
 exact ⟨r5, h21, rfl, g25.trans gr8, fun j x _ => stab j _ _ _ _ x gr8, hr5⟩
 intro ρ20 h22 w29 g27 hdd16 hdo16
 have e18 : ρ20 31 = .bool false := hdd16 6 (by decide)
 have q1 : N h22 (ρ20 35) (((a.rat⁻¹).num.natAbs) ^ pn) := hdd16 10 (by decide)
 obtain ⟨x3, hx1⟩ : ∃ x, ρ20 35 = x := ⟨_, rfl⟩
 rw [hx1] at q1
 obtain ⟨b10, c13, rfl, k7⟩ := N.shape q1
 have q2 : N h22 (ρ20 39) (((a.rat⁻¹).den) ^ pn) := hdd16 14 (by decide)
 obtain ⟨x4, hx2⟩ : ∃ x, ρ20 39 = x := ⟨_, rfl⟩
 rw [hx2] at q2
 obtain ⟨b11, c14, rfl, k8⟩ := N.shape q2
 refine gP (OpW.build (places := [(0, 1), (1, 1), (2, 1)]) (cs := [.bool false, .slice b10 ((digs (((a.rat⁻¹).num.natAbs) ^ pn)).length) c13, .slice b11 ((digs (((a.rat⁻¹).den) ^ pn)).length) c14]) Tryd.underlying66 Tryd.zeroValue66 (fun _ => by kernel_rfl) (by show Instr.fill _ _ [(0, ρ20 31), (1, ρ20 35), (2, ρ20 39)] = _; rw [e18, hx1, hx2]; rfl) ?_)
 exact ⟨_, h22, rfl, g27, fun j x _ p => p, ⟨_, _, _, _, rfl, q1, q2⟩⟩
 intro ρ21 h23 w30 g28 hdd17 hdo17
 have q3 : ∃ b10z c13z b11z c14z, (ρ21 40) = .agg #[.bool false, .slice b10z ((digs (((a.rat⁻¹).num.natAbs) ^ pn)).length) c13z, .slice b11z ((digs (((a.rat⁻¹).den) ^ pn)).length) c14z] ∧ N h23 (.slice b10z ((digs (((a.rat⁻¹).num.natAbs) ^ pn)).length) c13z) (((a.rat⁻¹).num.natAbs) ^ pn) ∧ N h23 (.slice b11z ((digs (((a.rat⁻¹).den) ^ pn)).length) c14z) (((a.rat⁻¹).den) ^ pn) := hdd17 15 (by decide)
 obtain ⟨b12, c15, b13, c16, e19, q4, q5⟩ := q3
 have e19 : ρ21 40 = .agg #[.bool false, .slice b12 ((digs (((a.rat⁻¹).num.natAbs) ^ pn)).length) c15, .slice b13 ((digs (((a.rat⁻¹).den) ^ pn)).length) c16] := e19
 have g29 := g9.trans g28
 refine gP (cF Tryd.call74 (giveF_c (q := (a.rat⁻¹) ^ pn) g29.sat (Qn.mk q4 q5 (by rw [← pow_sign]; first | (rw [eq_comm, Bool.and_eq_false_iff, decide_eq_false_iff_not, decide_eq_false_iff_not]; first | (left; assumption) | (right; omega)) | (simp_all; done) | (simp_all; intro _; omega)) (pow_abs (a.rat⁻¹) pn) (den_pow (a.rat⁻¹) pn).symm) (by omega)) (cx e19 cxn) ?_)
 intro r6 h24 w31 gr9 hr6
 replace hr6 := Kf.weak ((((gr1.le.trans gr3.le).trans gr5.le).trans gr6.le).trans g28.le) hr6
 exact ⟨r6, h24, rfl, g28.trans gr9, fun j x _ => stab j _ _ _ _ x gr9, hr6⟩
 intro ρ22 h25 w32 g30 hdp1 hdo18
 have e20 : ρ22 4 = .pointer (some ⟨b4, 0, none⟩) := hdo18 4 rfl
 have q6 : Kf h h25 (ρ22 41) ((a.rat⁻¹) ^ pn) := hdp1 16 rfl
 obtain ⟨x5, hx3⟩ : ∃ x, ρ22 41 = x := ⟨_, rfl⟩
 rw [hx3] at q6
 obtain ⟨b14, c17, b15, c18, rfl, k9, k10, u7, u8⟩ := F.shape q6.1
 have sf1 := Kf.sf q6
 refine Ops.forget [(4, .pointer (some ⟨b4, 0, none⟩)), (41, .agg #[.bool ((frK ((a.rat⁻¹) ^ pn)).neg), .slice b14 ((frK ((a.rat⁻¹) ^ pn)).n.length) c17, .slice b15 ((frK ((a.rat⁻¹) ^ pn)).d.length) c18])] ⟨e20, hx3, trivial⟩ (fun ρ23 => ?_)
 have o14 := g30.kp (p4.kp ne1 (gr6.kp (gr5.kp (p2.kp ne1 (gr4.kp o4)))))
 refine oC (sA (cs := [.bool ((frK ((a.rat⁻¹) ^ pn)).neg), .slice b14 ((frK ((a.rat⁻¹) ^ pn)).n.length) c17, .slice b15 ((frK ((a.rat⁻¹) ^ pn)).d.length) c18]) Tryd.sizeOf24 rfl rfl rfl rfl o14.1 rfl ?_)
 intro w33 p5
 refine ma (oN (Wp.ret (fin2_ret rfl (resOf_cellA (cs := [.bool ((frK ((a.rat⁻¹) ^ pn)).neg), .slice b14 ((frK ((a.rat⁻¹) ^ pn)).n.length) c17, .slice b15 ((frK ((a.rat⁻¹) ^ pn)).d.length) c18]) Tryd.isAgg24 Tryd.sizeOf24 rfl p5.at_ (Nat.le_of_ble_eq_true rfl) rfl) (resOf_tmp (v := .int .i64 ((0 : Nat) : Int)) rfl) ?_)))
 have g31 := (g9.trans g30).put p5 o14.2 lo2
 refine ⟨h25, g31, ?_⟩
 exact ⟨_, _, rfl, (Kf.cast (by unfold powQ; rw [if_neg (by omega)]; first | (rw [if_pos (by omega)]; simp; done) | (rw [if_neg (by omega)]; simp; done) | (simp; omega)) (Kf.mk (F.mk u7 u8) sf1.1 sf1.2)), (intv (by unfold powE; rw [if_neg (by omega), if_neg (by first | omega | (intro hh; exact absurd hh.2 (by assumption)))]; rfl))⟩
 have c19 : (a.rat⁻¹).num < 0 := (of_decide_eq_true c11)
 have g32 := (g8.trans gr6).put p4 o9.2 lo4
 refine Wp.dagL 17 [25, 26, 27, 28, 29, 30, 31, 32, 33, 34, 35, 36, 37, 38, 39, 40, 41] [eqv (.pointer (some ⟨b7, 0, none⟩)), eqv (.bool (decide ((a.rat⁻¹).num < 0))), eqv (.bool (decide ((a.rat⁻¹).num < 0))), eqv (.int .i64 ((pn : Nat) : Int)), eqv (.int .i64 ((pn % 2 : Nat) : Int)), eqv (.bool (decide (pn % 2 = 1))), eqv (.bool (decide (pn % 2 = 1))), eqv (.pointer (some ⟨b7, 1, none⟩)), eqv (.slice b8 ((digs ((a.rat⁻¹).num.natAbs)).length) c9), eqv (.int .i64 ((pn : Nat) : Int)), fun hq _ x => N hq x (((a.rat⁻¹).num.natAbs) ^ pn), eqv (.pointer (some ⟨b7, 2, none⟩)), eqv (.slice b9 ((digs ((a.rat⁻¹).den)).length) c10), eqv (.int .i64 ((pn : Nat) : Int)), fun hq _ x => N hq x (((a.rat⁻¹).den) ^ pn), fun hq _ x => ∃ b16z c20z b17z c21z, x = .agg #[.bool (decide (pn % 2 = 1)), .slice b16z ((digs (((a.rat⁻¹).num.natAbs) ^ pn)).length) c20z, .slice b17z ((digs (((a.rat⁻¹).den) ^ pn)).length) c21z] ∧ N hq (.slice b16z ((digs (((a.rat⁻¹).num.natAbs) ^ pn)).length) c20z) (((a.rat⁻¹).num.natAbs) ^ pn) ∧ N hq (.slice b17z ((digs (((a.rat⁻¹).den) ^ pn)).length) c21z) (((a.rat⁻¹).den) ^ pn), fun hq _ x => Kf h hq x ((a.rat⁻¹) ^ pn)] mixed g32.sat rfl (by decide +kernel) ⟨sQ _, sQ _, sQ _, sQ _, sQ _, sQ _, sQ _, sQ _, sQ _, sQ _, (stab_N (((a.rat⁻¹).num.natAbs) ^ pn)), sQ _, sQ _, sQ _, (stab_N (((a.rat⁻¹).den) ^ pn)), (fun _ _ _ _ _ g ⟨_, _, _, _, e, f0, f1⟩ => ⟨_, _, _, _, e, N.mono f0 g.le, N.mono f1 g.le⟩), (stab_Kf _ ((a.rat⁻¹) ^ pn)), trivial⟩ ?_ ?_
 intro stab
 refine ⟨?_, ?_, ?_, ?_, ?_, ?_, ?_, ?_, ?_, ?_, ?_, ?_, ?_, ?_, ?_, ?_, ?_, trivial⟩
 intro ρ24 h26 w34 g33 hdd18 hdo19
 have e21 : ρ24 6 = .pointer (some ⟨b7, 0, none⟩) := hdo19 6 rfl
 refine gP (fA (o := 0) Tryd.underlying66 rfl Tryd.sizeOf4 (by decide) e21 rfl ?_)
 exact ⟨_, h26, rfl, g33, fun j x _ p => p, rfl⟩
 intro ρ25 h27 w35 g34 hdd19 hdo20
 have e22 : ρ25 25 = .pointer (some ⟨b7, 0, none⟩) := hdd19 0 (by decide)
 have o16 := g34.kp ⟨p4.at_, o9.2⟩
 refine gP (lO (v := .bool (decide ((a.rat⁻¹).num < 0))) Tryd.isAgg4 e22 o16.1 rfl ?_)
 exact ⟨_, h27, rfl, g34, fun j x _ p => p, rfl⟩
 intro ρ26 h28 w36 g35 hdd20 hdo21
 have e23 : ρ26 26 = .bool (decide ((a.rat⁻¹).num < 0)) := hdd20 1 (by decide)
 refine gP (OpW.move (v := .bool (decide ((a.rat⁻¹).num < 0))) e23 ?_)
 exact ⟨_, h28, rfl, g35, fun j x _ p => p, rfl⟩
 intro ρ27 h29 w37 g36 hdd21 hdo22
 have e24 : ρ27 1 = .int .i64 ((pn : Nat) : Int) := hdo22 1 rfl
 have e25 : ρ27 27 = .bool (decide ((a.rat⁻¹).num < 0)) := hdd21 2 (by decide)
 refine gL (d := 27) (b := true) ?_ ?_ ?_ ?_
 · rfl
 · rfl
 · exact (e25.trans (congrArg Value.bool c11))
 refine (OpW.move (v := .int .i64 ((pn : Nat) : Int)) e24 ?_)
 exact ⟨_, h29, rfl, g36, fun j x _ p => p, rfl⟩
 intro ρ28 h30 w38 g37 hdd22 hdo23
 have e26 : ρ28 27 = .bool (decide ((a.rat⁻¹).num < 0)) := hdd22 2 (by decide)
 have e27 : ρ28 28 = .int .i64 ((pn : Nat) : Int) := hdd22 3 (by decide)
 refine gL (d := 27) (b := true) ?_ ?_ ?_ ?_
 · rfl
 · rfl
 · exact (e26.trans (congrArg Value.bool c11))
 refine (OpW.rem (a := ((pn : Nat) : Int)) (b := ((2 : Nat) : Int)) (r := ((pn % 2 : Nat) : Int)) e27 rfl (by decide) rem_nat ?_)
 exact ⟨_, h30, rfl, g37, fun j x _ p => p, rfl⟩
 intro ρ29 h31 w39 g38 hdd23 hdo24
 have e28 : ρ29 27 = .bool (decide ((a.rat⁻¹).num < 0)) := hdd23 2 (by decide)
 have e29 : ρ29 29 = .int .i64 ((pn % 2 : Nat) : Int) := hdd23 4 (by decide)
 refine gL (d := 27) (b := true) ?_ ?_ ?_ ?_
 · rfl
 · rfl
 · exact (e28.trans (congrArg Value.bool c11))
 refine (OpW.eqlI (a := ((pn % 2 : Nat) : Int)) (b := ((1 : Nat) : Int)) (r := decide (pn % 2 = 1)) e29 rfl (eq_nat (a := pn % 2) (b := 1)) ?_)
 exact ⟨_, h31, rfl, g38, fun j x _ p => p, rfl⟩
 intro ρ30 h32 w40 g39 hdd24 hdo25
 have e30 : ρ30 27 = .bool (decide ((a.rat⁻¹).num < 0)) := hdd24 2 (by decide)
 have e31 : ρ30 30 = .bool (decide (pn % 2 = 1)) := hdd24 5 (by decide)
 refine gP (pT (v := .bool (decide (pn % 2 = 1))) (e30.trans (congrArg Value.bool c11)) e31 ?_)
 exact ⟨_, h32, rfl, g39, fun j x _ p => p, rfl⟩
 intro ρ31 h33 w41 g40 hdd25 hdo26
 have e32 : ρ31 6 = .pointer (some ⟨b7, 0, none⟩) := hdo26 6 rfl
 refine gP (fA (o := 1) Tryd.underlying66 rfl Tryd.sizeOf64 (by decide) e32 rfl ?_)
 exact ⟨_, h33, rfl, g40, fun j x _ p => p, rfl⟩
 intro ρ32 h34 w42 g41 hdd26 hdo27
 have e33 : ρ32 32 = .pointer (some ⟨b7, 1, none⟩) := hdd26 7 (by decide)
 have o17 := g41.kp ⟨p4.at_, o9.2⟩
 refine gP (lO (v := .slice b8 ((digs ((a.rat⁻¹).num.natAbs)).length) c9) Tryd.isAgg64 e33 o17.1 rfl ?_)
 exact ⟨_, h34, rfl, g41, fun j x _ p => p, rfl⟩
 intro ρ33 h35 w43 g42 hdd27 hdo28
 have e34 : ρ33 1 = .int .i64 ((pn : Nat) : Int) := hdo28 1 rfl
 refine gP (OpW.move (v := .int .i64 ((pn : Nat) : Int)) e34 ?_)
 exact ⟨_, h35, rfl, g42, fun j x _ p => p, rfl⟩
 intro ρ34 h36 w44 g43 hdd28 hdo29
 have e35 : ρ34 33 = .slice b8 ((digs ((a.rat⁻¹).num.natAbs)).length) c9 := hdd28 8 (by decide)
 have e36 : ρ34 34 = .int .i64 ((pn : Nat) : Int) := hdd28 9 (by decide)
 have g44 := g32.trans g43
 refine gP (cF Tryd.call73 (power_c (a := (a.rat⁻¹).num.natAbs) (n := pn) g44.sat (N.mono u5 g43.le) (by omega) (by omega)) (cx e35 (cx e36 cxn)) ?_)
 intro r7 h37 w45 gr10 hr7
 exact ⟨r7, h37, rfl, g43.trans gr10, fun j x _ => stab j _ _ _ _ x gr10, hr7⟩
 intro ρ35 h38 w46 g45 hdd29 hdo30
 have e37 : ρ35 6 = .pointer (some ⟨b7, 0, none⟩) := hdo30 6 rfl
 refine gP (fA (o := 2) Tryd.underlying66 rfl Tryd.sizeOf64 (by decide) e37 rfl ?_)
 exact ⟨_, h38, rfl, g45, fun j x _ p => p, rfl⟩
 intro ρ36 h39 w47 g46 hdd30 hdo31
 have e38 : ρ36 36 = .pointer (some ⟨b7, 2, none⟩) := hdd30 11 (by decide)
 have o18 := g46.kp ⟨p4.at_, o9.2⟩
 refine gP (lO (v := .slice b9 ((digs ((a.rat⁻¹).den)).length) c10) Tryd.isAgg64 e38 o18.1 rfl ?_)
 exact ⟨_, h39, rfl, g46, fun j x _ p => p, rfl⟩
 intro ρ37 h40 w48 g47 hdd31 hdo32
 have e39 : ρ37 1 = .int .i64 ((pn : Nat) : Int) := hdo32 1 rfl
 refine gP (OpW.move (v := .int .i64 ((pn : Nat) : Int)) e39 ?_)
 exact ⟨_, h40, rfl, g47, fun j x _ p => p, rfl⟩
 intro ρ38 h41 w49 g48 hdd32 hdo33
 have e40 : ρ38 37 = .slice b9 ((digs ((a.rat⁻¹).den)).length) c10 := hdd32 12 (by decide)
 have e41 : ρ38 38 = .int .i64 ((pn : Nat) : Int) := hdd32 13 (by decide)
 have g49 := g32.trans g48
 refine gP (cF Tryd.call73 (power_c (a := (a.rat⁻¹).den) (n := pn) g49.sat (N.mono u6 g48.le) (by omega) (by omega)) (cx e40 (cx e41 cxn)) ?_)
 intro r8 h42 w50 gr11 hr8
 exact ⟨r8, h42, rfl, g48.trans gr11, fun j x _ => stab j _ _ _ _ x gr11, hr8⟩
 intro ρ39 h43 w51 g50 hdd33 hdo34
 have e42 : ρ39 31 = .bool (decide (pn % 2 = 1)) := hdd33 6 (by decide)
 have q7 : N h43 (ρ39 35) (((a.rat⁻¹).num.natAbs) ^ pn) := hdd33 10 (by decide)
 obtain ⟨x6, hx4⟩ : ∃ x, ρ39 35 = x := ⟨_, rfl⟩
 rw [hx4] at q7
 obtain ⟨b16, c20, rfl, k11⟩ := N.shape q7
 have q8 : N h43 (ρ39 39) (((a.rat⁻¹).den) ^ pn) := hdd33 14 (by decide)
 obtain ⟨x7, hx5⟩ : ∃ x, ρ39 39 = x := ⟨_, rfl⟩
 rw [hx5] at q8
 obtain ⟨b17, c21, rfl, k12⟩ := N.shape q8
 refine gP (OpW.build (places := [(0, 1), (1, 1), (2, 1)]) (cs := [.bool (decide (pn % 2 = 1)), .slice b16 ((digs (((a.rat⁻¹).num.natAbs) ^ pn)).length) c20, .slice b17 ((digs (((a.rat⁻¹).den) ^ pn)).length) c21]) Tryd.underlying66 Tryd.zeroValue66 (fun _ => by kernel_rfl) (by show Instr.fill _ _ [(0, ρ39 31), (1, ρ39 35), (2, ρ39 39)] = _; rw [e42, hx4, hx5]; rfl) ?_)
 exact ⟨_, h43, rfl, g50, fun j x _ p => p, ⟨_, _, _, _, rfl, q7, q8⟩⟩
 intro ρ40 h44 w52 g51 hdd34 hdo35
 have q9 : ∃ b16z c20z b17z c21z, (ρ40 40) = .agg #[.bool (decide (pn % 2 = 1)), .slice b16z ((digs (((a.rat⁻¹).num.natAbs) ^ pn)).length) c20z, .slice b17z ((digs (((a.rat⁻¹).den) ^ pn)).length) c21z] ∧ N h44 (.slice b16z ((digs (((a.rat⁻¹).num.natAbs) ^ pn)).length) c20z) (((a.rat⁻¹).num.natAbs) ^ pn) ∧ N h44 (.slice b17z ((digs (((a.rat⁻¹).den) ^ pn)).length) c21z) (((a.rat⁻¹).den) ^ pn) := hdd34 15 (by decide)
 obtain ⟨b18, c22, b19, c23, e43, q10, q11⟩ := q9
 have e43 : ρ40 40 = .agg #[.bool (decide (pn % 2 = 1)), .slice b18 ((digs (((a.rat⁻¹).num.natAbs) ^ pn)).length) c22, .slice b19 ((digs (((a.rat⁻¹).den) ^ pn)).length) c23] := e43
 have g52 := g32.trans g51
 refine gP (cF Tryd.call74 (giveF_c (q := (a.rat⁻¹) ^ pn) g52.sat (Qn.mk q10 q11 (by rw [← pow_sign]; first | (rw [eq_comm, Bool.and_eq_false_iff, decide_eq_false_iff_not, decide_eq_false_iff_not]; first | (left; assumption) | (right; omega)) | (simp_all; done) | (simp_all; intro _; omega)) (pow_abs (a.rat⁻¹) pn) (den_pow (a.rat⁻¹) pn).symm) (by omega)) (cx e43 cxn) ?_)
 intro r9 h45 w53 gr12 hr9
 replace hr9 := Kf.weak ((((gr1.le.trans gr3.le).trans gr5.le).trans gr6.le).trans g51.le) hr9
 exact ⟨r9, h45, rfl, g51.trans gr12, fun j x _ => stab j _ _ _ _ x gr12, hr9⟩
 intro ρ41 h46 w54 g53 hdp2 hdo36
 have e44 : ρ41 4 = .pointer (some ⟨b4, 0, none⟩) := hdo36 4 rfl
 have q12 : Kf h h46 (ρ41 41) ((a.rat⁻¹) ^ pn) := hdp2 16 rfl
 obtain ⟨x8, hx6⟩ : ∃ x, ρ41 41 = x := ⟨_, rfl⟩
 rw [hx6] at q12
 obtain ⟨b20, c24, b21, c25, rfl, k13, k14, u9, u10⟩ := F.shape q12.1
 have sf2 := Kf.sf q12
 refine Ops.forget [(4, .pointer (some ⟨b4, 0, none⟩)), (41, .agg #[.bool ((frK ((a.rat⁻¹) ^ pn)).neg), .slice b20 ((frK ((a.rat⁻¹) ^ pn)).n.length) c24, .slice b21 ((frK ((a.rat⁻¹) ^ pn)).d.length) c25])] ⟨e44, hx6, trivial⟩ (fun ρ42 => ?_)
 have o19 := g53.kp (p4.kp ne1 (gr6.kp (gr5.kp (p2.kp ne1 (gr4.kp o4)))))
 refine oC (sA (cs := [.bool ((frK ((a.rat⁻¹) ^ pn)).neg), .slice b20 ((frK ((a.rat⁻¹) ^ pn)).n.length) c24, .slice b21 ((frK ((a.rat⁻¹) ^ pn)).d.length) c25]) Tryd.sizeOf24 rfl rfl rfl rfl o19.1 rfl ?_)
 intro w55 p6
 refine ma (oN (Wp.ret (fin2_ret rfl (resOf_cellA (cs := [.bool ((frK ((a.rat⁻¹) ^ pn)).neg), .slice b20 ((frK ((a.rat⁻¹) ^ pn)).n.length) c24, .slice b21 ((frK ((a.rat⁻¹) ^ pn)).d.length) c25]) Tryd.isAgg24 Tryd.sizeOf24 rfl p6.at_ (Nat.le_of_ble_eq_true rfl) rfl) (resOf_tmp (v := .int .i64 ((0 : Nat) : Int)) rfl) ?_)))
 have g54 := (g32.trans g53).put p6 o19.2 lo2
 refine ⟨h46, g54, ?_⟩
 exact ⟨_, _, rfl, (Kf.cast (by unfold powQ; rw [if_neg (by omega)]; first | (rw [if_pos (by omega)]; simp; done) | (rw [if_neg (by omega)]; simp; done) | (simp; omega)) (Kf.mk (F.mk u9 u10) sf2.1 sf2.2)), (intv (by unfold powE; rw [if_neg (by omega), if_neg (by first | omega | (intro hh; exact absurd hh.2 (by assumption)))]; rfl))⟩
 replace c7 : ¬ (n < ((0 : Nat) : Int)) := (of_decide_eq_false c7)
 obtain ⟨pn, rfl⟩ : ∃ x : Nat, n = (x : Int) := ⟨n.toNat, by omega⟩
 have hsn := Nat.mul_le_mul (show pn ≤ 4096 by omega) (show sz a.rat.num.natAbs ≤ 100000 by omega)
 have hsd := Nat.mul_le_mul (show pn ≤ 4096 by omega) (show sz a.rat.den ≤ 100000 by omega)
 have hbp2 := bq_pow a.rat pn
 have hbp3 := Nat.mul_le_mul (show pn ≤ 4096 by omega) (show bq a.rat ≤ 100000 by omega)
 refine Wp.skip (wS ?_)
 cases c26 : (decide (a.rat.num < 0))
 have c27 : ¬ (a.rat.num < 0) := (of_decide_eq_false c26)
 have g55 := (g5.trans gr4).put p2 n2 lo4
 refine Wp.dagL 17 [25, 26, 27, 28, 29, 30, 31, 32, 33, 34, 35, 36, 37, 38, 39, 40, 41] [eqv (.pointer (some ⟨b7, 0, none⟩)), eqv (.bool (decide (a.rat.num < 0))), eqv (.bool (decide (a.rat.num < 0))), eqv undef, eqv undef, eqv undef, eqv (.bool false), eqv (.pointer (some ⟨b7, 1, none⟩)), eqv (.slice b5 ((digs a.rat.num.natAbs).length) c5), eqv (.int .i64 ((pn : Nat) : Int)), fun hq _ x => N hq x (a.rat.num.natAbs ^ pn), eqv (.pointer (some ⟨b7, 2, none⟩)), eqv (.slice b6 ((digs a.rat.den).length) c6), eqv (.int .i64 ((pn : Nat) : Int)), fun hq _ x => N hq x (a.rat.den ^ pn), fun hq _ x => ∃ b22z c28z b23z c29z, x = .agg #[.bool false, .slice b22z ((digs (a.rat.num.natAbs ^ pn)).length) c28z, .slice b23z ((digs (a.rat.den ^ pn)).length) c29z] ∧ N hq (.slice b22z ((digs (a.rat.num.natAbs ^ pn)).length) c28z) (a.rat.num.natAbs ^ pn) ∧ N hq (.slice b23z ((digs (a.rat.den ^ pn)).length) c29z) (a.rat.den ^ pn), fun hq _ x => Kf h hq x (a.rat ^ pn)] mixed g55.sat rfl (by decide +kernel) ⟨sQ _, sQ _, sQ _, sQ _, sQ _, sQ _, sQ _, sQ _, sQ _, sQ _, (stab_N (a.rat.num.natAbs ^ pn)), sQ _, sQ _, sQ _, (stab_N (a.rat.den ^ pn)), (fun _ _ _ _ _ g ⟨_, _, _, _, e, f0, f1⟩ => ⟨_, _, _, _, e, N.mono f0 g.le, N.mono f1 g.le⟩), (stab_Kf _ (a.rat ^ pn)), trivial⟩ ?_ ?_
 intro stab
 refine ⟨?_, ?_, ?_, ?_, ?_, ?_, ?_, ?_, ?_, ?_, ?_, ?_, ?_, ?_, ?_, ?_, ?_, trivial⟩
 intro ρ43 h47 w56 g56 hdd35 hdo37
 have e45 : ρ43 6 = .pointer (some ⟨b7, 0, none⟩) := hdo37 6 rfl
 refine gP (fA (o := 0) Tryd.underlying66 rfl Tryd.sizeOf4 (by decide) e45 rfl ?_)
 exact ⟨_, h47, rfl, g56, fun j x _ p => p, rfl⟩
 intro ρ44 h48 w57 g57 hdd36 hdo38
 have e46 : ρ44 25 = .pointer (some ⟨b7, 0, none⟩) := hdd36 0 (by decide)
 have o21 := g57.kp ⟨p2.at_, n2⟩
 refine gP (lO (v := .bool (decide (a.rat.num < 0))) Tryd.isAgg4 e46 o21.1 rfl ?_)
 exact ⟨_, h48, rfl, g57, fun j x _ p => p, rfl⟩
 intro ρ45 h49 w58 g58 hdd37 hdo39
 have e47 : ρ45 26 = .bool (decide (a.rat.num < 0)) := hdd37 1 (by decide)
 refine gP (OpW.move (v := .bool (decide (a.rat.num < 0))) e47 ?_)
 exact ⟨_, h49, rfl, g58, fun j x _ p => p, rfl⟩
 intro ρ46 h50 w59 g59 hdd38 hdo40
 have e48 : ρ46 27 = .bool (decide (a.rat.num < 0)) := hdd38 2 (by decide)
 refine OpG.dead (d := 27) (b' := false) ?_ ?_ ?_ ?_ ?_
 · rfl
 · rfl
 · exact (e48.trans (congrArg Value.bool c26))
 · rfl
 exact ⟨undef, h50, rfl, g59, fun j x _ p => p, rfl⟩
 intro ρ47 h51 w60 g60 hdd39 hdo41
 have e49 : ρ47 27 = .bool (decide (a.rat.num < 0)) := hdd39 2 (by decide)
 refine OpG.dead (d := 27) (b' := false) ?_ ?_ ?_ ?_ ?_
 · rfl
 · rfl
 · exact (e49.trans (congrArg Value.bool c26))
 · rfl
 exact ⟨undef, h51, rfl, g60, fun j x _ p => p, rfl⟩
 intro ρ48 h52 w61 g61 hdd40 hdo42
 have e50 : ρ48 27 = .bool (decide (a.rat.num < 0)) := hdd40 2 (by decide)
 refine OpG.dead (d := 27) (b' := false) ?_ ?_ ?_ ?_ ?_
 · rfl
 · rfl
 · exact (e50.trans (congrArg Value.bool c26))
 · rfl
 exact ⟨undef, h52, rfl, g61, fun j x _ p => p, rfl⟩
 intro ρ49 h53 w62 g62 hdd41 hdo43
 have e51 : ρ49 27 = .bool (decide (a.rat.num < 0)) := hdd41 2 (by decide)
 refine gP (pF (v := .bool false) (e51.trans (congrArg Value.bool c26)) rfl ?_)
 exact ⟨_, h53, rfl, g62, fun j x _ p => p, rfl⟩
 intro ρ50 h54 w63 g63 hdd42 hdo44
 have e52 : ρ50 6 = .pointer (some ⟨b7, 0, none⟩) := hdo44 6 rfl
 refine gP (fA (o := 1) Tryd.underlying66 rfl Tryd.sizeOf64 (by decide) e52 rfl ?_)
 exact ⟨_, h54, rfl, g63, fun j x _ p => p, rfl⟩
 intro ρ51 h55 w64 g64 hdd43 hdo45
 have e53 : ρ51 32 = .pointer (some ⟨b7, 1, none⟩) := hdd43 7 (by decide)
 have o22 := g64.kp ⟨p2.at_, n2⟩
 refine gP (lO (v := .slice b5 ((digs a.rat.num.natAbs).length) c5) Tryd.isAgg64 e53 o22.1 rfl ?_)
 exact ⟨_, h55, rfl, g64, fun j x _ p => p, rfl⟩
 intro ρ52 h56 w65 g65 hdd44 hdo46
 have e54 : ρ52 1 = .int .i64 ((pn : Nat) : Int) := hdo46 1 rfl
 refine gP (OpW.move (v := .int .i64 ((pn : Nat) : Int)) e54 ?_)
 exact ⟨_, h56, rfl, g65, fun j x _ p => p, rfl⟩
 intro ρ53 h57 w66 g66 hdd45 hdo47
 have e55 : ρ53 33 = .slice b5 ((digs a.rat.num.natAbs).length) c5 := hdd45 8 (by decide)
 have e56 : ρ53 34 = .int .i64 ((pn : Nat) : Int) := hdd45 9 (by decide)
 have g67 := g55.trans g66
 refine gP (cF Tryd.call73 (power_c (a := a.rat.num.natAbs) (n := pn) g67.sat (N.mono u3 g66.le) (by omega) (by omega)) (cx e55 (cx e56 cxn)) ?_)
 intro r10 h58 w67 gr13 hr10
 exact ⟨r10, h58, rfl, g66.trans gr13, fun j x _ => stab j _ _ _ _ x gr13, hr10⟩
 intro ρ54 h59 w68 g68 hdd46 hdo48
 have e57 : ρ54 6 = .pointer (some ⟨b7, 0, none⟩) := hdo48 6 rfl
 refine gP (fA (o := 2) Tryd.underlying66 rfl Tryd.sizeOf64 (by decide) e57 rfl ?_)
 exact ⟨_, h59, rfl, g68, fun j x _ p => p, rfl⟩
 intro ρ55 h60 w69 g69 hdd47 hdo49
 have e58 : ρ55 36 = .pointer (some ⟨b7, 2, none⟩) := hdd47 11 (by decide)
 have o23 := g69.kp ⟨p2.at_, n2⟩
 refine gP (lO (v := .slice b6 ((digs a.rat.den).length) c6) Tryd.isAgg64 e58 o23.1 rfl ?_)
 exact ⟨_, h60, rfl, g69, fun j x _ p => p, rfl⟩
 intro ρ56 h61 w70 g70 hdd48 hdo50
 have e59 : ρ56 1 = .int .i64 ((pn : Nat) : Int) := hdo50 1 rfl
 refine gP (OpW.move (v := .int .i64 ((pn : Nat) : Int)) e59 ?_)
 exact ⟨_, h61, rfl, g70, fun j x _ p => p, rfl⟩
 intro ρ57 h62 w71 g71 hdd49 hdo51
 have e60 : ρ57 37 = .slice b6 ((digs a.rat.den).length) c6 := hdd49 12 (by decide)
 have e61 : ρ57 38 = .int .i64 ((pn : Nat) : Int) := hdd49 13 (by decide)
 have g72 := g55.trans g71
 refine gP (cF Tryd.call73 (power_c (a := a.rat.den) (n := pn) g72.sat (N.mono u4 g71.le) (by omega) (by omega)) (cx e60 (cx e61 cxn)) ?_)
 intro r11 h63 w72 gr14 hr11
 exact ⟨r11, h63, rfl, g71.trans gr14, fun j x _ => stab j _ _ _ _ x gr14, hr11⟩
 intro ρ58 h64 w73 g73 hdd50 hdo52
 have e62 : ρ58 31 = .bool false := hdd50 6 (by decide)
 have q13 : N h64 (ρ58 35) (a.rat.num.natAbs ^ pn) := hdd50 10 (by decide)
 obtain ⟨x9, hx7⟩ : ∃ x, ρ58 35 = x := ⟨_, rfl⟩
 rw [hx7] at q13
 obtain ⟨b22, c28, rfl, k15⟩ := N.shape q13
 have q14 : N h64 (ρ58 39) (a.rat.den ^ pn) := hdd50 14 (by decide)
 obtain ⟨x10, hx8⟩ : ∃ x, ρ58 39 = x := ⟨_, rfl⟩
 rw [hx8] at q14
 obtain ⟨b23, c29, rfl, k16⟩ := N.shape q14
 refine gP (OpW.build (places := [(0, 1), (1, 1), (2, 1)]) (cs := [.bool false, .slice b22 ((digs (a.rat.num.natAbs ^ pn)).length) c28, .slice b23 ((digs (a.rat.den ^ pn)).length) c29]) Tryd.underlying66 Tryd.zeroValue66 (fun _ => by kernel_rfl) (by show Instr.fill _ _ [(0, ρ58 31), (1, ρ58 35), (2, ρ58 39)] = _; rw [e62, hx7, hx8]; rfl) ?_)
 exact ⟨_, h64, rfl, g73, fun j x _ p => p, ⟨_, _, _, _, rfl, q13, q14⟩⟩
 intro ρ59 h65 w74 g74 hdd51 hdo53
 have q15 : ∃ b22z c28z b23z c29z, (ρ59 40) = .agg #[.bool false, .slice b22z ((digs (a.rat.num.natAbs ^ pn)).length) c28z, .slice b23z ((digs (a.rat.den ^ pn)).length) c29z] ∧ N h65 (.slice b22z ((digs (a.rat.num.natAbs ^ pn)).length) c28z) (a.rat.num.natAbs ^ pn) ∧ N h65 (.slice b23z ((digs (a.rat.den ^ pn)).length) c29z) (a.rat.den ^ pn) := hdd51 15 (by decide)
 obtain ⟨b24, c30, b25, c31, e63, q16, q17⟩ := q15
 have e63 : ρ59 40 = .agg #[.bool false, .slice b24 ((digs (a.rat.num.natAbs ^ pn)).length) c30, .slice b25 ((digs (a.rat.den ^ pn)).length) c31] := e63
 have g75 := g55.trans g74
 refine gP (cF Tryd.call74 (giveF_c (q := a.rat ^ pn) g75.sat (Qn.mk q16 q17 (by rw [← pow_sign]; first | (rw [eq_comm, Bool.and_eq_false_iff, decide_eq_false_iff_not, decide_eq_false_iff_not]; first | (left; assumption) | (right; omega)) | (simp_all; done) | (simp_all; intro _; omega)) (pow_abs a.rat pn) (den_pow a.rat pn).symm) (by omega)) (cx e63 cxn) ?_)
 intro r12 h66 w75 gr15 hr12
 replace hr12 := Kf.weak ((gr1.le.trans gr3.le).trans g74.le) hr12
 exact ⟨r12, h66, rfl, g74.trans gr15, fun j x _ => stab j _ _ _ _ x gr15, hr12⟩
 intro ρ60 h67 w76 g76 hdp3 hdo54
 have e64 : ρ60 4 = .pointer (some ⟨b4, 0, none⟩) := hdo54 4 rfl
 have q18 : Kf h h67 (ρ60 41) (a.rat ^ pn) := hdp3 16 rfl
 obtain ⟨x11, hx9⟩ : ∃ x, ρ60 41 = x := ⟨_, rfl⟩
 rw [hx9] at q18
 obtain ⟨b26, c32, b27, c33, rfl, k17, k18, u11, u12⟩ := F.shape q18.1
 have sf3 := Kf.sf q18
 refine Ops.forget [(4, .pointer (some ⟨b4, 0, none⟩)), (41, .agg #[.bool ((frK (a.rat ^ pn)).neg), .slice b26 ((frK (a.rat ^ pn)).n.length) c32, .slice b27 ((frK (a.rat ^ pn)).d.length) c33])] ⟨e64, hx9, trivial⟩ (fun ρ61 => ?_)
 have o24 := g76.kp (p2.kp ne1 (gr4.kp o4))
 refine oC (sA (cs := [.bool ((frK (a.rat ^ pn)).neg), .slice b26 ((frK (a.rat ^ pn)).n.length) c32, .slice b27 ((frK (a.rat ^ pn)).d.length) c33]) Tryd.sizeOf24 rfl rfl rfl rfl o24.1 rfl ?_)
 intro w77 p7
 refine ma (oN (Wp.ret (fin2_ret rfl (resOf_cellA (cs := [.bool ((frK (a.rat ^ pn)).neg), .slice b26 ((frK (a.rat ^ pn)).n.length) c32, .slice b27 ((frK (a.rat ^ pn)).d.length) c33]) Tryd.isAgg24 Tryd.sizeOf24 rfl p7.at_ (Nat.le_of_ble_eq_true rfl) rfl) (resOf_tmp (v := .int .i64 ((0 : Nat) : Int)) rfl) ?_)))
 have g77 := (g55.trans g76).put p7 o24.2 lo2
 refine ⟨h67, g77, ?_⟩
 exact ⟨_, _, rfl, (Kf.cast (by unfold powQ; rw [if_neg (by omega)]; first | (rw [if_pos (by omega)]; simp; done) | (rw [if_neg (by omega)]; simp; done) | (simp; omega)) (Kf.mk (F.mk u11 u12) sf3.1 sf3.2)), (intv (by unfold powE; rw [if_neg (by omega), if_neg (by first | omega | (intro hh; exact absurd hh.2 (by assumption)))]; rfl))⟩
 have c34 : a.rat.num < 0 := (of_decide_eq_true c26)
 have g78 := (g5.trans gr4).put p2 n2 lo4
 refine Wp.dagL 17 [25, 26, 27, 28, 29, 30, 31, 32, 33, 34, 35, 36, 37, 38, 39, 40, 41] [eqv (.pointer (some ⟨b7, 0, none⟩)), eqv (.bool (decide (a.rat.num < 0))), eqv (.bool (decide (a.rat.num < 0))), eqv (.int .i64 ((pn : Nat) : Int)), eqv (.int .i64 ((pn % 2 : Nat) : Int)), eqv (.bool (decide (pn % 2 = 1))), eqv (.bool (decide (pn % 2 = 1))), eqv (.pointer (some ⟨b7, 1, none⟩)), eqv (.slice b5 ((digs a.rat.num.natAbs).length) c5), eqv (.int .i64 ((pn : Nat) : Int)), fun hq _ x => N hq x (a.rat.num.natAbs ^ pn), eqv (.pointer (some ⟨b7, 2, none⟩)), eqv (.slice b6 ((digs a.rat.den).length) c6), eqv (.int .i64 ((pn : Nat) : Int)), fun hq _ x => N hq x (a.rat.den ^ pn), fun hq _ x => ∃ b28z c35z b29z c36z, x = .agg #[.bool (decide (pn % 2 = 1)), .slice b28z ((digs (a.rat.num.natAbs ^ pn)).length) c35z, .slice b29z ((digs (a.rat.den ^ pn)).length) c36z] ∧ N hq (.slice b28z ((digs (a.rat.num.natAbs ^ pn)).length) c35z) (a.rat.num.natAbs ^ pn) ∧ N hq (.slice b29z ((digs (a.rat.den ^ pn)).length) c36z) (a.rat.den ^ pn), fun hq _ x => Kf h hq x (a.rat ^ pn)] mixed g78.sat rfl (by decide +kernel) ⟨sQ _, sQ _, sQ _, sQ _, sQ _, sQ _, sQ _, sQ _, sQ _, sQ _, (stab_N (a.rat.num.natAbs ^ pn)), sQ _, sQ _, sQ _, (stab_N (a.rat.den ^ pn)), (fun _ _ _ _ _ g ⟨_, _, _, _, e, f0, f1⟩ => ⟨_, _, _, _, e, N.mono f0 g.le, N.mono f1 g.le⟩), (stab_Kf _ (a.rat ^ pn)), trivial⟩ ?_ ?_
 intro stab
 refine ⟨?_, ?_, ?_, ?_, ?_, ?_, ?_, ?_, ?_, ?_, ?_, ?_, ?_, ?_, ?_, ?_, ?_, trivial⟩
 intro ρ62 h68 w78 g79 hdd52 hdo55
 have e65 : ρ62 6 = .pointer (some ⟨b7, 0, none⟩) := hdo55 6 rfl
 refine gP (fA (o := 0) Tryd.underlying66 rfl Tryd.sizeOf4 (by decide) e65 rfl ?_)
 exact ⟨_, h68, rfl, g79, fun j x _ p => p, rfl⟩
 intro ρ63 h69 w79 g80 hdd53 hdo56
 have e66 : ρ63 25 = .pointer (some ⟨b7, 0, none⟩) := hdd53 0 (by decide)
 have o26 := g80.kp ⟨p2.at_, n2⟩
 refine gP (lO (v := .bool (decide (a.rat.num < 0))) Tryd.isAgg4 e66 o26.1 rfl ?_)
 exact ⟨_, h69, rfl, g80, fun j x _ p => p, rfl⟩
 intro ρ64 h70 w80 g81 hdd54 hdo57
 have e67 : ρ64 26 = .bool (decide (a.rat.num < 0)) := hdd54 1 (by decide)
 refine gP (OpW.move (v := .bool (decide (a.rat.num < 0))) e67 ?_)
 exact ⟨_, h70, rfl, g81, fun j x _ p => p, rfl⟩
 intro ρ65 h71 w81 g82 hdd55 hdo58
 have e68 : ρ65 1 = .int .i64 ((pn : Nat) : Int) := hdo58 1 rfl
 have e69 : ρ65 27 = .bool (decide (a.rat.num < 0)) := hdd55 2 (by decide)
 refine gL (d := 27) (b := true) ?_ ?_ ?_ ?_
 · rfl
 · rfl
 · exact (e69.trans (congrArg Value.bool c26))
 refine (OpW.move (v := .int .i64 ((pn : Nat) : Int)) e68 ?_)
 exact ⟨_, h71, rfl, g82, fun j x _ p => p, rfl⟩
 intro ρ66 h72 w82 g83 hdd56 hdo59
 have e70 : ρ66 27 = .bool (decide (a.rat.num < 0)) := hdd56 2 (by decide)
 have e71 : ρ66 28 = .int .i64 ((pn : Nat) : Int) := hdd56 3 (by decide)
 refine gL (d := 27) (b := true) ?_ ?_ ?_ ?_
 · rfl
 · rfl
 · exact (e70.trans (congrArg Value.bool c26))
 refine (OpW.rem (a := ((pn : Nat) : Int)) (b := ((2 : Nat) : Int)) (r := ((pn % 2 : Nat) : Int)) e71 rfl (by decide) rem_nat ?_)
 exact ⟨_, h72, rfl, g83, fun j x _ p => p, rfl⟩
 intro ρ67 h73 w83 g84 hdd57 hdo60
 have e72 : ρ67 27 = .bool (decide (a.rat.num < 0)) := hdd57 2 (by decide)
 have e73 : ρ67 29 = .int .i64 ((pn % 2 : Nat) : Int) := hdd57 4 (by decide)
 refine gL (d := 27) (b := true) ?_ ?_ ?_ ?_
 · rfl
 · rfl
 · exact (e72.trans (congrArg Value.bool c26))
 refine (OpW.eqlI (a := ((pn % 2 : Nat) : Int)) (b := ((1 : Nat) : Int)) (r := decide (pn % 2 = 1)) e73 rfl (eq_nat (a := pn % 2) (b := 1)) ?_)
 exact ⟨_, h73, rfl, g84, fun j x _ p => p, rfl⟩
 intro ρ68 h74 w84 g85 hdd58 hdo61
 have e74 : ρ68 27 = .bool (decide (a.rat.num < 0)) := hdd58 2 (by decide)
 have e75 : ρ68 30 = .bool (decide (pn % 2 = 1)) := hdd58 5 (by decide)
 refine gP (pT (v := .bool (decide (pn % 2 = 1))) (e74.trans (congrArg Value.bool c26)) e75 ?_)
 exact ⟨_, h74, rfl, g85, fun j x _ p => p, rfl⟩
 intro ρ69 h75 w85 g86 hdd59 hdo62
 have e76 : ρ69 6 = .pointer (some ⟨b7, 0, none⟩) := hdo62 6 rfl
 refine gP (fA (o := 1) Tryd.underlying66 rfl Tryd.sizeOf64 (by decide) e76 rfl ?_)
 exact ⟨_, h75, rfl, g86, fun j x _ p => p, rfl⟩
 intro ρ70 h76 w86 g87 hdd60 hdo63
 have e77 : ρ70 32 = .pointer (some ⟨b7, 1, none⟩) := hdd60 7 (by decide)
 have o27 := g87.kp ⟨p2.at_, n2⟩
 refine gP (lO (v := .slice b5 ((digs a.rat.num.natAbs).length) c5) Tryd.isAgg64 e77 o27.1 rfl ?_)
 exact ⟨_, h76, rfl, g87, fun j x _ p => p, rfl⟩
 intro ρ71 h77 w87 g88 hdd61 hdo64
 have e78 : ρ71 1 = .int .i64 ((pn : Nat) : Int) := hdo64 1 rfl
 refine gP (OpW.move (v := .int .i64 ((pn : Nat) : Int)) e78 ?_)
 exact ⟨_, h77, rfl, g88, fun j x _ p => p, rfl⟩
 intro ρ72 h78 w88 g89 hdd62 hdo65
 have e79 : ρ72 33 = .slice b5 ((digs a.rat.num.natAbs).length) c5 := hdd62 8 (by decide)
 have e80 : ρ72 34 = .int .i64 ((pn : Nat) : Int) := hdd62 9 (by decide)
 have g90 := g78.trans g89
 refine gP (cF Tryd.call73 (power_c (a := a.rat.num.natAbs) (n := pn) g90.sat (N.mono u3 g89.le) (by omega) (by omega)) (cx e79 (cx e80 cxn)) ?_)
 intro r13 h79 w89 gr16 hr13
 exact ⟨r13, h79, rfl, g89.trans gr16, fun j x _ => stab j _ _ _ _ x gr16, hr13⟩
 intro ρ73 h80 w90 g91 hdd63 hdo66
 have e81 : ρ73 6 = .pointer (some ⟨b7, 0, none⟩) := hdo66 6 rfl
 refine gP (fA (o := 2) Tryd.underlying66 rfl Tryd.sizeOf64 (by decide) e81 rfl ?_)
 exact ⟨_, h80, rfl, g91, fun j x _ p => p, rfl⟩
 intro ρ74 h81 w91 g92 hdd64 hdo67
 have e82 : ρ74 36 = .pointer (some ⟨b7, 2, none⟩) := hdd64 11 (by decide)
 have o28 := g92.kp ⟨p2.at_, n2⟩
 refine gP (lO (v := .slice b6 ((digs a.rat.den).length) c6) Tryd.isAgg64 e82 o28.1 rfl ?_)
 exact ⟨_, h81, rfl, g92, fun j x _ p => p, rfl⟩
 intro ρ75 h82 w92 g93 hdd65 hdo68
 have e83 : ρ75 1 = .int .i64 ((pn : Nat) : Int) := hdo68 1 rfl
 refine gP (OpW.move (v := .int .i64 ((pn : Nat) : Int)) e83 ?_)
 exact ⟨_, h82, rfl, g93, fun j x _ p => p, rfl⟩
 intro ρ76 h83 w93 g94 hdd66 hdo69
 have e84 : ρ76 37 = .slice b6 ((digs a.rat.den).length) c6 := hdd66 12 (by decide)
 have e85 : ρ76 38 = .int .i64 ((pn : Nat) : Int) := hdd66 13 (by decide)
 have g95 := g78.trans g94
 refine gP (cF Tryd.call73 (power_c (a := a.rat.den) (n := pn) g95.sat (N.mono u4 g94.le) (by omega) (by omega)) (cx e84 (cx e85 cxn)) ?_)
 intro r14 h84 w94 gr17 hr14
 exact ⟨r14, h84, rfl, g94.trans gr17, fun j x _ => stab j _ _ _ _ x gr17, hr14⟩
 intro ρ77 h85 w95 g96 hdd67 hdo70
 have e86 : ρ77 31 = .bool (decide (pn % 2 = 1)) := hdd67 6 (by decide)
 have q19 : N h85 (ρ77 35) (a.rat.num.natAbs ^ pn) := hdd67 10 (by decide)
 obtain ⟨x12, hx10⟩ : ∃ x, ρ77 35 = x := ⟨_, rfl⟩
 rw [hx10] at q19
 obtain ⟨b28, c35, rfl, k19⟩ := N.shape q19
 have q20 : N h85 (ρ77 39) (a.rat.den ^ pn) := hdd67 14 (by decide)
 obtain ⟨x13, hx11⟩ : ∃ x, ρ77 39 = x := ⟨_, rfl⟩
 rw [hx11] at q20
 obtain ⟨b29, c36, rfl, k20⟩ := N.shape q20
 refine gP (OpW.build (places := [(0, 1), (1, 1), (2, 1)]) (cs := [.bool (decide (pn % 2 = 1)), .slice b28 ((digs (a.rat.num.natAbs ^ pn)).length) c35, .slice b29 ((digs (a.rat.den ^ pn)).length) c36]) Tryd.underlying66 Tryd.zeroValue66 (fun _ => by kernel_rfl) (by show Instr.fill _ _ [(0, ρ77 31), (1, ρ77 35), (2, ρ77 39)] = _; rw [e86, hx10, hx11]; rfl) ?_)
 exact ⟨_, h85, rfl, g96, fun j x _ p => p, ⟨_, _, _, _, rfl, q19, q20⟩⟩
 intro ρ78 h86 w96 g97 hdd68 hdo71
 have q21 : ∃ b28z c35z b29z c36z, (ρ78 40) = .agg #[.bool (decide (pn % 2 = 1)), .slice b28z ((digs (a.rat.num.natAbs ^ pn)).length) c35z, .slice b29z ((digs (a.rat.den ^ pn)).length) c36z] ∧ N h86 (.slice b28z ((digs (a.rat.num.natAbs ^ pn)).length) c35z) (a.rat.num.natAbs ^ pn) ∧ N h86 (.slice b29z ((digs (a.rat.den ^ pn)).length) c36z) (a.rat.den ^ pn) := hdd68 15 (by decide)
 obtain ⟨b30, c37, b31, c38, e87, q22, q23⟩ := q21
 have e87 : ρ78 40 = .agg #[.bool (decide (pn % 2 = 1)), .slice b30 ((digs (a.rat.num.natAbs ^ pn)).length) c37, .slice b31 ((digs (a.rat.den ^ pn)).length) c38] := e87
 have g98 := g78.trans g97
 refine gP (cF Tryd.call74 (giveF_c (q := a.rat ^ pn) g98.sat (Qn.mk q22 q23 (by rw [← pow_sign]; first | (rw [eq_comm, Bool.and_eq_false_iff, decide_eq_false_iff_not, decide_eq_false_iff_not]; first | (left; assumption) | (right; omega)) | (simp_all; done) | (simp_all; intro _; omega)) (pow_abs a.rat pn) (den_pow a.rat pn).symm) (by omega)) (cx e87 cxn) ?_)
 intro r15 h87 w97 gr18 hr15
 replace hr15 := Kf.weak ((gr1.le.trans gr3.le).trans g97.le) hr15
 exact ⟨r15, h87, rfl, g97.trans gr18, fun j x _ => stab j _ _ _ _ x gr18, hr15⟩
 intro ρ79 h88 w98 g99 hdp4 hdo72
 have e88 : ρ79 4 = .pointer (some ⟨b4, 0, none⟩) := hdo72 4 rfl
 have q24 : Kf h h88 (ρ79 41) (a.rat ^ pn) := hdp4 16 rfl
 obtain ⟨x14, hx12⟩ : ∃ x, ρ79 41 = x := ⟨_, rfl⟩
 rw [hx12] at q24
 obtain ⟨b32, c39, b33, c40, rfl, k21, k22, u13, u14⟩ := F.shape q24.1
 have sf4 := Kf.sf q24
 refine Ops.forget [(4, .pointer (some ⟨b4, 0, none⟩)), (41, .agg #[.bool ((frK (a.rat ^ pn)).neg), .slice b32 ((frK (a.rat ^ pn)).n.length) c39, .slice b33 ((frK (a.rat ^ pn)).d.length) c40])] ⟨e88, hx12, trivial⟩ (fun ρ80 => ?_)
 have o29 := g99.kp (p2.kp ne1 (gr4.kp o4))
 refine oC (sA (cs := [.bool ((frK (a.rat ^ pn)).neg), .slice b32 ((frK (a.rat ^ pn)).n.length) c39, .slice b33 ((frK (a.rat ^ pn)).d.length) c40]) Tryd.sizeOf24 rfl rfl rfl rfl o29.1 rfl ?_)
 intro w99 p8
 refine ma (oN (Wp.ret (fin2_ret rfl (resOf_cellA (cs := [.bool ((frK (a.rat ^ pn)).neg), .slice b32 ((frK (a.rat ^ pn)).n.length) c39, .slice b33 ((frK (a.rat ^ pn)).d.length) c40]) Tryd.isAgg24 Tryd.sizeOf24 rfl p8.at_ (Nat.le_of_ble_eq_true rfl) rfl) (resOf_tmp (v := .int .i64 ((0 : Nat) : Int)) rfl) ?_)))
 have g100 := (g78.trans g99).put p8 o29.2 lo2
 refine ⟨h88, g100, ?_⟩
 exact ⟨_, _, rfl, (Kf.cast (by unfold powQ; rw [if_neg (by omega)]; first | (rw [if_pos (by omega)]; simp; done) | (rw [if_neg (by omega)]; simp; done) | (simp; omega)) (Kf.mk (F.mk u13 u14) sf4.1 sf4.2)), (intv (by unfold powE; rw [if_neg (by omega), if_neg (by first | omega | (intro hh; exact absurd hh.2 (by assumption)))]; rfl))⟩
theorem AddF_c {h : PH} {w : World} {v0 : Value} {a : Fr} {v1 : Value} {b : Fr} (hs : Sat h w) (pv0 : F h v0 a) (pv1 : F h v1 b) (hp0 : bf a + bf b ≤ 134217000) :
    Calls Tryd.prog 42 #[v0, v1] w (Ret h w fun h' r => Kf h h' r (a.rat + b.rat)) := by
 obtain ⟨b1, c1, b2, c2, rfl, k1, k2, u1, u2⟩ := F.shape pv0
 have hbq1 := F.bq pv0
 obtain ⟨b3, c3, b4, c4, rfl, k3, k4, u3, u4⟩ := F.shape pv1
 have hbq2 := F.bq pv1
 have hw := wts2 a b
 refine calls_ear (vs := [.agg #[.bool a.neg, .slice b1 a.n.length c1, .slice b2 a.d.length c2], .agg #[.bool b.neg, .slice b3 b.n.length c3, .slice b4 b.d.length c4]]) Tryd.func42 rfl rfl ?_
 have g1 := Gr.refl hs
 refine sr (oC (OpW.boxK (v := .agg #[.bool a.neg, .slice b1 a.n.length c1, .slice b2 a.d.length c2]) (arr := #[.bool a.neg, .slice b1 a.n.length c1, .slice b2 a.d.length c2]) g1.sat rfl rfl ?_))
 intro b5 h1 w1 gr1 qb1
 have g2 := g1.trans gr1
 refine oC (OpW.boxK (v := .agg #[.bool b.neg, .slice b3 b.n.length c3, .slice b4 b.d.length c4]) (arr := #[.bool b.neg, .slice b3 b.n.length c3, .slice b4 b.d.length c4]) g2.sat rfl rfl ?_)
 intro b6 h2 w2 gr2 qb2
 have g3 := g2.trans gr2
 refine oC (OpW.allocO (arr := #[.bool false, .slice none 0 0, .slice none 0 0]) g3.sat Tryd.zeroValue24 rfl ?_)
 intro b7 w3 gr3 n1 lo1 o1
 have lo2 := Nat.le_trans g3.ext.size lo1
 refine oN (sr ?_)
 have g4 := g3.trans gr3
 refine oC (lA (cs := [.bool a.neg, .slice b1 a.n.length c1, .slice b2 a.d.length c2]) Tryd.isAgg24 Tryd.sizeOf24 rfl (g4.sat _ _ (gr2.le _ _ qb1)) rfl rfl ?_)
 refine oC (lA (cs := [.bool b.neg, .slice b3 b.n.length c3, .slice b4 b.d.length c4]) Tryd.isAgg24 Tryd.sizeOf24 rfl (g4.sat _ _ qb2) rfl rfl ?_)
 have lt1 := blk_lt o1
 refine oC (OpW.buildSliceO (arr := #[.bool a.neg, .slice b1 a.n.length c1, .slice b2 a.d.length c2, .bool b.neg, .slice b3 b.n.length c3, .slice b4 b.d.length c4]) g4.sat Tryd.underlying50 Tryd.zeroValue24 Tryd.sizeOf24 rfl rfl ?_)
 intro b8 w4 gr4 n2 lo3 o2
 have lo4 := Nat.le_trans g4.ext.size lo3
 have ne1 : b7 ≠ b8 := Nat.ne_of_lt (Nat.lt_of_lt_of_le lt1 lo3)
 have g6 := g4.trans gr4
 obtain ⟨h3, g5, l1, qb3, fr1⟩ := freeze_ex g6 o2 n2 lo4
 have f1 : LR rpF h3 (.slice (some ⟨b8, 0, none⟩) 2 2) [a, b] := LR.own' qb3 (css := [[.bool a.neg, .slice b1 a.n.length c1, .slice b2 a.d.length c2], [.bool b.neg, .slice b3 b.n.length c3, .slice b4 b.d.length c4]]) rfl (Rows.cons (F.mk (U.mono u1 ((gr1.le.trans gr2.le).trans l1)) (U.mono u2 ((gr1.le.trans gr2.le).trans l1))) (Rows.cons (F.mk (U.mono u3 ((gr1.le.trans gr2.le).trans l1)) (U.mono u4 ((gr1.le.trans gr2.le).trans l1))) Rows.nil)) rfl (Nat.le_refl _)
 refine oC (cF Tryd.call52 (sumF_c (l := [a, b]) g5.sat f1 (by first | omega | (simp only [bf_frK, frK_rat, wts_cons, wts_nil]; omega))) rfl ?_)
 intro r1 h4 w5 gr5 hr1
 replace hr1 := Kf.weak ((gr1.le.trans gr2.le).trans l1) hr1
 obtain ⟨b9, c5, b10, c6, rfl, k5, k6, u5, u6⟩ := F.shape hr1.1
 have sf1 := Kf.sf hr1
 have o3 := gr5.kp (oz fr1 ne1 (gr4.kp ⟨o1, n1⟩))
 refine oC (sA (cs := [.bool ((frK (sumF ([a, b]))).neg), .slice b9 ((frK (sumF ([a, b]))).n.length) c5, .slice b10 ((frK (sumF ([a, b]))).d.length) c6]) Tryd.sizeOf24 rfl rfl rfl rfl o3.1 rfl ?_)
 intro w6 p1
 refine oN (Wp.ret (fin1_ret rfl (resOf_cellA (cs := [.bool ((frK (sumF ([a, b]))).neg), .slice b9 ((frK (sumF ([a, b]))).n.length) c5, .slice b10 ((frK (sumF ([a, b]))).d.length) c6]) Tryd.isAgg24 Tryd.sizeOf24 rfl p1.at_ (Nat.le_of_ble_eq_true rfl) rfl) ?_))
 have g7 := (g5.trans gr5).put p1 o3.2 lo2
 refine ⟨h4, g7, ?_⟩
 exact (Kf.cast (sumF2 a b) (Kf.mk (F.mk u5 u6) sf1.1 sf1.2))
theorem MulF_c {h : PH} {w : World} {v0 : Value} {a : Fr} {v1 : Value} {b : Fr} (hs : Sat h w) (pv0 : F h v0 a) (pv1 : F h v1 b) (hp0 : bf a + bf b ≤ 134217000) :
    Calls Tryd.prog 48 #[v0, v1] w (Ret h w fun h' r => Kf h h' r (a.rat * b.rat)) := by
 obtain ⟨b1, c1, b2, c2, rfl, k1, k2, u1, u2⟩ := F.shape pv0
 have hbq1 := F.bq pv0
 obtain ⟨b3, c3, b4, c4, rfl, k3, k4, u3, u4⟩ := F.shape pv1
 have hbq2 := F.bq pv1
 have hw := wts2 a b
 refine calls_ear (vs := [.agg #[.bool a.neg, .slice b1 a.n.length c1, .slice b2 a.d.length c2], .agg #[.bool b.neg, .slice b3 b.n.length c3, .slice b4 b.d.length c4]]) Tryd.func48 rfl rfl ?_
 have g1 := Gr.refl hs
 refine sr (oC (OpW.boxK (v := .agg #[.bool a.neg, .slice b1 a.n.length c1, .slice b2 a.d.length c2]) (arr := #[.bool a.neg, .slice b1 a.n.length c1, .slice b2 a.d.length c2]) g1.sat rfl rfl ?_))
 intro b5 h1 w1 gr1 qb1
 have g2 := g1.trans gr1
 refine oC (OpW.boxK (v := .agg #[.bool b.neg, .slice b3 b.n.length c3, .slice b4 b.d.length c4]) (arr := #[.bool b.neg, .slice b3 b.n.length c3, .slice b4 b.d.length c4]) g2.sat rfl rfl ?_)
 intro b6 h2 w2 gr2 qb2
 have g3 := g2.trans gr2
 refine oC (OpW.allocO (arr := #[.bool false, .slice none 0 0, .slice none 0 0]) g3.sat Tryd.zeroValue24 rfl ?_)
 intro b7 w3 gr3 n1 lo1 o1
 have lo2 := Nat.le_trans g3.ext.size lo1
 refine oN (sr ?_)
 have g4 := g3.trans gr3
 refine oC (lA (cs := [.bool a.neg, .slice b1 a.n.length c1, .slice b2 a.d.length c2]) Tryd.isAgg24 Tryd.sizeOf24 rfl (g4.sat _ _ (gr2.le _ _ qb1)) rfl rfl ?_)
 refine oC (lA (cs := [.bool b.neg, .slice b3 b.n.length c3, .slice b4 b.d.length c4]) Tryd.isAgg24 Tryd.sizeOf24 rfl (g4.sat _ _ qb2) rfl rfl ?_)
 have lt1 := blk_lt o1
 refine oC (OpW.buildSliceO (arr := #[.bool a.neg, .slice b1 a.n.length c1, .slice b2 a.d.length c2, .bool b.neg, .slice b3 b.n.length c3, .slice b4 b.d.length c4]) g4.sat Tryd.underlying50 Tryd.zeroValue24 Tryd.sizeOf24 rfl rfl ?_)
 intro b8 w4 gr4 n2 lo3 o2
 have lo4 := Nat.le_trans g4.ext.size lo3
 have ne1 : b7 ≠ b8 := Nat.ne_of_lt (Nat.lt_of_lt_of_le lt1 lo3)
 have g6 := g4.trans gr4
 obtain ⟨h3, g5, l1, qb3, fr1⟩ := freeze_ex g6 o2 n2 lo4
 have f1 : LR rpF h3 (.slice (some ⟨b8, 0, none⟩) 2 2) [a, b] := LR.own' qb3 (css := [[.bool a.neg, .slice b1 a.n.length c1, .slice b2 a.d.length c2], [.bool b.neg, .slice b3 b.n.length c3, .slice b4 b.d.length c4]]) rfl (Rows.cons (F.mk (U.mono u1 ((gr1.le.trans gr2.le).trans l1)) (U.mono u2 ((gr1.le.trans gr2.le).trans l1))) (Rows.cons (F.mk (U.mono u3 ((gr1.le.trans gr2.le).trans l1)) (U.mono u4 ((gr1.le.trans gr2.le).trans l1))) Rows.nil)) rfl (Nat.le_refl _)
 refine oC (cF Tryd.call53 (productF_c (l := [a, b]) g5.sat f1 (by first | omega | (simp only [bf_frK, frK_rat, wts_cons, wts_nil]; omega))) rfl ?_)
 intro r1 h4 w5 gr5 hr1
 replace hr1 := Kf.weak ((gr1.le.trans gr2.le).trans l1) hr1
 obtain ⟨b9, c5, b10, c6, rfl, k5, k6, u5, u6⟩ := F.shape hr1.1
 have sf1 := Kf.sf hr1
 have o3 := gr5.kp (oz fr1 ne1 (gr4.kp ⟨o1, n1⟩))
 refine oC (sA (cs := [.bool ((frK (prodF ([a, b]))).neg), .slice b9 ((frK (prodF ([a, b]))).n.length) c5, .slice b10 ((frK (prodF ([a, b]))).d.length) c6]) Tryd.sizeOf24 rfl rfl rfl rfl o3.1 rfl ?_)
 intro w6 p1
 refine oN (Wp.ret (fin1_ret rfl (resOf_cellA (cs := [.bool ((frK (prodF ([a, b]))).neg), .slice b9 ((frK (prodF ([a, b]))).n.length) c5, .slice b10 ((frK (prodF ([a, b]))).d.length) c6]) Tryd.isAgg24 Tryd.sizeOf24 rfl p1.at_ (Nat.le_of_ble_eq_true rfl) rfl) ?_))
 have g7 := (g5.trans gr5).put p1 o3.2 lo2
 refine ⟨h4, g7, ?_⟩
 exact (Kf.cast (prodF2 a b) (Kf.mk (F.mk u5 u6) sf1.1 sf1.2))
end Go.Ear
