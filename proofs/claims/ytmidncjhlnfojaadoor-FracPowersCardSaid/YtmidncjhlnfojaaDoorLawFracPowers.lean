/- About package frac: LawFracPowers. -/
import Derived.Test.YtmidncjhlnfojaaDoorNatLaw2
import Derived.Test.YtmidncjhlnfojaaDoorEarShort
import Derived.Test.YtmidncjhlnfojaaDoorProg
import Derived.Test.YtmidncjhlnfojaaDoorNatLaw3
import Derived.Test.YtmidncjhlnfojaaDoorEarFrac
import Derived.Test.YtmidncjhlnfojaaDoorEarDec
import Derived.Test.YtmidncjhlnfojaaDoorItoaLay
import Derived.Lib.ItoaMem
import Derived.Test.YtmidncjhlnfojaaDoorEarApi
import Derived.Test.YtmidncjhlnfojaaDoorEarRef2
import Derived.Test.YtmidncjhlnfojaaDoorEarLaw
import Derived.Test.YtmidncjhlnfojaaDoorEarLaw2
import Derived.Test.YtmidncjhlnfojaaDoorEarStore
import Derived.Test.YtmidncjhlnfojaaDoorK1
import Derived.Test.YtmidncjhlnfojaaDoorK14
import Derived.Test.YtmidncjhlnfojaaDoorK8
import Derived.Test.YtmidncjhlnfojaaDoorXMul
import Derived.Test.YtmidncjhlnfojaaDoorXrSame
set_option linter.all false
namespace Go.Ear
open Go.Proofs
set_option maxRecDepth 20000
set_option linter.unusedVariables false
set_option maxHeartbeats 2000000
theorem fracPowers_c {h : PH} {w : World} {v0 : Value} {a : Fr} {n : Int} {m : Int} (hs : Sat h w) (tb : Tab h) (pv0 : F h v0 a) (hp0 : -9223372036854775808 ≤ n) (hp1 : n ≤ 9223372036854775807) (hp2 : -9223372036854775808 ≤ m) (hp3 : m ≤ 9223372036854775807) :
    Calls Tryd.prog 11 #[v0, .int .i64 n, .int .i64 m] w (Ret h w fun h' r => r = .bool true) := by
 obtain ⟨b1, c1, b2, c2, rfl, k1, k2, u1, u2⟩ := F.shape pv0
 have hbq1 := F.bq pv0
 refine calls_ear (vs := [.agg #[.bool a.neg, .slice b1 a.n.length c1, .slice b2 a.d.length c2], .int .i64 n, .int .i64 m]) Tryd.func11 rfl rfl ?_
 have g1 := Gr.refl hs
 refine sr (oC (OpW.boxK (v := .agg #[.bool a.neg, .slice b1 a.n.length c1, .slice b2 a.d.length c2]) (arr := #[.bool a.neg, .slice b1 a.n.length c1, .slice b2 a.d.length c2]) g1.sat rfl rfl ?_))
 intro b3 h1 w1 gr1 qb1
 refine ma (oN (wS (sr (Ops.cut (fun ρ' w' => w1 = w' ∧ ∃ ρb, ρ' = upds ρb [(1, .int .i64 n), (2, .int .i64 m), (3, .pointer (some ⟨b3, 0, none⟩)), (38, .bool ((decide (1 < a.n.length)) || ((decide (1 < a.d.length)) || ((decide (n < ((0 : Nat) : Int))) || ((decide (((100 : Nat) : Int) < n)) || ((decide (m < ((0 : Nat) : Int))) || (decide (((100 : Nat) : Int) < m))))))))]) ?_ ?_))))
 refine oC (fA (o := 1) Tryd.underlying24 rfl Tryd.sizeOf22 (by decide) rfl rfl ?_)
 have g2 := g1.trans gr1
 refine oC (lO (v := .slice b1 a.n.length c1) Tryd.isAgg22 rfl (g2.sat _ _ qb1) rfl ?_)
 refine oC (OpW.lenS Tryd.underlying22 (l := a.n.length) rfl ?_)
 refine oC (OpW.gtr (a := ((a.n.length : Nat) : Int)) (b := ((1 : Nat) : Int)) (r := decide (1 < a.n.length)) rfl rfl (lt_nat (a := 1) (b := a.n.length)) (mv ?_))
 cases c3 : (decide (1 < a.n.length))
 replace c3 : ¬ (1 < a.n.length) := (of_decide_eq_false c3)
 refine oL rfl rfl rfl (fA (o := 2) Tryd.underlying24 rfl Tryd.sizeOf22 (by decide) rfl rfl ?_)
 refine oL rfl rfl rfl (lO (v := .slice b2 a.d.length c2) Tryd.isAgg22 rfl (g2.sat _ _ qb1) rfl ?_)
 refine oL rfl rfl rfl (OpW.lenS Tryd.underlying22 (l := a.d.length) rfl ?_)
 refine oL rfl rfl rfl (OpW.gtr (a := ((a.d.length : Nat) : Int)) (b := ((1 : Nat) : Int)) (r := decide (1 < a.d.length)) rfl rfl (lt_nat (a := 1) (b := a.d.length)) ?_)
 refine oC (pF (v := .bool (decide (1 < a.d.length))) rfl rfl (mv ?_))
 cases c4 : (decide (1 < a.d.length))
 replace c4 : ¬ (1 < a.d.length) := (of_decide_eq_false c4)
 refine oL rfl rfl rfl (OpW.move (v := .int .i64 n) rfl ?_)
 refine oL rfl rfl rfl (OpW.lss (a := n) (b := ((0 : Nat) : Int)) (r := decide (n < ((0 : Nat) : Int))) rfl rfl rfl ?_)
 refine oC (pF (v := .bool (decide (n < ((0 : Nat) : Int)))) rfl rfl (mv ?_))
 cases c5 : (decide (n < ((0 : Nat) : Int)))
 replace c5 : ¬ (n < ((0 : Nat) : Int)) := (of_decide_eq_false c5)
 refine oL rfl rfl rfl (OpW.move (v := .int .i64 n) rfl ?_)
 refine oL rfl rfl rfl (OpW.gtr (a := n) (b := ((100 : Nat) : Int)) (r := decide (((100 : Nat) : Int) < n)) rfl rfl rfl ?_)
 refine oC (pF (v := .bool (decide (((100 : Nat) : Int) < n))) rfl rfl (mv ?_))
 cases c6 : (decide (((100 : Nat) : Int) < n))
 replace c6 : ¬ (((100 : Nat) : Int) < n) := (of_decide_eq_false c6)
 refine oL rfl rfl rfl (OpW.move (v := .int .i64 m) rfl ?_)
 refine oL rfl rfl rfl (OpW.lss (a := m) (b := ((0 : Nat) : Int)) (r := decide (m < ((0 : Nat) : Int))) rfl rfl rfl ?_)
 refine oC (pF (v := .bool (decide (m < ((0 : Nat) : Int)))) rfl rfl (mv ?_))
 cases c7 : (decide (m < ((0 : Nat) : Int)))
 replace c7 : ¬ (m < ((0 : Nat) : Int)) := (of_decide_eq_false c7)
 refine oL rfl rfl rfl (OpW.move (v := .int .i64 m) rfl ?_)
 refine oL rfl rfl rfl (OpW.gtr (a := m) (b := ((100 : Nat) : Int)) (r := decide (((100 : Nat) : Int) < m)) rfl rfl rfl ?_)
 refine oC (pF (v := .bool (decide (((100 : Nat) : Int) < m))) rfl rfl (oN ?_))
 exact ⟨rfl, _, nm rfl⟩
 replace c7 : m < ((0 : Nat) : Int) := (of_decide_eq_true c7)
 refine oD rfl rfl rfl rfl (oD rfl rfl rfl rfl (oC (pT (v := .bool true) rfl rfl (oN ?_))))
 exact ⟨rfl, _, nm rfl⟩
 replace c6 : ((100 : Nat) : Int) < n := (of_decide_eq_true c6)
 refine oD rfl rfl rfl rfl (oD rfl rfl rfl rfl (oC (pT (v := .bool true) rfl rfl (mv (oD rfl rfl rfl rfl (oD rfl rfl rfl rfl (oC (pT (v := .bool true) rfl rfl (oN ?_)))))))))
 exact ⟨rfl, _, nm rfl⟩
 replace c5 : n < ((0 : Nat) : Int) := (of_decide_eq_true c5)
 refine oD rfl rfl rfl rfl (oD rfl rfl rfl rfl (oC (pT (v := .bool true) rfl rfl (mv (oD rfl rfl rfl rfl (oD rfl rfl rfl rfl (oC (pT (v := .bool true) rfl rfl (mv (oD rfl rfl rfl rfl (oD rfl rfl rfl rfl (oC (pT (v := .bool true) rfl rfl (oN ?_))))))))))))))
 exact ⟨rfl, _, nm rfl⟩
 replace c4 : 1 < a.d.length := (of_decide_eq_true c4)
 refine oD rfl rfl rfl rfl (oD rfl rfl rfl rfl (oC (pT (v := .bool true) rfl rfl (mv (oD rfl rfl rfl rfl (oD rfl rfl rfl rfl (oC (pT (v := .bool true) rfl rfl (mv (oD rfl rfl rfl rfl (oD rfl rfl rfl rfl (oC (pT (v := .bool true) rfl rfl (mv (oD rfl rfl rfl rfl (oD rfl rfl rfl rfl (oC (pT (v := .bool true) rfl rfl (oN ?_)))))))))))))))))))
 exact ⟨rfl, _, nm rfl⟩
 replace c3 : 1 < a.n.length := (of_decide_eq_true c3)
 refine oD rfl rfl rfl rfl (oD rfl rfl rfl rfl (oD rfl rfl rfl rfl (oD rfl rfl rfl rfl (oC (pT (v := .bool true) rfl rfl (mv (oD rfl rfl rfl rfl (oD rfl rfl rfl rfl (oC (pT (v := .bool true) rfl rfl (mv (oD rfl rfl rfl rfl (oD rfl rfl rfl rfl (oC (pT (v := .bool true) rfl rfl (mv (oD rfl rfl rfl rfl (oD rfl rfl rfl rfl (oC (pT (v := .bool true) rfl rfl (mv (oD rfl rfl rfl rfl (oD rfl rfl rfl rfl (oC (pT (v := .bool true) rfl rfl (oN ?_))))))))))))))))))))))))))
 exact ⟨rfl, _, nm rfl⟩
 rintro ρ1 w2 ⟨rfl, ρ2, rfl⟩
 refine Wp.cond (t := (decide (1 < a.n.length)) || ((decide (1 < a.d.length)) || ((decide (n < ((0 : Nat) : Int))) || ((decide (((100 : Nat) : Int) < n)) || ((decide (m < ((0 : Nat) : Int))) || (decide (((100 : Nat) : Int) < m))))))) rfl (fun c8 => ?_) (fun c8 => ?_)
 replace c8 : (1 < a.n.length) ∨ ((1 < a.d.length) ∨ ((n < ((0 : Nat) : Int)) ∨ ((((100 : Nat) : Int) < n) ∨ ((m < ((0 : Nat) : Int)) ∨ (((100 : Nat) : Int) < m))))) := ((or_t c8).imp (fun h => (of_decide_eq_true h)) (fun h => ((or_t h).imp (fun h => (of_decide_eq_true h)) (fun h => ((or_t h).imp (fun h => (of_decide_eq_true h)) (fun h => ((or_t h).imp (fun h => (of_decide_eq_true h)) (fun h => ((or_t h).imp (fun h => (of_decide_eq_true h)) (fun h => (of_decide_eq_true h)))))))))))
 refine sr ?_
 have g3 := g1.trans gr1
 refine oC (cF Tryd.call20 (known_c  g3.sat (tb.mono gr1.le) ) rfl ?_)
 intro r1 h2 w3 gr2 hr1
 subst hr1
 refine ma (oN (Wp.ret (fin1_ret rfl (resOf_tmp (v := .bool true) rfl) ?_)))
 have g4 := g3.trans gr2
 refine ⟨h2, g4, ?_⟩
 exact rfl
 replace c8 : ¬ ((1 < a.n.length) ∨ ((1 < a.d.length) ∨ ((n < ((0 : Nat) : Int)) ∨ ((((100 : Nat) : Int) < n) ∨ ((m < ((0 : Nat) : Int)) ∨ (((100 : Nat) : Int) < m)))))) := (fun pq => pq.elim (of_decide_eq_false (or_l c8)) (fun pq => pq.elim (of_decide_eq_false (or_l (or_r c8))) (fun pq => pq.elim (of_decide_eq_false (or_l (or_r (or_r c8)))) (fun pq => pq.elim (of_decide_eq_false (or_l (or_r (or_r (or_r c8))))) (fun pq => pq.elim (of_decide_eq_false (or_l (or_r (or_r (or_r (or_r c8)))))) (of_decide_eq_false (or_r (or_r (or_r (or_r (or_r c8)))))))))))
 have hx := c8
 have hbf : bf a ≤ 1 := by unfold bf; omega
 have hb1 := bq_powP (q := a.rat) (n := n) (by omega)
 have hb2 := bq_powP (q := a.rat) (n := m) (by omega)
 have hb3 := bq_powP (q := a.rat) (n := n + m) (by omega)
 refine Wp.skip (sr ?_)
 have g5 := g1.trans gr1
 refine oC (lA (cs := [.bool a.neg, .slice b1 a.n.length c1, .slice b2 a.d.length c2]) Tryd.isAgg24 Tryd.sizeOf24 rfl (g5.sat _ _ qb1) rfl rfl (mv (oC (cF Tryd.call21 (Pow_c (a := a) (n := n) g5.sat (F.mk (U.mono u1 gr1.le) (U.mono u2 gr1.le)) (by omega) (by omega) (by omega)) rfl ?_))))
 intro r2 h3 w4 gr3 hr2
 obtain ⟨r3, r4, rfl, hr3, hr4⟩ := hr2
 obtain ⟨b4, c9, b5, c10, rfl, k3, k4, u3, u4⟩ := F.shape hr3
 subst hr4
 refine mv (oC (OpW.extract (v := .agg #[.bool ((frK (powQ a.rat n)).neg), .slice b4 ((frK (powQ a.rat n)).n.length) c9, .slice b5 ((frK (powQ a.rat n)).d.length) c10]) rfl rfl ?_))
 refine oC (OpW.extract (v := .int .i64 (powE a.rat n)) rfl rfl ?_)
 have g6 := g5.trans gr3
 refine oC (OpW.allocO (arr := #[.bool false, .slice none 0 0, .slice none 0 0]) g6.sat Tryd.zeroValue24 rfl ?_)
 intro b6 w5 gr4 n1 lo1 o1
 have lo2 := Nat.le_trans g6.ext.size lo1
 refine oC (sA (cs := [.bool ((frK (powQ a.rat n)).neg), .slice b4 ((frK (powQ a.rat n)).n.length) c9, .slice b5 ((frK (powQ a.rat n)).d.length) c10]) Tryd.sizeOf24 rfl rfl rfl rfl o1 rfl ?_)
 intro w6 p1
 refine ma (oN (wS (fg [(1, .int .i64 n), (2, .int .i64 m), (3, .pointer (some ⟨b3, 0, none⟩)), (7, .pointer (some ⟨b6, 0, none⟩)), (8, .int .i64 (powE a.rat n))] rfl (fun ρ3 => (wR ?_)))))
 have g7 := (g6.trans gr4).put p1 n1 lo2
 refine oC (lA (cs := [.bool a.neg, .slice b1 a.n.length c1, .slice b2 a.d.length c2]) Tryd.isAgg24 Tryd.sizeOf24 rfl (g7.sat _ _ (gr3.le _ _ qb1)) rfl rfl (mv (oC (cF Tryd.call21 (Pow_c (a := a) (n := m) g7.sat (F.mk (U.mono u1 (gr1.le.trans gr3.le)) (U.mono u2 (gr1.le.trans gr3.le))) (by omega) (by omega) (by omega)) rfl ?_))))
 intro r5 h4 w7 gr5 hr5
 obtain ⟨r6, r7, rfl, hr6, hr7⟩ := hr5
 obtain ⟨b7, c11, b8, c12, rfl, k5, k6, u5, u6⟩ := F.shape hr6
 subst hr7
 refine mv (oC (OpW.extract (v := .agg #[.bool ((frK (powQ a.rat m)).neg), .slice b7 ((frK (powQ a.rat m)).n.length) c11, .slice b8 ((frK (powQ a.rat m)).d.length) c12]) rfl rfl ?_))
 refine oC (OpW.extract (v := .int .i64 (powE a.rat m)) rfl rfl ?_)
 have g8 := g7.trans gr5
 have o4 := gr5.kp ⟨p1.at_, n1⟩
 have lt1 := blk_lt o4.1
 refine oC (OpW.allocO (arr := #[.bool false, .slice none 0 0, .slice none 0 0]) g8.sat Tryd.zeroValue24 rfl ?_)
 intro b9 w8 gr6 n2 lo3 o3
 have lo4 := Nat.le_trans g8.ext.size lo3
 have ne1 : b6 ≠ b9 := Nat.ne_of_lt (Nat.lt_of_lt_of_le lt1 lo3)
 refine oC (sA (cs := [.bool ((frK (powQ a.rat m)).neg), .slice b7 ((frK (powQ a.rat m)).n.length) c11, .slice b8 ((frK (powQ a.rat m)).d.length) c12]) Tryd.sizeOf24 rfl rfl rfl rfl o3 rfl ?_)
 intro w9 p2
 refine ma (oN (wS (fg [(1, .int .i64 n), (2, .int .i64 m), (3, .pointer (some ⟨b3, 0, none⟩)), (7, .pointer (some ⟨b6, 0, none⟩)), (8, .int .i64 (powE a.rat n)), (9, .pointer (some ⟨b9, 0, none⟩)), (10, .int .i64 (powE a.rat m))] rfl (fun ρ4 => (wR ?_)))))
 have g9 := (g8.trans gr6).put p2 n2 lo4
 refine oC (lA (cs := [.bool a.neg, .slice b1 a.n.length c1, .slice b2 a.d.length c2]) Tryd.isAgg24 Tryd.sizeOf24 rfl (g9.sat _ _ ((gr3.le.trans gr5.le) _ _ qb1)) rfl rfl (mv (mv (oC (OpW.add (a := n) (b := m) (r := (n + m)) rfl rfl (in_i64 (by omega)) ?_)))))
 refine oC (cF Tryd.call21 (Pow_c (a := a) (n := (n + m)) g9.sat (F.mk (U.mono u1 ((gr1.le.trans gr3.le).trans gr5.le)) (U.mono u2 ((gr1.le.trans gr3.le).trans gr5.le))) (by omega) (by omega) (by omega)) rfl ?_)
 intro r8 h5 w10 gr7 hr8
 obtain ⟨r9, r10, rfl, hr9, hr10⟩ := hr8
 obtain ⟨b10, c13, b11, c14, rfl, k7, k8, u7, u8⟩ := F.shape hr9
 subst hr10
 refine mv (oC (OpW.extract (v := .agg #[.bool ((frK (powQ a.rat (n + m))).neg), .slice b10 ((frK (powQ a.rat (n + m))).n.length) c13, .slice b11 ((frK (powQ a.rat (n + m))).d.length) c14]) rfl rfl ?_))
 refine oC (OpW.extract (v := .int .i64 (powE a.rat (n + m))) rfl rfl ?_)
 have g10 := g9.trans gr7
 have o7 := gr7.kp (p2.kp ne1 (gr6.kp o4))
 have lt2 := blk_lt o7.1
 have o8 := gr7.kp ⟨p2.at_, n2⟩
 have lt3 := blk_lt o8.1
 refine oC (OpW.allocO (arr := #[.bool false, .slice none 0 0, .slice none 0 0]) g10.sat Tryd.zeroValue24 rfl ?_)
 intro b12 w11 gr8 n3 lo5 o6
 have lo6 := Nat.le_trans g10.ext.size lo5
 have ne2 : b6 ≠ b12 := Nat.ne_of_lt (Nat.lt_of_lt_of_le lt2 lo5)
 have ne3 : b9 ≠ b12 := Nat.ne_of_lt (Nat.lt_of_lt_of_le lt3 lo5)
 refine oC (sA (cs := [.bool ((frK (powQ a.rat (n + m))).neg), .slice b10 ((frK (powQ a.rat (n + m))).n.length) c13, .slice b11 ((frK (powQ a.rat (n + m))).d.length) c14]) Tryd.sizeOf24 rfl rfl rfl rfl o6 rfl ?_)
 intro w12 p3
 refine ma (oN (wS (fg [(7, .pointer (some ⟨b6, 0, none⟩)), (8, .int .i64 (powE a.rat n)), (9, .pointer (some ⟨b9, 0, none⟩)), (10, .int .i64 (powE a.rat m)), (11, .pointer (some ⟨b12, 0, none⟩)), (12, .int .i64 (powE a.rat (n + m)))] rfl (fun ρ5 => ?_))))
 have g11 := (g10.trans gr8).put p3 n3 lo6
 have hf1 := bq_mul (powQ a.rat n) (powQ a.rat m)
 refine Wp.dagL 21 [60, 61, 62, 63, 64, 65, 66, 67, 68, 69, 70, 71, 72, 73, 74, 75, 76, 77, 78, 79, 6] [eqv (.int .i64 (powE a.rat n)), eqv (.bool true), eqv (.bool true), eqv (.int .i64 (powE a.rat m)), eqv (.bool true), eqv (.bool true), eqv (.bool true), eqv (.int .i64 (powE a.rat (n + m))), eqv (.bool true), eqv (.bool true), eqv (.bool true), eqv (.agg #[.bool ((frK (powQ a.rat n)).neg), .slice b4 ((frK (powQ a.rat n)).n.length) c9, .slice b5 ((frK (powQ a.rat n)).d.length) c10]), eqv (.agg #[.bool ((frK (powQ a.rat m)).neg), .slice b7 ((frK (powQ a.rat m)).n.length) c11, .slice b8 ((frK (powQ a.rat m)).d.length) c12]), fun h _ x => Kn h x ((powQ a.rat n) * (powQ a.rat m)), eqv (.agg #[.bool ((frK (powQ a.rat (n + m))).neg), .slice b10 ((frK (powQ a.rat (n + m))).n.length) c13, .slice b11 ((frK (powQ a.rat (n + m))).d.length) c14]), eqv (.bool true), eqv (.bool true), eqv (.bool true), eqv (.bool true), eqv (.bool true), eqv (.bool true)] mixed g11.sat rfl (by decide +kernel) ⟨sQ _, sQ _, sQ _, sQ _, sQ _, sQ _, sQ _, sQ _, sQ _, sQ _, sQ _, sQ _, sQ _, (stab_K ((powQ a.rat n) * (powQ a.rat m))), sQ _, sQ _, sQ _, sQ _, sQ _, sQ _, sQ _, trivial⟩ ?_ ?_
 intro stab
 refine ⟨?_, ?_, ?_, ?_, ?_, ?_, ?_, ?_, ?_, ?_, ?_, ?_, ?_, ?_, ?_, ?_, ?_, ?_, ?_, ?_, ?_, trivial⟩
 intro ρ6 h6 w13 g12 hdd1 hdo1
 have e1 : ρ6 8 = .int .i64 (powE a.rat n) := hdo1 8 rfl
 refine gP (OpW.move (v := .int .i64 (powE a.rat n)) e1 ?_)
 exact ⟨_, h6, rfl, g12, fun j x _ p => p, rfl⟩
 intro ρ7 h7 w14 g13 hdd2 hdo2
 have e2 : ρ7 60 = .int .i64 (powE a.rat n) := hdd2 0 (by decide)
 refine gP (OpW.eqlI (a := (powE a.rat n)) (b := ((0 : Nat) : Int)) (r := true) e2 rfl (decide_eq_true (powE_ok (by omega) (by rintro ⟨h1, _⟩; omega))) ?_)
 exact ⟨_, h7, rfl, g13, fun j x _ p => p, rfl⟩
 intro ρ8 h8 w15 g14 hdd3 hdo3
 have e3 : ρ8 61 = .bool true := hdd3 1 (by decide)
 refine gP (OpW.move (v := .bool true) e3 ?_)
 exact ⟨_, h8, rfl, g14, fun j x _ p => p, rfl⟩
 intro ρ9 h9 w16 g15 hdd4 hdo4
 have e4 : ρ9 10 = .int .i64 (powE a.rat m) := hdo4 10 rfl
 have e5 : ρ9 62 = .bool true := hdd4 2 (by decide)
 refine gL (d := 62) (b := true) ?_ ?_ ?_ ?_
 · rfl
 · rfl
 · exact e5
 refine (OpW.move (v := .int .i64 (powE a.rat m)) e4 ?_)
 exact ⟨_, h9, rfl, g15, fun j x _ p => p, rfl⟩
 intro ρ10 h10 w17 g16 hdd5 hdo5
 have e6 : ρ10 62 = .bool true := hdd5 2 (by decide)
 have e7 : ρ10 63 = .int .i64 (powE a.rat m) := hdd5 3 (by decide)
 refine gL (d := 62) (b := true) ?_ ?_ ?_ ?_
 · rfl
 · rfl
 · exact e6
 refine (OpW.eqlI (a := (powE a.rat m)) (b := ((0 : Nat) : Int)) (r := true) e7 rfl (decide_eq_true (powE_ok (by omega) (by rintro ⟨h1, _⟩; omega))) ?_)
 exact ⟨_, h10, rfl, g16, fun j x _ p => p, rfl⟩
 intro ρ11 h11 w18 g17 hdd6 hdo6
 have e8 : ρ11 62 = .bool true := hdd6 2 (by decide)
 have e9 : ρ11 64 = .bool true := hdd6 4 (by decide)
 refine gP (pT (v := .bool true) e8 e9 ?_)
 exact ⟨_, h11, rfl, g17, fun j x _ p => p, rfl⟩
 intro ρ12 h12 w19 g18 hdd7 hdo7
 have e10 : ρ12 65 = .bool true := hdd7 5 (by decide)
 refine gP (OpW.move (v := .bool true) e10 ?_)
 exact ⟨_, h12, rfl, g18, fun j x _ p => p, rfl⟩
 intro ρ13 h13 w20 g19 hdd8 hdo8
 have e11 : ρ13 12 = .int .i64 (powE a.rat (n + m)) := hdo8 12 rfl
 have e12 : ρ13 66 = .bool true := hdd8 6 (by decide)
 refine gL (d := 66) (b := true) ?_ ?_ ?_ ?_
 · rfl
 · rfl
 · exact e12
 refine (OpW.move (v := .int .i64 (powE a.rat (n + m))) e11 ?_)
 exact ⟨_, h13, rfl, g19, fun j x _ p => p, rfl⟩
 intro ρ14 h14 w21 g20 hdd9 hdo9
 have e13 : ρ14 66 = .bool true := hdd9 6 (by decide)
 have e14 : ρ14 67 = .int .i64 (powE a.rat (n + m)) := hdd9 7 (by decide)
 refine gL (d := 66) (b := true) ?_ ?_ ?_ ?_
 · rfl
 · rfl
 · exact e13
 refine (OpW.eqlI (a := (powE a.rat (n + m))) (b := ((0 : Nat) : Int)) (r := true) e14 rfl (decide_eq_true (powE_ok (by omega) (by rintro ⟨h1, _⟩; omega))) ?_)
 exact ⟨_, h14, rfl, g20, fun j x _ p => p, rfl⟩
 intro ρ15 h15 w22 g21 hdd10 hdo10
 have e15 : ρ15 66 = .bool true := hdd10 6 (by decide)
 have e16 : ρ15 68 = .bool true := hdd10 8 (by decide)
 refine gP (pT (v := .bool true) e15 e16 ?_)
 exact ⟨_, h15, rfl, g21, fun j x _ p => p, rfl⟩
 intro ρ16 h16 w23 g22 hdd11 hdo11
 have e17 : ρ16 69 = .bool true := hdd11 9 (by decide)
 refine gP (OpW.move (v := .bool true) e17 ?_)
 exact ⟨_, h16, rfl, g22, fun j x _ p => p, rfl⟩
 intro ρ17 h17 w24 g23 hdd12 hdo12
 have e18 : ρ17 7 = .pointer (some ⟨b6, 0, none⟩) := hdo12 7 rfl
 have e19 : ρ17 70 = .bool true := hdd12 10 (by decide)
 refine gL (d := 70) (b := true) ?_ ?_ ?_ ?_
 · rfl
 · rfl
 · exact e19
 have o10 := g23.kp (p3.kp ne2 (gr8.kp o7))
 refine (lA (cs := [.bool ((frK (powQ a.rat n)).neg), .slice b4 ((frK (powQ a.rat n)).n.length) c9, .slice b5 ((frK (powQ a.rat n)).d.length) c10]) Tryd.isAgg24 Tryd.sizeOf24 e18 o10.1 rfl rfl ?_)
 exact ⟨_, h17, rfl, g23, fun j x _ p => p, rfl⟩
 intro ρ18 h18 w25 g24 hdd13 hdo13
 have e20 : ρ18 9 = .pointer (some ⟨b9, 0, none⟩) := hdo13 9 rfl
 have e21 : ρ18 70 = .bool true := hdd13 10 (by decide)
 refine gL (d := 70) (b := true) ?_ ?_ ?_ ?_
 · rfl
 · rfl
 · exact e21
 have o11 := g24.kp (p3.kp ne3 (gr8.kp o8))
 refine (lA (cs := [.bool ((frK (powQ a.rat m)).neg), .slice b7 ((frK (powQ a.rat m)).n.length) c11, .slice b8 ((frK (powQ a.rat m)).d.length) c12]) Tryd.isAgg24 Tryd.sizeOf24 e20 o11.1 rfl rfl ?_)
 exact ⟨_, h18, rfl, g24, fun j x _ p => p, rfl⟩
 intro ρ19 h19 w26 g25 hdd14 hdo14
 have e22 : ρ19 70 = .bool true := hdd14 10 (by decide)
 have e23 : ρ19 71 = .agg #[.bool ((frK (powQ a.rat n)).neg), .slice b4 ((frK (powQ a.rat n)).n.length) c9, .slice b5 ((frK (powQ a.rat n)).d.length) c10] := hdd14 11 (by decide)
 have e24 : ρ19 72 = .agg #[.bool ((frK (powQ a.rat m)).neg), .slice b7 ((frK (powQ a.rat m)).n.length) c11, .slice b8 ((frK (powQ a.rat m)).d.length) c12] := hdd14 12 (by decide)
 refine gL (d := 70) (b := true) ?_ ?_ ?_ ?_
 · rfl
 · rfl
 · exact e22
 have g26 := g11.trans g25
 refine (cF Tryd.call48 (Mul_c (a := frK (powQ a.rat n)) (b := frK (powQ a.rat m)) g26.sat (F.mk (U.mono u3 ((gr5.le.trans gr7.le).trans g25.le)) (U.mono u4 ((gr5.le.trans gr7.le).trans g25.le))) (F.mk (U.mono u5 (gr7.le.trans g25.le)) (U.mono u6 (gr7.le.trans g25.le))) (by first | omega | (simp only [bf_frK, frK_rat, wts_cons, wts_nil]; omega))) (cx e23 (cx e24 cxn)) ?_)
 intro r11 h20 w27 gr9 hr11
 simp only [frK_rat, bf_frK, val_digs] at hr11
 exact ⟨r11, h20, rfl, g25.trans gr9, fun j x _ => stab j _ _ _ _ x gr9, hr11⟩
 intro ρ20 h21 w28 g27 hdd15 hdo15
 have e25 : ρ20 11 = .pointer (some ⟨b12, 0, none⟩) := hdo15 11 rfl
 have e26 : ρ20 70 = .bool true := hdd15 10 (by decide)
 refine gL (d := 70) (b := true) ?_ ?_ ?_ ?_
 · rfl
 · rfl
 · exact e26
 have o12 := g27.kp ⟨p3.at_, n3⟩
 refine (lA (cs := [.bool ((frK (powQ a.rat (n + m))).neg), .slice b10 ((frK (powQ a.rat (n + m))).n.length) c13, .slice b11 ((frK (powQ a.rat (n + m))).d.length) c14]) Tryd.isAgg24 Tryd.sizeOf24 e25 o12.1 rfl rfl ?_)
 exact ⟨_, h21, rfl, g27, fun j x _ p => p, rfl⟩
 intro ρ21 h22 w29 g28 hdd16 hdo16
 have e27 : ρ21 70 = .bool true := hdd16 10 (by decide)
 have q1 : Kn h22 (ρ21 73) ((powQ a.rat n) * (powQ a.rat m)) := hdd16 13 (by decide)
 have e28 : ρ21 74 = .agg #[.bool ((frK (powQ a.rat (n + m))).neg), .slice b10 ((frK (powQ a.rat (n + m))).n.length) c13, .slice b11 ((frK (powQ a.rat (n + m))).d.length) c14] := hdd16 14 (by decide)
 refine gL (d := 70) (b := true) ?_ ?_ ?_ ?_
 · rfl
 · rfl
 · exact e27
 have g29 := g11.trans g28
 refine (cF Tryd.call22 (rSame_c (f := frK ((powQ a.rat n) * (powQ a.rat m))) (g := frK (powQ a.rat (n + m))) g29.sat q1 (F.mk (U.mono u7 g28.le) (U.mono u8 g28.le)) (by first | omega | (simp only [bf_frK, frK_rat, wts_cons, wts_nil]; omega)) (by first | omega | (simp only [bf_frK, frK_rat, wts_cons, wts_nil]; omega))) (cx rfl (cx e28 cxn)) ?_)
 intro r12 h23 w30 gr10 hr12
 replace hr12 := hr12.trans (congrArg Value.bool (sameF_cast (congrArg frK (powQ_add (by omega) (by omega) (by omega) (by omega)))))
 exact ⟨r12, h23, rfl, g28.trans gr10, fun j x _ => stab j _ _ _ _ x gr10, hr12⟩
 intro ρ22 h24 w31 g30 hdd17 hdo17
 have e29 : ρ22 70 = .bool true := hdd17 10 (by decide)
 have e30 : ρ22 75 = .bool true := hdd17 15 (by decide)
 refine gP (pT (v := .bool true) e29 e30 ?_)
 exact ⟨_, h24, rfl, g30, fun j x _ p => p, rfl⟩
 intro ρ23 h25 w32 g31 hdd18 hdo18
 have e31 : ρ23 76 = .bool true := hdd18 16 (by decide)
 refine gP (OpW.move (v := .bool true) e31 ?_)
 exact ⟨_, h25, rfl, g31, fun j x _ p => p, rfl⟩
 intro ρ24 h26 w33 g32 hdd19 hdo19
 have e32 : ρ24 77 = .bool true := hdd19 17 (by decide)
 refine gL (d := 77) (b := true) ?_ ?_ ?_ ?_
 · rfl
 · rfl
 · exact e32
 have g33 := g11.trans g32
 refine (cF Tryd.call20 (known_c  g33.sat (tb.mono ((((gr1.le.trans gr3.le).trans gr5.le).trans gr7.le).trans g32.le)) ) rfl ?_)
 intro r13 h27 w34 gr11 hr13
 exact ⟨r13, h27, rfl, g32.trans gr11, fun j x _ => stab j _ _ _ _ x gr11, hr13⟩
 intro ρ25 h28 w35 g34 hdd20 hdo20
 have e33 : ρ25 77 = .bool true := hdd20 17 (by decide)
 have e34 : ρ25 78 = .bool true := hdd20 18 (by decide)
 refine gP (pT (v := .bool true) e33 e34 ?_)
 exact ⟨_, h28, rfl, g34, fun j x _ p => p, rfl⟩
 intro ρ26 h29 w36 g35 hdd21 hdo21
 have e35 : ρ26 79 = .bool true := hdd21 19 (by decide)
 refine gP (OpW.assign (v := .bool true) e35 ?_)
 exact ⟨_, h29, rfl, g35, fun j x _ p => p, rfl⟩
 intro ρ27 h30 w37 g36 hdp1 hdo22
 have e36 : ρ27 6 = .bool true := hdp1 20 rfl
 refine Ops.forget [(6, .bool true)] ⟨e36, trivial⟩ (fun ρ28 => (oN (Wp.ret (fin1_ret rfl (resOf_tmp (v := .bool true) rfl) ?_))))
 have g37 := g11.trans g36
 refine ⟨h30, g37, ?_⟩
 exact rfl
end Go.Ear
