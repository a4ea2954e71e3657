/- About package frac: LawFracPows. -/
import Derived.Test.YtmidncjhlnfojaaDoorNatLaw2
import Derived.Test.YtmidncjhlnfojaaDoorEarShort
import Derived.Test.YtmidncjhlnfojaaDoorProg
import Derived.Test.YtmidncjhlnfojaaDoorNatLaw3
import Derived.Test.YtmidncjhlnfojaaDoorEarFrac
import Derived.Test.YtmidncjhlnfojaaDoorEarDec
import Derived.Test.YtmidncjhlnfojaaDoorItoaLay
import Derived.Lib.ItoaMem
import Derived.Test.YtmidncjhlnfojaaDoorEarApi
import Derived.Test.YtmidncjhlnfojaaDoorEarRef2
import Derived.Test.YtmidncjhlnfojaaDoorEarLaw
import Derived.Test.YtmidncjhlnfojaaDoorEarLaw2
import Derived.Test.YtmidncjhlnfojaaDoorEarStore
import Derived.Test.YtmidncjhlnfojaaDoorK1
import Derived.Test.YtmidncjhlnfojaaDoorK14
import Derived.Test.YtmidncjhlnfojaaDoorK8
import Derived.Test.YtmidncjhlnfojaaDoorXrPow
import Derived.Test.YtmidncjhlnfojaaDoorXrSame
import Derived.Test.YtmidncjhlnfojaaDoorXrSign
set_option linter.all false
namespace Go.Ear
open Go.Proofs
set_option maxRecDepth 20000
set_option linter.unusedVariables false
set_option maxHeartbeats 2000000
theorem fracPows_c {h : PH} {w : World} {v0 : Value} {a : Fr} {n : Int} (hs : Sat h w) (tb : Tab h) (pv0 : F h v0 a) (hp0 : -9223372036854775808 ≤ n) (hp1 : n ≤ 9223372036854775807) :
    Calls Tryd.prog 3 #[v0, .int .i64 n] w (Ret h w fun h' r => r = .bool true) := by
 obtain ⟨b1, c1, b2, c2, rfl, k1, k2, u1, u2⟩ := F.shape pv0
 have hbq1 := F.bq pv0
 have hz := sgQ_zero (q := a.rat)
 refine calls_ear (vs := [.agg #[.bool a.neg, .slice b1 a.n.length c1, .slice b2 a.d.length c2], .int .i64 n]) Tryd.func3 rfl rfl ?_
 have g1 := Gr.refl hs
 refine sr (oC (OpW.boxK (v := .agg #[.bool a.neg, .slice b1 a.n.length c1, .slice b2 a.d.length c2]) (arr := #[.bool a.neg, .slice b1 a.n.length c1, .slice b2 a.d.length c2]) g1.sat rfl rfl ?_))
 intro b3 h1 w1 gr1 qb1
 refine ma (oN (wS (sr (Ops.cut (fun ρ' w' => w1 = w' ∧ ∃ ρb, ρ' = upds ρb [(1, .int .i64 n), (2, .pointer (some ⟨b3, 0, none⟩)), (32, .bool ((decide (4 < a.n.length)) || ((decide (4 < a.d.length)) || (cond (decide (((12 : Nat) : Int) < n)) ((decide (n ≤ ((4096 : Nat) : Int))) && (decide ((-4096) ≤ n))) ((decide (n < (-12))) && ((decide (n ≤ ((4096 : Nat) : Int))) && (decide ((-4096) ≤ n))))))))]) ?_ ?_))))
 refine oC (fA (o := 1) Tryd.underlying24 rfl Tryd.sizeOf22 (by decide) rfl rfl ?_)
 have g2 := g1.trans gr1
 refine oC (lO (v := .slice b1 a.n.length c1) Tryd.isAgg22 rfl (g2.sat _ _ qb1) rfl ?_)
 refine oC (OpW.lenS Tryd.underlying22 (l := a.n.length) rfl ?_)
 refine oC (OpW.gtr (a := ((a.n.length : Nat) : Int)) (b := ((4 : Nat) : Int)) (r := decide (4 < a.n.length)) rfl rfl (lt_nat (a := 4) (b := a.n.length)) (mv ?_))
 cases c3 : (decide (4 < a.n.length))
 replace c3 : ¬ (4 < a.n.length) := (of_decide_eq_false c3)
 refine oL rfl rfl rfl (fA (o := 2) Tryd.underlying24 rfl Tryd.sizeOf22 (by decide) rfl rfl ?_)
 refine oL rfl rfl rfl (lO (v := .slice b2 a.d.length c2) Tryd.isAgg22 rfl (g2.sat _ _ qb1) rfl ?_)
 refine oL rfl rfl rfl (OpW.lenS Tryd.underlying22 (l := a.d.length) rfl ?_)
 refine oL rfl rfl rfl (OpW.gtr (a := ((a.d.length : Nat) : Int)) (b := ((4 : Nat) : Int)) (r := decide (4 < a.d.length)) rfl rfl (lt_nat (a := 4) (b := a.d.length)) ?_)
 refine oC (pF (v := .bool (decide (4 < a.d.length))) rfl rfl (mv ?_))
 cases c4 : (decide (4 < a.d.length))
 replace c4 : ¬ (4 < a.d.length) := (of_decide_eq_false c4)
 refine oL rfl rfl rfl (OpW.move (v := .int .i64 n) rfl ?_)
 refine oL rfl rfl rfl (OpW.gtr (a := n) (b := ((12 : Nat) : Int)) (r := decide (((12 : Nat) : Int) < n)) rfl rfl rfl ?_)
 refine oL rfl rfl rfl (OpW.move (v := .bool (decide (((12 : Nat) : Int) < n))) rfl ?_)
 cases c5 : (decide (((12 : Nat) : Int) < n))
 replace c5 : ¬ (((12 : Nat) : Int) < n) := (of_decide_eq_false c5)
 refine oL rfl rfl rfl (OpW.move (v := .int .i64 n) rfl ?_)
 refine oL rfl rfl rfl (OpW.lss (a := n) (b := (-12)) (r := decide (n < (-12))) rfl rfl rfl ?_)
 refine oL rfl rfl rfl (pF (v := .bool (decide (n < (-12)))) rfl rfl ?_)
 refine oL rfl rfl rfl (OpW.move (v := .bool (decide (n < (-12)))) rfl ?_)
 cases c6 : (decide (n < (-12)))
 replace c6 : ¬ (n < (-12)) := (of_decide_eq_false c6)
 refine oD rfl rfl rfl rfl (oD rfl rfl rfl rfl (oL rfl rfl rfl (pF (v := .bool false) rfl rfl ?_)))
 refine oL rfl rfl rfl (OpW.move (v := .bool false) rfl (oD rfl rfl rfl rfl (oD rfl rfl rfl rfl (oL rfl rfl rfl (pF (v := .bool false) rfl rfl ?_)))))
 refine oC (pF (v := .bool false) rfl rfl (oN ?_))
 exact ⟨rfl, _, nm rfl⟩
 replace c6 : n < (-12) := (of_decide_eq_true c6)
 refine oL rfl rfl rfl (OpW.move (v := .int .i64 n) rfl ?_)
 refine oL rfl rfl rfl (OpW.leq (a := n) (b := ((4096 : Nat) : Int)) (r := decide (n ≤ ((4096 : Nat) : Int))) rfl rfl rfl ?_)
 refine oL rfl rfl rfl (pT (v := .bool (decide (n ≤ ((4096 : Nat) : Int)))) rfl rfl ?_)
 refine oL rfl rfl rfl (OpW.move (v := .bool (decide (n ≤ ((4096 : Nat) : Int)))) rfl ?_)
 cases c7 : (decide (n ≤ ((4096 : Nat) : Int)))
 replace c7 : ¬ (n ≤ ((4096 : Nat) : Int)) := (of_decide_eq_false c7)
 refine oD rfl rfl rfl rfl (oD rfl rfl rfl rfl (oL rfl rfl rfl (pF (v := .bool false) rfl rfl ?_)))
 refine oC (pF (v := .bool false) rfl rfl (oN ?_))
 exact ⟨rfl, _, nm rfl⟩
 replace c7 : n ≤ ((4096 : Nat) : Int) := (of_decide_eq_true c7)
 refine oL rfl rfl rfl (OpW.move (v := .int .i64 n) rfl ?_)
 refine oL rfl rfl rfl (OpW.geq (a := n) (b := (-4096)) (r := decide ((-4096) ≤ n)) rfl rfl rfl ?_)
 refine oL rfl rfl rfl (pT (v := .bool (decide ((-4096) ≤ n))) rfl rfl ?_)
 refine oC (pF (v := .bool (decide ((-4096) ≤ n))) rfl rfl (oN ?_))
 exact ⟨rfl, _, nm rfl⟩
 replace c5 : ((12 : Nat) : Int) < n := (of_decide_eq_true c5)
 refine oD rfl rfl rfl rfl (oD rfl rfl rfl rfl (oL rfl rfl rfl (pT (v := .bool true) rfl rfl ?_)))
 refine oL rfl rfl rfl (OpW.move (v := .bool true) rfl ?_)
 refine oL rfl rfl rfl (OpW.move (v := .int .i64 n) rfl ?_)
 refine oL rfl rfl rfl (OpW.leq (a := n) (b := ((4096 : Nat) : Int)) (r := decide (n ≤ ((4096 : Nat) : Int))) rfl rfl rfl ?_)
 refine oL rfl rfl rfl (pT (v := .bool (decide (n ≤ ((4096 : Nat) : Int)))) rfl rfl ?_)
 refine oL rfl rfl rfl (OpW.move (v := .bool (decide (n ≤ ((4096 : Nat) : Int)))) rfl ?_)
 cases c8 : (decide (n ≤ ((4096 : Nat) : Int)))
 replace c8 : ¬ (n ≤ ((4096 : Nat) : Int)) := (of_decide_eq_false c8)
 refine oD rfl rfl rfl rfl (oD rfl rfl rfl rfl (oL rfl rfl rfl (pF (v := .bool false) rfl rfl ?_)))
 refine oC (pF (v := .bool false) rfl rfl (oN ?_))
 exact ⟨rfl, _, nm rfl⟩
 replace c8 : n ≤ ((4096 : Nat) : Int) := (of_decide_eq_true c8)
 refine oL rfl rfl rfl (OpW.move (v := .int .i64 n) rfl ?_)
 refine oL rfl rfl rfl (OpW.geq (a := n) (b := (-4096)) (r := decide ((-4096) ≤ n)) rfl rfl rfl ?_)
 refine oL rfl rfl rfl (pT (v := .bool (decide ((-4096) ≤ n))) rfl rfl ?_)
 refine oC (pF (v := .bool (decide ((-4096) ≤ n))) rfl rfl (oN ?_))
 exact ⟨rfl, _, nm rfl⟩
 replace c4 : 4 < a.d.length := (of_decide_eq_true c4)
 refine oD rfl rfl rfl rfl (oD rfl rfl rfl rfl (oD rfl rfl rfl rfl (Ops.dead0 rfl rfl rfl (Ops.dead0 rfl rfl rfl (oD rfl rfl rfl rfl (oD rfl rfl rfl rfl (Ops.dead0 rfl rfl rfl (Ops.dead0 rfl rfl rfl (oD rfl rfl rfl rfl (oD rfl rfl rfl rfl (Ops.dead0 rfl rfl rfl (Ops.dead0 rfl rfl rfl (oD rfl rfl rfl rfl (oC (pT (v := .bool true) rfl rfl (oN ?_))))))))))))))))
 exact ⟨rfl, _, nm rfl⟩
 replace c3 : 4 < a.n.length := (of_decide_eq_true c3)
 refine oD rfl rfl rfl rfl (oD rfl rfl rfl rfl (oD rfl rfl rfl rfl (oD rfl rfl rfl rfl (oC (pT (v := .bool true) rfl rfl (mv (oD rfl rfl rfl rfl (oD rfl rfl rfl rfl (oD rfl rfl rfl rfl (Ops.dead0 rfl rfl rfl (Ops.dead0 rfl rfl rfl (oD rfl rfl rfl rfl (oD rfl rfl rfl rfl (Ops.dead0 rfl rfl rfl (Ops.dead0 rfl rfl rfl (oD rfl rfl rfl rfl (oD rfl rfl rfl rfl (Ops.dead0 rfl rfl rfl (Ops.dead0 rfl rfl rfl (oD rfl rfl rfl rfl (oC (pT (v := .bool true) rfl rfl (oN ?_)))))))))))))))))))))))
 exact ⟨rfl, _, nm rfl⟩
 rintro ρ1 w2 ⟨rfl, ρ2, rfl⟩
 refine Wp.cond (t := (decide (4 < a.n.length)) || ((decide (4 < a.d.length)) || (cond (decide (((12 : Nat) : Int) < n)) ((decide (n ≤ ((4096 : Nat) : Int))) && (decide ((-4096) ≤ n))) ((decide (n < (-12))) && ((decide (n ≤ ((4096 : Nat) : Int))) && (decide ((-4096) ≤ n))))))) rfl (fun c9 => ?_) (fun c9 => ?_)
 replace c9 : (4 < a.n.length) ∨ ((4 < a.d.length) ∨ (((((12 : Nat) : Int) < n) ∧ ((n ≤ ((4096 : Nat) : Int)) ∧ ((-4096) ≤ n))) ∨ (¬ (((12 : Nat) : Int) < n) ∧ ((n < (-12)) ∧ ((n ≤ ((4096 : Nat) : Int)) ∧ ((-4096) ≤ n)))))) := ((or_t c9).imp (fun h => (of_decide_eq_true h)) (fun h => ((or_t h).imp (fun h => (of_decide_eq_true h)) (fun h => ((cond_t h).imp (fun h => ⟨(of_decide_eq_true h.1), ⟨(of_decide_eq_true (and_l h.2)), (of_decide_eq_true (and_r h.2))⟩⟩) (fun h => ⟨(of_decide_eq_false h.1), ⟨(of_decide_eq_true (and_l h.2)), ⟨(of_decide_eq_true (and_l (and_r h.2))), (of_decide_eq_true (and_r (and_r h.2)))⟩⟩⟩))))))
 refine sr ?_
 have g3 := g1.trans gr1
 refine oC (cF Tryd.call20 (known_c  g3.sat (tb.mono gr1.le) ) rfl ?_)
 intro r1 h2 w3 gr2 hr1
 subst hr1
 refine ma (oN (Wp.ret (fin1_ret rfl (resOf_tmp (v := .bool true) rfl) ?_)))
 have g4 := g3.trans gr2
 refine ⟨h2, g4, ?_⟩
 exact rfl
 replace c9 : ¬ ((4 < a.n.length) ∨ ((4 < a.d.length) ∨ (((((12 : Nat) : Int) < n) ∧ ((n ≤ ((4096 : Nat) : Int)) ∧ ((-4096) ≤ n))) ∨ (¬ (((12 : Nat) : Int) < n) ∧ ((n < (-12)) ∧ ((n ≤ ((4096 : Nat) : Int)) ∧ ((-4096) ≤ n))))))) := (fun pq => pq.elim (of_decide_eq_false (or_l c9)) (fun pq => pq.elim (of_decide_eq_false (or_l (or_r c9))) (fun pq => (cond_f (or_r (or_r c9))).elim (fun h => pq.elim (fun p => (fun pq => (and_f h.2).elim (fun h => (of_decide_eq_false h) pq.1) (fun h => (of_decide_eq_false h) pq.2)) p.2) (fun p => p.1 (of_decide_eq_true h.1))) (fun h => pq.elim (fun p => (of_decide_eq_false h.1) p.1) (fun p => (fun pq => (and_f h.2).elim (fun h => (of_decide_eq_false h) pq.1) (fun h => (fun pq => (and_f h).elim (fun h => (of_decide_eq_false h) pq.1) (fun h => (of_decide_eq_false h) pq.2)) pq.2)) p.2)))))
 have hbf : bf a ≤ 4 := by have hx := c9; unfold bf; omega
 have hbp := bq_powQ (q := a.rat) (n := n) (by have hx := c9; omega)
 have hbp2 := fun h => Nat.le_trans (Nat.le_of_eq (congrArg bq (powQ_powR (q := a.rat) (n := n) h).symm)) hbp
 refine Wp.skip (sr ?_)
 have g5 := g1.trans gr1
 refine oC (lA (cs := [.bool a.neg, .slice b1 a.n.length c1, .slice b2 a.d.length c2]) Tryd.isAgg24 Tryd.sizeOf24 rfl (g5.sat _ _ qb1) rfl rfl (mv (oC (cF Tryd.call21 (Pow_c (a := a) (n := n) g5.sat (F.mk (U.mono u1 gr1.le) (U.mono u2 gr1.le)) (by omega) (by omega) (by omega)) rfl ?_))))
 intro r2 h3 w4 gr3 hr2
 obtain ⟨r3, r4, rfl, hr3, hr4⟩ := hr2
 obtain ⟨b4, c10, b5, c11, rfl, k3, k4, u3, u4⟩ := F.shape hr3
 subst hr4
 refine mv (oC (OpW.extract (v := .agg #[.bool ((frK (powQ a.rat n)).neg), .slice b4 ((frK (powQ a.rat n)).n.length) c10, .slice b5 ((frK (powQ a.rat n)).d.length) c11]) rfl rfl ?_))
 refine oC (OpW.extract (v := .int .i64 (powE a.rat n)) rfl rfl ?_)
 have g6 := g5.trans gr3
 refine oC (OpW.allocO (arr := #[.bool false, .slice none 0 0, .slice none 0 0]) g6.sat Tryd.zeroValue24 rfl ?_)
 intro b6 w5 gr4 n1 lo1 o1
 have lo2 := Nat.le_trans g6.ext.size lo1
 refine oC (sA (cs := [.bool ((frK (powQ a.rat n)).neg), .slice b4 ((frK (powQ a.rat n)).n.length) c10, .slice b5 ((frK (powQ a.rat n)).d.length) c11]) Tryd.sizeOf24 rfl rfl rfl rfl o1 rfl ?_)
 intro w6 p1
 refine ma (oN (wS (wS (fg [(1, .int .i64 n), (2, .pointer (some ⟨b3, 0, none⟩)), (5, .pointer (some ⟨b6, 0, none⟩)), (6, .int .i64 (powE a.rat n))] rfl (fun ρ3 => (wR (Ops.cut (fun ρ' w' => w6 = w' ∧ ∃ ρb, ρ' = upds ρb [(1, .int .i64 n), (2, .pointer (some ⟨b3, 0, none⟩)), (5, .pointer (some ⟨b6, 0, none⟩)), (6, .int .i64 (powE a.rat n)), (45, .bool ((decide (((4096 : Nat) : Int) < n)) || (decide (n < (-4096)))))]) ?_ ?_)))))))
 refine mv (oC (OpW.gtr (a := n) (b := ((4096 : Nat) : Int)) (r := decide (((4096 : Nat) : Int) < n)) rfl rfl rfl (mv ?_)))
 cases c12 : (decide (((4096 : Nat) : Int) < n))
 replace c12 : ¬ (((4096 : Nat) : Int) < n) := (of_decide_eq_false c12)
 refine oL rfl rfl rfl (OpW.move (v := .int .i64 n) rfl ?_)
 refine oL rfl rfl rfl (OpW.lss (a := n) (b := (-4096)) (r := decide (n < (-4096))) rfl rfl rfl ?_)
 refine oC (pF (v := .bool (decide (n < (-4096)))) rfl rfl (oN ?_))
 exact ⟨rfl, _, nm rfl⟩
 replace c12 : ((4096 : Nat) : Int) < n := (of_decide_eq_true c12)
 refine oD rfl rfl rfl rfl (oD rfl rfl rfl rfl (oC (pT (v := .bool true) rfl rfl (oN ?_))))
 exact ⟨rfl, _, nm rfl⟩
 rintro ρ4 w7 ⟨rfl, ρ5, rfl⟩
 refine Wp.cond (t := (decide (((4096 : Nat) : Int) < n)) || (decide (n < (-4096)))) rfl (fun c13 => ?_) (fun c13 => ?_)
 replace c13 : (((4096 : Nat) : Int) < n) ∨ (n < (-4096)) := ((or_t c13).imp (fun h => (of_decide_eq_true h)) (fun h => (of_decide_eq_true h)))
 refine sr (mv (oC (OpW.eqlI (a := (powE a.rat n)) (b := ((5 : Nat) : Int)) (r := true) rfl rfl (decide_eq_true (powE_long (by omega))) (mv (oL rfl rfl rfl (lA (cs := [.bool ((frK (powQ a.rat n)).neg), .slice b4 ((frK (powQ a.rat n)).n.length) c10, .slice b5 ((frK (powQ a.rat n)).d.length) c11]) Tryd.isAgg24 Tryd.sizeOf24 rfl p1.at_ rfl rfl ?_))))))
 refine oL rfl rfl rfl (OpW.build (places := [(0, 1), (1, 1), (2, 1)]) (cs := [.bool false, .slice none 0 0, .slice none 0 0]) Tryd.underlying24 Tryd.zeroValue24 (fun _ => by kernel_rfl) rfl ?_)
 have g7 := (g6.trans gr4).put p1 n1 lo2
 refine oL rfl rfl rfl (cF Tryd.call22 (rSame_c (f := frK (powQ a.rat n)) (g := Fr.mk false ([]) ([])) g7.sat (F.mk u3 u4) (F.mk (U.nil _ none _) (U.nil _ none _)) (by first | omega | (simp only [bf_frK, frK_rat, wts_cons, wts_nil]; omega)) (by decide)) rfl ?_)
 intro r5 h4 w8 gr5 hr5
 replace hr5 := hr5.trans (congrArg Value.bool (sameF_z (powQ_long (by omega))))
 subst hr5
 refine oC (pT (v := .bool true) rfl rfl (mv ?_))
 have g8 := g7.trans gr5
 refine oL rfl rfl rfl (cF Tryd.call20 (known_c  g8.sat (tb.mono ((gr1.le.trans gr3.le).trans gr5.le)) ) rfl ?_)
 intro r6 h5 w9 gr6 hr6
 subst hr6
 refine oC (pT (v := .bool true) rfl rfl (ma (oN (Wp.ret (fin1_ret rfl (resOf_tmp (v := .bool true) rfl) ?_)))))
 have g9 := g8.trans gr6
 refine ⟨h5, g9, ?_⟩
 exact rfl
 replace c13 : ¬ ((((4096 : Nat) : Int) < n) ∨ (n < (-4096))) := (fun pq => pq.elim (of_decide_eq_false (or_l c13)) (of_decide_eq_false (or_r c13)))
 refine Wp.skip (wS (sr ?_))
 have g10 := (g6.trans gr4).put p1 n1 lo2
 refine oC (lA (cs := [.bool a.neg, .slice b1 a.n.length c1, .slice b2 a.d.length c2]) Tryd.isAgg24 Tryd.sizeOf24 rfl (g10.sat _ _ (gr3.le _ _ qb1)) rfl rfl ?_)
 refine oC (cF Tryd.call23 (rSign_c (a := a) g10.sat (F.mk (U.mono u1 (gr1.le.trans gr3.le)) (U.mono u2 (gr1.le.trans gr3.le))) (by omega)) rfl ?_)
 intro r7 h6 w10 gr7 hr7
 subst hr7
 refine oC (OpW.eqlI (a := (sgQ a.rat)) (b := ((0 : Nat) : Int)) (r := decide ((sgQ a.rat) = ((0 : Nat) : Int))) rfl rfl rfl (mv ?_))
 cases c14 : (decide ((sgQ a.rat) = ((0 : Nat) : Int)))
 replace c14 : ¬ ((sgQ a.rat) = ((0 : Nat) : Int)) := (of_decide_eq_false c14)
 refine oD rfl rfl rfl rfl (oD rfl rfl rfl rfl (oC (pF (v := .bool false) rfl rfl (oN (Wp.cond_f rfl (Wp.skip (wS ?_)))))))
 have g11 := g10.trans gr7
 refine Wp.dagL 13 [73, 74, 75, 76, 77, 78, 79, 80, 81, 82, 83, 84, 4] [eqv (.int .i64 (powE a.rat n)), eqv (.bool true), eqv (.bool true), eqv (.agg #[.bool ((frK (powQ a.rat n)).neg), .slice b4 ((frK (powQ a.rat n)).n.length) c10, .slice b5 ((frK (powQ a.rat n)).d.length) c11]), eqv (.agg #[.bool a.neg, .slice b1 a.n.length c1, .slice b2 a.d.length c2]), eqv (.int .i64 n), fun h _ x => Kn h x (powR a.rat n), eqv (.bool true), eqv (.bool true), eqv (.bool true), eqv (.bool true), eqv (.bool true), eqv (.bool true)] mixed g11.sat rfl (by decide +kernel) ⟨sQ _, sQ _, sQ _, sQ _, sQ _, sQ _, (stab_K (powR a.rat n)), sQ _, sQ _, sQ _, sQ _, sQ _, sQ _, trivial⟩ ?_ ?_
 intro stab
 refine ⟨?_, ?_, ?_, ?_, ?_, ?_, ?_, ?_, ?_, ?_, ?_, ?_, ?_, trivial⟩
 intro ρ6 h7 w11 g12 hdd1 hdo1
 have e1 : ρ6 6 = .int .i64 (powE a.rat n) := hdo1 6 rfl
 refine gP (OpW.move (v := .int .i64 (powE a.rat n)) e1 ?_)
 exact ⟨_, h7, rfl, g12, fun j x _ p => p, rfl⟩
 intro ρ7 h8 w12 g13 hdd2 hdo2
 have e2 : ρ7 73 = .int .i64 (powE a.rat n) := hdd2 0 (by decide)
 refine gP (OpW.eqlI (a := (powE a.rat n)) (b := ((0 : Nat) : Int)) (r := true) e2 rfl (decide_eq_true (powE_ok (by omega) (by rintro ⟨h1, h2⟩; first | omega | exact absurd (hz.2 h2) (by assumption)))) ?_)
 exact ⟨_, h8, rfl, g13, fun j x _ p => p, rfl⟩
 intro ρ8 h9 w13 g14 hdd3 hdo3
 have e3 : ρ8 74 = .bool true := hdd3 1 (by decide)
 refine gP (OpW.move (v := .bool true) e3 ?_)
 exact ⟨_, h9, rfl, g14, fun j x _ p => p, rfl⟩
 intro ρ9 h10 w14 g15 hdd4 hdo4
 have e4 : ρ9 5 = .pointer (some ⟨b6, 0, none⟩) := hdo4 5 rfl
 have e5 : ρ9 75 = .bool true := hdd4 2 (by decide)
 refine gL (d := 75) (b := true) ?_ ?_ ?_ ?_
 · rfl
 · rfl
 · exact e5
 have o3 := g15.kp (gr7.kp ⟨p1.at_, n1⟩)
 refine (lA (cs := [.bool ((frK (powQ a.rat n)).neg), .slice b4 ((frK (powQ a.rat n)).n.length) c10, .slice b5 ((frK (powQ a.rat n)).d.length) c11]) Tryd.isAgg24 Tryd.sizeOf24 e4 o3.1 rfl rfl ?_)
 exact ⟨_, h10, rfl, g15, fun j x _ p => p, rfl⟩
 intro ρ10 h11 w15 g16 hdd5 hdo5
 have e6 : ρ10 2 = .pointer (some ⟨b3, 0, none⟩) := hdo5 2 rfl
 have e7 : ρ10 75 = .bool true := hdd5 2 (by decide)
 refine gL (d := 75) (b := true) ?_ ?_ ?_ ?_
 · rfl
 · rfl
 · exact e7
 have g17 := g11.trans g16
 refine (lA (cs := [.bool a.neg, .slice b1 a.n.length c1, .slice b2 a.d.length c2]) Tryd.isAgg24 Tryd.sizeOf24 e6 (g17.sat _ _ (((gr3.le.trans gr7.le).trans g16.le) _ _ qb1)) rfl rfl ?_)
 exact ⟨_, h11, rfl, g16, fun j x _ p => p, rfl⟩
 intro ρ11 h12 w16 g18 hdd6 hdo6
 have e8 : ρ11 1 = .int .i64 n := hdo6 1 rfl
 have e9 : ρ11 75 = .bool true := hdd6 2 (by decide)
 refine gL (d := 75) (b := true) ?_ ?_ ?_ ?_
 · rfl
 · rfl
 · exact e9
 refine (OpW.move (v := .int .i64 n) e8 ?_)
 exact ⟨_, h12, rfl, g18, fun j x _ p => p, rfl⟩
 intro ρ12 h13 w17 g19 hdd7 hdo7
 have e10 : ρ12 75 = .bool true := hdd7 2 (by decide)
 have e11 : ρ12 77 = .agg #[.bool a.neg, .slice b1 a.n.length c1, .slice b2 a.d.length c2] := hdd7 4 (by decide)
 have e12 : ρ12 78 = .int .i64 n := hdd7 5 (by decide)
 refine gL (d := 75) (b := true) ?_ ?_ ?_ ?_
 · rfl
 · rfl
 · exact e10
 have g20 := g11.trans g19
 refine (cF Tryd.call24 (rPow_c (a := a) (n := n) g20.sat (F.mk (U.mono u1 (((gr1.le.trans gr3.le).trans gr7.le).trans g19.le)) (U.mono u2 (((gr1.le.trans gr3.le).trans gr7.le).trans g19.le))) (by omega) (by omega) (by omega) (fun h1 h2 => by first | omega | exact absurd (hz.2 h2) (by assumption))) (cx e11 (cx e12 cxn)) ?_)
 intro r8 h14 w18 gr8 hr8
 exact ⟨r8, h14, rfl, g19.trans gr8, fun j x _ => stab j _ _ _ _ x gr8, hr8⟩
 intro ρ13 h15 w19 g21 hdd8 hdo8
 have e13 : ρ13 75 = .bool true := hdd8 2 (by decide)
 have e14 : ρ13 76 = .agg #[.bool ((frK (powQ a.rat n)).neg), .slice b4 ((frK (powQ a.rat n)).n.length) c10, .slice b5 ((frK (powQ a.rat n)).d.length) c11] := hdd8 3 (by decide)
 have q1 : Kn h15 (ρ13 79) (powR a.rat n) := hdd8 6 (by decide)
 refine gL (d := 75) (b := true) ?_ ?_ ?_ ?_
 · rfl
 · rfl
 · exact e13
 have g22 := g11.trans g21
 refine (cF Tryd.call22 (rSame_c (f := frK (powQ a.rat n)) (g := frK (powR a.rat n)) g22.sat (F.mk (U.mono u3 (gr7.le.trans g21.le)) (U.mono u4 (gr7.le.trans g21.le))) q1 (by first | omega | (simp only [bf_frK, frK_rat, wts_cons, wts_nil]; omega)) (by have hy := hbp2 (by omega); rw [bf_frK]; omega)) (cx e14 (cx rfl cxn)) ?_)
 intro r9 h16 w20 gr9 hr9
 replace hr9 := hr9.trans (congrArg Value.bool (sameF_cast (congrArg frK (powQ_powR (by omega)))))
 exact ⟨r9, h16, rfl, g21.trans gr9, fun j x _ => stab j _ _ _ _ x gr9, hr9⟩
 intro ρ14 h17 w21 g23 hdd9 hdo9
 have e15 : ρ14 75 = .bool true := hdd9 2 (by decide)
 have e16 : ρ14 80 = .bool true := hdd9 7 (by decide)
 refine gP (pT (v := .bool true) e15 e16 ?_)
 exact ⟨_, h17, rfl, g23, fun j x _ p => p, rfl⟩
 intro ρ15 h18 w22 g24 hdd10 hdo10
 have e17 : ρ15 81 = .bool true := hdd10 8 (by decide)
 refine gP (OpW.move (v := .bool true) e17 ?_)
 exact ⟨_, h18, rfl, g24, fun j x _ p => p, rfl⟩
 intro ρ16 h19 w23 g25 hdd11 hdo11
 have e18 : ρ16 82 = .bool true := hdd11 9 (by decide)
 refine gL (d := 82) (b := true) ?_ ?_ ?_ ?_
 · rfl
 · rfl
 · exact e18
 have g26 := g11.trans g25
 refine (cF Tryd.call20 (known_c  g26.sat (tb.mono (((gr1.le.trans gr3.le).trans gr7.le).trans g25.le)) ) rfl ?_)
 intro r10 h20 w24 gr10 hr10
 exact ⟨r10, h20, rfl, g25.trans gr10, fun j x _ => stab j _ _ _ _ x gr10, hr10⟩
 intro ρ17 h21 w25 g27 hdd12 hdo12
 have e19 : ρ17 82 = .bool true := hdd12 9 (by decide)
 have e20 : ρ17 83 = .bool true := hdd12 10 (by decide)
 refine gP (pT (v := .bool true) e19 e20 ?_)
 exact ⟨_, h21, rfl, g27, fun j x _ p => p, rfl⟩
 intro ρ18 h22 w26 g28 hdd13 hdo13
 have e21 : ρ18 84 = .bool true := hdd13 11 (by decide)
 refine gP (OpW.assign (v := .bool true) e21 ?_)
 exact ⟨_, h22, rfl, g28, fun j x _ p => p, rfl⟩
 intro ρ19 h23 w27 g29 hdp1 hdo14
 have e22 : ρ19 4 = .bool true := hdp1 12 rfl
 refine Ops.forget [(4, .bool true)] ⟨e22, trivial⟩ (fun ρ20 => (oN (Wp.ret (fin1_ret rfl (resOf_tmp (v := .bool true) rfl) ?_))))
 have g30 := g11.trans g29
 refine ⟨h23, g30, ?_⟩
 exact rfl
 replace c14 : (sgQ a.rat) = ((0 : Nat) : Int) := (of_decide_eq_true c14)
 refine oL rfl rfl rfl (OpW.move (v := .int .i64 n) rfl ?_)
 refine oL rfl rfl rfl (OpW.lss (a := n) (b := ((0 : Nat) : Int)) (r := decide (n < ((0 : Nat) : Int))) rfl rfl rfl ?_)
 refine oC (pT (v := .bool (decide (n < ((0 : Nat) : Int)))) rfl rfl (oN (Wp.cond (t := decide (n < ((0 : Nat) : Int))) rfl (fun c15 => ?_) (fun c15 => ?_))))
 replace c15 : n < ((0 : Nat) : Int) := (of_decide_eq_true c15)
 refine sr (mv (oC (OpW.eqlI (a := (powE a.rat n)) (b := ((3 : Nat) : Int)) (r := true) rfl rfl (decide_eq_true (powE_zero (by omega) (by omega) (hz.1 (by assumption)))) (mv ?_))))
 have o4 := gr7.kp ⟨p1.at_, n1⟩
 refine oL rfl rfl rfl (lA (cs := [.bool ((frK (powQ a.rat n)).neg), .slice b4 ((frK (powQ a.rat n)).n.length) c10, .slice b5 ((frK (powQ a.rat n)).d.length) c11]) Tryd.isAgg24 Tryd.sizeOf24 rfl o4.1 rfl rfl ?_)
 refine oL rfl rfl rfl (OpW.build (places := [(0, 1), (1, 1), (2, 1)]) (cs := [.bool false, .slice none 0 0, .slice none 0 0]) Tryd.underlying24 Tryd.zeroValue24 (fun _ => by kernel_rfl) rfl ?_)
 have g31 := g10.trans gr7
 refine oL rfl rfl rfl (cF Tryd.call22 (rSame_c (f := frK (powQ a.rat n)) (g := Fr.mk false ([]) ([])) g31.sat (F.mk (U.mono u3 gr7.le) (U.mono u4 gr7.le)) (F.mk (U.nil _ none _) (U.nil _ none _)) (by first | omega | (simp only [bf_frK, frK_rat, wts_cons, wts_nil]; omega)) (by decide)) rfl ?_)
 intro r11 h24 w28 gr11 hr11
 replace hr11 := hr11.trans (congrArg Value.bool (sameF_z (powQ_zero (by omega) (hz.1 (by assumption)))))
 subst hr11
 refine oC (pT (v := .bool true) rfl rfl (mv ?_))
 have g32 := g31.trans gr11
 refine oL rfl rfl rfl (cF Tryd.call20 (known_c  g32.sat (tb.mono (((gr1.le.trans gr3.le).trans gr7.le).trans gr11.le)) ) rfl ?_)
 intro r12 h25 w29 gr12 hr12
 subst hr12
 refine oC (pT (v := .bool true) rfl rfl (ma (oN (Wp.ret (fin1_ret rfl (resOf_tmp (v := .bool true) rfl) ?_)))))
 have g33 := g32.trans gr12
 refine ⟨h25, g33, ?_⟩
 exact rfl
 replace c15 : ¬ (n < ((0 : Nat) : Int)) := (of_decide_eq_false c15)
 refine Wp.skip (wS ?_)
 have g34 := g10.trans gr7
 refine Wp.dagL 13 [73, 74, 75, 76, 77, 78, 79, 80, 81, 82, 83, 84, 4] [eqv (.int .i64 (powE a.rat n)), eqv (.bool true), eqv (.bool true), eqv (.agg #[.bool ((frK (powQ a.rat n)).neg), .slice b4 ((frK (powQ a.rat n)).n.length) c10, .slice b5 ((frK (powQ a.rat n)).d.length) c11]), eqv (.agg #[.bool a.neg, .slice b1 a.n.length c1, .slice b2 a.d.length c2]), eqv (.int .i64 n), fun h _ x => Kn h x (powR a.rat n), eqv (.bool true), eqv (.bool true), eqv (.bool true), eqv (.bool true), eqv (.bool true), eqv (.bool true)] mixed g34.sat rfl (by decide +kernel) ⟨sQ _, sQ _, sQ _, sQ _, sQ _, sQ _, (stab_K (powR a.rat n)), sQ _, sQ _, sQ _, sQ _, sQ _, sQ _, trivial⟩ ?_ ?_
 intro stab
 refine ⟨?_, ?_, ?_, ?_, ?_, ?_, ?_, ?_, ?_, ?_, ?_, ?_, ?_, trivial⟩
 intro ρ21 h26 w30 g35 hdd14 hdo15
 have e23 : ρ21 6 = .int .i64 (powE a.rat n) := hdo15 6 rfl
 refine gP (OpW.move (v := .int .i64 (powE a.rat n)) e23 ?_)
 exact ⟨_, h26, rfl, g35, fun j x _ p => p, rfl⟩
 intro ρ22 h27 w31 g36 hdd15 hdo16
 have e24 : ρ22 73 = .int .i64 (powE a.rat n) := hdd15 0 (by decide)
 refine gP (OpW.eqlI (a := (powE a.rat n)) (b := ((0 : Nat) : Int)) (r := true) e24 rfl (decide_eq_true (powE_ok (by omega) (by rintro ⟨h1, h2⟩; first | omega | exact absurd (hz.2 h2) (by assumption)))) ?_)
 exact ⟨_, h27, rfl, g36, fun j x _ p => p, rfl⟩
 intro ρ23 h28 w32 g37 hdd16 hdo17
 have e25 : ρ23 74 = .bool true := hdd16 1 (by decide)
 refine gP (OpW.move (v := .bool true) e25 ?_)
 exact ⟨_, h28, rfl, g37, fun j x _ p => p, rfl⟩
 intro ρ24 h29 w33 g38 hdd17 hdo18
 have e26 : ρ24 5 = .pointer (some ⟨b6, 0, none⟩) := hdo18 5 rfl
 have e27 : ρ24 75 = .bool true := hdd17 2 (by decide)
 refine gL (d := 75) (b := true) ?_ ?_ ?_ ?_
 · rfl
 · rfl
 · exact e27
 have o5 := g38.kp (gr7.kp ⟨p1.at_, n1⟩)
 refine (lA (cs := [.bool ((frK (powQ a.rat n)).neg), .slice b4 ((frK (powQ a.rat n)).n.length) c10, .slice b5 ((frK (powQ a.rat n)).d.length) c11]) Tryd.isAgg24 Tryd.sizeOf24 e26 o5.1 rfl rfl ?_)
 exact ⟨_, h29, rfl, g38, fun j x _ p => p, rfl⟩
 intro ρ25 h30 w34 g39 hdd18 hdo19
 have e28 : ρ25 2 = .pointer (some ⟨b3, 0, none⟩) := hdo19 2 rfl
 have e29 : ρ25 75 = .bool true := hdd18 2 (by decide)
 refine gL (d := 75) (b := true) ?_ ?_ ?_ ?_
 · rfl
 · rfl
 · exact e29
 have g40 := g34.trans g39
 refine (lA (cs := [.bool a.neg, .slice b1 a.n.length c1, .slice b2 a.d.length c2]) Tryd.isAgg24 Tryd.sizeOf24 e28 (g40.sat _ _ (((gr3.le.trans gr7.le).trans g39.le) _ _ qb1)) rfl rfl ?_)
 exact ⟨_, h30, rfl, g39, fun j x _ p => p, rfl⟩
 intro ρ26 h31 w35 g41 hdd19 hdo20
 have e30 : ρ26 1 = .int .i64 n := hdo20 1 rfl
 have e31 : ρ26 75 = .bool true := hdd19 2 (by decide)
 refine gL (d := 75) (b := true) ?_ ?_ ?_ ?_
 · rfl
 · rfl
 · exact e31
 refine (OpW.move (v := .int .i64 n) e30 ?_)
 exact ⟨_, h31, rfl, g41, fun j x _ p => p, rfl⟩
 intro ρ27 h32 w36 g42 hdd20 hdo21
 have e32 : ρ27 75 = .bool true := hdd20 2 (by decide)
 have e33 : ρ27 77 = .agg #[.bool a.neg, .slice b1 a.n.length c1, .slice b2 a.d.length c2] := hdd20 4 (by decide)
 have e34 : ρ27 78 = .int .i64 n := hdd20 5 (by decide)
 refine gL (d := 75) (b := true) ?_ ?_ ?_ ?_
 · rfl
 · rfl
 · exact e32
 have g43 := g34.trans g42
 refine (cF Tryd.call24 (rPow_c (a := a) (n := n) g43.sat (F.mk (U.mono u1 (((gr1.le.trans gr3.le).trans gr7.le).trans g42.le)) (U.mono u2 (((gr1.le.trans gr3.le).trans gr7.le).trans g42.le))) (by omega) (by omega) (by omega) (fun h1 h2 => by first | omega | exact absurd (hz.2 h2) (by assumption))) (cx e33 (cx e34 cxn)) ?_)
 intro r13 h33 w37 gr13 hr13
 exact ⟨r13, h33, rfl, g42.trans gr13, fun j x _ => stab j _ _ _ _ x gr13, hr13⟩
 intro ρ28 h34 w38 g44 hdd21 hdo22
 have e35 : ρ28 75 = .bool true := hdd21 2 (by decide)
 have e36 : ρ28 76 = .agg #[.bool ((frK (powQ a.rat n)).neg), .slice b4 ((frK (powQ a.rat n)).n.length) c10, .slice b5 ((frK (powQ a.rat n)).d.length) c11] := hdd21 3 (by decide)
 have q2 : Kn h34 (ρ28 79) (powR a.rat n) := hdd21 6 (by decide)
 refine gL (d := 75) (b := true) ?_ ?_ ?_ ?_
 · rfl
 · rfl
 · exact e35
 have g45 := g34.trans g44
 refine (cF Tryd.call22 (rSame_c (f := frK (powQ a.rat n)) (g := frK (powR a.rat n)) g45.sat (F.mk (U.mono u3 (gr7.le.trans g44.le)) (U.mono u4 (gr7.le.trans g44.le))) q2 (by first | omega | (simp only [bf_frK, frK_rat, wts_cons, wts_nil]; omega)) (by have hy := hbp2 (by omega); rw [bf_frK]; omega)) (cx e36 (cx rfl cxn)) ?_)
 intro r14 h35 w39 gr14 hr14
 replace hr14 := hr14.trans (congrArg Value.bool (sameF_cast (congrArg frK (powQ_powR (by omega)))))
 exact ⟨r14, h35, rfl, g44.trans gr14, fun j x _ => stab j _ _ _ _ x gr14, hr14⟩
 intro ρ29 h36 w40 g46 hdd22 hdo23
 have e37 : ρ29 75 = .bool true := hdd22 2 (by decide)
 have e38 : ρ29 80 = .bool true := hdd22 7 (by decide)
 refine gP (pT (v := .bool true) e37 e38 ?_)
 exact ⟨_, h36, rfl, g46, fun j x _ p => p, rfl⟩
 intro ρ30 h37 w41 g47 hdd23 hdo24
 have e39 : ρ30 81 = .bool true := hdd23 8 (by decide)
 refine gP (OpW.move (v := .bool true) e39 ?_)
 exact ⟨_, h37, rfl, g47, fun j x _ p => p, rfl⟩
 intro ρ31 h38 w42 g48 hdd24 hdo25
 have e40 : ρ31 82 = .bool true := hdd24 9 (by decide)
 refine gL (d := 82) (b := true) ?_ ?_ ?_ ?_
 · rfl
 · rfl
 · exact e40
 have g49 := g34.trans g48
 refine (cF Tryd.call20 (known_c  g49.sat (tb.mono (((gr1.le.trans gr3.le).trans gr7.le).trans g48.le)) ) rfl ?_)
 intro r15 h39 w43 gr15 hr15
 exact ⟨r15, h39, rfl, g48.trans gr15, fun j x _ => stab j _ _ _ _ x gr15, hr15⟩
 intro ρ32 h40 w44 g50 hdd25 hdo26
 have e41 : ρ32 82 = .bool true := hdd25 9 (by decide)
 have e42 : ρ32 83 = .bool true := hdd25 10 (by decide)
 refine gP (pT (v := .bool true) e41 e42 ?_)
 exact ⟨_, h40, rfl, g50, fun j x _ p => p, rfl⟩
 intro ρ33 h41 w45 g51 hdd26 hdo27
 have e43 : ρ33 84 = .bool true := hdd26 11 (by decide)
 refine gP (OpW.assign (v := .bool true) e43 ?_)
 exact ⟨_, h41, rfl, g51, fun j x _ p => p, rfl⟩
 intro ρ34 h42 w46 g52 hdp2 hdo28
 have e44 : ρ34 4 = .bool true := hdp2 12 rfl
 refine Ops.forget [(4, .bool true)] ⟨e44, trivial⟩ (fun ρ35 => (oN (Wp.ret (fin1_ret rfl (resOf_tmp (v := .bool true) rfl) ?_))))
 have g53 := g34.trans g52
 refine ⟨h42, g53, ?_⟩
 exact rfl
end Go.Ear
