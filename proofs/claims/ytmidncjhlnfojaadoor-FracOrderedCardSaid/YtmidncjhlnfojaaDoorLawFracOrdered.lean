/- About package frac: LawFracOrdered. -/
import Derived.Test.YtmidncjhlnfojaaDoorNatLaw2
import Derived.Test.YtmidncjhlnfojaaDoorEarShort
import Derived.Test.YtmidncjhlnfojaaDoorProg
import Derived.Test.YtmidncjhlnfojaaDoorNatLaw3
import Derived.Test.YtmidncjhlnfojaaDoorEarFrac
import Derived.Test.YtmidncjhlnfojaaDoorEarDec
import Derived.Test.YtmidncjhlnfojaaDoorItoaLay
import Derived.Lib.ItoaMem
import Derived.Test.YtmidncjhlnfojaaDoorEarApi
import Derived.Test.YtmidncjhlnfojaaDoorEarRef2
import Derived.Test.YtmidncjhlnfojaaDoorEarLaw
import Derived.Test.YtmidncjhlnfojaaDoorEarLaw2
import Derived.Test.YtmidncjhlnfojaaDoorEarStore
import Derived.Test.YtmidncjhlnfojaaDoorK1
import Derived.Test.YtmidncjhlnfojaaDoorK14
import Derived.Test.YtmidncjhlnfojaaDoorK6
import Derived.Test.YtmidncjhlnfojaaDoorXCanon
import Derived.Test.YtmidncjhlnfojaaDoorXMul
import Derived.Test.YtmidncjhlnfojaaDoorXSign
import Derived.Test.YtmidncjhlnfojaaDoorXrSame
set_option linter.all false
namespace Go.Ear
open Go.Proofs
set_option maxRecDepth 20000
set_option linter.unusedVariables false
set_option maxHeartbeats 2000000
theorem fracOrdered_c {h : PH} {w : World} {v0 : Value} {a : Fr} {v1 : Value} {b : Fr} {v2 : Value} {c : Fr} (hs : Sat h w) (tb : Tab h) (pv0 : F h v0 a) (pv1 : F h v1 b) (pv2 : F h v2 c) :
    Calls Tryd.prog 12 #[v0, v1, v2] w (Ret h w fun h' r => r = .bool true) := by
 obtain ⟨b1, c1, b2, c2, rfl, k1, k2, u1, u2⟩ := F.shape pv0
 have hbq1 := F.bq pv0
 obtain ⟨b3, c3, b4, c4, rfl, k3, k4, u3, u4⟩ := F.shape pv1
 have hbq2 := F.bq pv1
 obtain ⟨b5, c5, b6, c6, rfl, k5, k6, u5, u6⟩ := F.shape pv2
 have hbq3 := F.bq pv2
 have hs1 := sgQ_bd (a.rat - b.rat)
 have hs2 := sg_mul_bd (a.rat - b.rat) c.rat
 refine calls_ear (vs := [.agg #[.bool a.neg, .slice b1 a.n.length c1, .slice b2 a.d.length c2], .agg #[.bool b.neg, .slice b3 b.n.length c3, .slice b4 b.d.length c4], .agg #[.bool c.neg, .slice b5 c.n.length c5, .slice b6 c.d.length c6]]) Tryd.func12 rfl rfl ?_
 have g1 := Gr.refl hs
 refine sr (oC (OpW.boxK (v := .agg #[.bool a.neg, .slice b1 a.n.length c1, .slice b2 a.d.length c2]) (arr := #[.bool a.neg, .slice b1 a.n.length c1, .slice b2 a.d.length c2]) g1.sat rfl rfl ?_))
 intro b7 h1 w1 gr1 qb1
 have g2 := g1.trans gr1
 refine oC (OpW.boxK (v := .agg #[.bool b.neg, .slice b3 b.n.length c3, .slice b4 b.d.length c4]) (arr := #[.bool b.neg, .slice b3 b.n.length c3, .slice b4 b.d.length c4]) g2.sat rfl rfl ?_)
 intro b8 h2 w2 gr2 qb2
 have g3 := g2.trans gr2
 refine oC (OpW.boxK (v := .agg #[.bool c.neg, .slice b5 c.n.length c5, .slice b6 c.d.length c6]) (arr := #[.bool c.neg, .slice b5 c.n.length c5, .slice b6 c.d.length c6]) g3.sat rfl rfl ?_)
 intro b9 h3 w3 gr3 qb3
 refine ma (oN (wS (sr (Ops.cut (fun ρ' w' => w3 = w' ∧ ∃ ρb, ρ' = upds ρb [(3, .pointer (some ⟨b7, 0, none⟩)), (4, .pointer (some ⟨b8, 0, none⟩)), (5, .pointer (some ⟨b9, 0, none⟩)), (41, .bool ((decide (6 < a.n.length)) || ((decide (6 < a.d.length)) || ((decide (6 < b.n.length)) || ((decide (6 < b.d.length)) || ((decide (6 < c.n.length)) || (decide (6 < c.d.length))))))))]) ?_ ?_))))
 refine oC (fA (o := 1) Tryd.underlying24 rfl Tryd.sizeOf22 (by decide) rfl rfl ?_)
 have g4 := g3.trans gr3
 refine oC (lO (v := .slice b1 a.n.length c1) Tryd.isAgg22 rfl (g4.sat _ _ ((gr2.le.trans gr3.le) _ _ qb1)) rfl ?_)
 refine oC (OpW.lenS Tryd.underlying22 (l := a.n.length) rfl ?_)
 refine oC (OpW.gtr (a := ((a.n.length : Nat) : Int)) (b := ((6 : Nat) : Int)) (r := decide (6 < a.n.length)) rfl rfl (lt_nat (a := 6) (b := a.n.length)) (mv ?_))
 cases c7 : (decide (6 < a.n.length))
 replace c7 : ¬ (6 < a.n.length) := (of_decide_eq_false c7)
 refine oL rfl rfl rfl (fA (o := 2) Tryd.underlying24 rfl Tryd.sizeOf22 (by decide) rfl rfl ?_)
 refine oL rfl rfl rfl (lO (v := .slice b2 a.d.length c2) Tryd.isAgg22 rfl (g4.sat _ _ ((gr2.le.trans gr3.le) _ _ qb1)) rfl ?_)
 refine oL rfl rfl rfl (OpW.lenS Tryd.underlying22 (l := a.d.length) rfl ?_)
 refine oL rfl rfl rfl (OpW.gtr (a := ((a.d.length : Nat) : Int)) (b := ((6 : Nat) : Int)) (r := decide (6 < a.d.length)) rfl rfl (lt_nat (a := 6) (b := a.d.length)) ?_)
 refine oC (pF (v := .bool (decide (6 < a.d.length))) rfl rfl (mv ?_))
 cases c8 : (decide (6 < a.d.length))
 replace c8 : ¬ (6 < a.d.length) := (of_decide_eq_false c8)
 refine oL rfl rfl rfl (fA (o := 1) Tryd.underlying24 rfl Tryd.sizeOf22 (by decide) rfl rfl ?_)
 refine oL rfl rfl rfl (lO (v := .slice b3 b.n.length c3) Tryd.isAgg22 rfl (g4.sat _ _ (gr3.le _ _ qb2)) rfl ?_)
 refine oL rfl rfl rfl (OpW.lenS Tryd.underlying22 (l := b.n.length) rfl ?_)
 refine oL rfl rfl rfl (OpW.gtr (a := ((b.n.length : Nat) : Int)) (b := ((6 : Nat) : Int)) (r := decide (6 < b.n.length)) rfl rfl (lt_nat (a := 6) (b := b.n.length)) ?_)
 refine oC (pF (v := .bool (decide (6 < b.n.length))) rfl rfl (mv ?_))
 cases c9 : (decide (6 < b.n.length))
 replace c9 : ¬ (6 < b.n.length) := (of_decide_eq_false c9)
 refine oL rfl rfl rfl (fA (o := 2) Tryd.underlying24 rfl Tryd.sizeOf22 (by decide) rfl rfl ?_)
 refine oL rfl rfl rfl (lO (v := .slice b4 b.d.length c4) Tryd.isAgg22 rfl (g4.sat _ _ (gr3.le _ _ qb2)) rfl ?_)
 refine oL rfl rfl rfl (OpW.lenS Tryd.underlying22 (l := b.d.length) rfl ?_)
 refine oL rfl rfl rfl (OpW.gtr (a := ((b.d.length : Nat) : Int)) (b := ((6 : Nat) : Int)) (r := decide (6 < b.d.length)) rfl rfl (lt_nat (a := 6) (b := b.d.length)) ?_)
 refine oC (pF (v := .bool (decide (6 < b.d.length))) rfl rfl (mv ?_))
 cases c10 : (decide (6 < b.d.length))
 replace c10 : ¬ (6 < b.d.length) := (of_decide_eq_false c10)
 refine oL rfl rfl rfl (fA (o := 1) Tryd.underlying24 rfl Tryd.sizeOf22 (by decide) rfl rfl ?_)
 refine oL rfl rfl rfl (lO (v := .slice b5 c.n.length c5) Tryd.isAgg22 rfl (g4.sat _ _ qb3) rfl ?_)
 refine oL rfl rfl rfl (OpW.lenS Tryd.underlying22 (l := c.n.length) rfl ?_)
 refine oL rfl rfl rfl (OpW.gtr (a := ((c.n.length : Nat) : Int)) (b := ((6 : Nat) : Int)) (r := decide (6 < c.n.length)) rfl rfl (lt_nat (a := 6) (b := c.n.length)) ?_)
 refine oC (pF (v := .bool (decide (6 < c.n.length))) rfl rfl (mv ?_))
 cases c11 : (decide (6 < c.n.length))
 replace c11 : ¬ (6 < c.n.length) := (of_decide_eq_false c11)
 refine oL rfl rfl rfl (fA (o := 2) Tryd.underlying24 rfl Tryd.sizeOf22 (by decide) rfl rfl ?_)
 refine oL rfl rfl rfl (lO (v := .slice b6 c.d.length c6) Tryd.isAgg22 rfl (g4.sat _ _ qb3) rfl ?_)
 refine oL rfl rfl rfl (OpW.lenS Tryd.underlying22 (l := c.d.length) rfl ?_)
 refine oL rfl rfl rfl (OpW.gtr (a := ((c.d.length : Nat) : Int)) (b := ((6 : Nat) : Int)) (r := decide (6 < c.d.length)) rfl rfl (lt_nat (a := 6) (b := c.d.length)) ?_)
 refine oC (pF (v := .bool (decide (6 < c.d.length))) rfl rfl (oN ?_))
 exact ⟨rfl, _, nm rfl⟩
 replace c11 : 6 < c.n.length := (of_decide_eq_true c11)
 refine oD rfl rfl rfl rfl (oD rfl rfl rfl rfl (oD rfl rfl rfl rfl (oD rfl rfl rfl rfl (oC (pT (v := .bool true) rfl rfl (oN ?_))))))
 exact ⟨rfl, _, nm rfl⟩
 replace c10 : 6 < b.d.length := (of_decide_eq_true c10)
 refine oD rfl rfl rfl rfl (oD rfl rfl rfl rfl (oD rfl rfl rfl rfl (oD rfl rfl rfl rfl (oC (pT (v := .bool true) rfl rfl (mv (oD rfl rfl rfl rfl (oD rfl rfl rfl rfl (oD rfl rfl rfl rfl (oD rfl rfl rfl rfl (oC (pT (v := .bool true) rfl rfl (oN ?_)))))))))))))
 exact ⟨rfl, _, nm rfl⟩
 replace c9 : 6 < b.n.length := (of_decide_eq_true c9)
 refine oD rfl rfl rfl rfl (oD rfl rfl rfl rfl (oD rfl rfl rfl rfl (oD rfl rfl rfl rfl (oC (pT (v := .bool true) rfl rfl (mv (oD rfl rfl rfl rfl (oD rfl rfl rfl rfl (oD rfl rfl rfl rfl (oD rfl rfl rfl rfl (oC (pT (v := .bool true) rfl rfl (mv (oD rfl rfl rfl rfl (oD rfl rfl rfl rfl (oD rfl rfl rfl rfl (oD rfl rfl rfl rfl (oC (pT (v := .bool true) rfl rfl (oN ?_))))))))))))))))))))
 exact ⟨rfl, _, nm rfl⟩
 replace c8 : 6 < a.d.length := (of_decide_eq_true c8)
 refine oD rfl rfl rfl rfl (oD rfl rfl rfl rfl (oD rfl rfl rfl rfl (oD rfl rfl rfl rfl (oC (pT (v := .bool true) rfl rfl (mv (oD rfl rfl rfl rfl (oD rfl rfl rfl rfl (oD rfl rfl rfl rfl (oD rfl rfl rfl rfl (oC (pT (v := .bool true) rfl rfl (mv (oD rfl rfl rfl rfl (oD rfl rfl rfl rfl (oD rfl rfl rfl rfl (oD rfl rfl rfl rfl (oC (pT (v := .bool true) rfl rfl (mv (oD rfl rfl rfl rfl (oD rfl rfl rfl rfl (oD rfl rfl rfl rfl (oD rfl rfl rfl rfl (oC (pT (v := .bool true) rfl rfl (oN ?_)))))))))))))))))))))))))))
 exact ⟨rfl, _, nm rfl⟩
 replace c7 : 6 < a.n.length := (of_decide_eq_true c7)
 refine oD rfl rfl rfl rfl (oD rfl rfl rfl rfl (oD rfl rfl rfl rfl (oD rfl rfl rfl rfl (oC (pT (v := .bool true) rfl rfl (mv (oD rfl rfl rfl rfl (oD rfl rfl rfl rfl (oD rfl rfl rfl rfl (oD rfl rfl rfl rfl (oC (pT (v := .bool true) rfl rfl (mv (oD rfl rfl rfl rfl (oD rfl rfl rfl rfl (oD rfl rfl rfl rfl (oD rfl rfl rfl rfl (oC (pT (v := .bool true) rfl rfl (mv (oD rfl rfl rfl rfl (oD rfl rfl rfl rfl (oD rfl rfl rfl rfl (oD rfl rfl rfl rfl (oC (pT (v := .bool true) rfl rfl (mv (oD rfl rfl rfl rfl (oD rfl rfl rfl rfl (oD rfl rfl rfl rfl (oD rfl rfl rfl rfl (oC (pT (v := .bool true) rfl rfl (oN ?_))))))))))))))))))))))))))))))))))
 exact ⟨rfl, _, nm rfl⟩
 rintro ρ1 w4 ⟨rfl, ρ2, rfl⟩
 refine Wp.cond (t := (decide (6 < a.n.length)) || ((decide (6 < a.d.length)) || ((decide (6 < b.n.length)) || ((decide (6 < b.d.length)) || ((decide (6 < c.n.length)) || (decide (6 < c.d.length))))))) rfl (fun c12 => ?_) (fun c12 => ?_)
 replace c12 : (6 < a.n.length) ∨ ((6 < a.d.length) ∨ ((6 < b.n.length) ∨ ((6 < b.d.length) ∨ ((6 < c.n.length) ∨ (6 < c.d.length))))) := ((or_t c12).imp (fun h => (of_decide_eq_true h)) (fun h => ((or_t h).imp (fun h => (of_decide_eq_true h)) (fun h => ((or_t h).imp (fun h => (of_decide_eq_true h)) (fun h => ((or_t h).imp (fun h => (of_decide_eq_true h)) (fun h => ((or_t h).imp (fun h => (of_decide_eq_true h)) (fun h => (of_decide_eq_true h)))))))))))
 refine sr ?_
 have g5 := g3.trans gr3
 refine oC (cF Tryd.call20 (known_c  g5.sat (tb.mono ((gr1.le.trans gr2.le).trans gr3.le)) ) rfl ?_)
 intro r1 h4 w5 gr4 hr1
 subst hr1
 refine ma (oN (Wp.ret (fin1_ret rfl (resOf_tmp (v := .bool true) rfl) ?_)))
 have g6 := g5.trans gr4
 refine ⟨h4, g6, ?_⟩
 exact rfl
 replace c12 : ¬ ((6 < a.n.length) ∨ ((6 < a.d.length) ∨ ((6 < b.n.length) ∨ ((6 < b.d.length) ∨ ((6 < c.n.length) ∨ (6 < c.d.length)))))) := (fun pq => pq.elim (of_decide_eq_false (or_l c12)) (fun pq => pq.elim (of_decide_eq_false (or_l (or_r c12))) (fun pq => pq.elim (of_decide_eq_false (or_l (or_r (or_r c12)))) (fun pq => pq.elim (of_decide_eq_false (or_l (or_r (or_r (or_r c12))))) (fun pq => pq.elim (of_decide_eq_false (or_l (or_r (or_r (or_r (or_r c12)))))) (of_decide_eq_false (or_r (or_r (or_r (or_r (or_r c12)))))))))))
 have hx := c12
 have hba : bf a ≤ 6 := by unfold bf; omega
 have hbb : bf b ≤ 6 := by unfold bf; omega
 have hbc : bf c ≤ 6 := by unfold bf; omega
 refine Wp.skip (sr ?_)
 have g7 := g3.trans gr3
 refine oC (lA (cs := [.bool a.neg, .slice b1 a.n.length c1, .slice b2 a.d.length c2]) Tryd.isAgg24 Tryd.sizeOf24 rfl (g7.sat _ _ ((gr2.le.trans gr3.le) _ _ qb1)) rfl rfl ?_)
 refine oC (lA (cs := [.bool b.neg, .slice b3 b.n.length c3, .slice b4 b.d.length c4]) Tryd.isAgg24 Tryd.sizeOf24 rfl (g7.sat _ _ (gr3.le _ _ qb2)) rfl rfl ?_)
 refine oC (cF Tryd.call41 (Cmp_c (a := a) (b := b) g7.sat (F.mk (U.mono u1 ((gr1.le.trans gr2.le).trans gr3.le)) (U.mono u2 ((gr1.le.trans gr2.le).trans gr3.le))) (F.mk (U.mono u3 ((gr1.le.trans gr2.le).trans gr3.le)) (U.mono u4 ((gr1.le.trans gr2.le).trans gr3.le))) (by omega)) rfl ?_)
 intro r2 h5 w6 gr5 hr2
 subst hr2
 refine ma (oN (wS (sr (mv (oC (OpW.leq (a := (sgQ (a.rat - b.rat))) (b := ((0 : Nat) : Int)) (r := decide ((sgQ (a.rat - b.rat)) ≤ ((0 : Nat) : Int))) rfl rfl rfl (mv ?_)))))))
 cases c13 : (decide ((sgQ (a.rat - b.rat)) ≤ ((0 : Nat) : Int)))
 replace c13 : ¬ ((sgQ (a.rat - b.rat)) ≤ ((0 : Nat) : Int)) := (of_decide_eq_false c13)
 refine oD rfl rfl rfl rfl (oD rfl rfl rfl rfl (oD rfl rfl rfl rfl (oD rfl rfl rfl rfl (oC (pF (v := .bool false) rfl rfl (mv (oD rfl rfl rfl rfl (oD rfl rfl rfl rfl (oD rfl rfl rfl rfl (oD rfl rfl rfl rfl (oC (pF (v := .bool false) rfl rfl (oN (Wp.cond_f rfl (Wp.skip (wS (wS (fg [(3, .pointer (some ⟨b7, 0, none⟩)), (4, .pointer (some ⟨b8, 0, none⟩)), (5, .pointer (some ⟨b9, 0, none⟩)), (7, .int .i64 (sgQ (a.rat - b.rat)))] rfl (fun ρ3 => ?_)))))))))))))))))))
 have g8 := g7.trans gr5
 have hf1 := bq_add a.rat c.rat
 have hf2 := bq_add b.rat c.rat
 refine Wp.dagL 15 [60, 61, 62, 63, 64, 65, 66, 67, 68, 69, 70, 71, 72, 73, 74] [eqv (.agg #[.bool a.neg, .slice b1 a.n.length c1, .slice b2 a.d.length c2]), eqv (.agg #[.bool c.neg, .slice b5 c.n.length c5, .slice b6 c.d.length c6]), fun h _ x => Kn h x (a.rat + c.rat), eqv (.agg #[.bool b.neg, .slice b3 b.n.length c3, .slice b4 b.d.length c4]), eqv (.agg #[.bool c.neg, .slice b5 c.n.length c5, .slice b6 c.d.length c6]), fun h _ x => Kn h x (b.rat + c.rat), eqv (.int .i64 (sgQ ((a.rat + c.rat) - (b.rat + c.rat)))), eqv (.int .i64 (sgQ (a.rat - b.rat))), eqv (.bool false), eqv (.bool false), eqv (.agg #[.bool a.neg, .slice b1 a.n.length c1, .slice b2 a.d.length c2]), eqv (.agg #[.bool a.neg, .slice b1 a.n.length c1, .slice b2 a.d.length c2]), eqv (.int .i64 (sgQ (a.rat - a.rat))), eqv (.bool false), eqv (.bool false)] mixed g8.sat rfl (by decide +kernel) ⟨sQ _, sQ _, (stab_K (a.rat + c.rat)), sQ _, sQ _, (stab_K (b.rat + c.rat)), sQ _, sQ _, sQ _, sQ _, sQ _, sQ _, sQ _, sQ _, sQ _, trivial⟩ ?_ ?_
 intro stab
 refine ⟨?_, ?_, ?_, ?_, ?_, ?_, ?_, ?_, ?_, ?_, ?_, ?_, ?_, ?_, ?_, trivial⟩
 intro ρ4 h6 w7 g9 hdd1 hdo1
 have e1 : ρ4 3 = .pointer (some ⟨b7, 0, none⟩) := hdo1 3 rfl
 have g10 := g8.trans g9
 refine gP (lA (cs := [.bool a.neg, .slice b1 a.n.length c1, .slice b2 a.d.length c2]) Tryd.isAgg24 Tryd.sizeOf24 e1 (g10.sat _ _ ((((gr2.le.trans gr3.le).trans gr5.le).trans g9.le) _ _ qb1)) rfl rfl ?_)
 exact ⟨_, h6, rfl, g9, fun j x _ p => p, rfl⟩
 intro ρ5 h7 w8 g11 hdd2 hdo2
 have e2 : ρ5 5 = .pointer (some ⟨b9, 0, none⟩) := hdo2 5 rfl
 have g12 := g8.trans g11
 refine gP (lA (cs := [.bool c.neg, .slice b5 c.n.length c5, .slice b6 c.d.length c6]) Tryd.isAgg24 Tryd.sizeOf24 e2 (g12.sat _ _ ((gr5.le.trans g11.le) _ _ qb3)) rfl rfl ?_)
 exact ⟨_, h7, rfl, g11, fun j x _ p => p, rfl⟩
 intro ρ6 h8 w9 g13 hdd3 hdo3
 have e3 : ρ6 60 = .agg #[.bool a.neg, .slice b1 a.n.length c1, .slice b2 a.d.length c2] := hdd3 0 (by decide)
 have e4 : ρ6 61 = .agg #[.bool c.neg, .slice b5 c.n.length c5, .slice b6 c.d.length c6] := hdd3 1 (by decide)
 have g14 := g8.trans g13
 refine gP (cF Tryd.call42 (Add_c (a := a) (b := c) g14.sat (F.mk (U.mono u1 ((((gr1.le.trans gr2.le).trans gr3.le).trans gr5.le).trans g13.le)) (U.mono u2 ((((gr1.le.trans gr2.le).trans gr3.le).trans gr5.le).trans g13.le))) (F.mk (U.mono u5 ((((gr1.le.trans gr2.le).trans gr3.le).trans gr5.le).trans g13.le)) (U.mono u6 ((((gr1.le.trans gr2.le).trans gr3.le).trans gr5.le).trans g13.le))) (by omega)) (cx e3 (cx e4 cxn)) ?_)
 intro r3 h9 w10 gr6 hr3
 exact ⟨r3, h9, rfl, g13.trans gr6, fun j x _ => stab j _ _ _ _ x gr6, hr3⟩
 intro ρ7 h10 w11 g15 hdd4 hdo4
 have e5 : ρ7 4 = .pointer (some ⟨b8, 0, none⟩) := hdo4 4 rfl
 have g16 := g8.trans g15
 refine gP (lA (cs := [.bool b.neg, .slice b3 b.n.length c3, .slice b4 b.d.length c4]) Tryd.isAgg24 Tryd.sizeOf24 e5 (g16.sat _ _ (((gr3.le.trans gr5.le).trans g15.le) _ _ qb2)) rfl rfl ?_)
 exact ⟨_, h10, rfl, g15, fun j x _ p => p, rfl⟩
 intro ρ8 h11 w12 g17 hdd5 hdo5
 have e6 : ρ8 5 = .pointer (some ⟨b9, 0, none⟩) := hdo5 5 rfl
 have g18 := g8.trans g17
 refine gP (lA (cs := [.bool c.neg, .slice b5 c.n.length c5, .slice b6 c.d.length c6]) Tryd.isAgg24 Tryd.sizeOf24 e6 (g18.sat _ _ ((gr5.le.trans g17.le) _ _ qb3)) rfl rfl ?_)
 exact ⟨_, h11, rfl, g17, fun j x _ p => p, rfl⟩
 intro ρ9 h12 w13 g19 hdd6 hdo6
 have e7 : ρ9 63 = .agg #[.bool b.neg, .slice b3 b.n.length c3, .slice b4 b.d.length c4] := hdd6 3 (by decide)
 have e8 : ρ9 64 = .agg #[.bool c.neg, .slice b5 c.n.length c5, .slice b6 c.d.length c6] := hdd6 4 (by decide)
 have g20 := g8.trans g19
 refine gP (cF Tryd.call42 (Add_c (a := b) (b := c) g20.sat (F.mk (U.mono u3 ((((gr1.le.trans gr2.le).trans gr3.le).trans gr5.le).trans g19.le)) (U.mono u4 ((((gr1.le.trans gr2.le).trans gr3.le).trans gr5.le).trans g19.le))) (F.mk (U.mono u5 ((((gr1.le.trans gr2.le).trans gr3.le).trans gr5.le).trans g19.le)) (U.mono u6 ((((gr1.le.trans gr2.le).trans gr3.le).trans gr5.le).trans g19.le))) (by omega)) (cx e7 (cx e8 cxn)) ?_)
 intro r4 h13 w14 gr7 hr4
 exact ⟨r4, h13, rfl, g19.trans gr7, fun j x _ => stab j _ _ _ _ x gr7, hr4⟩
 intro ρ10 h14 w15 g21 hdd7 hdo7
 have q1 : Kn h14 (ρ10 62) (a.rat + c.rat) := hdd7 2 (by decide)
 have q2 : Kn h14 (ρ10 65) (b.rat + c.rat) := hdd7 5 (by decide)
 have g22 := g8.trans g21
 refine gP (cF Tryd.call41 (Cmp_c (a := frK (a.rat + c.rat)) (b := frK (b.rat + c.rat)) g22.sat q1 q2 (by first | omega | (simp only [bf_frK, frK_rat, wts_cons, wts_nil]; omega))) rfl ?_)
 intro r5 h15 w16 gr8 hr5
 simp only [frK_rat, bf_frK, val_digs] at hr5
 exact ⟨r5, h15, rfl, g21.trans gr8, fun j x _ => stab j _ _ _ _ x gr8, hr5⟩
 intro ρ11 h16 w17 g23 hdd8 hdo8
 have e9 : ρ11 7 = .int .i64 (sgQ (a.rat - b.rat)) := hdo8 7 rfl
 refine gP (OpW.move (v := .int .i64 (sgQ (a.rat - b.rat))) e9 ?_)
 exact ⟨_, h16, rfl, g23, fun j x _ p => p, rfl⟩
 intro ρ12 h17 w18 g24 hdd9 hdo9
 have e10 : ρ12 66 = .int .i64 (sgQ ((a.rat + c.rat) - (b.rat + c.rat))) := hdd9 6 (by decide)
 have e11 : ρ12 67 = .int .i64 (sgQ (a.rat - b.rat)) := hdd9 7 (by decide)
 refine gP (OpW.neqI (a := (sgQ ((a.rat + c.rat) - (b.rat + c.rat)))) (b := (sgQ (a.rat - b.rat))) (r := false) e10 e11 (decide_eq_false (fun h => h (sgQ_eq (by grind)))) ?_)
 exact ⟨_, h17, rfl, g24, fun j x _ p => p, rfl⟩
 intro ρ13 h18 w19 g25 hdd10 hdo10
 have e12 : ρ13 68 = .bool false := hdd10 8 (by decide)
 refine gP (OpW.move (v := .bool false) e12 ?_)
 exact ⟨_, h18, rfl, g25, fun j x _ p => p, rfl⟩
 intro ρ14 h19 w20 g26 hdd11 hdo11
 have e13 : ρ14 3 = .pointer (some ⟨b7, 0, none⟩) := hdo11 3 rfl
 have e14 : ρ14 69 = .bool false := hdd11 9 (by decide)
 refine gL (d := 69) (b := false) ?_ ?_ ?_ ?_
 · rfl
 · rfl
 · exact e14
 have g27 := g8.trans g26
 refine (lA (cs := [.bool a.neg, .slice b1 a.n.length c1, .slice b2 a.d.length c2]) Tryd.isAgg24 Tryd.sizeOf24 e13 (g27.sat _ _ ((((gr2.le.trans gr3.le).trans gr5.le).trans g26.le) _ _ qb1)) rfl rfl ?_)
 exact ⟨_, h19, rfl, g26, fun j x _ p => p, rfl⟩
 intro ρ15 h20 w21 g28 hdd12 hdo12
 have e15 : ρ15 3 = .pointer (some ⟨b7, 0, none⟩) := hdo12 3 rfl
 have e16 : ρ15 69 = .bool false := hdd12 9 (by decide)
 refine gL (d := 69) (b := false) ?_ ?_ ?_ ?_
 · rfl
 · rfl
 · exact e16
 have g29 := g8.trans g28
 refine (lA (cs := [.bool a.neg, .slice b1 a.n.length c1, .slice b2 a.d.length c2]) Tryd.isAgg24 Tryd.sizeOf24 e15 (g29.sat _ _ ((((gr2.le.trans gr3.le).trans gr5.le).trans g28.le) _ _ qb1)) rfl rfl ?_)
 exact ⟨_, h20, rfl, g28, fun j x _ p => p, rfl⟩
 intro ρ16 h21 w22 g30 hdd13 hdo13
 have e17 : ρ16 69 = .bool false := hdd13 9 (by decide)
 have e18 : ρ16 70 = .agg #[.bool a.neg, .slice b1 a.n.length c1, .slice b2 a.d.length c2] := hdd13 10 (by decide)
 have e19 : ρ16 71 = .agg #[.bool a.neg, .slice b1 a.n.length c1, .slice b2 a.d.length c2] := hdd13 11 (by decide)
 refine gL (d := 69) (b := false) ?_ ?_ ?_ ?_
 · rfl
 · rfl
 · exact e17
 have g31 := g8.trans g30
 refine (cF Tryd.call41 (Cmp_c (a := a) (b := a) g31.sat (F.mk (U.mono u1 ((((gr1.le.trans gr2.le).trans gr3.le).trans gr5.le).trans g30.le)) (U.mono u2 ((((gr1.le.trans gr2.le).trans gr3.le).trans gr5.le).trans g30.le))) (F.mk (U.mono u1 ((((gr1.le.trans gr2.le).trans gr3.le).trans gr5.le).trans g30.le)) (U.mono u2 ((((gr1.le.trans gr2.le).trans gr3.le).trans gr5.le).trans g30.le))) (by omega)) (cx e18 (cx e19 cxn)) ?_)
 intro r6 h22 w23 gr9 hr6
 exact ⟨r6, h22, rfl, g30.trans gr9, fun j x _ => stab j _ _ _ _ x gr9, hr6⟩
 intro ρ17 h23 w24 g32 hdd14 hdo14
 have e20 : ρ17 69 = .bool false := hdd14 9 (by decide)
 have e21 : ρ17 72 = .int .i64 (sgQ (a.rat - a.rat)) := hdd14 12 (by decide)
 refine gL (d := 69) (b := false) ?_ ?_ ?_ ?_
 · rfl
 · rfl
 · exact e20
 refine (OpW.neqI (a := (sgQ (a.rat - a.rat))) (b := ((0 : Nat) : Int)) (r := false) e21 rfl (decide_eq_false (fun h => h (sgQ_zero.2 (by grind)))) ?_)
 exact ⟨_, h23, rfl, g32, fun j x _ p => p, rfl⟩
 intro ρ18 h24 w25 g33 hdd15 hdo15
 have e22 : ρ18 69 = .bool false := hdd15 9 (by decide)
 have e23 : ρ18 73 = .bool false := hdd15 13 (by decide)
 refine gP (pF (v := .bool false) e22 e23 ?_)
 exact ⟨_, h24, rfl, g33, fun j x _ p => p, rfl⟩
 intro ρ19 h25 w26 g34 hdp1 hdo16
 have e24 : ρ19 3 = .pointer (some ⟨b7, 0, none⟩) := hdo16 3 rfl
 have e25 : ρ19 4 = .pointer (some ⟨b8, 0, none⟩) := hdo16 4 rfl
 have e26 : ρ19 5 = .pointer (some ⟨b9, 0, none⟩) := hdo16 5 rfl
 have e27 : ρ19 7 = .int .i64 (sgQ (a.rat - b.rat)) := hdo16 7 rfl
 have e28 : ρ19 74 = .bool false := hdp1 14 rfl
 refine Ops.forget [(3, .pointer (some ⟨b7, 0, none⟩)), (4, .pointer (some ⟨b8, 0, none⟩)), (5, .pointer (some ⟨b9, 0, none⟩)), (7, .int .i64 (sgQ (a.rat - b.rat))), (74, .bool false)] ⟨e24, e25, e26, e27, e28, trivial⟩ (fun ρ20 => (oN (Wp.cond_f rfl (Wp.skip (wS (wS ?_))))))
 have g35 := g8.trans g34
 have hf3 := bq_mul a.rat c.rat
 have hf4 := bq_mul b.rat c.rat
 refine Wp.dagL 12 [75, 76, 77, 78, 79, 80, 81, 82, 83, 84, 85, 86] [eqv (.agg #[.bool a.neg, .slice b1 a.n.length c1, .slice b2 a.d.length c2]), eqv (.agg #[.bool c.neg, .slice b5 c.n.length c5, .slice b6 c.d.length c6]), fun h _ x => Kn h x (a.rat * c.rat), eqv (.agg #[.bool b.neg, .slice b3 b.n.length c3, .slice b4 b.d.length c4]), eqv (.agg #[.bool c.neg, .slice b5 c.n.length c5, .slice b6 c.d.length c6]), fun h _ x => Kn h x (b.rat * c.rat), eqv (.int .i64 (sgQ ((a.rat * c.rat) - (b.rat * c.rat)))), eqv (.int .i64 (sgQ (a.rat - b.rat))), eqv (.agg #[.bool c.neg, .slice b5 c.n.length c5, .slice b6 c.d.length c6]), eqv (.int .i64 (sgQ c.rat)), eqv (.int .i64 ((sgQ (a.rat - b.rat)) * (sgQ c.rat))), eqv (.bool false)] mixed g35.sat rfl (by decide +kernel) ⟨sQ _, sQ _, (stab_K (a.rat * c.rat)), sQ _, sQ _, (stab_K (b.rat * c.rat)), sQ _, sQ _, sQ _, sQ _, sQ _, sQ _, trivial⟩ ?_ ?_
 intro stab
 refine ⟨?_, ?_, ?_, ?_, ?_, ?_, ?_, ?_, ?_, ?_, ?_, ?_, trivial⟩
 intro ρ21 h26 w27 g36 hdd16 hdo17
 have e29 : ρ21 3 = .pointer (some ⟨b7, 0, none⟩) := hdo17 3 rfl
 have g37 := g35.trans g36
 refine gP (lA (cs := [.bool a.neg, .slice b1 a.n.length c1, .slice b2 a.d.length c2]) Tryd.isAgg24 Tryd.sizeOf24 e29 (g37.sat _ _ (((((gr2.le.trans gr3.le).trans gr5.le).trans g34.le).trans g36.le) _ _ qb1)) rfl rfl ?_)
 exact ⟨_, h26, rfl, g36, fun j x _ p => p, rfl⟩
 intro ρ22 h27 w28 g38 hdd17 hdo18
 have e30 : ρ22 5 = .pointer (some ⟨b9, 0, none⟩) := hdo18 5 rfl
 have g39 := g35.trans g38
 refine gP (lA (cs := [.bool c.neg, .slice b5 c.n.length c5, .slice b6 c.d.length c6]) Tryd.isAgg24 Tryd.sizeOf24 e30 (g39.sat _ _ (((gr5.le.trans g34.le).trans g38.le) _ _ qb3)) rfl rfl ?_)
 exact ⟨_, h27, rfl, g38, fun j x _ p => p, rfl⟩
 intro ρ23 h28 w29 g40 hdd18 hdo19
 have e31 : ρ23 75 = .agg #[.bool a.neg, .slice b1 a.n.length c1, .slice b2 a.d.length c2] := hdd18 0 (by decide)
 have e32 : ρ23 76 = .agg #[.bool c.neg, .slice b5 c.n.length c5, .slice b6 c.d.length c6] := hdd18 1 (by decide)
 have g41 := g35.trans g40
 refine gP (cF Tryd.call48 (Mul_c (a := a) (b := c) g41.sat (F.mk (U.mono u1 (((((gr1.le.trans gr2.le).trans gr3.le).trans gr5.le).trans g34.le).trans g40.le)) (U.mono u2 (((((gr1.le.trans gr2.le).trans gr3.le).trans gr5.le).trans g34.le).trans g40.le))) (F.mk (U.mono u5 (((((gr1.le.trans gr2.le).trans gr3.le).trans gr5.le).trans g34.le).trans g40.le)) (U.mono u6 (((((gr1.le.trans gr2.le).trans gr3.le).trans gr5.le).trans g34.le).trans g40.le))) (by omega)) (cx e31 (cx e32 cxn)) ?_)
 intro r7 h29 w30 gr10 hr7
 exact ⟨r7, h29, rfl, g40.trans gr10, fun j x _ => stab j _ _ _ _ x gr10, hr7⟩
 intro ρ24 h30 w31 g42 hdd19 hdo20
 have e33 : ρ24 4 = .pointer (some ⟨b8, 0, none⟩) := hdo20 4 rfl
 have g43 := g35.trans g42
 refine gP (lA (cs := [.bool b.neg, .slice b3 b.n.length c3, .slice b4 b.d.length c4]) Tryd.isAgg24 Tryd.sizeOf24 e33 (g43.sat _ _ ((((gr3.le.trans gr5.le).trans g34.le).trans g42.le) _ _ qb2)) rfl rfl ?_)
 exact ⟨_, h30, rfl, g42, fun j x _ p => p, rfl⟩
 intro ρ25 h31 w32 g44 hdd20 hdo21
 have e34 : ρ25 5 = .pointer (some ⟨b9, 0, none⟩) := hdo21 5 rfl
 have g45 := g35.trans g44
 refine gP (lA (cs := [.bool c.neg, .slice b5 c.n.length c5, .slice b6 c.d.length c6]) Tryd.isAgg24 Tryd.sizeOf24 e34 (g45.sat _ _ (((gr5.le.trans g34.le).trans g44.le) _ _ qb3)) rfl rfl ?_)
 exact ⟨_, h31, rfl, g44, fun j x _ p => p, rfl⟩
 intro ρ26 h32 w33 g46 hdd21 hdo22
 have e35 : ρ26 78 = .agg #[.bool b.neg, .slice b3 b.n.length c3, .slice b4 b.d.length c4] := hdd21 3 (by decide)
 have e36 : ρ26 79 = .agg #[.bool c.neg, .slice b5 c.n.length c5, .slice b6 c.d.length c6] := hdd21 4 (by decide)
 have g47 := g35.trans g46
 refine gP (cF Tryd.call48 (Mul_c (a := b) (b := c) g47.sat (F.mk (U.mono u3 (((((gr1.le.trans gr2.le).trans gr3.le).trans gr5.le).trans g34.le).trans g46.le)) (U.mono u4 (((((gr1.le.trans gr2.le).trans gr3.le).trans gr5.le).trans g34.le).trans g46.le))) (F.mk (U.mono u5 (((((gr1.le.trans gr2.le).trans gr3.le).trans gr5.le).trans g34.le).trans g46.le)) (U.mono u6 (((((gr1.le.trans gr2.le).trans gr3.le).trans gr5.le).trans g34.le).trans g46.le))) (by omega)) (cx e35 (cx e36 cxn)) ?_)
 intro r8 h33 w34 gr11 hr8
 exact ⟨r8, h33, rfl, g46.trans gr11, fun j x _ => stab j _ _ _ _ x gr11, hr8⟩
 intro ρ27 h34 w35 g48 hdd22 hdo23
 have q3 : Kn h34 (ρ27 77) (a.rat * c.rat) := hdd22 2 (by decide)
 have q4 : Kn h34 (ρ27 80) (b.rat * c.rat) := hdd22 5 (by decide)
 have g49 := g35.trans g48
 refine gP (cF Tryd.call41 (Cmp_c (a := frK (a.rat * c.rat)) (b := frK (b.rat * c.rat)) g49.sat q3 q4 (by first | omega | (simp only [bf_frK, frK_rat, wts_cons, wts_nil]; omega))) rfl ?_)
 intro r9 h35 w36 gr12 hr9
 simp only [frK_rat, bf_frK, val_digs] at hr9
 exact ⟨r9, h35, rfl, g48.trans gr12, fun j x _ => stab j _ _ _ _ x gr12, hr9⟩
 intro ρ28 h36 w37 g50 hdd23 hdo24
 have e37 : ρ28 7 = .int .i64 (sgQ (a.rat - b.rat)) := hdo24 7 rfl
 refine gP (OpW.move (v := .int .i64 (sgQ (a.rat - b.rat))) e37 ?_)
 exact ⟨_, h36, rfl, g50, fun j x _ p => p, rfl⟩
 intro ρ29 h37 w38 g51 hdd24 hdo25
 have e38 : ρ29 5 = .pointer (some ⟨b9, 0, none⟩) := hdo25 5 rfl
 have g52 := g35.trans g51
 refine gP (lA (cs := [.bool c.neg, .slice b5 c.n.length c5, .slice b6 c.d.length c6]) Tryd.isAgg24 Tryd.sizeOf24 e38 (g52.sat _ _ (((gr5.le.trans g34.le).trans g51.le) _ _ qb3)) rfl rfl ?_)
 exact ⟨_, h37, rfl, g51, fun j x _ p => p, rfl⟩
 intro ρ30 h38 w39 g53 hdd25 hdo26
 have e39 : ρ30 83 = .agg #[.bool c.neg, .slice b5 c.n.length c5, .slice b6 c.d.length c6] := hdd25 8 (by decide)
 have g54 := g35.trans g53
 refine gP (cF Tryd.call40 (Sign_c (a := c) g54.sat (F.mk (U.mono u5 (((((gr1.le.trans gr2.le).trans gr3.le).trans gr5.le).trans g34.le).trans g53.le)) (U.mono u6 (((((gr1.le.trans gr2.le).trans gr3.le).trans gr5.le).trans g34.le).trans g53.le))) (by omega)) (cx e39 cxn) ?_)
 intro r10 h39 w40 gr13 hr10
 exact ⟨r10, h39, rfl, g53.trans gr13, fun j x _ => stab j _ _ _ _ x gr13, hr10⟩
 intro ρ31 h40 w41 g55 hdd26 hdo27
 have e40 : ρ31 82 = .int .i64 (sgQ (a.rat - b.rat)) := hdd26 7 (by decide)
 have e41 : ρ31 84 = .int .i64 (sgQ c.rat) := hdd26 9 (by decide)
 refine gP (OpW.mul (a := (sgQ (a.rat - b.rat))) (b := (sgQ c.rat)) (r := ((sgQ (a.rat - b.rat)) * (sgQ c.rat))) e40 e41 (in_i64 (by omega)) ?_)
 exact ⟨_, h40, rfl, g55, fun j x _ p => p, rfl⟩
 intro ρ32 h41 w42 g56 hdd27 hdo28
 have e42 : ρ32 81 = .int .i64 (sgQ ((a.rat * c.rat) - (b.rat * c.rat))) := hdd27 6 (by decide)
 have e43 : ρ32 85 = .int .i64 ((sgQ (a.rat - b.rat)) * (sgQ c.rat)) := hdd27 10 (by decide)
 refine gP (OpW.neqI (a := (sgQ ((a.rat * c.rat) - (b.rat * c.rat)))) (b := ((sgQ (a.rat - b.rat)) * (sgQ c.rat))) (r := false) e42 e43 (decide_eq_false (fun h => h ((sgQ_eq (by grind)).trans (sgQ_mul _ _)))) ?_)
 exact ⟨_, h41, rfl, g56, fun j x _ p => p, rfl⟩
 intro ρ33 h42 w43 g57 hdp2 hdo29
 have e44 : ρ33 3 = .pointer (some ⟨b7, 0, none⟩) := hdo29 3 rfl
 have e45 : ρ33 4 = .pointer (some ⟨b8, 0, none⟩) := hdo29 4 rfl
 have e46 : ρ33 7 = .int .i64 (sgQ (a.rat - b.rat)) := hdo29 7 rfl
 have e47 : ρ33 86 = .bool false := hdp2 11 rfl
 refine Ops.forget [(3, .pointer (some ⟨b7, 0, none⟩)), (4, .pointer (some ⟨b8, 0, none⟩)), (7, .int .i64 (sgQ (a.rat - b.rat))), (86, .bool false)] ⟨e44, e45, e46, e47, trivial⟩ (fun ρ34 => (oN (Wp.cond_f rfl (Wp.skip (wS ?_)))))
 have g58 := g35.trans g57
 refine Wp.dagL 12 [87, 88, 89, 90, 91, 92, 93, 94, 95, 96, 97, 6] [eqv (.int .i64 (sgQ (a.rat - b.rat))), eqv (.bool (decide ((sgQ (a.rat - b.rat)) = ((0 : Nat) : Int)))), eqv (.agg #[.bool a.neg, .slice b1 a.n.length c1, .slice b2 a.d.length c2]), fun h _ x => Kn h x a.rat, eqv (.agg #[.bool b.neg, .slice b3 b.n.length c3, .slice b4 b.d.length c4]), fun h _ x => Kn h x b.rat, eqv (.bool (sameF (frK a.rat) (frK b.rat))), eqv (.bool true), eqv (.bool true), eqv (.bool true), eqv (.bool true), eqv (.bool true)] mixed g58.sat rfl (by decide +kernel) ⟨sQ _, sQ _, sQ _, (stab_K a.rat), sQ _, (stab_K b.rat), sQ _, sQ _, sQ _, sQ _, sQ _, sQ _, trivial⟩ ?_ ?_
 intro stab
 refine ⟨?_, ?_, ?_, ?_, ?_, ?_, ?_, ?_, ?_, ?_, ?_, ?_, trivial⟩
 intro ρ35 h43 w44 g59 hdd28 hdo30
 have e48 : ρ35 7 = .int .i64 (sgQ (a.rat - b.rat)) := hdo30 7 rfl
 refine gP (OpW.move (v := .int .i64 (sgQ (a.rat - b.rat))) e48 ?_)
 exact ⟨_, h43, rfl, g59, fun j x _ p => p, rfl⟩
 intro ρ36 h44 w45 g60 hdd29 hdo31
 have e49 : ρ36 87 = .int .i64 (sgQ (a.rat - b.rat)) := hdd29 0 (by decide)
 refine gP (OpW.eqlI (a := (sgQ (a.rat - b.rat))) (b := ((0 : Nat) : Int)) (r := decide ((sgQ (a.rat - b.rat)) = ((0 : Nat) : Int))) e49 rfl rfl ?_)
 exact ⟨_, h44, rfl, g60, fun j x _ p => p, rfl⟩
 intro ρ37 h45 w46 g61 hdd30 hdo32
 have e50 : ρ37 3 = .pointer (some ⟨b7, 0, none⟩) := hdo32 3 rfl
 have g62 := g58.trans g61
 refine gP (lA (cs := [.bool a.neg, .slice b1 a.n.length c1, .slice b2 a.d.length c2]) Tryd.isAgg24 Tryd.sizeOf24 e50 (g62.sat _ _ ((((((gr2.le.trans gr3.le).trans gr5.le).trans g34.le).trans g57.le).trans g61.le) _ _ qb1)) rfl rfl ?_)
 exact ⟨_, h45, rfl, g61, fun j x _ p => p, rfl⟩
 intro ρ38 h46 w47 g63 hdd31 hdo33
 have e51 : ρ38 89 = .agg #[.bool a.neg, .slice b1 a.n.length c1, .slice b2 a.d.length c2] := hdd31 2 (by decide)
 have g64 := g58.trans g63
 refine gP (cF Tryd.call50 (Canon_c (a := a) g64.sat (F.mk (U.mono u1 ((((((gr1.le.trans gr2.le).trans gr3.le).trans gr5.le).trans g34.le).trans g57.le).trans g63.le)) (U.mono u2 ((((((gr1.le.trans gr2.le).trans gr3.le).trans gr5.le).trans g34.le).trans g57.le).trans g63.le))) (by omega)) (cx e51 cxn) ?_)
 intro r11 h47 w48 gr14 hr11
 exact ⟨r11, h47, rfl, g63.trans gr14, fun j x _ => stab j _ _ _ _ x gr14, hr11⟩
 intro ρ39 h48 w49 g65 hdd32 hdo34
 have e52 : ρ39 4 = .pointer (some ⟨b8, 0, none⟩) := hdo34 4 rfl
 have g66 := g58.trans g65
 refine gP (lA (cs := [.bool b.neg, .slice b3 b.n.length c3, .slice b4 b.d.length c4]) Tryd.isAgg24 Tryd.sizeOf24 e52 (g66.sat _ _ (((((gr3.le.trans gr5.le).trans g34.le).trans g57.le).trans g65.le) _ _ qb2)) rfl rfl ?_)
 exact ⟨_, h48, rfl, g65, fun j x _ p => p, rfl⟩
 intro ρ40 h49 w50 g67 hdd33 hdo35
 have e53 : ρ40 91 = .agg #[.bool b.neg, .slice b3 b.n.length c3, .slice b4 b.d.length c4] := hdd33 4 (by decide)
 have g68 := g58.trans g67
 refine gP (cF Tryd.call50 (Canon_c (a := b) g68.sat (F.mk (U.mono u3 ((((((gr1.le.trans gr2.le).trans gr3.le).trans gr5.le).trans g34.le).trans g57.le).trans g67.le)) (U.mono u4 ((((((gr1.le.trans gr2.le).trans gr3.le).trans gr5.le).trans g34.le).trans g57.le).trans g67.le))) (by omega)) (cx e53 cxn) ?_)
 intro r12 h50 w51 gr15 hr12
 exact ⟨r12, h50, rfl, g67.trans gr15, fun j x _ => stab j _ _ _ _ x gr15, hr12⟩
 intro ρ41 h51 w52 g69 hdd34 hdo36
 have q5 : Kn h51 (ρ41 90) a.rat := hdd34 3 (by decide)
 have q6 : Kn h51 (ρ41 92) b.rat := hdd34 5 (by decide)
 have g70 := g58.trans g69
 refine gP (cF Tryd.call22 (rSame_c (f := frK a.rat) (g := frK b.rat) g70.sat q5 q6 (by first | omega | (simp only [bf_frK, frK_rat, wts_cons, wts_nil]; omega)) (by first | omega | (simp only [bf_frK, frK_rat, wts_cons, wts_nil]; omega))) rfl ?_)
 intro r13 h52 w53 gr16 hr13
 exact ⟨r13, h52, rfl, g69.trans gr16, fun j x _ => stab j _ _ _ _ x gr16, hr13⟩
 intro ρ42 h53 w54 g71 hdd35 hdo37
 have e54 : ρ42 88 = .bool (decide ((sgQ (a.rat - b.rat)) = ((0 : Nat) : Int))) := hdd35 1 (by decide)
 have e55 : ρ42 93 = .bool (sameF (frK a.rat) (frK b.rat)) := hdd35 6 (by decide)
 refine gP (OpW.eqlB (a := decide ((sgQ (a.rat - b.rat)) = ((0 : Nat) : Int))) (b := sameF (frK a.rat) (frK b.rat)) (r := true) Tryd.underlying4 e54 e55 (same_cmp _ _) ?_)
 exact ⟨_, h53, rfl, g71, fun j x _ p => p, rfl⟩
 intro ρ43 h54 w55 g72 hdd36 hdo38
 have e56 : ρ43 94 = .bool true := hdd36 7 (by decide)
 refine gP (OpW.move (v := .bool true) e56 ?_)
 exact ⟨_, h54, rfl, g72, fun j x _ p => p, rfl⟩
 intro ρ44 h55 w56 g73 hdd37 hdo39
 have e57 : ρ44 95 = .bool true := hdd37 8 (by decide)
 refine gL (d := 95) (b := true) ?_ ?_ ?_ ?_
 · rfl
 · rfl
 · exact e57
 have g74 := g58.trans g73
 refine (cF Tryd.call20 (known_c  g74.sat (tb.mono ((((((gr1.le.trans gr2.le).trans gr3.le).trans gr5.le).trans g34.le).trans g57.le).trans g73.le)) ) rfl ?_)
 intro r14 h56 w57 gr17 hr14
 exact ⟨r14, h56, rfl, g73.trans gr17, fun j x _ => stab j _ _ _ _ x gr17, hr14⟩
 intro ρ45 h57 w58 g75 hdd38 hdo40
 have e58 : ρ45 95 = .bool true := hdd38 8 (by decide)
 have e59 : ρ45 96 = .bool true := hdd38 9 (by decide)
 refine gP (pT (v := .bool true) e58 e59 ?_)
 exact ⟨_, h57, rfl, g75, fun j x _ p => p, rfl⟩
 intro ρ46 h58 w59 g76 hdd39 hdo41
 have e60 : ρ46 97 = .bool true := hdd39 10 (by decide)
 refine gP (OpW.assign (v := .bool true) e60 ?_)
 exact ⟨_, h58, rfl, g76, fun j x _ p => p, rfl⟩
 intro ρ47 h59 w60 g77 hdp3 hdo42
 have e61 : ρ47 6 = .bool true := hdp3 11 rfl
 refine Ops.forget [(6, .bool true)] ⟨e61, trivial⟩ (fun ρ48 => (oN (Wp.ret (fin1_ret rfl (resOf_tmp (v := .bool true) rfl) ?_))))
 have g78 := g58.trans g77
 refine ⟨h59, g78, ?_⟩
 exact rfl
 replace c13 : (sgQ (a.rat - b.rat)) ≤ ((0 : Nat) : Int) := (of_decide_eq_true c13)
 have g79 := g7.trans gr5
 refine oL rfl rfl rfl (lA (cs := [.bool b.neg, .slice b3 b.n.length c3, .slice b4 b.d.length c4]) Tryd.isAgg24 Tryd.sizeOf24 rfl (g79.sat _ _ ((gr3.le.trans gr5.le) _ _ qb2)) rfl rfl ?_)
 refine oL rfl rfl rfl (lA (cs := [.bool c.neg, .slice b5 c.n.length c5, .slice b6 c.d.length c6]) Tryd.isAgg24 Tryd.sizeOf24 rfl (g79.sat _ _ (gr5.le _ _ qb3)) rfl rfl ?_)
 refine oL rfl rfl rfl (cF Tryd.call41 (Cmp_c (a := b) (b := c) g79.sat (F.mk (U.mono u3 (((gr1.le.trans gr2.le).trans gr3.le).trans gr5.le)) (U.mono u4 (((gr1.le.trans gr2.le).trans gr3.le).trans gr5.le))) (F.mk (U.mono u5 (((gr1.le.trans gr2.le).trans gr3.le).trans gr5.le)) (U.mono u6 (((gr1.le.trans gr2.le).trans gr3.le).trans gr5.le))) (by omega)) rfl ?_)
 intro r15 h60 w61 gr18 hr15
 subst hr15
 refine oL rfl rfl rfl (OpW.leq (a := (sgQ (b.rat - c.rat))) (b := ((0 : Nat) : Int)) (r := decide ((sgQ (b.rat - c.rat)) ≤ ((0 : Nat) : Int))) rfl rfl rfl ?_)
 refine oC (pT (v := .bool (decide ((sgQ (b.rat - c.rat)) ≤ ((0 : Nat) : Int)))) rfl rfl (mv ?_))
 cases c14 : (decide ((sgQ (b.rat - c.rat)) ≤ ((0 : Nat) : Int)))
 replace c14 : ¬ ((sgQ (b.rat - c.rat)) ≤ ((0 : Nat) : Int)) := (of_decide_eq_false c14)
 refine oD rfl rfl rfl rfl (oD rfl rfl rfl rfl (oD rfl rfl rfl rfl (oD rfl rfl rfl rfl (oC (pF (v := .bool false) rfl rfl (oN (Wp.cond_f rfl (Wp.skip (wS (wS (fg [(3, .pointer (some ⟨b7, 0, none⟩)), (4, .pointer (some ⟨b8, 0, none⟩)), (5, .pointer (some ⟨b9, 0, none⟩)), (7, .int .i64 (sgQ (a.rat - b.rat)))] rfl (fun ρ49 => ?_))))))))))))
 have g80 := g79.trans gr18
 have hf5 := bq_add a.rat c.rat
 have hf6 := bq_add b.rat c.rat
 refine Wp.dagL 15 [60, 61, 62, 63, 64, 65, 66, 67, 68, 69, 70, 71, 72, 73, 74] [eqv (.agg #[.bool a.neg, .slice b1 a.n.length c1, .slice b2 a.d.length c2]), eqv (.agg #[.bool c.neg, .slice b5 c.n.length c5, .slice b6 c.d.length c6]), fun h _ x => Kn h x (a.rat + c.rat), eqv (.agg #[.bool b.neg, .slice b3 b.n.length c3, .slice b4 b.d.length c4]), eqv (.agg #[.bool c.neg, .slice b5 c.n.length c5, .slice b6 c.d.length c6]), fun h _ x => Kn h x (b.rat + c.rat), eqv (.int .i64 (sgQ ((a.rat + c.rat) - (b.rat + c.rat)))), eqv (.int .i64 (sgQ (a.rat - b.rat))), eqv (.bool false), eqv (.bool false), eqv (.agg #[.bool a.neg, .slice b1 a.n.length c1, .slice b2 a.d.length c2]), eqv (.agg #[.bool a.neg, .slice b1 a.n.length c1, .slice b2 a.d.length c2]), eqv (.int .i64 (sgQ (a.rat - a.rat))), eqv (.bool false), eqv (.bool false)] mixed g80.sat rfl (by decide +kernel) ⟨sQ _, sQ _, (stab_K (a.rat + c.rat)), sQ _, sQ _, (stab_K (b.rat + c.rat)), sQ _, sQ _, sQ _, sQ _, sQ _, sQ _, sQ _, sQ _, sQ _, trivial⟩ ?_ ?_
 intro stab
 refine ⟨?_, ?_, ?_, ?_, ?_, ?_, ?_, ?_, ?_, ?_, ?_, ?_, ?_, ?_, ?_, trivial⟩
 intro ρ50 h61 w62 g81 hdd40 hdo43
 have e62 : ρ50 3 = .pointer (some ⟨b7, 0, none⟩) := hdo43 3 rfl
 have g82 := g80.trans g81
 refine gP (lA (cs := [.bool a.neg, .slice b1 a.n.length c1, .slice b2 a.d.length c2]) Tryd.isAgg24 Tryd.sizeOf24 e62 (g82.sat _ _ (((((gr2.le.trans gr3.le).trans gr5.le).trans gr18.le).trans g81.le) _ _ qb1)) rfl rfl ?_)
 exact ⟨_, h61, rfl, g81, fun j x _ p => p, rfl⟩
 intro ρ51 h62 w63 g83 hdd41 hdo44
 have e63 : ρ51 5 = .pointer (some ⟨b9, 0, none⟩) := hdo44 5 rfl
 have g84 := g80.trans g83
 refine gP (lA (cs := [.bool c.neg, .slice b5 c.n.length c5, .slice b6 c.d.length c6]) Tryd.isAgg24 Tryd.sizeOf24 e63 (g84.sat _ _ (((gr5.le.trans gr18.le).trans g83.le) _ _ qb3)) rfl rfl ?_)
 exact ⟨_, h62, rfl, g83, fun j x _ p => p, rfl⟩
 intro ρ52 h63 w64 g85 hdd42 hdo45
 have e64 : ρ52 60 = .agg #[.bool a.neg, .slice b1 a.n.length c1, .slice b2 a.d.length c2] := hdd42 0 (by decide)
 have e65 : ρ52 61 = .agg #[.bool c.neg, .slice b5 c.n.length c5, .slice b6 c.d.length c6] := hdd42 1 (by decide)
 have g86 := g80.trans g85
 refine gP (cF Tryd.call42 (Add_c (a := a) (b := c) g86.sat (F.mk (U.mono u1 (((((gr1.le.trans gr2.le).trans gr3.le).trans gr5.le).trans gr18.le).trans g85.le)) (U.mono u2 (((((gr1.le.trans gr2.le).trans gr3.le).trans gr5.le).trans gr18.le).trans g85.le))) (F.mk (U.mono u5 (((((gr1.le.trans gr2.le).trans gr3.le).trans gr5.le).trans gr18.le).trans g85.le)) (U.mono u6 (((((gr1.le.trans gr2.le).trans gr3.le).trans gr5.le).trans gr18.le).trans g85.le))) (by omega)) (cx e64 (cx e65 cxn)) ?_)
 intro r16 h64 w65 gr19 hr16
 exact ⟨r16, h64, rfl, g85.trans gr19, fun j x _ => stab j _ _ _ _ x gr19, hr16⟩
 intro ρ53 h65 w66 g87 hdd43 hdo46
 have e66 : ρ53 4 = .pointer (some ⟨b8, 0, none⟩) := hdo46 4 rfl
 have g88 := g80.trans g87
 refine gP (lA (cs := [.bool b.neg, .slice b3 b.n.length c3, .slice b4 b.d.length c4]) Tryd.isAgg24 Tryd.sizeOf24 e66 (g88.sat _ _ ((((gr3.le.trans gr5.le).trans gr18.le).trans g87.le) _ _ qb2)) rfl rfl ?_)
 exact ⟨_, h65, rfl, g87, fun j x _ p => p, rfl⟩
 intro ρ54 h66 w67 g89 hdd44 hdo47
 have e67 : ρ54 5 = .pointer (some ⟨b9, 0, none⟩) := hdo47 5 rfl
 have g90 := g80.trans g89
 refine gP (lA (cs := [.bool c.neg, .slice b5 c.n.length c5, .slice b6 c.d.length c6]) Tryd.isAgg24 Tryd.sizeOf24 e67 (g90.sat _ _ (((gr5.le.trans gr18.le).trans g89.le) _ _ qb3)) rfl rfl ?_)
 exact ⟨_, h66, rfl, g89, fun j x _ p => p, rfl⟩
 intro ρ55 h67 w68 g91 hdd45 hdo48
 have e68 : ρ55 63 = .agg #[.bool b.neg, .slice b3 b.n.length c3, .slice b4 b.d.length c4] := hdd45 3 (by decide)
 have e69 : ρ55 64 = .agg #[.bool c.neg, .slice b5 c.n.length c5, .slice b6 c.d.length c6] := hdd45 4 (by decide)
 have g92 := g80.trans g91
 refine gP (cF Tryd.call42 (Add_c (a := b) (b := c) g92.sat (F.mk (U.mono u3 (((((gr1.le.trans gr2.le).trans gr3.le).trans gr5.le).trans gr18.le).trans g91.le)) (U.mono u4 (((((gr1.le.trans gr2.le).trans gr3.le).trans gr5.le).trans gr18.le).trans g91.le))) (F.mk (U.mono u5 (((((gr1.le.trans gr2.le).trans gr3.le).trans gr5.le).trans gr18.le).trans g91.le)) (U.mono u6 (((((gr1.le.trans gr2.le).trans gr3.le).trans gr5.le).trans gr18.le).trans g91.le))) (by omega)) (cx e68 (cx e69 cxn)) ?_)
 intro r17 h68 w69 gr20 hr17
 exact ⟨r17, h68, rfl, g91.trans gr20, fun j x _ => stab j _ _ _ _ x gr20, hr17⟩
 intro ρ56 h69 w70 g93 hdd46 hdo49
 have q7 : Kn h69 (ρ56 62) (a.rat + c.rat) := hdd46 2 (by decide)
 have q8 : Kn h69 (ρ56 65) (b.rat + c.rat) := hdd46 5 (by decide)
 have g94 := g80.trans g93
 refine gP (cF Tryd.call41 (Cmp_c (a := frK (a.rat + c.rat)) (b := frK (b.rat + c.rat)) g94.sat q7 q8 (by first | omega | (simp only [bf_frK, frK_rat, wts_cons, wts_nil]; omega))) rfl ?_)
 intro r18 h70 w71 gr21 hr18
 simp only [frK_rat, bf_frK, val_digs] at hr18
 exact ⟨r18, h70, rfl, g93.trans gr21, fun j x _ => stab j _ _ _ _ x gr21, hr18⟩
 intro ρ57 h71 w72 g95 hdd47 hdo50
 have e70 : ρ57 7 = .int .i64 (sgQ (a.rat - b.rat)) := hdo50 7 rfl
 refine gP (OpW.move (v := .int .i64 (sgQ (a.rat - b.rat))) e70 ?_)
 exact ⟨_, h71, rfl, g95, fun j x _ p => p, rfl⟩
 intro ρ58 h72 w73 g96 hdd48 hdo51
 have e71 : ρ58 66 = .int .i64 (sgQ ((a.rat + c.rat) - (b.rat + c.rat))) := hdd48 6 (by decide)
 have e72 : ρ58 67 = .int .i64 (sgQ (a.rat - b.rat)) := hdd48 7 (by decide)
 refine gP (OpW.neqI (a := (sgQ ((a.rat + c.rat) - (b.rat + c.rat)))) (b := (sgQ (a.rat - b.rat))) (r := false) e71 e72 (decide_eq_false (fun h => h (sgQ_eq (by grind)))) ?_)
 exact ⟨_, h72, rfl, g96, fun j x _ p => p, rfl⟩
 intro ρ59 h73 w74 g97 hdd49 hdo52
 have e73 : ρ59 68 = .bool false := hdd49 8 (by decide)
 refine gP (OpW.move (v := .bool false) e73 ?_)
 exact ⟨_, h73, rfl, g97, fun j x _ p => p, rfl⟩
 intro ρ60 h74 w75 g98 hdd50 hdo53
 have e74 : ρ60 3 = .pointer (some ⟨b7, 0, none⟩) := hdo53 3 rfl
 have e75 : ρ60 69 = .bool false := hdd50 9 (by decide)
 refine gL (d := 69) (b := false) ?_ ?_ ?_ ?_
 · rfl
 · rfl
 · exact e75
 have g99 := g80.trans g98
 refine (lA (cs := [.bool a.neg, .slice b1 a.n.length c1, .slice b2 a.d.length c2]) Tryd.isAgg24 Tryd.sizeOf24 e74 (g99.sat _ _ (((((gr2.le.trans gr3.le).trans gr5.le).trans gr18.le).trans g98.le) _ _ qb1)) rfl rfl ?_)
 exact ⟨_, h74, rfl, g98, fun j x _ p => p, rfl⟩
 intro ρ61 h75 w76 g100 hdd51 hdo54
 have e76 : ρ61 3 = .pointer (some ⟨b7, 0, none⟩) := hdo54 3 rfl
 have e77 : ρ61 69 = .bool false := hdd51 9 (by decide)
 refine gL (d := 69) (b := false) ?_ ?_ ?_ ?_
 · rfl
 · rfl
 · exact e77
 have g101 := g80.trans g100
 refine (lA (cs := [.bool a.neg, .slice b1 a.n.length c1, .slice b2 a.d.length c2]) Tryd.isAgg24 Tryd.sizeOf24 e76 (g101.sat _ _ (((((gr2.le.trans gr3.le).trans gr5.le).trans gr18.le).trans g100.le) _ _ qb1)) rfl rfl ?_)
 exact ⟨_, h75, rfl, g100, fun j x _ p => p, rfl⟩
 intro ρ62 h76 w77 g102 hdd52 hdo55
 have e78 : ρ62 69 = .bool false := hdd52 9 (by decide)
 have e79 : ρ62 70 = .agg #[.bool a.neg, .slice b1 a.n.length c1, .slice b2 a.d.length c2] := hdd52 10 (by decide)
 have e80 : ρ62 71 = .agg #[.bool a.neg, .slice b1 a.n.length c1, .slice b2 a.d.length c2] := hdd52 11 (by decide)
 refine gL (d := 69) (b := false) ?_ ?_ ?_ ?_
 · rfl
 · rfl
 · exact e78
 have g103 := g80.trans g102
 refine (cF Tryd.call41 (Cmp_c (a := a) (b := a) g103.sat (F.mk (U.mono u1 (((((gr1.le.trans gr2.le).trans gr3.le).trans gr5.le).trans gr18.le).trans g102.le)) (U.mono u2 (((((gr1.le.trans gr2.le).trans gr3.le).trans gr5.le).trans gr18.le).trans g102.le))) (F.mk (U.mono u1 (((((gr1.le.trans gr2.le).trans gr3.le).trans gr5.le).trans gr18.le).trans g102.le)) (U.mono u2 (((((gr1.le.trans gr2.le).trans gr3.le).trans gr5.le).trans gr18.le).trans g102.le))) (by omega)) (cx e79 (cx e80 cxn)) ?_)
 intro r19 h77 w78 gr22 hr19
 exact ⟨r19, h77, rfl, g102.trans gr22, fun j x _ => stab j _ _ _ _ x gr22, hr19⟩
 intro ρ63 h78 w79 g104 hdd53 hdo56
 have e81 : ρ63 69 = .bool false := hdd53 9 (by decide)
 have e82 : ρ63 72 = .int .i64 (sgQ (a.rat - a.rat)) := hdd53 12 (by decide)
 refine gL (d := 69) (b := false) ?_ ?_ ?_ ?_
 · rfl
 · rfl
 · exact e81
 refine (OpW.neqI (a := (sgQ (a.rat - a.rat))) (b := ((0 : Nat) : Int)) (r := false) e82 rfl (decide_eq_false (fun h => h (sgQ_zero.2 (by grind)))) ?_)
 exact ⟨_, h78, rfl, g104, fun j x _ p => p, rfl⟩
 intro ρ64 h79 w80 g105 hdd54 hdo57
 have e83 : ρ64 69 = .bool false := hdd54 9 (by decide)
 have e84 : ρ64 73 = .bool false := hdd54 13 (by decide)
 refine gP (pF (v := .bool false) e83 e84 ?_)
 exact ⟨_, h79, rfl, g105, fun j x _ p => p, rfl⟩
 intro ρ65 h80 w81 g106 hdp4 hdo58
 have e85 : ρ65 3 = .pointer (some ⟨b7, 0, none⟩) := hdo58 3 rfl
 have e86 : ρ65 4 = .pointer (some ⟨b8, 0, none⟩) := hdo58 4 rfl
 have e87 : ρ65 5 = .pointer (some ⟨b9, 0, none⟩) := hdo58 5 rfl
 have e88 : ρ65 7 = .int .i64 (sgQ (a.rat - b.rat)) := hdo58 7 rfl
 have e89 : ρ65 74 = .bool false := hdp4 14 rfl
 refine Ops.forget [(3, .pointer (some ⟨b7, 0, none⟩)), (4, .pointer (some ⟨b8, 0, none⟩)), (5, .pointer (some ⟨b9, 0, none⟩)), (7, .int .i64 (sgQ (a.rat - b.rat))), (74, .bool false)] ⟨e85, e86, e87, e88, e89, trivial⟩ (fun ρ66 => (oN (Wp.cond_f rfl (Wp.skip (wS (wS ?_))))))
 have g107 := g80.trans g106
 have hf7 := bq_mul a.rat c.rat
 have hf8 := bq_mul b.rat c.rat
 refine Wp.dagL 12 [75, 76, 77, 78, 79, 80, 81, 82, 83, 84, 85, 86] [eqv (.agg #[.bool a.neg, .slice b1 a.n.length c1, .slice b2 a.d.length c2]), eqv (.agg #[.bool c.neg, .slice b5 c.n.length c5, .slice b6 c.d.length c6]), fun h _ x => Kn h x (a.rat * c.rat), eqv (.agg #[.bool b.neg, .slice b3 b.n.length c3, .slice b4 b.d.length c4]), eqv (.agg #[.bool c.neg, .slice b5 c.n.length c5, .slice b6 c.d.length c6]), fun h _ x => Kn h x (b.rat * c.rat), eqv (.int .i64 (sgQ ((a.rat * c.rat) - (b.rat * c.rat)))), eqv (.int .i64 (sgQ (a.rat - b.rat))), eqv (.agg #[.bool c.neg, .slice b5 c.n.length c5, .slice b6 c.d.length c6]), eqv (.int .i64 (sgQ c.rat)), eqv (.int .i64 ((sgQ (a.rat - b.rat)) * (sgQ c.rat))), eqv (.bool false)] mixed g107.sat rfl (by decide +kernel) ⟨sQ _, sQ _, (stab_K (a.rat * c.rat)), sQ _, sQ _, (stab_K (b.rat * c.rat)), sQ _, sQ _, sQ _, sQ _, sQ _, sQ _, trivial⟩ ?_ ?_
 intro stab
 refine ⟨?_, ?_, ?_, ?_, ?_, ?_, ?_, ?_, ?_, ?_, ?_, ?_, trivial⟩
 intro ρ67 h81 w82 g108 hdd55 hdo59
 have e90 : ρ67 3 = .pointer (some ⟨b7, 0, none⟩) := hdo59 3 rfl
 have g109 := g107.trans g108
 refine gP (lA (cs := [.bool a.neg, .slice b1 a.n.length c1, .slice b2 a.d.length c2]) Tryd.isAgg24 Tryd.sizeOf24 e90 (g109.sat _ _ ((((((gr2.le.trans gr3.le).trans gr5.le).trans gr18.le).trans g106.le).trans g108.le) _ _ qb1)) rfl rfl ?_)
 exact ⟨_, h81, rfl, g108, fun j x _ p => p, rfl⟩
 intro ρ68 h82 w83 g110 hdd56 hdo60
 have e91 : ρ68 5 = .pointer (some ⟨b9, 0, none⟩) := hdo60 5 rfl
 have g111 := g107.trans g110
 refine gP (lA (cs := [.bool c.neg, .slice b5 c.n.length c5, .slice b6 c.d.length c6]) Tryd.isAgg24 Tryd.sizeOf24 e91 (g111.sat _ _ ((((gr5.le.trans gr18.le).trans g106.le).trans g110.le) _ _ qb3)) rfl rfl ?_)
 exact ⟨_, h82, rfl, g110, fun j x _ p => p, rfl⟩
 intro ρ69 h83 w84 g112 hdd57 hdo61
 have e92 : ρ69 75 = .agg #[.bool a.neg, .slice b1 a.n.length c1, .slice b2 a.d.length c2] := hdd57 0 (by decide)
 have e93 : ρ69 76 = .agg #[.bool c.neg, .slice b5 c.n.length c5, .slice b6 c.d.length c6] := hdd57 1 (by decide)
 have g113 := g107.trans g112
 refine gP (cF Tryd.call48 (Mul_c (a := a) (b := c) g113.sat (F.mk (U.mono u1 ((((((gr1.le.trans gr2.le).trans gr3.le).trans gr5.le).trans gr18.le).trans g106.le).trans g112.le)) (U.mono u2 ((((((gr1.le.trans gr2.le).trans gr3.le).trans gr5.le).trans gr18.le).trans g106.le).trans g112.le))) (F.mk (U.mono u5 ((((((gr1.le.trans gr2.le).trans gr3.le).trans gr5.le).trans gr18.le).trans g106.le).trans g112.le)) (U.mono u6 ((((((gr1.le.trans gr2.le).trans gr3.le).trans gr5.le).trans gr18.le).trans g106.le).trans g112.le))) (by omega)) (cx e92 (cx e93 cxn)) ?_)
 intro r20 h84 w85 gr23 hr20
 exact ⟨r20, h84, rfl, g112.trans gr23, fun j x _ => stab j _ _ _ _ x gr23, hr20⟩
 intro ρ70 h85 w86 g114 hdd58 hdo62
 have e94 : ρ70 4 = .pointer (some ⟨b8, 0, none⟩) := hdo62 4 rfl
 have g115 := g107.trans g114
 refine gP (lA (cs := [.bool b.neg, .slice b3 b.n.length c3, .slice b4 b.d.length c4]) Tryd.isAgg24 Tryd.sizeOf24 e94 (g115.sat _ _ (((((gr3.le.trans gr5.le).trans gr18.le).trans g106.le).trans g114.le) _ _ qb2)) rfl rfl ?_)
 exact ⟨_, h85, rfl, g114, fun j x _ p => p, rfl⟩
 intro ρ71 h86 w87 g116 hdd59 hdo63
 have e95 : ρ71 5 = .pointer (some ⟨b9, 0, none⟩) := hdo63 5 rfl
 have g117 := g107.trans g116
 refine gP (lA (cs := [.bool c.neg, .slice b5 c.n.length c5, .slice b6 c.d.length c6]) Tryd.isAgg24 Tryd.sizeOf24 e95 (g117.sat _ _ ((((gr5.le.trans gr18.le).trans g106.le).trans g116.le) _ _ qb3)) rfl rfl ?_)
 exact ⟨_, h86, rfl, g116, fun j x _ p => p, rfl⟩
 intro ρ72 h87 w88 g118 hdd60 hdo64
 have e96 : ρ72 78 = .agg #[.bool b.neg, .slice b3 b.n.length c3, .slice b4 b.d.length c4] := hdd60 3 (by decide)
 have e97 : ρ72 79 = .agg #[.bool c.neg, .slice b5 c.n.length c5, .slice b6 c.d.length c6] := hdd60 4 (by decide)
 have g119 := g107.trans g118
 refine gP (cF Tryd.call48 (Mul_c (a := b) (b := c) g119.sat (F.mk (U.mono u3 ((((((gr1.le.trans gr2.le).trans gr3.le).trans gr5.le).trans gr18.le).trans g106.le).trans g118.le)) (U.mono u4 ((((((gr1.le.trans gr2.le).trans gr3.le).trans gr5.le).trans gr18.le).trans g106.le).trans g118.le))) (F.mk (U.mono u5 ((((((gr1.le.trans gr2.le).trans gr3.le).trans gr5.le).trans gr18.le).trans g106.le).trans g118.le)) (U.mono u6 ((((((gr1.le.trans gr2.le).trans gr3.le).trans gr5.le).trans gr18.le).trans g106.le).trans g118.le))) (by omega)) (cx e96 (cx e97 cxn)) ?_)
 intro r21 h88 w89 gr24 hr21
 exact ⟨r21, h88, rfl, g118.trans gr24, fun j x _ => stab j _ _ _ _ x gr24, hr21⟩
 intro ρ73 h89 w90 g120 hdd61 hdo65
 have q9 : Kn h89 (ρ73 77) (a.rat * c.rat) := hdd61 2 (by decide)
 have q10 : Kn h89 (ρ73 80) (b.rat * c.rat) := hdd61 5 (by decide)
 have g121 := g107.trans g120
 refine gP (cF Tryd.call41 (Cmp_c (a := frK (a.rat * c.rat)) (b := frK (b.rat * c.rat)) g121.sat q9 q10 (by first | omega | (simp only [bf_frK, frK_rat, wts_cons, wts_nil]; omega))) rfl ?_)
 intro r22 h90 w91 gr25 hr22
 simp only [frK_rat, bf_frK, val_digs] at hr22
 exact ⟨r22, h90, rfl, g120.trans gr25, fun j x _ => stab j _ _ _ _ x gr25, hr22⟩
 intro ρ74 h91 w92 g122 hdd62 hdo66
 have e98 : ρ74 7 = .int .i64 (sgQ (a.rat - b.rat)) := hdo66 7 rfl
 refine gP (OpW.move (v := .int .i64 (sgQ (a.rat - b.rat))) e98 ?_)
 exact ⟨_, h91, rfl, g122, fun j x _ p => p, rfl⟩
 intro ρ75 h92 w93 g123 hdd63 hdo67
 have e99 : ρ75 5 = .pointer (some ⟨b9, 0, none⟩) := hdo67 5 rfl
 have g124 := g107.trans g123
 refine gP (lA (cs := [.bool c.neg, .slice b5 c.n.length c5, .slice b6 c.d.length c6]) Tryd.isAgg24 Tryd.sizeOf24 e99 (g124.sat _ _ ((((gr5.le.trans gr18.le).trans g106.le).trans g123.le) _ _ qb3)) rfl rfl ?_)
 exact ⟨_, h92, rfl, g123, fun j x _ p => p, rfl⟩
 intro ρ76 h93 w94 g125 hdd64 hdo68
 have e100 : ρ76 83 = .agg #[.bool c.neg, .slice b5 c.n.length c5, .slice b6 c.d.length c6] := hdd64 8 (by decide)
 have g126 := g107.trans g125
 refine gP (cF Tryd.call40 (Sign_c (a := c) g126.sat (F.mk (U.mono u5 ((((((gr1.le.trans gr2.le).trans gr3.le).trans gr5.le).trans gr18.le).trans g106.le).trans g125.le)) (U.mono u6 ((((((gr1.le.trans gr2.le).trans gr3.le).trans gr5.le).trans gr18.le).trans g106.le).trans g125.le))) (by omega)) (cx e100 cxn) ?_)
 intro r23 h94 w95 gr26 hr23
 exact ⟨r23, h94, rfl, g125.trans gr26, fun j x _ => stab j _ _ _ _ x gr26, hr23⟩
 intro ρ77 h95 w96 g127 hdd65 hdo69
 have e101 : ρ77 82 = .int .i64 (sgQ (a.rat - b.rat)) := hdd65 7 (by decide)
 have e102 : ρ77 84 = .int .i64 (sgQ c.rat) := hdd65 9 (by decide)
 refine gP (OpW.mul (a := (sgQ (a.rat - b.rat))) (b := (sgQ c.rat)) (r := ((sgQ (a.rat - b.rat)) * (sgQ c.rat))) e101 e102 (in_i64 (by omega)) ?_)
 exact ⟨_, h95, rfl, g127, fun j x _ p => p, rfl⟩
 intro ρ78 h96 w97 g128 hdd66 hdo70
 have e103 : ρ78 81 = .int .i64 (sgQ ((a.rat * c.rat) - (b.rat * c.rat))) := hdd66 6 (by decide)
 have e104 : ρ78 85 = .int .i64 ((sgQ (a.rat - b.rat)) * (sgQ c.rat)) := hdd66 10 (by decide)
 refine gP (OpW.neqI (a := (sgQ ((a.rat * c.rat) - (b.rat * c.rat)))) (b := ((sgQ (a.rat - b.rat)) * (sgQ c.rat))) (r := false) e103 e104 (decide_eq_false (fun h => h ((sgQ_eq (by grind)).trans (sgQ_mul _ _)))) ?_)
 exact ⟨_, h96, rfl, g128, fun j x _ p => p, rfl⟩
 intro ρ79 h97 w98 g129 hdp5 hdo71
 have e105 : ρ79 3 = .pointer (some ⟨b7, 0, none⟩) := hdo71 3 rfl
 have e106 : ρ79 4 = .pointer (some ⟨b8, 0, none⟩) := hdo71 4 rfl
 have e107 : ρ79 7 = .int .i64 (sgQ (a.rat - b.rat)) := hdo71 7 rfl
 have e108 : ρ79 86 = .bool false := hdp5 11 rfl
 refine Ops.forget [(3, .pointer (some ⟨b7, 0, none⟩)), (4, .pointer (some ⟨b8, 0, none⟩)), (7, .int .i64 (sgQ (a.rat - b.rat))), (86, .bool false)] ⟨e105, e106, e107, e108, trivial⟩ (fun ρ80 => (oN (Wp.cond_f rfl (Wp.skip (wS ?_)))))
 have g130 := g107.trans g129
 refine Wp.dagL 12 [87, 88, 89, 90, 91, 92, 93, 94, 95, 96, 97, 6] [eqv (.int .i64 (sgQ (a.rat - b.rat))), eqv (.bool (decide ((sgQ (a.rat - b.rat)) = ((0 : Nat) : Int)))), eqv (.agg #[.bool a.neg, .slice b1 a.n.length c1, .slice b2 a.d.length c2]), fun h _ x => Kn h x a.rat, eqv (.agg #[.bool b.neg, .slice b3 b.n.length c3, .slice b4 b.d.length c4]), fun h _ x => Kn h x b.rat, eqv (.bool (sameF (frK a.rat) (frK b.rat))), eqv (.bool true), eqv (.bool true), eqv (.bool true), eqv (.bool true), eqv (.bool true)] mixed g130.sat rfl (by decide +kernel) ⟨sQ _, sQ _, sQ _, (stab_K a.rat), sQ _, (stab_K b.rat), sQ _, sQ _, sQ _, sQ _, sQ _, sQ _, trivial⟩ ?_ ?_
 intro stab
 refine ⟨?_, ?_, ?_, ?_, ?_, ?_, ?_, ?_, ?_, ?_, ?_, ?_, trivial⟩
 intro ρ81 h98 w99 g131 hdd67 hdo72
 have e109 : ρ81 7 = .int .i64 (sgQ (a.rat - b.rat)) := hdo72 7 rfl
 refine gP (OpW.move (v := .int .i64 (sgQ (a.rat - b.rat))) e109 ?_)
 exact ⟨_, h98, rfl, g131, fun j x _ p => p, rfl⟩
 intro ρ82 h99 w100 g132 hdd68 hdo73
 have e110 : ρ82 87 = .int .i64 (sgQ (a.rat - b.rat)) := hdd68 0 (by decide)
 refine gP (OpW.eqlI (a := (sgQ (a.rat - b.rat))) (b := ((0 : Nat) : Int)) (r := decide ((sgQ (a.rat - b.rat)) = ((0 : Nat) : Int))) e110 rfl rfl ?_)
 exact ⟨_, h99, rfl, g132, fun j x _ p => p, rfl⟩
 intro ρ83 h100 w101 g133 hdd69 hdo74
 have e111 : ρ83 3 = .pointer (some ⟨b7, 0, none⟩) := hdo74 3 rfl
 have g134 := g130.trans g133
 refine gP (lA (cs := [.bool a.neg, .slice b1 a.n.length c1, .slice b2 a.d.length c2]) Tryd.isAgg24 Tryd.sizeOf24 e111 (g134.sat _ _ (((((((gr2.le.trans gr3.le).trans gr5.le).trans gr18.le).trans g106.le).trans g129.le).trans g133.le) _ _ qb1)) rfl rfl ?_)
 exact ⟨_, h100, rfl, g133, fun j x _ p => p, rfl⟩
 intro ρ84 h101 w102 g135 hdd70 hdo75
 have e112 : ρ84 89 = .agg #[.bool a.neg, .slice b1 a.n.length c1, .slice b2 a.d.length c2] := hdd70 2 (by decide)
 have g136 := g130.trans g135
 refine gP (cF Tryd.call50 (Canon_c (a := a) g136.sat (F.mk (U.mono u1 (((((((gr1.le.trans gr2.le).trans gr3.le).trans gr5.le).trans gr18.le).trans g106.le).trans g129.le).trans g135.le)) (U.mono u2 (((((((gr1.le.trans gr2.le).trans gr3.le).trans gr5.le).trans gr18.le).trans g106.le).trans g129.le).trans g135.le))) (by omega)) (cx e112 cxn) ?_)
 intro r24 h102 w103 gr27 hr24
 exact ⟨r24, h102, rfl, g135.trans gr27, fun j x _ => stab j _ _ _ _ x gr27, hr24⟩
 intro ρ85 h103 w104 g137 hdd71 hdo76
 have e113 : ρ85 4 = .pointer (some ⟨b8, 0, none⟩) := hdo76 4 rfl
 have g138 := g130.trans g137
 refine gP (lA (cs := [.bool b.neg, .slice b3 b.n.length c3, .slice b4 b.d.length c4]) Tryd.isAgg24 Tryd.sizeOf24 e113 (g138.sat _ _ ((((((gr3.le.trans gr5.le).trans gr18.le).trans g106.le).trans g129.le).trans g137.le) _ _ qb2)) rfl rfl ?_)
 exact ⟨_, h103, rfl, g137, fun j x _ p => p, rfl⟩
 intro ρ86 h104 w105 g139 hdd72 hdo77
 have e114 : ρ86 91 = .agg #[.bool b.neg, .slice b3 b.n.length c3, .slice b4 b.d.length c4] := hdd72 4 (by decide)
 have g140 := g130.trans g139
 refine gP (cF Tryd.call50 (Canon_c (a := b) g140.sat (F.mk (U.mono u3 (((((((gr1.le.trans gr2.le).trans gr3.le).trans gr5.le).trans gr18.le).trans g106.le).trans g129.le).trans g139.le)) (U.mono u4 (((((((gr1.le.trans gr2.le).trans gr3.le).trans gr5.le).trans gr18.le).trans g106.le).trans g129.le).trans g139.le))) (by omega)) (cx e114 cxn) ?_)
 intro r25 h105 w106 gr28 hr25
 exact ⟨r25, h105, rfl, g139.trans gr28, fun j x _ => stab j _ _ _ _ x gr28, hr25⟩
 intro ρ87 h106 w107 g141 hdd73 hdo78
 have q11 : Kn h106 (ρ87 90) a.rat := hdd73 3 (by decide)
 have q12 : Kn h106 (ρ87 92) b.rat := hdd73 5 (by decide)
 have g142 := g130.trans g141
 refine gP (cF Tryd.call22 (rSame_c (f := frK a.rat) (g := frK b.rat) g142.sat q11 q12 (by first | omega | (simp only [bf_frK, frK_rat, wts_cons, wts_nil]; omega)) (by first | omega | (simp only [bf_frK, frK_rat, wts_cons, wts_nil]; omega))) rfl ?_)
 intro r26 h107 w108 gr29 hr26
 exact ⟨r26, h107, rfl, g141.trans gr29, fun j x _ => stab j _ _ _ _ x gr29, hr26⟩
 intro ρ88 h108 w109 g143 hdd74 hdo79
 have e115 : ρ88 88 = .bool (decide ((sgQ (a.rat - b.rat)) = ((0 : Nat) : Int))) := hdd74 1 (by decide)
 have e116 : ρ88 93 = .bool (sameF (frK a.rat) (frK b.rat)) := hdd74 6 (by decide)
 refine gP (OpW.eqlB (a := decide ((sgQ (a.rat - b.rat)) = ((0 : Nat) : Int))) (b := sameF (frK a.rat) (frK b.rat)) (r := true) Tryd.underlying4 e115 e116 (same_cmp _ _) ?_)
 exact ⟨_, h108, rfl, g143, fun j x _ p => p, rfl⟩
 intro ρ89 h109 w110 g144 hdd75 hdo80
 have e117 : ρ89 94 = .bool true := hdd75 7 (by decide)
 refine gP (OpW.move (v := .bool true) e117 ?_)
 exact ⟨_, h109, rfl, g144, fun j x _ p => p, rfl⟩
 intro ρ90 h110 w111 g145 hdd76 hdo81
 have e118 : ρ90 95 = .bool true := hdd76 8 (by decide)
 refine gL (d := 95) (b := true) ?_ ?_ ?_ ?_
 · rfl
 · rfl
 · exact e118
 have g146 := g130.trans g145
 refine (cF Tryd.call20 (known_c  g146.sat (tb.mono (((((((gr1.le.trans gr2.le).trans gr3.le).trans gr5.le).trans gr18.le).trans g106.le).trans g129.le).trans g145.le)) ) rfl ?_)
 intro r27 h111 w112 gr30 hr27
 exact ⟨r27, h111, rfl, g145.trans gr30, fun j x _ => stab j _ _ _ _ x gr30, hr27⟩
 intro ρ91 h112 w113 g147 hdd77 hdo82
 have e119 : ρ91 95 = .bool true := hdd77 8 (by decide)
 have e120 : ρ91 96 = .bool true := hdd77 9 (by decide)
 refine gP (pT (v := .bool true) e119 e120 ?_)
 exact ⟨_, h112, rfl, g147, fun j x _ p => p, rfl⟩
 intro ρ92 h113 w114 g148 hdd78 hdo83
 have e121 : ρ92 97 = .bool true := hdd78 10 (by decide)
 refine gP (OpW.assign (v := .bool true) e121 ?_)
 exact ⟨_, h113, rfl, g148, fun j x _ p => p, rfl⟩
 intro ρ93 h114 w115 g149 hdp6 hdo84
 have e122 : ρ93 6 = .bool true := hdp6 11 rfl
 refine Ops.forget [(6, .bool true)] ⟨e122, trivial⟩ (fun ρ94 => (oN (Wp.ret (fin1_ret rfl (resOf_tmp (v := .bool true) rfl) ?_))))
 have g150 := g130.trans g149
 refine ⟨h114, g150, ?_⟩
 exact rfl
 replace c14 : (sgQ (b.rat - c.rat)) ≤ ((0 : Nat) : Int) := (of_decide_eq_true c14)
 have g151 := g79.trans gr18
 refine oL rfl rfl rfl (lA (cs := [.bool a.neg, .slice b1 a.n.length c1, .slice b2 a.d.length c2]) Tryd.isAgg24 Tryd.sizeOf24 rfl (g151.sat _ _ ((((gr2.le.trans gr3.le).trans gr5.le).trans gr18.le) _ _ qb1)) rfl rfl ?_)
 refine oL rfl rfl rfl (lA (cs := [.bool c.neg, .slice b5 c.n.length c5, .slice b6 c.d.length c6]) Tryd.isAgg24 Tryd.sizeOf24 rfl (g151.sat _ _ ((gr5.le.trans gr18.le) _ _ qb3)) rfl rfl ?_)
 refine oL rfl rfl rfl (cF Tryd.call41 (Cmp_c (a := a) (b := c) g151.sat (F.mk (U.mono u1 ((((gr1.le.trans gr2.le).trans gr3.le).trans gr5.le).trans gr18.le)) (U.mono u2 ((((gr1.le.trans gr2.le).trans gr3.le).trans gr5.le).trans gr18.le))) (F.mk (U.mono u5 ((((gr1.le.trans gr2.le).trans gr3.le).trans gr5.le).trans gr18.le)) (U.mono u6 ((((gr1.le.trans gr2.le).trans gr3.le).trans gr5.le).trans gr18.le))) (by omega)) rfl ?_)
 intro r28 h115 w116 gr31 hr28
 subst hr28
 refine oL rfl rfl rfl (OpW.gtr (a := (sgQ (a.rat - c.rat))) (b := ((0 : Nat) : Int)) (r := false) rfl rfl (decide_eq_false (ord_trans (by assumption) (by assumption))) ?_)
 refine oC (pT (v := .bool false) rfl rfl (oN (Wp.cond_f rfl (Wp.skip (wS (wS (fg [(3, .pointer (some ⟨b7, 0, none⟩)), (4, .pointer (some ⟨b8, 0, none⟩)), (5, .pointer (some ⟨b9, 0, none⟩)), (7, .int .i64 (sgQ (a.rat - b.rat)))] rfl (fun ρ95 => ?_))))))))
 have g152 := g151.trans gr31
 have hf9 := bq_add a.rat c.rat
 have hf10 := bq_add b.rat c.rat
 refine Wp.dagL 15 [60, 61, 62, 63, 64, 65, 66, 67, 68, 69, 70, 71, 72, 73, 74] [eqv (.agg #[.bool a.neg, .slice b1 a.n.length c1, .slice b2 a.d.length c2]), eqv (.agg #[.bool c.neg, .slice b5 c.n.length c5, .slice b6 c.d.length c6]), fun h _ x => Kn h x (a.rat + c.rat), eqv (.agg #[.bool b.neg, .slice b3 b.n.length c3, .slice b4 b.d.length c4]), eqv (.agg #[.bool c.neg, .slice b5 c.n.length c5, .slice b6 c.d.length c6]), fun h _ x => Kn h x (b.rat + c.rat), eqv (.int .i64 (sgQ ((a.rat + c.rat) - (b.rat + c.rat)))), eqv (.int .i64 (sgQ (a.rat - b.rat))), eqv (.bool false), eqv (.bool false), eqv (.agg #[.bool a.neg, .slice b1 a.n.length c1, .slice b2 a.d.length c2]), eqv (.agg #[.bool a.neg, .slice b1 a.n.length c1, .slice b2 a.d.length c2]), eqv (.int .i64 (sgQ (a.rat - a.rat))), eqv (.bool false), eqv (.bool false)] mixed g152.sat rfl (by decide +kernel) ⟨sQ _, sQ _, (stab_K (a.rat + c.rat)), sQ _, sQ _, (stab_K (b.rat + c.rat)), sQ _, sQ _, sQ _, sQ _, sQ _, sQ _, sQ _, sQ _, sQ _, trivial⟩ ?_ ?_
 intro stab
 refine ⟨?_, ?_, ?_, ?_, ?_, ?_, ?_, ?_, ?_, ?_, ?_, ?_, ?_, ?_, ?_, trivial⟩
 intro ρ96 h116 w117 g153 hdd79 hdo85
 have e123 : ρ96 3 = .pointer (some ⟨b7, 0, none⟩) := hdo85 3 rfl
 have g154 := g152.trans g153
 refine gP (lA (cs := [.bool a.neg, .slice b1 a.n.length c1, .slice b2 a.d.length c2]) Tryd.isAgg24 Tryd.sizeOf24 e123 (g154.sat _ _ ((((((gr2.le.trans gr3.le).trans gr5.le).trans gr18.le).trans gr31.le).trans g153.le) _ _ qb1)) rfl rfl ?_)
 exact ⟨_, h116, rfl, g153, fun j x _ p => p, rfl⟩
 intro ρ97 h117 w118 g155 hdd80 hdo86
 have e124 : ρ97 5 = .pointer (some ⟨b9, 0, none⟩) := hdo86 5 rfl
 have g156 := g152.trans g155
 refine gP (lA (cs := [.bool c.neg, .slice b5 c.n.length c5, .slice b6 c.d.length c6]) Tryd.isAgg24 Tryd.sizeOf24 e124 (g156.sat _ _ ((((gr5.le.trans gr18.le).trans gr31.le).trans g155.le) _ _ qb3)) rfl rfl ?_)
 exact ⟨_, h117, rfl, g155, fun j x _ p => p, rfl⟩
 intro ρ98 h118 w119 g157 hdd81 hdo87
 have e125 : ρ98 60 = .agg #[.bool a.neg, .slice b1 a.n.length c1, .slice b2 a.d.length c2] := hdd81 0 (by decide)
 have e126 : ρ98 61 = .agg #[.bool c.neg, .slice b5 c.n.length c5, .slice b6 c.d.length c6] := hdd81 1 (by decide)
 have g158 := g152.trans g157
 refine gP (cF Tryd.call42 (Add_c (a := a) (b := c) g158.sat (F.mk (U.mono u1 ((((((gr1.le.trans gr2.le).trans gr3.le).trans gr5.le).trans gr18.le).trans gr31.le).trans g157.le)) (U.mono u2 ((((((gr1.le.trans gr2.le).trans gr3.le).trans gr5.le).trans gr18.le).trans gr31.le).trans g157.le))) (F.mk (U.mono u5 ((((((gr1.le.trans gr2.le).trans gr3.le).trans gr5.le).trans gr18.le).trans gr31.le).trans g157.le)) (U.mono u6 ((((((gr1.le.trans gr2.le).trans gr3.le).trans gr5.le).trans gr18.le).trans gr31.le).trans g157.le))) (by omega)) (cx e125 (cx e126 cxn)) ?_)
 intro r29 h119 w120 gr32 hr29
 exact ⟨r29, h119, rfl, g157.trans gr32, fun j x _ => stab j _ _ _ _ x gr32, hr29⟩
 intro ρ99 h120 w121 g159 hdd82 hdo88
 have e127 : ρ99 4 = .pointer (some ⟨b8, 0, none⟩) := hdo88 4 rfl
 have g160 := g152.trans g159
 refine gP (lA (cs := [.bool b.neg, .slice b3 b.n.length c3, .slice b4 b.d.length c4]) Tryd.isAgg24 Tryd.sizeOf24 e127 (g160.sat _ _ (((((gr3.le.trans gr5.le).trans gr18.le).trans gr31.le).trans g159.le) _ _ qb2)) rfl rfl ?_)
 exact ⟨_, h120, rfl, g159, fun j x _ p => p, rfl⟩
 intro ρ100 h121 w122 g161 hdd83 hdo89
 have e128 : ρ100 5 = .pointer (some ⟨b9, 0, none⟩) := hdo89 5 rfl
 have g162 := g152.trans g161
 refine gP (lA (cs := [.bool c.neg, .slice b5 c.n.length c5, .slice b6 c.d.length c6]) Tryd.isAgg24 Tryd.sizeOf24 e128 (g162.sat _ _ ((((gr5.le.trans gr18.le).trans gr31.le).trans g161.le) _ _ qb3)) rfl rfl ?_)
 exact ⟨_, h121, rfl, g161, fun j x _ p => p, rfl⟩
 intro ρ101 h122 w123 g163 hdd84 hdo90
 have e129 : ρ101 63 = .agg #[.bool b.neg, .slice b3 b.n.length c3, .slice b4 b.d.length c4] := hdd84 3 (by decide)
 have e130 : ρ101 64 = .agg #[.bool c.neg, .slice b5 c.n.length c5, .slice b6 c.d.length c6] := hdd84 4 (by decide)
 have g164 := g152.trans g163
 refine gP (cF Tryd.call42 (Add_c (a := b) (b := c) g164.sat (F.mk (U.mono u3 ((((((gr1.le.trans gr2.le).trans gr3.le).trans gr5.le).trans gr18.le).trans gr31.le).trans g163.le)) (U.mono u4 ((((((gr1.le.trans gr2.le).trans gr3.le).trans gr5.le).trans gr18.le).trans gr31.le).trans g163.le))) (F.mk (U.mono u5 ((((((gr1.le.trans gr2.le).trans gr3.le).trans gr5.le).trans gr18.le).trans gr31.le).trans g163.le)) (U.mono u6 ((((((gr1.le.trans gr2.le).trans gr3.le).trans gr5.le).trans gr18.le).trans gr31.le).trans g163.le))) (by omega)) (cx e129 (cx e130 cxn)) ?_)
 intro r30 h123 w124 gr33 hr30
 exact ⟨r30, h123, rfl, g163.trans gr33, fun j x _ => stab j _ _ _ _ x gr33, hr30⟩
 intro ρ102 h124 w125 g165 hdd85 hdo91
 have q13 : Kn h124 (ρ102 62) (a.rat + c.rat) := hdd85 2 (by decide)
 have q14 : Kn h124 (ρ102 65) (b.rat + c.rat) := hdd85 5 (by decide)
 have g166 := g152.trans g165
 refine gP (cF Tryd.call41 (Cmp_c (a := frK (a.rat + c.rat)) (b := frK (b.rat + c.rat)) g166.sat q13 q14 (by first | omega | (simp only [bf_frK, frK_rat, wts_cons, wts_nil]; omega))) rfl ?_)
 intro r31 h125 w126 gr34 hr31
 simp only [frK_rat, bf_frK, val_digs] at hr31
 exact ⟨r31, h125, rfl, g165.trans gr34, fun j x _ => stab j _ _ _ _ x gr34, hr31⟩
 intro ρ103 h126 w127 g167 hdd86 hdo92
 have e131 : ρ103 7 = .int .i64 (sgQ (a.rat - b.rat)) := hdo92 7 rfl
 refine gP (OpW.move (v := .int .i64 (sgQ (a.rat - b.rat))) e131 ?_)
 exact ⟨_, h126, rfl, g167, fun j x _ p => p, rfl⟩
 intro ρ104 h127 w128 g168 hdd87 hdo93
 have e132 : ρ104 66 = .int .i64 (sgQ ((a.rat + c.rat) - (b.rat + c.rat))) := hdd87 6 (by decide)
 have e133 : ρ104 67 = .int .i64 (sgQ (a.rat - b.rat)) := hdd87 7 (by decide)
 refine gP (OpW.neqI (a := (sgQ ((a.rat + c.rat) - (b.rat + c.rat)))) (b := (sgQ (a.rat - b.rat))) (r := false) e132 e133 (decide_eq_false (fun h => h (sgQ_eq (by grind)))) ?_)
 exact ⟨_, h127, rfl, g168, fun j x _ p => p, rfl⟩
 intro ρ105 h128 w129 g169 hdd88 hdo94
 have e134 : ρ105 68 = .bool false := hdd88 8 (by decide)
 refine gP (OpW.move (v := .bool false) e134 ?_)
 exact ⟨_, h128, rfl, g169, fun j x _ p => p, rfl⟩
 intro ρ106 h129 w130 g170 hdd89 hdo95
 have e135 : ρ106 3 = .pointer (some ⟨b7, 0, none⟩) := hdo95 3 rfl
 have e136 : ρ106 69 = .bool false := hdd89 9 (by decide)
 refine gL (d := 69) (b := false) ?_ ?_ ?_ ?_
 · rfl
 · rfl
 · exact e136
 have g171 := g152.trans g170
 refine (lA (cs := [.bool a.neg, .slice b1 a.n.length c1, .slice b2 a.d.length c2]) Tryd.isAgg24 Tryd.sizeOf24 e135 (g171.sat _ _ ((((((gr2.le.trans gr3.le).trans gr5.le).trans gr18.le).trans gr31.le).trans g170.le) _ _ qb1)) rfl rfl ?_)
 exact ⟨_, h129, rfl, g170, fun j x _ p => p, rfl⟩
 intro ρ107 h130 w131 g172 hdd90 hdo96
 have e137 : ρ107 3 = .pointer (some ⟨b7, 0, none⟩) := hdo96 3 rfl
 have e138 : ρ107 69 = .bool false := hdd90 9 (by decide)
 refine gL (d := 69) (b := false) ?_ ?_ ?_ ?_
 · rfl
 · rfl
 · exact e138
 have g173 := g152.trans g172
 refine (lA (cs := [.bool a.neg, .slice b1 a.n.length c1, .slice b2 a.d.length c2]) Tryd.isAgg24 Tryd.sizeOf24 e137 (g173.sat _ _ ((((((gr2.le.trans gr3.le).trans gr5.le).trans gr18.le).trans gr31.le).trans g172.le) _ _ qb1)) rfl rfl ?_)
 exact ⟨_, h130, rfl, g172, fun j x _ p => p, rfl⟩
 intro ρ108 h131 w132 g174 hdd91 hdo97
 have e139 : ρ108 69 = .bool false := hdd91 9 (by decide)
 have e140 : ρ108 70 = .agg #[.bool a.neg, .slice b1 a.n.length c1, .slice b2 a.d.length c2] := hdd91 10 (by decide)
 have e141 : ρ108 71 = .agg #[.bool a.neg, .slice b1 a.n.length c1, .slice b2 a.d.length c2] := hdd91 11 (by decide)
 refine gL (d := 69) (b := false) ?_ ?_ ?_ ?_
 · rfl
 · rfl
 · exact e139
 have g175 := g152.trans g174
 refine (cF Tryd.call41 (Cmp_c (a := a) (b := a) g175.sat (F.mk (U.mono u1 ((((((gr1.le.trans gr2.le).trans gr3.le).trans gr5.le).trans gr18.le).trans gr31.le).trans g174.le)) (U.mono u2 ((((((gr1.le.trans gr2.le).trans gr3.le).trans gr5.le).trans gr18.le).trans gr31.le).trans g174.le))) (F.mk (U.mono u1 ((((((gr1.le.trans gr2.le).trans gr3.le).trans gr5.le).trans gr18.le).trans gr31.le).trans g174.le)) (U.mono u2 ((((((gr1.le.trans gr2.le).trans gr3.le).trans gr5.le).trans gr18.le).trans gr31.le).trans g174.le))) (by omega)) (cx e140 (cx e141 cxn)) ?_)
 intro r32 h132 w133 gr35 hr32
 exact ⟨r32, h132, rfl, g174.trans gr35, fun j x _ => stab j _ _ _ _ x gr35, hr32⟩
 intro ρ109 h133 w134 g176 hdd92 hdo98
 have e142 : ρ109 69 = .bool false := hdd92 9 (by decide)
 have e143 : ρ109 72 = .int .i64 (sgQ (a.rat - a.rat)) := hdd92 12 (by decide)
 refine gL (d := 69) (b := false) ?_ ?_ ?_ ?_
 · rfl
 · rfl
 · exact e142
 refine (OpW.neqI (a := (sgQ (a.rat - a.rat))) (b := ((0 : Nat) : Int)) (r := false) e143 rfl (decide_eq_false (fun h => h (sgQ_zero.2 (by grind)))) ?_)
 exact ⟨_, h133, rfl, g176, fun j x _ p => p, rfl⟩
 intro ρ110 h134 w135 g177 hdd93 hdo99
 have e144 : ρ110 69 = .bool false := hdd93 9 (by decide)
 have e145 : ρ110 73 = .bool false := hdd93 13 (by decide)
 refine gP (pF (v := .bool false) e144 e145 ?_)
 exact ⟨_, h134, rfl, g177, fun j x _ p => p, rfl⟩
 intro ρ111 h135 w136 g178 hdp7 hdo100
 have e146 : ρ111 3 = .pointer (some ⟨b7, 0, none⟩) := hdo100 3 rfl
 have e147 : ρ111 4 = .pointer (some ⟨b8, 0, none⟩) := hdo100 4 rfl
 have e148 : ρ111 5 = .pointer (some ⟨b9, 0, none⟩) := hdo100 5 rfl
 have e149 : ρ111 7 = .int .i64 (sgQ (a.rat - b.rat)) := hdo100 7 rfl
 have e150 : ρ111 74 = .bool false := hdp7 14 rfl
 refine Ops.forget [(3, .pointer (some ⟨b7, 0, none⟩)), (4, .pointer (some ⟨b8, 0, none⟩)), (5, .pointer (some ⟨b9, 0, none⟩)), (7, .int .i64 (sgQ (a.rat - b.rat))), (74, .bool false)] ⟨e146, e147, e148, e149, e150, trivial⟩ (fun ρ112 => (oN (Wp.cond_f rfl (Wp.skip (wS (wS ?_))))))
 have g179 := g152.trans g178
 have hf11 := bq_mul a.rat c.rat
 have hf12 := bq_mul b.rat c.rat
 refine Wp.dagL 12 [75, 76, 77, 78, 79, 80, 81, 82, 83, 84, 85, 86] [eqv (.agg #[.bool a.neg, .slice b1 a.n.length c1, .slice b2 a.d.length c2]), eqv (.agg #[.bool c.neg, .slice b5 c.n.length c5, .slice b6 c.d.length c6]), fun h _ x => Kn h x (a.rat * c.rat), eqv (.agg #[.bool b.neg, .slice b3 b.n.length c3, .slice b4 b.d.length c4]), eqv (.agg #[.bool c.neg, .slice b5 c.n.length c5, .slice b6 c.d.length c6]), fun h _ x => Kn h x (b.rat * c.rat), eqv (.int .i64 (sgQ ((a.rat * c.rat) - (b.rat * c.rat)))), eqv (.int .i64 (sgQ (a.rat - b.rat))), eqv (.agg #[.bool c.neg, .slice b5 c.n.length c5, .slice b6 c.d.length c6]), eqv (.int .i64 (sgQ c.rat)), eqv (.int .i64 ((sgQ (a.rat - b.rat)) * (sgQ c.rat))), eqv (.bool false)] mixed g179.sat rfl (by decide +kernel) ⟨sQ _, sQ _, (stab_K (a.rat * c.rat)), sQ _, sQ _, (stab_K (b.rat * c.rat)), sQ _, sQ _, sQ _, sQ _, sQ _, sQ _, trivial⟩ ?_ ?_
 intro stab
 refine ⟨?_, ?_, ?_, ?_, ?_, ?_, ?_, ?_, ?_, ?_, ?_, ?_, trivial⟩
 intro ρ113 h136 w137 g180 hdd94 hdo101
 have e151 : ρ113 3 = .pointer (some ⟨b7, 0, none⟩) := hdo101 3 rfl
 have g181 := g179.trans g180
 refine gP (lA (cs := [.bool a.neg, .slice b1 a.n.length c1, .slice b2 a.d.length c2]) Tryd.isAgg24 Tryd.sizeOf24 e151 (g181.sat _ _ (((((((gr2.le.trans gr3.le).trans gr5.le).trans gr18.le).trans gr31.le).trans g178.le).trans g180.le) _ _ qb1)) rfl rfl ?_)
 exact ⟨_, h136, rfl, g180, fun j x _ p => p, rfl⟩
 intro ρ114 h137 w138 g182 hdd95 hdo102
 have e152 : ρ114 5 = .pointer (some ⟨b9, 0, none⟩) := hdo102 5 rfl
 have g183 := g179.trans g182
 refine gP (lA (cs := [.bool c.neg, .slice b5 c.n.length c5, .slice b6 c.d.length c6]) Tryd.isAgg24 Tryd.sizeOf24 e152 (g183.sat _ _ (((((gr5.le.trans gr18.le).trans gr31.le).trans g178.le).trans g182.le) _ _ qb3)) rfl rfl ?_)
 exact ⟨_, h137, rfl, g182, fun j x _ p => p, rfl⟩
 intro ρ115 h138 w139 g184 hdd96 hdo103
 have e153 : ρ115 75 = .agg #[.bool a.neg, .slice b1 a.n.length c1, .slice b2 a.d.length c2] := hdd96 0 (by decide)
 have e154 : ρ115 76 = .agg #[.bool c.neg, .slice b5 c.n.length c5, .slice b6 c.d.length c6] := hdd96 1 (by decide)
 have g185 := g179.trans g184
 refine gP (cF Tryd.call48 (Mul_c (a := a) (b := c) g185.sat (F.mk (U.mono u1 (((((((gr1.le.trans gr2.le).trans gr3.le).trans gr5.le).trans gr18.le).trans gr31.le).trans g178.le).trans g184.le)) (U.mono u2 (((((((gr1.le.trans gr2.le).trans gr3.le).trans gr5.le).trans gr18.le).trans gr31.le).trans g178.le).trans g184.le))) (F.mk (U.mono u5 (((((((gr1.le.trans gr2.le).trans gr3.le).trans gr5.le).trans gr18.le).trans gr31.le).trans g178.le).trans g184.le)) (U.mono u6 (((((((gr1.le.trans gr2.le).trans gr3.le).trans gr5.le).trans gr18.le).trans gr31.le).trans g178.le).trans g184.le))) (by omega)) (cx e153 (cx e154 cxn)) ?_)
 intro r33 h139 w140 gr36 hr33
 exact ⟨r33, h139, rfl, g184.trans gr36, fun j x _ => stab j _ _ _ _ x gr36, hr33⟩
 intro ρ116 h140 w141 g186 hdd97 hdo104
 have e155 : ρ116 4 = .pointer (some ⟨b8, 0, none⟩) := hdo104 4 rfl
 have g187 := g179.trans g186
 refine gP (lA (cs := [.bool b.neg, .slice b3 b.n.length c3, .slice b4 b.d.length c4]) Tryd.isAgg24 Tryd.sizeOf24 e155 (g187.sat _ _ ((((((gr3.le.trans gr5.le).trans gr18.le).trans gr31.le).trans g178.le).trans g186.le) _ _ qb2)) rfl rfl ?_)
 exact ⟨_, h140, rfl, g186, fun j x _ p => p, rfl⟩
 intro ρ117 h141 w142 g188 hdd98 hdo105
 have e156 : ρ117 5 = .pointer (some ⟨b9, 0, none⟩) := hdo105 5 rfl
 have g189 := g179.trans g188
 refine gP (lA (cs := [.bool c.neg, .slice b5 c.n.length c5, .slice b6 c.d.length c6]) Tryd.isAgg24 Tryd.sizeOf24 e156 (g189.sat _ _ (((((gr5.le.trans gr18.le).trans gr31.le).trans g178.le).trans g188.le) _ _ qb3)) rfl rfl ?_)
 exact ⟨_, h141, rfl, g188, fun j x _ p => p, rfl⟩
 intro ρ118 h142 w143 g190 hdd99 hdo106
 have e157 : ρ118 78 = .agg #[.bool b.neg, .slice b3 b.n.length c3, .slice b4 b.d.length c4] := hdd99 3 (by decide)
 have e158 : ρ118 79 = .agg #[.bool c.neg, .slice b5 c.n.length c5, .slice b6 c.d.length c6] := hdd99 4 (by decide)
 have g191 := g179.trans g190
 refine gP (cF Tryd.call48 (Mul_c (a := b) (b := c) g191.sat (F.mk (U.mono u3 (((((((gr1.le.trans gr2.le).trans gr3.le).trans gr5.le).trans gr18.le).trans gr31.le).trans g178.le).trans g190.le)) (U.mono u4 (((((((gr1.le.trans gr2.le).trans gr3.le).trans gr5.le).trans gr18.le).trans gr31.le).trans g178.le).trans g190.le))) (F.mk (U.mono u5 (((((((gr1.le.trans gr2.le).trans gr3.le).trans gr5.le).trans gr18.le).trans gr31.le).trans g178.le).trans g190.le)) (U.mono u6 (((((((gr1.le.trans gr2.le).trans gr3.le).trans gr5.le).trans gr18.le).trans gr31.le).trans g178.le).trans g190.le))) (by omega)) (cx e157 (cx e158 cxn)) ?_)
 intro r34 h143 w144 gr37 hr34
 exact ⟨r34, h143, rfl, g190.trans gr37, fun j x _ => stab j _ _ _ _ x gr37, hr34⟩
 intro ρ119 h144 w145 g192 hdd100 hdo107
 have q15 : Kn h144 (ρ119 77) (a.rat * c.rat) := hdd100 2 (by decide)
 have q16 : Kn h144 (ρ119 80) (b.rat * c.rat) := hdd100 5 (by decide)
 have g193 := g179.trans g192
 refine gP (cF Tryd.call41 (Cmp_c (a := frK (a.rat * c.rat)) (b := frK (b.rat * c.rat)) g193.sat q15 q16 (by first | omega | (simp only [bf_frK, frK_rat, wts_cons, wts_nil]; omega))) rfl ?_)
 intro r35 h145 w146 gr38 hr35
 simp only [frK_rat, bf_frK, val_digs] at hr35
 exact ⟨r35, h145, rfl, g192.trans gr38, fun j x _ => stab j _ _ _ _ x gr38, hr35⟩
 intro ρ120 h146 w147 g194 hdd101 hdo108
 have e159 : ρ120 7 = .int .i64 (sgQ (a.rat - b.rat)) := hdo108 7 rfl
 refine gP (OpW.move (v := .int .i64 (sgQ (a.rat - b.rat))) e159 ?_)
 exact ⟨_, h146, rfl, g194, fun j x _ p => p, rfl⟩
 intro ρ121 h147 w148 g195 hdd102 hdo109
 have e160 : ρ121 5 = .pointer (some ⟨b9, 0, none⟩) := hdo109 5 rfl
 have g196 := g179.trans g195
 refine gP (lA (cs := [.bool c.neg, .slice b5 c.n.length c5, .slice b6 c.d.length c6]) Tryd.isAgg24 Tryd.sizeOf24 e160 (g196.sat _ _ (((((gr5.le.trans gr18.le).trans gr31.le).trans g178.le).trans g195.le) _ _ qb3)) rfl rfl ?_)
 exact ⟨_, h147, rfl, g195, fun j x _ p => p, rfl⟩
 intro ρ122 h148 w149 g197 hdd103 hdo110
 have e161 : ρ122 83 = .agg #[.bool c.neg, .slice b5 c.n.length c5, .slice b6 c.d.length c6] := hdd103 8 (by decide)
 have g198 := g179.trans g197
 refine gP (cF Tryd.call40 (Sign_c (a := c) g198.sat (F.mk (U.mono u5 (((((((gr1.le.trans gr2.le).trans gr3.le).trans gr5.le).trans gr18.le).trans gr31.le).trans g178.le).trans g197.le)) (U.mono u6 (((((((gr1.le.trans gr2.le).trans gr3.le).trans gr5.le).trans gr18.le).trans gr31.le).trans g178.le).trans g197.le))) (by omega)) (cx e161 cxn) ?_)
 intro r36 h149 w150 gr39 hr36
 exact ⟨r36, h149, rfl, g197.trans gr39, fun j x _ => stab j _ _ _ _ x gr39, hr36⟩
 intro ρ123 h150 w151 g199 hdd104 hdo111
 have e162 : ρ123 82 = .int .i64 (sgQ (a.rat - b.rat)) := hdd104 7 (by decide)
 have e163 : ρ123 84 = .int .i64 (sgQ c.rat) := hdd104 9 (by decide)
 refine gP (OpW.mul (a := (sgQ (a.rat - b.rat))) (b := (sgQ c.rat)) (r := ((sgQ (a.rat - b.rat)) * (sgQ c.rat))) e162 e163 (in_i64 (by omega)) ?_)
 exact ⟨_, h150, rfl, g199, fun j x _ p => p, rfl⟩
 intro ρ124 h151 w152 g200 hdd105 hdo112
 have e164 : ρ124 81 = .int .i64 (sgQ ((a.rat * c.rat) - (b.rat * c.rat))) := hdd105 6 (by decide)
 have e165 : ρ124 85 = .int .i64 ((sgQ (a.rat - b.rat)) * (sgQ c.rat)) := hdd105 10 (by decide)
 refine gP (OpW.neqI (a := (sgQ ((a.rat * c.rat) - (b.rat * c.rat)))) (b := ((sgQ (a.rat - b.rat)) * (sgQ c.rat))) (r := false) e164 e165 (decide_eq_false (fun h => h ((sgQ_eq (by grind)).trans (sgQ_mul _ _)))) ?_)
 exact ⟨_, h151, rfl, g200, fun j x _ p => p, rfl⟩
 intro ρ125 h152 w153 g201 hdp8 hdo113
 have e166 : ρ125 3 = .pointer (some ⟨b7, 0, none⟩) := hdo113 3 rfl
 have e167 : ρ125 4 = .pointer (some ⟨b8, 0, none⟩) := hdo113 4 rfl
 have e168 : ρ125 7 = .int .i64 (sgQ (a.rat - b.rat)) := hdo113 7 rfl
 have e169 : ρ125 86 = .bool false := hdp8 11 rfl
 refine Ops.forget [(3, .pointer (some ⟨b7, 0, none⟩)), (4, .pointer (some ⟨b8, 0, none⟩)), (7, .int .i64 (sgQ (a.rat - b.rat))), (86, .bool false)] ⟨e166, e167, e168, e169, trivial⟩ (fun ρ126 => (oN (Wp.cond_f rfl (Wp.skip (wS ?_)))))
 have g202 := g179.trans g201
 refine Wp.dagL 12 [87, 88, 89, 90, 91, 92, 93, 94, 95, 96, 97, 6] [eqv (.int .i64 (sgQ (a.rat - b.rat))), eqv (.bool (decide ((sgQ (a.rat - b.rat)) = ((0 : Nat) : Int)))), eqv (.agg #[.bool a.neg, .slice b1 a.n.length c1, .slice b2 a.d.length c2]), fun h _ x => Kn h x a.rat, eqv (.agg #[.bool b.neg, .slice b3 b.n.length c3, .slice b4 b.d.length c4]), fun h _ x => Kn h x b.rat, eqv (.bool (sameF (frK a.rat) (frK b.rat))), eqv (.bool true), eqv (.bool true), eqv (.bool true), eqv (.bool true), eqv (.bool true)] mixed g202.sat rfl (by decide +kernel) ⟨sQ _, sQ _, sQ _, (stab_K a.rat), sQ _, (stab_K b.rat), sQ _, sQ _, sQ _, sQ _, sQ _, sQ _, trivial⟩ ?_ ?_
 intro stab
 refine ⟨?_, ?_, ?_, ?_, ?_, ?_, ?_, ?_, ?_, ?_, ?_, ?_, trivial⟩
 intro ρ127 h153 w154 g203 hdd106 hdo114
 have e170 : ρ127 7 = .int .i64 (sgQ (a.rat - b.rat)) := hdo114 7 rfl
 refine gP (OpW.move (v := .int .i64 (sgQ (a.rat - b.rat))) e170 ?_)
 exact ⟨_, h153, rfl, g203, fun j x _ p => p, rfl⟩
 intro ρ128 h154 w155 g204 hdd107 hdo115
 have e171 : ρ128 87 = .int .i64 (sgQ (a.rat - b.rat)) := hdd107 0 (by decide)
 refine gP (OpW.eqlI (a := (sgQ (a.rat - b.rat))) (b := ((0 : Nat) : Int)) (r := decide ((sgQ (a.rat - b.rat)) = ((0 : Nat) : Int))) e171 rfl rfl ?_)
 exact ⟨_, h154, rfl, g204, fun j x _ p => p, rfl⟩
 intro ρ129 h155 w156 g205 hdd108 hdo116
 have e172 : ρ129 3 = .pointer (some ⟨b7, 0, none⟩) := hdo116 3 rfl
 have g206 := g202.trans g205
 refine gP (lA (cs := [.bool a.neg, .slice b1 a.n.length c1, .slice b2 a.d.length c2]) Tryd.isAgg24 Tryd.sizeOf24 e172 (g206.sat _ _ ((((((((gr2.le.trans gr3.le).trans gr5.le).trans gr18.le).trans gr31.le).trans g178.le).trans g201.le).trans g205.le) _ _ qb1)) rfl rfl ?_)
 exact ⟨_, h155, rfl, g205, fun j x _ p => p, rfl⟩
 intro ρ130 h156 w157 g207 hdd109 hdo117
 have e173 : ρ130 89 = .agg #[.bool a.neg, .slice b1 a.n.length c1, .slice b2 a.d.length c2] := hdd109 2 (by decide)
 have g208 := g202.trans g207
 refine gP (cF Tryd.call50 (Canon_c (a := a) g208.sat (F.mk (U.mono u1 ((((((((gr1.le.trans gr2.le).trans gr3.le).trans gr5.le).trans gr18.le).trans gr31.le).trans g178.le).trans g201.le).trans g207.le)) (U.mono u2 ((((((((gr1.le.trans gr2.le).trans gr3.le).trans gr5.le).trans gr18.le).trans gr31.le).trans g178.le).trans g201.le).trans g207.le))) (by omega)) (cx e173 cxn) ?_)
 intro r37 h157 w158 gr40 hr37
 exact ⟨r37, h157, rfl, g207.trans gr40, fun j x _ => stab j _ _ _ _ x gr40, hr37⟩
 intro ρ131 h158 w159 g209 hdd110 hdo118
 have e174 : ρ131 4 = .pointer (some ⟨b8, 0, none⟩) := hdo118 4 rfl
 have g210 := g202.trans g209
 refine gP (lA (cs := [.bool b.neg, .slice b3 b.n.length c3, .slice b4 b.d.length c4]) Tryd.isAgg24 Tryd.sizeOf24 e174 (g210.sat _ _ (((((((gr3.le.trans gr5.le).trans gr18.le).trans gr31.le).trans g178.le).trans g201.le).trans g209.le) _ _ qb2)) rfl rfl ?_)
 exact ⟨_, h158, rfl, g209, fun j x _ p => p, rfl⟩
 intro ρ132 h159 w160 g211 hdd111 hdo119
 have e175 : ρ132 91 = .agg #[.bool b.neg, .slice b3 b.n.length c3, .slice b4 b.d.length c4] := hdd111 4 (by decide)
 have g212 := g202.trans g211
 refine gP (cF Tryd.call50 (Canon_c (a := b) g212.sat (F.mk (U.mono u3 ((((((((gr1.le.trans gr2.le).trans gr3.le).trans gr5.le).trans gr18.le).trans gr31.le).trans g178.le).trans g201.le).trans g211.le)) (U.mono u4 ((((((((gr1.le.trans gr2.le).trans gr3.le).trans gr5.le).trans gr18.le).trans gr31.le).trans g178.le).trans g201.le).trans g211.le))) (by omega)) (cx e175 cxn) ?_)
 intro r38 h160 w161 gr41 hr38
 exact ⟨r38, h160, rfl, g211.trans gr41, fun j x _ => stab j _ _ _ _ x gr41, hr38⟩
 intro ρ133 h161 w162 g213 hdd112 hdo120
 have q17 : Kn h161 (ρ133 90) a.rat := hdd112 3 (by decide)
 have q18 : Kn h161 (ρ133 92) b.rat := hdd112 5 (by decide)
 have g214 := g202.trans g213
 refine gP (cF Tryd.call22 (rSame_c (f := frK a.rat) (g := frK b.rat) g214.sat q17 q18 (by first | omega | (simp only [bf_frK, frK_rat, wts_cons, wts_nil]; omega)) (by first | omega | (simp only [bf_frK, frK_rat, wts_cons, wts_nil]; omega))) rfl ?_)
 intro r39 h162 w163 gr42 hr39
 exact ⟨r39, h162, rfl, g213.trans gr42, fun j x _ => stab j _ _ _ _ x gr42, hr39⟩
 intro ρ134 h163 w164 g215 hdd113 hdo121
 have e176 : ρ134 88 = .bool (decide ((sgQ (a.rat - b.rat)) = ((0 : Nat) : Int))) := hdd113 1 (by decide)
 have e177 : ρ134 93 = .bool (sameF (frK a.rat) (frK b.rat)) := hdd113 6 (by decide)
 refine gP (OpW.eqlB (a := decide ((sgQ (a.rat - b.rat)) = ((0 : Nat) : Int))) (b := sameF (frK a.rat) (frK b.rat)) (r := true) Tryd.underlying4 e176 e177 (same_cmp _ _) ?_)
 exact ⟨_, h163, rfl, g215, fun j x _ p => p, rfl⟩
 intro ρ135 h164 w165 g216 hdd114 hdo122
 have e178 : ρ135 94 = .bool true := hdd114 7 (by decide)
 refine gP (OpW.move (v := .bool true) e178 ?_)
 exact ⟨_, h164, rfl, g216, fun j x _ p => p, rfl⟩
 intro ρ136 h165 w166 g217 hdd115 hdo123
 have e179 : ρ136 95 = .bool true := hdd115 8 (by decide)
 refine gL (d := 95) (b := true) ?_ ?_ ?_ ?_
 · rfl
 · rfl
 · exact e179
 have g218 := g202.trans g217
 refine (cF Tryd.call20 (known_c  g218.sat (tb.mono ((((((((gr1.le.trans gr2.le).trans gr3.le).trans gr5.le).trans gr18.le).trans gr31.le).trans g178.le).trans g201.le).trans g217.le)) ) rfl ?_)
 intro r40 h166 w167 gr43 hr40
 exact ⟨r40, h166, rfl, g217.trans gr43, fun j x _ => stab j _ _ _ _ x gr43, hr40⟩
 intro ρ137 h167 w168 g219 hdd116 hdo124
 have e180 : ρ137 95 = .bool true := hdd116 8 (by decide)
 have e181 : ρ137 96 = .bool true := hdd116 9 (by decide)
 refine gP (pT (v := .bool true) e180 e181 ?_)
 exact ⟨_, h167, rfl, g219, fun j x _ p => p, rfl⟩
 intro ρ138 h168 w169 g220 hdd117 hdo125
 have e182 : ρ138 97 = .bool true := hdd117 10 (by decide)
 refine gP (OpW.assign (v := .bool true) e182 ?_)
 exact ⟨_, h168, rfl, g220, fun j x _ p => p, rfl⟩
 intro ρ139 h169 w170 g221 hdp9 hdo126
 have e183 : ρ139 6 = .bool true := hdp9 11 rfl
 refine Ops.forget [(6, .bool true)] ⟨e183, trivial⟩ (fun ρ140 => (oN (Wp.ret (fin1_ret rfl (resOf_tmp (v := .bool true) rfl) ?_))))
 have g222 := g202.trans g221
 refine ⟨h169, g222, ?_⟩
 exact rfl
end Go.Ear
