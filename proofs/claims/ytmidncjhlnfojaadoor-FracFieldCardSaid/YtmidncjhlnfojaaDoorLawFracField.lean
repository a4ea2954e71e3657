/- About package frac: LawFracField. -/
import Derived.Test.YtmidncjhlnfojaaDoorNatLaw2
import Derived.Test.YtmidncjhlnfojaaDoorEarShort
import Derived.Test.YtmidncjhlnfojaaDoorProg
import Derived.Test.YtmidncjhlnfojaaDoorNatLaw3
import Derived.Test.YtmidncjhlnfojaaDoorEarFrac
import Derived.Test.YtmidncjhlnfojaaDoorEarDec
import Derived.Test.YtmidncjhlnfojaaDoorItoaLay
import Derived.Lib.ItoaMem
import Derived.Test.YtmidncjhlnfojaaDoorEarApi
import Derived.Test.YtmidncjhlnfojaaDoorEarRef2
import Derived.Test.YtmidncjhlnfojaaDoorEarLaw
import Derived.Test.YtmidncjhlnfojaaDoorEarLaw2
import Derived.Test.YtmidncjhlnfojaaDoorEarStore
import Derived.Test.YtmidncjhlnfojaaDoorK1
import Derived.Test.YtmidncjhlnfojaaDoorK14
import Derived.Test.YtmidncjhlnfojaaDoorK6
import Derived.Test.YtmidncjhlnfojaaDoorXCanon
import Derived.Test.YtmidncjhlnfojaaDoorXMul
import Derived.Test.YtmidncjhlnfojaaDoorXSign
import Derived.Test.YtmidncjhlnfojaaDoorXSub
import Derived.Test.YtmidncjhlnfojaaDoorXrSame
set_option linter.all false
namespace Go.Ear
open Go.Proofs
set_option maxRecDepth 20000
set_option linter.unusedVariables false
set_option maxHeartbeats 2000000
theorem fracField_c {h : PH} {w : World} {v0 : Value} {a : Fr} {v1 : Value} {b : Fr} {v2 : Value} {c : Fr} (hs : Sat h w) (tb : Tab h) (pv0 : F h v0 a) (pv1 : F h v1 b) (pv2 : F h v2 c) :
    Calls Tryd.prog 13 #[v0, v1, v2] w (Ret h w fun h' r => r = .bool true) := by
 obtain ⟨b1, c1, b2, c2, rfl, k1, k2, u1, u2⟩ := F.shape pv0
 have hbq1 := F.bq pv0
 obtain ⟨b3, c3, b4, c4, rfl, k3, k4, u3, u4⟩ := F.shape pv1
 have hbq2 := F.bq pv1
 obtain ⟨b5, c5, b6, c6, rfl, k5, k6, u5, u6⟩ := F.shape pv2
 have hbq3 := F.bq pv2
 have hz := sgQ_zero (q := b.rat)
 have hb1 : bq (((1 : Nat) : Int) : Rat) ≤ 2 := bq_intc (by decide) (by decide)
 refine calls_ear (vs := [.agg #[.bool a.neg, .slice b1 a.n.length c1, .slice b2 a.d.length c2], .agg #[.bool b.neg, .slice b3 b.n.length c3, .slice b4 b.d.length c4], .agg #[.bool c.neg, .slice b5 c.n.length c5, .slice b6 c.d.length c6]]) Tryd.func13 rfl rfl ?_
 have g1 := Gr.refl hs
 refine sr (oC (OpW.boxK (v := .agg #[.bool a.neg, .slice b1 a.n.length c1, .slice b2 a.d.length c2]) (arr := #[.bool a.neg, .slice b1 a.n.length c1, .slice b2 a.d.length c2]) g1.sat rfl rfl ?_))
 intro b7 h1 w1 gr1 qb1
 have g2 := g1.trans gr1
 refine oC (OpW.boxK (v := .agg #[.bool b.neg, .slice b3 b.n.length c3, .slice b4 b.d.length c4]) (arr := #[.bool b.neg, .slice b3 b.n.length c3, .slice b4 b.d.length c4]) g2.sat rfl rfl ?_)
 intro b8 h2 w2 gr2 qb2
 have g3 := g2.trans gr2
 refine oC (OpW.boxK (v := .agg #[.bool c.neg, .slice b5 c.n.length c5, .slice b6 c.d.length c6]) (arr := #[.bool c.neg, .slice b5 c.n.length c5, .slice b6 c.d.length c6]) g3.sat rfl rfl ?_)
 intro b9 h3 w3 gr3 qb3
 refine ma (oN (wS (sr (Ops.cut (fun ρ' w' => w3 = w' ∧ ∃ ρb, ρ' = upds ρb [(3, .pointer (some ⟨b7, 0, none⟩)), (4, .pointer (some ⟨b8, 0, none⟩)), (5, .pointer (some ⟨b9, 0, none⟩)), (50, .bool ((decide (6 < a.n.length)) || ((decide (6 < a.d.length)) || ((decide (6 < b.n.length)) || ((decide (6 < b.d.length)) || ((decide (6 < c.n.length)) || (decide (6 < c.d.length))))))))]) ?_ ?_))))
 refine oC (fA (o := 1) Tryd.underlying24 rfl Tryd.sizeOf22 (by decide) rfl rfl ?_)
 have g4 := g3.trans gr3
 refine oC (lO (v := .slice b1 a.n.length c1) Tryd.isAgg22 rfl (g4.sat _ _ ((gr2.le.trans gr3.le) _ _ qb1)) rfl ?_)
 refine oC (OpW.lenS Tryd.underlying22 (l := a.n.length) rfl ?_)
 refine oC (OpW.gtr (a := ((a.n.length : Nat) : Int)) (b := ((6 : Nat) : Int)) (r := decide (6 < a.n.length)) rfl rfl (lt_nat (a := 6) (b := a.n.length)) (mv ?_))
 cases c7 : (decide (6 < a.n.length))
 replace c7 : ¬ (6 < a.n.length) := (of_decide_eq_false c7)
 refine oL rfl rfl rfl (fA (o := 2) Tryd.underlying24 rfl Tryd.sizeOf22 (by decide) rfl rfl ?_)
 refine oL rfl rfl rfl (lO (v := .slice b2 a.d.length c2) Tryd.isAgg22 rfl (g4.sat _ _ ((gr2.le.trans gr3.le) _ _ qb1)) rfl ?_)
 refine oL rfl rfl rfl (OpW.lenS Tryd.underlying22 (l := a.d.length) rfl ?_)
 refine oL rfl rfl rfl (OpW.gtr (a := ((a.d.length : Nat) : Int)) (b := ((6 : Nat) : Int)) (r := decide (6 < a.d.length)) rfl rfl (lt_nat (a := 6) (b := a.d.length)) ?_)
 refine oC (pF (v := .bool (decide (6 < a.d.length))) rfl rfl (mv ?_))
 cases c8 : (decide (6 < a.d.length))
 replace c8 : ¬ (6 < a.d.length) := (of_decide_eq_false c8)
 refine oL rfl rfl rfl (fA (o := 1) Tryd.underlying24 rfl Tryd.sizeOf22 (by decide) rfl rfl ?_)
 refine oL rfl rfl rfl (lO (v := .slice b3 b.n.length c3) Tryd.isAgg22 rfl (g4.sat _ _ (gr3.le _ _ qb2)) rfl ?_)
 refine oL rfl rfl rfl (OpW.lenS Tryd.underlying22 (l := b.n.length) rfl ?_)
 refine oL rfl rfl rfl (OpW.gtr (a := ((b.n.length : Nat) : Int)) (b := ((6 : Nat) : Int)) (r := decide (6 < b.n.length)) rfl rfl (lt_nat (a := 6) (b := b.n.length)) ?_)
 refine oC (pF (v := .bool (decide (6 < b.n.length))) rfl rfl (mv ?_))
 cases c9 : (decide (6 < b.n.length))
 replace c9 : ¬ (6 < b.n.length) := (of_decide_eq_false c9)
 refine oL rfl rfl rfl (fA (o := 2) Tryd.underlying24 rfl Tryd.sizeOf22 (by decide) rfl rfl ?_)
 refine oL rfl rfl rfl (lO (v := .slice b4 b.d.length c4) Tryd.isAgg22 rfl (g4.sat _ _ (gr3.le _ _ qb2)) rfl ?_)
 refine oL rfl rfl rfl (OpW.lenS Tryd.underlying22 (l := b.d.length) rfl ?_)
 refine oL rfl rfl rfl (OpW.gtr (a := ((b.d.length : Nat) : Int)) (b := ((6 : Nat) : Int)) (r := decide (6 < b.d.length)) rfl rfl (lt_nat (a := 6) (b := b.d.length)) ?_)
 refine oC (pF (v := .bool (decide (6 < b.d.length))) rfl rfl (mv ?_))
 cases c10 : (decide (6 < b.d.length))
 replace c10 : ¬ (6 < b.d.length) := (of_decide_eq_false c10)
 refine oL rfl rfl rfl (fA (o := 1) Tryd.underlying24 rfl Tryd.sizeOf22 (by decide) rfl rfl ?_)
 refine oL rfl rfl rfl (lO (v := .slice b5 c.n.length c5) Tryd.isAgg22 rfl (g4.sat _ _ qb3) rfl ?_)
 refine oL rfl rfl rfl (OpW.lenS Tryd.underlying22 (l := c.n.length) rfl ?_)
 refine oL rfl rfl rfl (OpW.gtr (a := ((c.n.length : Nat) : Int)) (b := ((6 : Nat) : Int)) (r := decide (6 < c.n.length)) rfl rfl (lt_nat (a := 6) (b := c.n.length)) ?_)
 refine oC (pF (v := .bool (decide (6 < c.n.length))) rfl rfl (mv ?_))
 cases c11 : (decide (6 < c.n.length))
 replace c11 : ¬ (6 < c.n.length) := (of_decide_eq_false c11)
 refine oL rfl rfl rfl (fA (o := 2) Tryd.underlying24 rfl Tryd.sizeOf22 (by decide) rfl rfl ?_)
 refine oL rfl rfl rfl (lO (v := .slice b6 c.d.length c6) Tryd.isAgg22 rfl (g4.sat _ _ qb3) rfl ?_)
 refine oL rfl rfl rfl (OpW.lenS Tryd.underlying22 (l := c.d.length) rfl ?_)
 refine oL rfl rfl rfl (OpW.gtr (a := ((c.d.length : Nat) : Int)) (b := ((6 : Nat) : Int)) (r := decide (6 < c.d.length)) rfl rfl (lt_nat (a := 6) (b := c.d.length)) ?_)
 refine oC (pF (v := .bool (decide (6 < c.d.length))) rfl rfl (oN ?_))
 exact ⟨rfl, _, nm rfl⟩
 replace c11 : 6 < c.n.length := (of_decide_eq_true c11)
 refine oD rfl rfl rfl rfl (oD rfl rfl rfl rfl (oD rfl rfl rfl rfl (oD rfl rfl rfl rfl (oC (pT (v := .bool true) rfl rfl (oN ?_))))))
 exact ⟨rfl, _, nm rfl⟩
 replace c10 : 6 < b.d.length := (of_decide_eq_true c10)
 refine oD rfl rfl rfl rfl (oD rfl rfl rfl rfl (oD rfl rfl rfl rfl (oD rfl rfl rfl rfl (oC (pT (v := .bool true) rfl rfl (mv (oD rfl rfl rfl rfl (oD rfl rfl rfl rfl (oD rfl rfl rfl rfl (oD rfl rfl rfl rfl (oC (pT (v := .bool true) rfl rfl (oN ?_)))))))))))))
 exact ⟨rfl, _, nm rfl⟩
 replace c9 : 6 < b.n.length := (of_decide_eq_true c9)
 refine oD rfl rfl rfl rfl (oD rfl rfl rfl rfl (oD rfl rfl rfl rfl (oD rfl rfl rfl rfl (oC (pT (v := .bool true) rfl rfl (mv (oD rfl rfl rfl rfl (oD rfl rfl rfl rfl (oD rfl rfl rfl rfl (oD rfl rfl rfl rfl (oC (pT (v := .bool true) rfl rfl (mv (oD rfl rfl rfl rfl (oD rfl rfl rfl rfl (oD rfl rfl rfl rfl (oD rfl rfl rfl rfl (oC (pT (v := .bool true) rfl rfl (oN ?_))))))))))))))))))))
 exact ⟨rfl, _, nm rfl⟩
 replace c8 : 6 < a.d.length := (of_decide_eq_true c8)
 refine oD rfl rfl rfl rfl (oD rfl rfl rfl rfl (oD rfl rfl rfl rfl (oD rfl rfl rfl rfl (oC (pT (v := .bool true) rfl rfl (mv (oD rfl rfl rfl rfl (oD rfl rfl rfl rfl (oD rfl rfl rfl rfl (oD rfl rfl rfl rfl (oC (pT (v := .bool true) rfl rfl (mv (oD rfl rfl rfl rfl (oD rfl rfl rfl rfl (oD rfl rfl rfl rfl (oD rfl rfl rfl rfl (oC (pT (v := .bool true) rfl rfl (mv (oD rfl rfl rfl rfl (oD rfl rfl rfl rfl (oD rfl rfl rfl rfl (oD rfl rfl rfl rfl (oC (pT (v := .bool true) rfl rfl (oN ?_)))))))))))))))))))))))))))
 exact ⟨rfl, _, nm rfl⟩
 replace c7 : 6 < a.n.length := (of_decide_eq_true c7)
 refine oD rfl rfl rfl rfl (oD rfl rfl rfl rfl (oD rfl rfl rfl rfl (oD rfl rfl rfl rfl (oC (pT (v := .bool true) rfl rfl (mv (oD rfl rfl rfl rfl (oD rfl rfl rfl rfl (oD rfl rfl rfl rfl (oD rfl rfl rfl rfl (oC (pT (v := .bool true) rfl rfl (mv (oD rfl rfl rfl rfl (oD rfl rfl rfl rfl (oD rfl rfl rfl rfl (oD rfl rfl rfl rfl (oC (pT (v := .bool true) rfl rfl (mv (oD rfl rfl rfl rfl (oD rfl rfl rfl rfl (oD rfl rfl rfl rfl (oD rfl rfl rfl rfl (oC (pT (v := .bool true) rfl rfl (mv (oD rfl rfl rfl rfl (oD rfl rfl rfl rfl (oD rfl rfl rfl rfl (oD rfl rfl rfl rfl (oC (pT (v := .bool true) rfl rfl (oN ?_))))))))))))))))))))))))))))))))))
 exact ⟨rfl, _, nm rfl⟩
 rintro ρ1 w4 ⟨rfl, ρ2, rfl⟩
 refine Wp.cond (t := (decide (6 < a.n.length)) || ((decide (6 < a.d.length)) || ((decide (6 < b.n.length)) || ((decide (6 < b.d.length)) || ((decide (6 < c.n.length)) || (decide (6 < c.d.length))))))) rfl (fun c12 => ?_) (fun c12 => ?_)
 replace c12 : (6 < a.n.length) ∨ ((6 < a.d.length) ∨ ((6 < b.n.length) ∨ ((6 < b.d.length) ∨ ((6 < c.n.length) ∨ (6 < c.d.length))))) := ((or_t c12).imp (fun h => (of_decide_eq_true h)) (fun h => ((or_t h).imp (fun h => (of_decide_eq_true h)) (fun h => ((or_t h).imp (fun h => (of_decide_eq_true h)) (fun h => ((or_t h).imp (fun h => (of_decide_eq_true h)) (fun h => ((or_t h).imp (fun h => (of_decide_eq_true h)) (fun h => (of_decide_eq_true h)))))))))))
 refine sr ?_
 have g5 := g3.trans gr3
 refine oC (cF Tryd.call20 (known_c  g5.sat (tb.mono ((gr1.le.trans gr2.le).trans gr3.le)) ) rfl ?_)
 intro r1 h4 w5 gr4 hr1
 subst hr1
 refine ma (oN (Wp.ret (fin1_ret rfl (resOf_tmp (v := .bool true) rfl) ?_)))
 have g6 := g5.trans gr4
 refine ⟨h4, g6, ?_⟩
 exact rfl
 replace c12 : ¬ ((6 < a.n.length) ∨ ((6 < a.d.length) ∨ ((6 < b.n.length) ∨ ((6 < b.d.length) ∨ ((6 < c.n.length) ∨ (6 < c.d.length)))))) := (fun pq => pq.elim (of_decide_eq_false (or_l c12)) (fun pq => pq.elim (of_decide_eq_false (or_l (or_r c12))) (fun pq => pq.elim (of_decide_eq_false (or_l (or_r (or_r c12)))) (fun pq => pq.elim (of_decide_eq_false (or_l (or_r (or_r (or_r c12))))) (fun pq => pq.elim (of_decide_eq_false (or_l (or_r (or_r (or_r (or_r c12)))))) (of_decide_eq_false (or_r (or_r (or_r (or_r (or_r c12)))))))))))
 have hx := c12
 have hba : bf a ≤ 6 := by unfold bf; omega
 have hbb : bf b ≤ 6 := by unfold bf; omega
 have hbc : bf c ≤ 6 := by unfold bf; omega
 refine Wp.skip (wS ?_)
 have g7 := g3.trans gr3
 have hf1 := bq_add a.rat b.rat
 have hf2 := bq_add (a.rat + b.rat) c.rat
 refine Wp.dagL 6 [52, 53, 54, 55, 56, 7] [eqv (.agg #[.bool a.neg, .slice b1 a.n.length c1, .slice b2 a.d.length c2]), eqv (.agg #[.bool b.neg, .slice b3 b.n.length c3, .slice b4 b.d.length c4]), fun h _ x => Kn h x (a.rat + b.rat), eqv (.agg #[.bool c.neg, .slice b5 c.n.length c5, .slice b6 c.d.length c6]), fun h _ x => Kn h x ((a.rat + b.rat) + c.rat), fun h w x => ∃ b, x = .pointer (some ⟨b, 0, none⟩) ∧ w3.heap.size ≤ b ∧ h b = none ∧ w.heap[b]? = some (.cells #[.bool false, .slice none 0 0, .slice none 0 0] 24 (0, 0))] mixed g7.sat rfl (by decide +kernel) ⟨sQ _, sQ _, (stab_K (a.rat + b.rat)), sQ _, (stab_K ((a.rat + b.rat) + c.rat)), stab_own _ _ _, trivial⟩ ?_ ?_
 intro stab
 refine ⟨?_, ?_, ?_, ?_, ?_, ?_, trivial⟩
 intro ρ3 h5 w6 g8 hdd1 hdo1
 have e1 : ρ3 3 = .pointer (some ⟨b7, 0, none⟩) := hdo1 3 rfl
 have g9 := g7.trans g8
 refine gP (lA (cs := [.bool a.neg, .slice b1 a.n.length c1, .slice b2 a.d.length c2]) Tryd.isAgg24 Tryd.sizeOf24 e1 (g9.sat _ _ (((gr2.le.trans gr3.le).trans g8.le) _ _ qb1)) rfl rfl ?_)
 exact ⟨_, h5, rfl, g8, fun j x _ p => p, rfl⟩
 intro ρ4 h6 w7 g10 hdd2 hdo2
 have e2 : ρ4 4 = .pointer (some ⟨b8, 0, none⟩) := hdo2 4 rfl
 have g11 := g7.trans g10
 refine gP (lA (cs := [.bool b.neg, .slice b3 b.n.length c3, .slice b4 b.d.length c4]) Tryd.isAgg24 Tryd.sizeOf24 e2 (g11.sat _ _ ((gr3.le.trans g10.le) _ _ qb2)) rfl rfl ?_)
 exact ⟨_, h6, rfl, g10, fun j x _ p => p, rfl⟩
 intro ρ5 h7 w8 g12 hdd3 hdo3
 have e3 : ρ5 52 = .agg #[.bool a.neg, .slice b1 a.n.length c1, .slice b2 a.d.length c2] := hdd3 0 (by decide)
 have e4 : ρ5 53 = .agg #[.bool b.neg, .slice b3 b.n.length c3, .slice b4 b.d.length c4] := hdd3 1 (by decide)
 have g13 := g7.trans g12
 refine gP (cF Tryd.call42 (Add_c (a := a) (b := b) g13.sat (F.mk (U.mono u1 (((gr1.le.trans gr2.le).trans gr3.le).trans g12.le)) (U.mono u2 (((gr1.le.trans gr2.le).trans gr3.le).trans g12.le))) (F.mk (U.mono u3 (((gr1.le.trans gr2.le).trans gr3.le).trans g12.le)) (U.mono u4 (((gr1.le.trans gr2.le).trans gr3.le).trans g12.le))) (by omega)) (cx e3 (cx e4 cxn)) ?_)
 intro r2 h8 w9 gr5 hr2
 exact ⟨r2, h8, rfl, g12.trans gr5, fun j x _ => stab j _ _ _ _ x gr5, hr2⟩
 intro ρ6 h9 w10 g14 hdd4 hdo4
 have e5 : ρ6 5 = .pointer (some ⟨b9, 0, none⟩) := hdo4 5 rfl
 have g15 := g7.trans g14
 refine gP (lA (cs := [.bool c.neg, .slice b5 c.n.length c5, .slice b6 c.d.length c6]) Tryd.isAgg24 Tryd.sizeOf24 e5 (g15.sat _ _ (g14.le _ _ qb3)) rfl rfl ?_)
 exact ⟨_, h9, rfl, g14, fun j x _ p => p, rfl⟩
 intro ρ7 h10 w11 g16 hdd5 hdo5
 have q1 : Kn h10 (ρ7 54) (a.rat + b.rat) := hdd5 2 (by decide)
 have e6 : ρ7 55 = .agg #[.bool c.neg, .slice b5 c.n.length c5, .slice b6 c.d.length c6] := hdd5 3 (by decide)
 have g17 := g7.trans g16
 refine gP (cF Tryd.call42 (Add_c (a := frK (a.rat + b.rat)) (b := c) g17.sat q1 (F.mk (U.mono u5 (((gr1.le.trans gr2.le).trans gr3.le).trans g16.le)) (U.mono u6 (((gr1.le.trans gr2.le).trans gr3.le).trans g16.le))) (by first | omega | (simp only [bf_frK, frK_rat, wts_cons, wts_nil]; omega))) (cx rfl (cx e6 cxn)) ?_)
 intro r3 h11 w12 gr6 hr3
 simp only [frK_rat, bf_frK, val_digs] at hr3
 exact ⟨r3, h11, rfl, g16.trans gr6, fun j x _ => stab j _ _ _ _ x gr6, hr3⟩
 intro ρ8 h12 w13 g18 hdd6 hdo6
 have g19 := g7.trans g18
 refine gP (OpW.allocO (arr := #[.bool false, .slice none 0 0, .slice none 0 0]) g19.sat Tryd.zeroValue24 rfl ?_)
 intro b10 w14 gr7 n1 lo1 o1
 exact ⟨_, h12, rfl, g18.trans gr7, fun j x _ => stab j _ _ _ _ x gr7, b10, rfl, Nat.le_trans g18.ext.size lo1, n1, o1⟩
 intro ρ9 h13 w15 g20 hdp1 hdo7
 have e7 : ρ9 3 = .pointer (some ⟨b7, 0, none⟩) := hdo7 3 rfl
 have e8 : ρ9 4 = .pointer (some ⟨b8, 0, none⟩) := hdo7 4 rfl
 have e9 : ρ9 5 = .pointer (some ⟨b9, 0, none⟩) := hdo7 5 rfl
 obtain ⟨b11, hx1, lo2, n2, o2⟩ : ∃ b, ρ9 7 = .pointer (some ⟨b, 0, none⟩) ∧ _ := hdp1 5 rfl
 have lo3 := Nat.le_trans g7.ext.size lo2
 have q2 : Kn h13 (ρ9 56) ((a.rat + b.rat) + c.rat) := hdp1 4 rfl
 obtain ⟨x1, hx2⟩ : ∃ x, ρ9 56 = x := ⟨_, rfl⟩
 rw [hx2] at q2
 obtain ⟨b12, c13, b13, c14, rfl, k7, k8, u7, u8⟩ := F.shape q2
 refine Ops.forget [(3, .pointer (some ⟨b7, 0, none⟩)), (4, .pointer (some ⟨b8, 0, none⟩)), (5, .pointer (some ⟨b9, 0, none⟩)), (7, .pointer (some ⟨b11, 0, none⟩)), (56, .agg #[.bool ((frK ((a.rat + b.rat) + c.rat)).neg), .slice b12 ((frK ((a.rat + b.rat) + c.rat)).n.length) c13, .slice b13 ((frK ((a.rat + b.rat) + c.rat)).d.length) c14])] ⟨e7, e8, e9, hx1, hx2, trivial⟩ (fun ρ10 => ?_)
 refine oC (sA (cs := [.bool ((frK ((a.rat + b.rat) + c.rat)).neg), .slice b12 ((frK ((a.rat + b.rat) + c.rat)).n.length) c13, .slice b13 ((frK ((a.rat + b.rat) + c.rat)).d.length) c14]) Tryd.sizeOf24 rfl rfl rfl rfl o2 rfl ?_)
 intro w16 p1
 refine oN (wS ?_)
 have g21 := (g7.trans g20).put p1 n2 lo3
 have hf3 := bq_add c.rat b.rat
 have hf4 := bq_add a.rat (c.rat + b.rat)
 refine Wp.dagL 6 [57, 58, 59, 60, 61, 8] [eqv (.agg #[.bool a.neg, .slice b1 a.n.length c1, .slice b2 a.d.length c2]), eqv (.agg #[.bool c.neg, .slice b5 c.n.length c5, .slice b6 c.d.length c6]), eqv (.agg #[.bool b.neg, .slice b3 b.n.length c3, .slice b4 b.d.length c4]), fun h _ x => Kn h x (c.rat + b.rat), fun h _ x => Kn h x (a.rat + (c.rat + b.rat)), fun h w x => ∃ b, x = .pointer (some ⟨b, 0, none⟩) ∧ w16.heap.size ≤ b ∧ h b = none ∧ w.heap[b]? = some (.cells #[.bool false, .slice none 0 0, .slice none 0 0] 24 (0, 0))] mixed g21.sat rfl (by decide +kernel) ⟨sQ _, sQ _, sQ _, (stab_K (c.rat + b.rat)), (stab_K (a.rat + (c.rat + b.rat))), stab_own _ _ _, trivial⟩ ?_ ?_
 intro stab
 refine ⟨?_, ?_, ?_, ?_, ?_, ?_, trivial⟩
 intro ρ11 h14 w17 g22 hdd7 hdo8
 have e10 : ρ11 3 = .pointer (some ⟨b7, 0, none⟩) := hdo8 3 rfl
 have g23 := g21.trans g22
 refine gP (lA (cs := [.bool a.neg, .slice b1 a.n.length c1, .slice b2 a.d.length c2]) Tryd.isAgg24 Tryd.sizeOf24 e10 (g23.sat _ _ ((((gr2.le.trans gr3.le).trans g20.le).trans g22.le) _ _ qb1)) rfl rfl ?_)
 exact ⟨_, h14, rfl, g22, fun j x _ p => p, rfl⟩
 intro ρ12 h15 w18 g24 hdd8 hdo9
 have e11 : ρ12 5 = .pointer (some ⟨b9, 0, none⟩) := hdo9 5 rfl
 have g25 := g21.trans g24
 refine gP (lA (cs := [.bool c.neg, .slice b5 c.n.length c5, .slice b6 c.d.length c6]) Tryd.isAgg24 Tryd.sizeOf24 e11 (g25.sat _ _ ((g20.le.trans g24.le) _ _ qb3)) rfl rfl ?_)
 exact ⟨_, h15, rfl, g24, fun j x _ p => p, rfl⟩
 intro ρ13 h16 w19 g26 hdd9 hdo10
 have e12 : ρ13 4 = .pointer (some ⟨b8, 0, none⟩) := hdo10 4 rfl
 have g27 := g21.trans g26
 refine gP (lA (cs := [.bool b.neg, .slice b3 b.n.length c3, .slice b4 b.d.length c4]) Tryd.isAgg24 Tryd.sizeOf24 e12 (g27.sat _ _ (((gr3.le.trans g20.le).trans g26.le) _ _ qb2)) rfl rfl ?_)
 exact ⟨_, h16, rfl, g26, fun j x _ p => p, rfl⟩
 intro ρ14 h17 w20 g28 hdd10 hdo11
 have e13 : ρ14 58 = .agg #[.bool c.neg, .slice b5 c.n.length c5, .slice b6 c.d.length c6] := hdd10 1 (by decide)
 have e14 : ρ14 59 = .agg #[.bool b.neg, .slice b3 b.n.length c3, .slice b4 b.d.length c4] := hdd10 2 (by decide)
 have g29 := g21.trans g28
 refine gP (cF Tryd.call42 (Add_c (a := c) (b := b) g29.sat (F.mk (U.mono u5 ((((gr1.le.trans gr2.le).trans gr3.le).trans g20.le).trans g28.le)) (U.mono u6 ((((gr1.le.trans gr2.le).trans gr3.le).trans g20.le).trans g28.le))) (F.mk (U.mono u3 ((((gr1.le.trans gr2.le).trans gr3.le).trans g20.le).trans g28.le)) (U.mono u4 ((((gr1.le.trans gr2.le).trans gr3.le).trans g20.le).trans g28.le))) (by omega)) (cx e13 (cx e14 cxn)) ?_)
 intro r4 h18 w21 gr8 hr4
 exact ⟨r4, h18, rfl, g28.trans gr8, fun j x _ => stab j _ _ _ _ x gr8, hr4⟩
 intro ρ15 h19 w22 g30 hdd11 hdo12
 have e15 : ρ15 57 = .agg #[.bool a.neg, .slice b1 a.n.length c1, .slice b2 a.d.length c2] := hdd11 0 (by decide)
 have q3 : Kn h19 (ρ15 60) (c.rat + b.rat) := hdd11 3 (by decide)
 have g31 := g21.trans g30
 refine gP (cF Tryd.call42 (Add_c (a := a) (b := frK (c.rat + b.rat)) g31.sat (F.mk (U.mono u1 ((((gr1.le.trans gr2.le).trans gr3.le).trans g20.le).trans g30.le)) (U.mono u2 ((((gr1.le.trans gr2.le).trans gr3.le).trans g20.le).trans g30.le))) q3 (by first | omega | (simp only [bf_frK, frK_rat, wts_cons, wts_nil]; omega))) (cx e15 (cx rfl cxn)) ?_)
 intro r5 h20 w23 gr9 hr5
 simp only [frK_rat, bf_frK, val_digs] at hr5
 exact ⟨r5, h20, rfl, g30.trans gr9, fun j x _ => stab j _ _ _ _ x gr9, hr5⟩
 intro ρ16 h21 w24 g32 hdd12 hdo13
 have g33 := g21.trans g32
 refine gP (OpW.allocO (arr := #[.bool false, .slice none 0 0, .slice none 0 0]) g33.sat Tryd.zeroValue24 rfl ?_)
 intro b14 w25 gr10 n3 lo4 o4
 exact ⟨_, h21, rfl, g32.trans gr10, fun j x _ => stab j _ _ _ _ x gr10, b14, rfl, Nat.le_trans g32.ext.size lo4, n3, o4⟩
 intro ρ17 h22 w26 g34 hdp2 hdo14
 have e16 : ρ17 3 = .pointer (some ⟨b7, 0, none⟩) := hdo14 3 rfl
 have e17 : ρ17 4 = .pointer (some ⟨b8, 0, none⟩) := hdo14 4 rfl
 have e18 : ρ17 5 = .pointer (some ⟨b9, 0, none⟩) := hdo14 5 rfl
 have e19 : ρ17 7 = .pointer (some ⟨b11, 0, none⟩) := hdo14 7 rfl
 obtain ⟨b15, hx3, lo5, n4, o5⟩ : ∃ b, ρ17 8 = .pointer (some ⟨b, 0, none⟩) ∧ _ := hdp2 5 rfl
 have lo6 := Nat.le_trans g21.ext.size lo5
 have ne1 : b11 ≠ b15 := Nat.ne_of_lt (Nat.lt_of_lt_of_le (blk_lt p1.at_) lo5)
 have q4 : Kn h22 (ρ17 61) (a.rat + (c.rat + b.rat)) := hdp2 4 rfl
 obtain ⟨x2, hx4⟩ : ∃ x, ρ17 61 = x := ⟨_, rfl⟩
 rw [hx4] at q4
 obtain ⟨b16, c15, b17, c16, rfl, k9, k10, u9, u10⟩ := F.shape q4
 refine Ops.forget [(3, .pointer (some ⟨b7, 0, none⟩)), (4, .pointer (some ⟨b8, 0, none⟩)), (5, .pointer (some ⟨b9, 0, none⟩)), (7, .pointer (some ⟨b11, 0, none⟩)), (8, .pointer (some ⟨b15, 0, none⟩)), (61, .agg #[.bool ((frK (a.rat + (c.rat + b.rat))).neg), .slice b16 ((frK (a.rat + (c.rat + b.rat))).n.length) c15, .slice b17 ((frK (a.rat + (c.rat + b.rat))).d.length) c16])] ⟨e16, e17, e18, e19, hx3, hx4, trivial⟩ (fun ρ18 => ?_)
 refine oC (sA (cs := [.bool ((frK (a.rat + (c.rat + b.rat))).neg), .slice b16 ((frK (a.rat + (c.rat + b.rat))).n.length) c15, .slice b17 ((frK (a.rat + (c.rat + b.rat))).d.length) c16]) Tryd.sizeOf24 rfl rfl rfl rfl o5 rfl ?_)
 intro w27 p2
 refine oN (wS ?_)
 have g35 := (g21.trans g34).put p2 n4 lo6
 have hf5 := bq_mul a.rat b.rat
 have hf6 := bq_mul (a.rat * b.rat) c.rat
 refine Wp.dagL 6 [62, 63, 64, 65, 66, 9] [eqv (.agg #[.bool a.neg, .slice b1 a.n.length c1, .slice b2 a.d.length c2]), eqv (.agg #[.bool b.neg, .slice b3 b.n.length c3, .slice b4 b.d.length c4]), fun h _ x => Kn h x (a.rat * b.rat), eqv (.agg #[.bool c.neg, .slice b5 c.n.length c5, .slice b6 c.d.length c6]), fun h _ x => Kn h x ((a.rat * b.rat) * c.rat), fun h w x => ∃ b, x = .pointer (some ⟨b, 0, none⟩) ∧ w27.heap.size ≤ b ∧ h b = none ∧ w.heap[b]? = some (.cells #[.bool false, .slice none 0 0, .slice none 0 0] 24 (0, 0))] mixed g35.sat rfl (by decide +kernel) ⟨sQ _, sQ _, (stab_K (a.rat * b.rat)), sQ _, (stab_K ((a.rat * b.rat) * c.rat)), stab_own _ _ _, trivial⟩ ?_ ?_
 intro stab
 refine ⟨?_, ?_, ?_, ?_, ?_, ?_, trivial⟩
 intro ρ19 h23 w28 g36 hdd13 hdo15
 have e20 : ρ19 3 = .pointer (some ⟨b7, 0, none⟩) := hdo15 3 rfl
 have g37 := g35.trans g36
 refine gP (lA (cs := [.bool a.neg, .slice b1 a.n.length c1, .slice b2 a.d.length c2]) Tryd.isAgg24 Tryd.sizeOf24 e20 (g37.sat _ _ (((((gr2.le.trans gr3.le).trans g20.le).trans g34.le).trans g36.le) _ _ qb1)) rfl rfl ?_)
 exact ⟨_, h23, rfl, g36, fun j x _ p => p, rfl⟩
 intro ρ20 h24 w29 g38 hdd14 hdo16
 have e21 : ρ20 4 = .pointer (some ⟨b8, 0, none⟩) := hdo16 4 rfl
 have g39 := g35.trans g38
 refine gP (lA (cs := [.bool b.neg, .slice b3 b.n.length c3, .slice b4 b.d.length c4]) Tryd.isAgg24 Tryd.sizeOf24 e21 (g39.sat _ _ ((((gr3.le.trans g20.le).trans g34.le).trans g38.le) _ _ qb2)) rfl rfl ?_)
 exact ⟨_, h24, rfl, g38, fun j x _ p => p, rfl⟩
 intro ρ21 h25 w30 g40 hdd15 hdo17
 have e22 : ρ21 62 = .agg #[.bool a.neg, .slice b1 a.n.length c1, .slice b2 a.d.length c2] := hdd15 0 (by decide)
 have e23 : ρ21 63 = .agg #[.bool b.neg, .slice b3 b.n.length c3, .slice b4 b.d.length c4] := hdd15 1 (by decide)
 have g41 := g35.trans g40
 refine gP (cF Tryd.call48 (Mul_c (a := a) (b := b) g41.sat (F.mk (U.mono u1 (((((gr1.le.trans gr2.le).trans gr3.le).trans g20.le).trans g34.le).trans g40.le)) (U.mono u2 (((((gr1.le.trans gr2.le).trans gr3.le).trans g20.le).trans g34.le).trans g40.le))) (F.mk (U.mono u3 (((((gr1.le.trans gr2.le).trans gr3.le).trans g20.le).trans g34.le).trans g40.le)) (U.mono u4 (((((gr1.le.trans gr2.le).trans gr3.le).trans g20.le).trans g34.le).trans g40.le))) (by omega)) (cx e22 (cx e23 cxn)) ?_)
 intro r6 h26 w31 gr11 hr6
 exact ⟨r6, h26, rfl, g40.trans gr11, fun j x _ => stab j _ _ _ _ x gr11, hr6⟩
 intro ρ22 h27 w32 g42 hdd16 hdo18
 have e24 : ρ22 5 = .pointer (some ⟨b9, 0, none⟩) := hdo18 5 rfl
 have g43 := g35.trans g42
 refine gP (lA (cs := [.bool c.neg, .slice b5 c.n.length c5, .slice b6 c.d.length c6]) Tryd.isAgg24 Tryd.sizeOf24 e24 (g43.sat _ _ (((g20.le.trans g34.le).trans g42.le) _ _ qb3)) rfl rfl ?_)
 exact ⟨_, h27, rfl, g42, fun j x _ p => p, rfl⟩
 intro ρ23 h28 w33 g44 hdd17 hdo19
 have q5 : Kn h28 (ρ23 64) (a.rat * b.rat) := hdd17 2 (by decide)
 have e25 : ρ23 65 = .agg #[.bool c.neg, .slice b5 c.n.length c5, .slice b6 c.d.length c6] := hdd17 3 (by decide)
 have g45 := g35.trans g44
 refine gP (cF Tryd.call48 (Mul_c (a := frK (a.rat * b.rat)) (b := c) g45.sat q5 (F.mk (U.mono u5 (((((gr1.le.trans gr2.le).trans gr3.le).trans g20.le).trans g34.le).trans g44.le)) (U.mono u6 (((((gr1.le.trans gr2.le).trans gr3.le).trans g20.le).trans g34.le).trans g44.le))) (by first | omega | (simp only [bf_frK, frK_rat, wts_cons, wts_nil]; omega))) (cx rfl (cx e25 cxn)) ?_)
 intro r7 h29 w34 gr12 hr7
 simp only [frK_rat, bf_frK, val_digs] at hr7
 exact ⟨r7, h29, rfl, g44.trans gr12, fun j x _ => stab j _ _ _ _ x gr12, hr7⟩
 intro ρ24 h30 w35 g46 hdd18 hdo20
 have g47 := g35.trans g46
 refine gP (OpW.allocO (arr := #[.bool false, .slice none 0 0, .slice none 0 0]) g47.sat Tryd.zeroValue24 rfl ?_)
 intro b18 w36 gr13 n5 lo7 o7
 exact ⟨_, h30, rfl, g46.trans gr13, fun j x _ => stab j _ _ _ _ x gr13, b18, rfl, Nat.le_trans g46.ext.size lo7, n5, o7⟩
 intro ρ25 h31 w37 g48 hdp3 hdo21
 have o8 := p2.kp ne1 (g34.kp ⟨p1.at_, n2⟩)
 have e26 : ρ25 3 = .pointer (some ⟨b7, 0, none⟩) := hdo21 3 rfl
 have e27 : ρ25 4 = .pointer (some ⟨b8, 0, none⟩) := hdo21 4 rfl
 have e28 : ρ25 5 = .pointer (some ⟨b9, 0, none⟩) := hdo21 5 rfl
 have e29 : ρ25 7 = .pointer (some ⟨b11, 0, none⟩) := hdo21 7 rfl
 have e30 : ρ25 8 = .pointer (some ⟨b15, 0, none⟩) := hdo21 8 rfl
 obtain ⟨b19, hx5, lo8, n6, o9⟩ : ∃ b, ρ25 9 = .pointer (some ⟨b, 0, none⟩) ∧ _ := hdp3 5 rfl
 have lo9 := Nat.le_trans g35.ext.size lo8
 have ne2 : b11 ≠ b19 := Nat.ne_of_lt (Nat.lt_of_lt_of_le (blk_lt o8.1) lo8)
 have ne3 : b15 ≠ b19 := Nat.ne_of_lt (Nat.lt_of_lt_of_le (blk_lt p2.at_) lo8)
 have q6 : Kn h31 (ρ25 66) ((a.rat * b.rat) * c.rat) := hdp3 4 rfl
 obtain ⟨x3, hx6⟩ : ∃ x, ρ25 66 = x := ⟨_, rfl⟩
 rw [hx6] at q6
 obtain ⟨b20, c17, b21, c18, rfl, k11, k12, u11, u12⟩ := F.shape q6
 refine Ops.forget [(3, .pointer (some ⟨b7, 0, none⟩)), (4, .pointer (some ⟨b8, 0, none⟩)), (5, .pointer (some ⟨b9, 0, none⟩)), (7, .pointer (some ⟨b11, 0, none⟩)), (8, .pointer (some ⟨b15, 0, none⟩)), (9, .pointer (some ⟨b19, 0, none⟩)), (66, .agg #[.bool ((frK ((a.rat * b.rat) * c.rat)).neg), .slice b20 ((frK ((a.rat * b.rat) * c.rat)).n.length) c17, .slice b21 ((frK ((a.rat * b.rat) * c.rat)).d.length) c18])] ⟨e26, e27, e28, e29, e30, hx5, hx6, trivial⟩ (fun ρ26 => ?_)
 refine oC (sA (cs := [.bool ((frK ((a.rat * b.rat) * c.rat)).neg), .slice b20 ((frK ((a.rat * b.rat) * c.rat)).n.length) c17, .slice b21 ((frK ((a.rat * b.rat) * c.rat)).d.length) c18]) Tryd.sizeOf24 rfl rfl rfl rfl o9 rfl ?_)
 intro w38 p3
 refine oN (wS ?_)
 have g49 := (g35.trans g48).put p3 n6 lo9
 have hf7 := bq_mul a.rat c.rat
 have hf8 := bq_mul b.rat (a.rat * c.rat)
 refine Wp.dagL 6 [67, 68, 69, 70, 71, 10] [eqv (.agg #[.bool b.neg, .slice b3 b.n.length c3, .slice b4 b.d.length c4]), eqv (.agg #[.bool a.neg, .slice b1 a.n.length c1, .slice b2 a.d.length c2]), eqv (.agg #[.bool c.neg, .slice b5 c.n.length c5, .slice b6 c.d.length c6]), fun h _ x => Kn h x (a.rat * c.rat), fun h _ x => Kn h x (b.rat * (a.rat * c.rat)), fun h w x => ∃ b, x = .pointer (some ⟨b, 0, none⟩) ∧ w38.heap.size ≤ b ∧ h b = none ∧ w.heap[b]? = some (.cells #[.bool false, .slice none 0 0, .slice none 0 0] 24 (0, 0))] mixed g49.sat rfl (by decide +kernel) ⟨sQ _, sQ _, sQ _, (stab_K (a.rat * c.rat)), (stab_K (b.rat * (a.rat * c.rat))), stab_own _ _ _, trivial⟩ ?_ ?_
 intro stab
 refine ⟨?_, ?_, ?_, ?_, ?_, ?_, trivial⟩
 intro ρ27 h32 w39 g50 hdd19 hdo22
 have e31 : ρ27 4 = .pointer (some ⟨b8, 0, none⟩) := hdo22 4 rfl
 have g51 := g49.trans g50
 refine gP (lA (cs := [.bool b.neg, .slice b3 b.n.length c3, .slice b4 b.d.length c4]) Tryd.isAgg24 Tryd.sizeOf24 e31 (g51.sat _ _ (((((gr3.le.trans g20.le).trans g34.le).trans g48.le).trans g50.le) _ _ qb2)) rfl rfl ?_)
 exact ⟨_, h32, rfl, g50, fun j x _ p => p, rfl⟩
 intro ρ28 h33 w40 g52 hdd20 hdo23
 have e32 : ρ28 3 = .pointer (some ⟨b7, 0, none⟩) := hdo23 3 rfl
 have g53 := g49.trans g52
 refine gP (lA (cs := [.bool a.neg, .slice b1 a.n.length c1, .slice b2 a.d.length c2]) Tryd.isAgg24 Tryd.sizeOf24 e32 (g53.sat _ _ ((((((gr2.le.trans gr3.le).trans g20.le).trans g34.le).trans g48.le).trans g52.le) _ _ qb1)) rfl rfl ?_)
 exact ⟨_, h33, rfl, g52, fun j x _ p => p, rfl⟩
 intro ρ29 h34 w41 g54 hdd21 hdo24
 have e33 : ρ29 5 = .pointer (some ⟨b9, 0, none⟩) := hdo24 5 rfl
 have g55 := g49.trans g54
 refine gP (lA (cs := [.bool c.neg, .slice b5 c.n.length c5, .slice b6 c.d.length c6]) Tryd.isAgg24 Tryd.sizeOf24 e33 (g55.sat _ _ ((((g20.le.trans g34.le).trans g48.le).trans g54.le) _ _ qb3)) rfl rfl ?_)
 exact ⟨_, h34, rfl, g54, fun j x _ p => p, rfl⟩
 intro ρ30 h35 w42 g56 hdd22 hdo25
 have e34 : ρ30 68 = .agg #[.bool a.neg, .slice b1 a.n.length c1, .slice b2 a.d.length c2] := hdd22 1 (by decide)
 have e35 : ρ30 69 = .agg #[.bool c.neg, .slice b5 c.n.length c5, .slice b6 c.d.length c6] := hdd22 2 (by decide)
 have g57 := g49.trans g56
 refine gP (cF Tryd.call48 (Mul_c (a := a) (b := c) g57.sat (F.mk (U.mono u1 ((((((gr1.le.trans gr2.le).trans gr3.le).trans g20.le).trans g34.le).trans g48.le).trans g56.le)) (U.mono u2 ((((((gr1.le.trans gr2.le).trans gr3.le).trans g20.le).trans g34.le).trans g48.le).trans g56.le))) (F.mk (U.mono u5 ((((((gr1.le.trans gr2.le).trans gr3.le).trans g20.le).trans g34.le).trans g48.le).trans g56.le)) (U.mono u6 ((((((gr1.le.trans gr2.le).trans gr3.le).trans g20.le).trans g34.le).trans g48.le).trans g56.le))) (by omega)) (cx e34 (cx e35 cxn)) ?_)
 intro r8 h36 w43 gr14 hr8
 exact ⟨r8, h36, rfl, g56.trans gr14, fun j x _ => stab j _ _ _ _ x gr14, hr8⟩
 intro ρ31 h37 w44 g58 hdd23 hdo26
 have e36 : ρ31 67 = .agg #[.bool b.neg, .slice b3 b.n.length c3, .slice b4 b.d.length c4] := hdd23 0 (by decide)
 have q7 : Kn h37 (ρ31 70) (a.rat * c.rat) := hdd23 3 (by decide)
 have g59 := g49.trans g58
 refine gP (cF Tryd.call48 (Mul_c (a := b) (b := frK (a.rat * c.rat)) g59.sat (F.mk (U.mono u3 ((((((gr1.le.trans gr2.le).trans gr3.le).trans g20.le).trans g34.le).trans g48.le).trans g58.le)) (U.mono u4 ((((((gr1.le.trans gr2.le).trans gr3.le).trans g20.le).trans g34.le).trans g48.le).trans g58.le))) q7 (by first | omega | (simp only [bf_frK, frK_rat, wts_cons, wts_nil]; omega))) (cx e36 (cx rfl cxn)) ?_)
 intro r9 h38 w45 gr15 hr9
 simp only [frK_rat, bf_frK, val_digs] at hr9
 exact ⟨r9, h38, rfl, g58.trans gr15, fun j x _ => stab j _ _ _ _ x gr15, hr9⟩
 intro ρ32 h39 w46 g60 hdd24 hdo27
 have g61 := g49.trans g60
 refine gP (OpW.allocO (arr := #[.bool false, .slice none 0 0, .slice none 0 0]) g61.sat Tryd.zeroValue24 rfl ?_)
 intro b22 w47 gr16 n7 lo10 o11
 exact ⟨_, h39, rfl, g60.trans gr16, fun j x _ => stab j _ _ _ _ x gr16, b22, rfl, Nat.le_trans g60.ext.size lo10, n7, o11⟩
 intro ρ33 h40 w48 g62 hdp4 hdo28
 have o12 := p3.kp ne2 (g48.kp o8)
 have o13 := p3.kp ne3 (g48.kp ⟨p2.at_, n4⟩)
 have e37 : ρ33 3 = .pointer (some ⟨b7, 0, none⟩) := hdo28 3 rfl
 have e38 : ρ33 4 = .pointer (some ⟨b8, 0, none⟩) := hdo28 4 rfl
 have e39 : ρ33 5 = .pointer (some ⟨b9, 0, none⟩) := hdo28 5 rfl
 have e40 : ρ33 7 = .pointer (some ⟨b11, 0, none⟩) := hdo28 7 rfl
 have e41 : ρ33 8 = .pointer (some ⟨b15, 0, none⟩) := hdo28 8 rfl
 have e42 : ρ33 9 = .pointer (some ⟨b19, 0, none⟩) := hdo28 9 rfl
 obtain ⟨b23, hx7, lo11, n8, o14⟩ : ∃ b, ρ33 10 = .pointer (some ⟨b, 0, none⟩) ∧ _ := hdp4 5 rfl
 have lo12 := Nat.le_trans g49.ext.size lo11
 have ne4 : b11 ≠ b23 := Nat.ne_of_lt (Nat.lt_of_lt_of_le (blk_lt o12.1) lo11)
 have ne5 : b15 ≠ b23 := Nat.ne_of_lt (Nat.lt_of_lt_of_le (blk_lt o13.1) lo11)
 have ne6 : b19 ≠ b23 := Nat.ne_of_lt (Nat.lt_of_lt_of_le (blk_lt p3.at_) lo11)
 have q8 : Kn h40 (ρ33 71) (b.rat * (a.rat * c.rat)) := hdp4 4 rfl
 obtain ⟨x4, hx8⟩ : ∃ x, ρ33 71 = x := ⟨_, rfl⟩
 rw [hx8] at q8
 obtain ⟨b24, c19, b25, c20, rfl, k13, k14, u13, u14⟩ := F.shape q8
 refine Ops.forget [(3, .pointer (some ⟨b7, 0, none⟩)), (4, .pointer (some ⟨b8, 0, none⟩)), (5, .pointer (some ⟨b9, 0, none⟩)), (7, .pointer (some ⟨b11, 0, none⟩)), (8, .pointer (some ⟨b15, 0, none⟩)), (9, .pointer (some ⟨b19, 0, none⟩)), (10, .pointer (some ⟨b23, 0, none⟩)), (71, .agg #[.bool ((frK (b.rat * (a.rat * c.rat))).neg), .slice b24 ((frK (b.rat * (a.rat * c.rat))).n.length) c19, .slice b25 ((frK (b.rat * (a.rat * c.rat))).d.length) c20])] ⟨e37, e38, e39, e40, e41, e42, hx7, hx8, trivial⟩ (fun ρ34 => ?_)
 refine oC (sA (cs := [.bool ((frK (b.rat * (a.rat * c.rat))).neg), .slice b24 ((frK (b.rat * (a.rat * c.rat))).n.length) c19, .slice b25 ((frK (b.rat * (a.rat * c.rat))).d.length) c20]) Tryd.sizeOf24 rfl rfl rfl rfl o14 rfl ?_)
 intro w49 p4
 refine oN (wS ?_)
 have g63 := (g49.trans g62).put p4 n8 lo12
 have hf9 := bq_add b.rat c.rat
 have hf10 := bq_mul a.rat (b.rat + c.rat)
 refine Wp.dagL 6 [72, 73, 74, 75, 76, 11] [eqv (.agg #[.bool a.neg, .slice b1 a.n.length c1, .slice b2 a.d.length c2]), eqv (.agg #[.bool b.neg, .slice b3 b.n.length c3, .slice b4 b.d.length c4]), eqv (.agg #[.bool c.neg, .slice b5 c.n.length c5, .slice b6 c.d.length c6]), fun h _ x => Kn h x (b.rat + c.rat), fun h _ x => Kn h x (a.rat * (b.rat + c.rat)), fun h w x => ∃ b, x = .pointer (some ⟨b, 0, none⟩) ∧ w49.heap.size ≤ b ∧ h b = none ∧ w.heap[b]? = some (.cells #[.bool false, .slice none 0 0, .slice none 0 0] 24 (0, 0))] mixed g63.sat rfl (by decide +kernel) ⟨sQ _, sQ _, sQ _, (stab_K (b.rat + c.rat)), (stab_K (a.rat * (b.rat + c.rat))), stab_own _ _ _, trivial⟩ ?_ ?_
 intro stab
 refine ⟨?_, ?_, ?_, ?_, ?_, ?_, trivial⟩
 intro ρ35 h41 w50 g64 hdd25 hdo29
 have e43 : ρ35 3 = .pointer (some ⟨b7, 0, none⟩) := hdo29 3 rfl
 have g65 := g63.trans g64
 refine gP (lA (cs := [.bool a.neg, .slice b1 a.n.length c1, .slice b2 a.d.length c2]) Tryd.isAgg24 Tryd.sizeOf24 e43 (g65.sat _ _ (((((((gr2.le.trans gr3.le).trans g20.le).trans g34.le).trans g48.le).trans g62.le).trans g64.le) _ _ qb1)) rfl rfl ?_)
 exact ⟨_, h41, rfl, g64, fun j x _ p => p, rfl⟩
 intro ρ36 h42 w51 g66 hdd26 hdo30
 have e44 : ρ36 4 = .pointer (some ⟨b8, 0, none⟩) := hdo30 4 rfl
 have g67 := g63.trans g66
 refine gP (lA (cs := [.bool b.neg, .slice b3 b.n.length c3, .slice b4 b.d.length c4]) Tryd.isAgg24 Tryd.sizeOf24 e44 (g67.sat _ _ ((((((gr3.le.trans g20.le).trans g34.le).trans g48.le).trans g62.le).trans g66.le) _ _ qb2)) rfl rfl ?_)
 exact ⟨_, h42, rfl, g66, fun j x _ p => p, rfl⟩
 intro ρ37 h43 w52 g68 hdd27 hdo31
 have e45 : ρ37 5 = .pointer (some ⟨b9, 0, none⟩) := hdo31 5 rfl
 have g69 := g63.trans g68
 refine gP (lA (cs := [.bool c.neg, .slice b5 c.n.length c5, .slice b6 c.d.length c6]) Tryd.isAgg24 Tryd.sizeOf24 e45 (g69.sat _ _ (((((g20.le.trans g34.le).trans g48.le).trans g62.le).trans g68.le) _ _ qb3)) rfl rfl ?_)
 exact ⟨_, h43, rfl, g68, fun j x _ p => p, rfl⟩
 intro ρ38 h44 w53 g70 hdd28 hdo32
 have e46 : ρ38 73 = .agg #[.bool b.neg, .slice b3 b.n.length c3, .slice b4 b.d.length c4] := hdd28 1 (by decide)
 have e47 : ρ38 74 = .agg #[.bool c.neg, .slice b5 c.n.length c5, .slice b6 c.d.length c6] := hdd28 2 (by decide)
 have g71 := g63.trans g70
 refine gP (cF Tryd.call42 (Add_c (a := b) (b := c) g71.sat (F.mk (U.mono u3 (((((((gr1.le.trans gr2.le).trans gr3.le).trans g20.le).trans g34.le).trans g48.le).trans g62.le).trans g70.le)) (U.mono u4 (((((((gr1.le.trans gr2.le).trans gr3.le).trans g20.le).trans g34.le).trans g48.le).trans g62.le).trans g70.le))) (F.mk (U.mono u5 (((((((gr1.le.trans gr2.le).trans gr3.le).trans g20.le).trans g34.le).trans g48.le).trans g62.le).trans g70.le)) (U.mono u6 (((((((gr1.le.trans gr2.le).trans gr3.le).trans g20.le).trans g34.le).trans g48.le).trans g62.le).trans g70.le))) (by omega)) (cx e46 (cx e47 cxn)) ?_)
 intro r10 h45 w54 gr17 hr10
 exact ⟨r10, h45, rfl, g70.trans gr17, fun j x _ => stab j _ _ _ _ x gr17, hr10⟩
 intro ρ39 h46 w55 g72 hdd29 hdo33
 have e48 : ρ39 72 = .agg #[.bool a.neg, .slice b1 a.n.length c1, .slice b2 a.d.length c2] := hdd29 0 (by decide)
 have q9 : Kn h46 (ρ39 75) (b.rat + c.rat) := hdd29 3 (by decide)
 have g73 := g63.trans g72
 refine gP (cF Tryd.call48 (Mul_c (a := a) (b := frK (b.rat + c.rat)) g73.sat (F.mk (U.mono u1 (((((((gr1.le.trans gr2.le).trans gr3.le).trans g20.le).trans g34.le).trans g48.le).trans g62.le).trans g72.le)) (U.mono u2 (((((((gr1.le.trans gr2.le).trans gr3.le).trans g20.le).trans g34.le).trans g48.le).trans g62.le).trans g72.le))) q9 (by first | omega | (simp only [bf_frK, frK_rat, wts_cons, wts_nil]; omega))) (cx e48 (cx rfl cxn)) ?_)
 intro r11 h47 w56 gr18 hr11
 simp only [frK_rat, bf_frK, val_digs] at hr11
 exact ⟨r11, h47, rfl, g72.trans gr18, fun j x _ => stab j _ _ _ _ x gr18, hr11⟩
 intro ρ40 h48 w57 g74 hdd30 hdo34
 have g75 := g63.trans g74
 refine gP (OpW.allocO (arr := #[.bool false, .slice none 0 0, .slice none 0 0]) g75.sat Tryd.zeroValue24 rfl ?_)
 intro b26 w58 gr19 n9 lo13 o16
 exact ⟨_, h48, rfl, g74.trans gr19, fun j x _ => stab j _ _ _ _ x gr19, b26, rfl, Nat.le_trans g74.ext.size lo13, n9, o16⟩
 intro ρ41 h49 w59 g76 hdp5 hdo35
 have o17 := p4.kp ne4 (g62.kp o12)
 have o18 := p4.kp ne5 (g62.kp o13)
 have o19 := p4.kp ne6 (g62.kp ⟨p3.at_, n6⟩)
 have e49 : ρ41 3 = .pointer (some ⟨b7, 0, none⟩) := hdo35 3 rfl
 have e50 : ρ41 4 = .pointer (some ⟨b8, 0, none⟩) := hdo35 4 rfl
 have e51 : ρ41 5 = .pointer (some ⟨b9, 0, none⟩) := hdo35 5 rfl
 have e52 : ρ41 7 = .pointer (some ⟨b11, 0, none⟩) := hdo35 7 rfl
 have e53 : ρ41 8 = .pointer (some ⟨b15, 0, none⟩) := hdo35 8 rfl
 have e54 : ρ41 9 = .pointer (some ⟨b19, 0, none⟩) := hdo35 9 rfl
 have e55 : ρ41 10 = .pointer (some ⟨b23, 0, none⟩) := hdo35 10 rfl
 obtain ⟨b27, hx9, lo14, n10, o20⟩ : ∃ b, ρ41 11 = .pointer (some ⟨b, 0, none⟩) ∧ _ := hdp5 5 rfl
 have lo15 := Nat.le_trans g63.ext.size lo14
 have ne7 : b11 ≠ b27 := Nat.ne_of_lt (Nat.lt_of_lt_of_le (blk_lt o17.1) lo14)
 have ne8 : b15 ≠ b27 := Nat.ne_of_lt (Nat.lt_of_lt_of_le (blk_lt o18.1) lo14)
 have ne9 : b19 ≠ b27 := Nat.ne_of_lt (Nat.lt_of_lt_of_le (blk_lt o19.1) lo14)
 have ne10 : b23 ≠ b27 := Nat.ne_of_lt (Nat.lt_of_lt_of_le (blk_lt p4.at_) lo14)
 have q10 : Kn h49 (ρ41 76) (a.rat * (b.rat + c.rat)) := hdp5 4 rfl
 obtain ⟨x5, hx10⟩ : ∃ x, ρ41 76 = x := ⟨_, rfl⟩
 rw [hx10] at q10
 obtain ⟨b28, c21, b29, c22, rfl, k15, k16, u15, u16⟩ := F.shape q10
 refine Ops.forget [(3, .pointer (some ⟨b7, 0, none⟩)), (4, .pointer (some ⟨b8, 0, none⟩)), (5, .pointer (some ⟨b9, 0, none⟩)), (7, .pointer (some ⟨b11, 0, none⟩)), (8, .pointer (some ⟨b15, 0, none⟩)), (9, .pointer (some ⟨b19, 0, none⟩)), (10, .pointer (some ⟨b23, 0, none⟩)), (11, .pointer (some ⟨b27, 0, none⟩)), (76, .agg #[.bool ((frK (a.rat * (b.rat + c.rat))).neg), .slice b28 ((frK (a.rat * (b.rat + c.rat))).n.length) c21, .slice b29 ((frK (a.rat * (b.rat + c.rat))).d.length) c22])] ⟨e49, e50, e51, e52, e53, e54, e55, hx9, hx10, trivial⟩ (fun ρ42 => ?_)
 refine oC (sA (cs := [.bool ((frK (a.rat * (b.rat + c.rat))).neg), .slice b28 ((frK (a.rat * (b.rat + c.rat))).n.length) c21, .slice b29 ((frK (a.rat * (b.rat + c.rat))).d.length) c22]) Tryd.sizeOf24 rfl rfl rfl rfl o20 rfl ?_)
 intro w60 p5
 refine oN (wS ?_)
 have g77 := (g63.trans g76).put p5 n10 lo15
 have hf11 := bq_mul a.rat b.rat
 have hf12 := bq_mul c.rat a.rat
 have hf13 := bq_add (a.rat * b.rat) (c.rat * a.rat)
 refine Wp.dagL 8 [77, 78, 79, 80, 81, 82, 83, 12] [eqv (.agg #[.bool a.neg, .slice b1 a.n.length c1, .slice b2 a.d.length c2]), eqv (.agg #[.bool b.neg, .slice b3 b.n.length c3, .slice b4 b.d.length c4]), fun h _ x => Kn h x (a.rat * b.rat), eqv (.agg #[.bool c.neg, .slice b5 c.n.length c5, .slice b6 c.d.length c6]), eqv (.agg #[.bool a.neg, .slice b1 a.n.length c1, .slice b2 a.d.length c2]), fun h _ x => Kn h x (c.rat * a.rat), fun h _ x => Kn h x ((a.rat * b.rat) + (c.rat * a.rat)), fun h w x => ∃ b, x = .pointer (some ⟨b, 0, none⟩) ∧ w60.heap.size ≤ b ∧ h b = none ∧ w.heap[b]? = some (.cells #[.bool false, .slice none 0 0, .slice none 0 0] 24 (0, 0))] mixed g77.sat rfl (by decide +kernel) ⟨sQ _, sQ _, (stab_K (a.rat * b.rat)), sQ _, sQ _, (stab_K (c.rat * a.rat)), (stab_K ((a.rat * b.rat) + (c.rat * a.rat))), stab_own _ _ _, trivial⟩ ?_ ?_
 intro stab
 refine ⟨?_, ?_, ?_, ?_, ?_, ?_, ?_, ?_, trivial⟩
 intro ρ43 h50 w61 g78 hdd31 hdo36
 have e56 : ρ43 3 = .pointer (some ⟨b7, 0, none⟩) := hdo36 3 rfl
 have g79 := g77.trans g78
 refine gP (lA (cs := [.bool a.neg, .slice b1 a.n.length c1, .slice b2 a.d.length c2]) Tryd.isAgg24 Tryd.sizeOf24 e56 (g79.sat _ _ ((((((((gr2.le.trans gr3.le).trans g20.le).trans g34.le).trans g48.le).trans g62.le).trans g76.le).trans g78.le) _ _ qb1)) rfl rfl ?_)
 exact ⟨_, h50, rfl, g78, fun j x _ p => p, rfl⟩
 intro ρ44 h51 w62 g80 hdd32 hdo37
 have e57 : ρ44 4 = .pointer (some ⟨b8, 0, none⟩) := hdo37 4 rfl
 have g81 := g77.trans g80
 refine gP (lA (cs := [.bool b.neg, .slice b3 b.n.length c3, .slice b4 b.d.length c4]) Tryd.isAgg24 Tryd.sizeOf24 e57 (g81.sat _ _ (((((((gr3.le.trans g20.le).trans g34.le).trans g48.le).trans g62.le).trans g76.le).trans g80.le) _ _ qb2)) rfl rfl ?_)
 exact ⟨_, h51, rfl, g80, fun j x _ p => p, rfl⟩
 intro ρ45 h52 w63 g82 hdd33 hdo38
 have e58 : ρ45 77 = .agg #[.bool a.neg, .slice b1 a.n.length c1, .slice b2 a.d.length c2] := hdd33 0 (by decide)
 have e59 : ρ45 78 = .agg #[.bool b.neg, .slice b3 b.n.length c3, .slice b4 b.d.length c4] := hdd33 1 (by decide)
 have g83 := g77.trans g82
 refine gP (cF Tryd.call48 (Mul_c (a := a) (b := b) g83.sat (F.mk (U.mono u1 ((((((((gr1.le.trans gr2.le).trans gr3.le).trans g20.le).trans g34.le).trans g48.le).trans g62.le).trans g76.le).trans g82.le)) (U.mono u2 ((((((((gr1.le.trans gr2.le).trans gr3.le).trans g20.le).trans g34.le).trans g48.le).trans g62.le).trans g76.le).trans g82.le))) (F.mk (U.mono u3 ((((((((gr1.le.trans gr2.le).trans gr3.le).trans g20.le).trans g34.le).trans g48.le).trans g62.le).trans g76.le).trans g82.le)) (U.mono u4 ((((((((gr1.le.trans gr2.le).trans gr3.le).trans g20.le).trans g34.le).trans g48.le).trans g62.le).trans g76.le).trans g82.le))) (by omega)) (cx e58 (cx e59 cxn)) ?_)
 intro r12 h53 w64 gr20 hr12
 exact ⟨r12, h53, rfl, g82.trans gr20, fun j x _ => stab j _ _ _ _ x gr20, hr12⟩
 intro ρ46 h54 w65 g84 hdd34 hdo39
 have e60 : ρ46 5 = .pointer (some ⟨b9, 0, none⟩) := hdo39 5 rfl
 have g85 := g77.trans g84
 refine gP (lA (cs := [.bool c.neg, .slice b5 c.n.length c5, .slice b6 c.d.length c6]) Tryd.isAgg24 Tryd.sizeOf24 e60 (g85.sat _ _ ((((((g20.le.trans g34.le).trans g48.le).trans g62.le).trans g76.le).trans g84.le) _ _ qb3)) rfl rfl ?_)
 exact ⟨_, h54, rfl, g84, fun j x _ p => p, rfl⟩
 intro ρ47 h55 w66 g86 hdd35 hdo40
 have e61 : ρ47 3 = .pointer (some ⟨b7, 0, none⟩) := hdo40 3 rfl
 have g87 := g77.trans g86
 refine gP (lA (cs := [.bool a.neg, .slice b1 a.n.length c1, .slice b2 a.d.length c2]) Tryd.isAgg24 Tryd.sizeOf24 e61 (g87.sat _ _ ((((((((gr2.le.trans gr3.le).trans g20.le).trans g34.le).trans g48.le).trans g62.le).trans g76.le).trans g86.le) _ _ qb1)) rfl rfl ?_)
 exact ⟨_, h55, rfl, g86, fun j x _ p => p, rfl⟩
 intro ρ48 h56 w67 g88 hdd36 hdo41
 have e62 : ρ48 80 = .agg #[.bool c.neg, .slice b5 c.n.length c5, .slice b6 c.d.length c6] := hdd36 3 (by decide)
 have e63 : ρ48 81 = .agg #[.bool a.neg, .slice b1 a.n.length c1, .slice b2 a.d.length c2] := hdd36 4 (by decide)
 have g89 := g77.trans g88
 refine gP (cF Tryd.call48 (Mul_c (a := c) (b := a) g89.sat (F.mk (U.mono u5 ((((((((gr1.le.trans gr2.le).trans gr3.le).trans g20.le).trans g34.le).trans g48.le).trans g62.le).trans g76.le).trans g88.le)) (U.mono u6 ((((((((gr1.le.trans gr2.le).trans gr3.le).trans g20.le).trans g34.le).trans g48.le).trans g62.le).trans g76.le).trans g88.le))) (F.mk (U.mono u1 ((((((((gr1.le.trans gr2.le).trans gr3.le).trans g20.le).trans g34.le).trans g48.le).trans g62.le).trans g76.le).trans g88.le)) (U.mono u2 ((((((((gr1.le.trans gr2.le).trans gr3.le).trans g20.le).trans g34.le).trans g48.le).trans g62.le).trans g76.le).trans g88.le))) (by omega)) (cx e62 (cx e63 cxn)) ?_)
 intro r13 h57 w68 gr21 hr13
 exact ⟨r13, h57, rfl, g88.trans gr21, fun j x _ => stab j _ _ _ _ x gr21, hr13⟩
 intro ρ49 h58 w69 g90 hdd37 hdo42
 have q11 : Kn h58 (ρ49 79) (a.rat * b.rat) := hdd37 2 (by decide)
 have q12 : Kn h58 (ρ49 82) (c.rat * a.rat) := hdd37 5 (by decide)
 have g91 := g77.trans g90
 refine gP (cF Tryd.call42 (Add_c (a := frK (a.rat * b.rat)) (b := frK (c.rat * a.rat)) g91.sat q11 q12 (by first | omega | (simp only [bf_frK, frK_rat, wts_cons, wts_nil]; omega))) rfl ?_)
 intro r14 h59 w70 gr22 hr14
 simp only [frK_rat, bf_frK, val_digs] at hr14
 exact ⟨r14, h59, rfl, g90.trans gr22, fun j x _ => stab j _ _ _ _ x gr22, hr14⟩
 intro ρ50 h60 w71 g92 hdd38 hdo43
 have g93 := g77.trans g92
 refine gP (OpW.allocO (arr := #[.bool false, .slice none 0 0, .slice none 0 0]) g93.sat Tryd.zeroValue24 rfl ?_)
 intro b30 w72 gr23 n11 lo16 o22
 exact ⟨_, h60, rfl, g92.trans gr23, fun j x _ => stab j _ _ _ _ x gr23, b30, rfl, Nat.le_trans g92.ext.size lo16, n11, o22⟩
 intro ρ51 h61 w73 g94 hdp6 hdo44
 have o23 := p5.kp ne7 (g76.kp o17)
 have o24 := p5.kp ne8 (g76.kp o18)
 have o25 := p5.kp ne9 (g76.kp o19)
 have o26 := p5.kp ne10 (g76.kp ⟨p4.at_, n8⟩)
 have e64 : ρ51 3 = .pointer (some ⟨b7, 0, none⟩) := hdo44 3 rfl
 have e65 : ρ51 4 = .pointer (some ⟨b8, 0, none⟩) := hdo44 4 rfl
 have e66 : ρ51 7 = .pointer (some ⟨b11, 0, none⟩) := hdo44 7 rfl
 have e67 : ρ51 8 = .pointer (some ⟨b15, 0, none⟩) := hdo44 8 rfl
 have e68 : ρ51 9 = .pointer (some ⟨b19, 0, none⟩) := hdo44 9 rfl
 have e69 : ρ51 10 = .pointer (some ⟨b23, 0, none⟩) := hdo44 10 rfl
 have e70 : ρ51 11 = .pointer (some ⟨b27, 0, none⟩) := hdo44 11 rfl
 obtain ⟨b31, hx11, lo17, n12, o27⟩ : ∃ b, ρ51 12 = .pointer (some ⟨b, 0, none⟩) ∧ _ := hdp6 7 rfl
 have lo18 := Nat.le_trans g77.ext.size lo17
 have ne11 : b11 ≠ b31 := Nat.ne_of_lt (Nat.lt_of_lt_of_le (blk_lt o23.1) lo17)
 have ne12 : b15 ≠ b31 := Nat.ne_of_lt (Nat.lt_of_lt_of_le (blk_lt o24.1) lo17)
 have ne13 : b19 ≠ b31 := Nat.ne_of_lt (Nat.lt_of_lt_of_le (blk_lt o25.1) lo17)
 have ne14 : b23 ≠ b31 := Nat.ne_of_lt (Nat.lt_of_lt_of_le (blk_lt o26.1) lo17)
 have ne15 : b27 ≠ b31 := Nat.ne_of_lt (Nat.lt_of_lt_of_le (blk_lt p5.at_) lo17)
 have q13 : Kn h61 (ρ51 83) ((a.rat * b.rat) + (c.rat * a.rat)) := hdp6 6 rfl
 obtain ⟨x6, hx12⟩ : ∃ x, ρ51 83 = x := ⟨_, rfl⟩
 rw [hx12] at q13
 obtain ⟨b32, c23, b33, c24, rfl, k17, k18, u17, u18⟩ := F.shape q13
 refine Ops.forget [(3, .pointer (some ⟨b7, 0, none⟩)), (4, .pointer (some ⟨b8, 0, none⟩)), (7, .pointer (some ⟨b11, 0, none⟩)), (8, .pointer (some ⟨b15, 0, none⟩)), (9, .pointer (some ⟨b19, 0, none⟩)), (10, .pointer (some ⟨b23, 0, none⟩)), (11, .pointer (some ⟨b27, 0, none⟩)), (12, .pointer (some ⟨b31, 0, none⟩)), (83, .agg #[.bool ((frK ((a.rat * b.rat) + (c.rat * a.rat))).neg), .slice b32 ((frK ((a.rat * b.rat) + (c.rat * a.rat))).n.length) c23, .slice b33 ((frK ((a.rat * b.rat) + (c.rat * a.rat))).d.length) c24])] ⟨e64, e65, e66, e67, e68, e69, e70, hx11, hx12, trivial⟩ (fun ρ52 => ?_)
 refine oC (sA (cs := [.bool ((frK ((a.rat * b.rat) + (c.rat * a.rat))).neg), .slice b32 ((frK ((a.rat * b.rat) + (c.rat * a.rat))).n.length) c23, .slice b33 ((frK ((a.rat * b.rat) + (c.rat * a.rat))).d.length) c24]) Tryd.sizeOf24 rfl rfl rfl rfl o27 rfl ?_)
 intro w74 p6
 refine oN (wS (wS ?_))
 have g95 := (g77.trans g94).put p6 n12 lo18
 have hf14 := bq_add a.rat b.rat
 have hf15 := bq_sub (a.rat + b.rat) b.rat
 have hf16 := bq_sub a.rat a.rat
 refine Wp.dagL 34 [84, 85, 86, 87, 88, 89, 90, 91, 92, 93, 94, 95, 96, 97, 98, 99, 100, 101, 102, 103, 104, 105, 106, 107, 108, 109, 110, 111, 112, 113, 114, 115, 116, 117] [eqv (.agg #[.bool ((frK ((a.rat + b.rat) + c.rat)).neg), .slice b12 ((frK ((a.rat + b.rat) + c.rat)).n.length) c13, .slice b13 ((frK ((a.rat + b.rat) + c.rat)).d.length) c14]), eqv (.agg #[.bool ((frK (a.rat + (c.rat + b.rat))).neg), .slice b16 ((frK (a.rat + (c.rat + b.rat))).n.length) c15, .slice b17 ((frK (a.rat + (c.rat + b.rat))).d.length) c16]), eqv (.bool true), eqv (.bool false), eqv (.bool false), eqv (.agg #[.bool ((frK ((a.rat * b.rat) * c.rat)).neg), .slice b20 ((frK ((a.rat * b.rat) * c.rat)).n.length) c17, .slice b21 ((frK ((a.rat * b.rat) * c.rat)).d.length) c18]), eqv (.agg #[.bool ((frK (b.rat * (a.rat * c.rat))).neg), .slice b24 ((frK (b.rat * (a.rat * c.rat))).n.length) c19, .slice b25 ((frK (b.rat * (a.rat * c.rat))).d.length) c20]), eqv (.bool true), eqv (.bool false), eqv (.bool false), eqv (.bool false), eqv (.agg #[.bool ((frK (a.rat * (b.rat + c.rat))).neg), .slice b28 ((frK (a.rat * (b.rat + c.rat))).n.length) c21, .slice b29 ((frK (a.rat * (b.rat + c.rat))).d.length) c22]), eqv (.agg #[.bool ((frK ((a.rat * b.rat) + (c.rat * a.rat))).neg), .slice b32 ((frK ((a.rat * b.rat) + (c.rat * a.rat))).n.length) c23, .slice b33 ((frK ((a.rat * b.rat) + (c.rat * a.rat))).d.length) c24]), eqv (.bool true), eqv (.bool false), eqv (.bool false), eqv (.bool false), eqv (.agg #[.bool a.neg, .slice b1 a.n.length c1, .slice b2 a.d.length c2]), eqv (.agg #[.bool b.neg, .slice b3 b.n.length c3, .slice b4 b.d.length c4]), fun h _ x => Kn h x (a.rat + b.rat), eqv (.agg #[.bool b.neg, .slice b3 b.n.length c3, .slice b4 b.d.length c4]), fun h _ x => Kn h x ((a.rat + b.rat) - b.rat), eqv (.agg #[.bool a.neg, .slice b1 a.n.length c1, .slice b2 a.d.length c2]), fun h _ x => Kn h x a.rat, eqv (.bool true), eqv (.bool false), eqv (.bool false), eqv (.bool false), eqv (.agg #[.bool a.neg, .slice b1 a.n.length c1, .slice b2 a.d.length c2]), eqv (.agg #[.bool a.neg, .slice b1 a.n.length c1, .slice b2 a.d.length c2]), fun h _ x => Kn h x (a.rat - a.rat), eqv (.int .i64 (sgQ (a.rat - a.rat))), eqv (.bool false), eqv (.bool false)] mixed g95.sat rfl (by decide +kernel) ⟨sQ _, sQ _, sQ _, sQ _, sQ _, sQ _, sQ _, sQ _, sQ _, sQ _, sQ _, sQ _, sQ _, sQ _, sQ _, sQ _, sQ _, sQ _, sQ _, (stab_K (a.rat + b.rat)), sQ _, (stab_K ((a.rat + b.rat) - b.rat)), sQ _, (stab_K a.rat), sQ _, sQ _, sQ _, sQ _, sQ _, sQ _, (stab_K (a.rat - a.rat)), sQ _, sQ _, sQ _, trivial⟩ ?_ ?_
 intro stab
 refine ⟨?_, ?_, ?_, ?_, ?_, ?_, ?_, ?_, ?_, ?_, ?_, ?_, ?_, ?_, ?_, ?_, ?_, ?_, ?_, ?_, ?_, ?_, ?_, ?_, ?_, ?_, ?_, ?_, ?_, ?_, ?_, ?_, ?_, ?_, trivial⟩
 intro ρ53 h62 w75 g96 hdd39 hdo45
 have e71 : ρ53 7 = .pointer (some ⟨b11, 0, none⟩) := hdo45 7 rfl
 have o29 := g96.kp (p6.kp ne11 (g94.kp o23))
 refine gP (lA (cs := [.bool ((frK ((a.rat + b.rat) + c.rat)).neg), .slice b12 ((frK ((a.rat + b.rat) + c.rat)).n.length) c13, .slice b13 ((frK ((a.rat + b.rat) + c.rat)).d.length) c14]) Tryd.isAgg24 Tryd.sizeOf24 e71 o29.1 rfl rfl ?_)
 exact ⟨_, h62, rfl, g96, fun j x _ p => p, rfl⟩
 intro ρ54 h63 w76 g97 hdd40 hdo46
 have e72 : ρ54 8 = .pointer (some ⟨b15, 0, none⟩) := hdo46 8 rfl
 have o30 := g97.kp (p6.kp ne12 (g94.kp o24))
 refine gP (lA (cs := [.bool ((frK (a.rat + (c.rat + b.rat))).neg), .slice b16 ((frK (a.rat + (c.rat + b.rat))).n.length) c15, .slice b17 ((frK (a.rat + (c.rat + b.rat))).d.length) c16]) Tryd.isAgg24 Tryd.sizeOf24 e72 o30.1 rfl rfl ?_)
 exact ⟨_, h63, rfl, g97, fun j x _ p => p, rfl⟩
 intro ρ55 h64 w77 g98 hdd41 hdo47
 have e73 : ρ55 84 = .agg #[.bool ((frK ((a.rat + b.rat) + c.rat)).neg), .slice b12 ((frK ((a.rat + b.rat) + c.rat)).n.length) c13, .slice b13 ((frK ((a.rat + b.rat) + c.rat)).d.length) c14] := hdd41 0 (by decide)
 have e74 : ρ55 85 = .agg #[.bool ((frK (a.rat + (c.rat + b.rat))).neg), .slice b16 ((frK (a.rat + (c.rat + b.rat))).n.length) c15, .slice b17 ((frK (a.rat + (c.rat + b.rat))).d.length) c16] := hdd41 1 (by decide)
 have g99 := g95.trans g98
 refine gP (cF Tryd.call22 (rSame_c (f := frK ((a.rat + b.rat) + c.rat)) (g := frK (a.rat + (c.rat + b.rat))) g99.sat (F.mk (U.mono u7 (((((g34.le.trans g48.le).trans g62.le).trans g76.le).trans g94.le).trans g98.le)) (U.mono u8 (((((g34.le.trans g48.le).trans g62.le).trans g76.le).trans g94.le).trans g98.le))) (F.mk (U.mono u9 ((((g48.le.trans g62.le).trans g76.le).trans g94.le).trans g98.le)) (U.mono u10 ((((g48.le.trans g62.le).trans g76.le).trans g94.le).trans g98.le))) (by first | omega | (simp only [bf_frK, frK_rat, wts_cons, wts_nil]; omega)) (by first | omega | (simp only [bf_frK, frK_rat, wts_cons, wts_nil]; omega))) (cx e73 (cx e74 cxn)) ?_)
 intro r15 h65 w78 gr24 hr15
 replace hr15 := hr15.trans (congrArg Value.bool (sameF_cast (congrArg frK (by grind))))
 exact ⟨r15, h65, rfl, g98.trans gr24, fun j x _ => stab j _ _ _ _ x gr24, hr15⟩
 intro ρ56 h66 w79 g100 hdd42 hdo48
 have e75 : ρ56 86 = .bool true := hdd42 2 (by decide)
 refine gP (OpW.notB (a := true) (r := false) e75 rfl ?_)
 exact ⟨_, h66, rfl, g100, fun j x _ p => p, rfl⟩
 intro ρ57 h67 w80 g101 hdd43 hdo49
 have e76 : ρ57 87 = .bool false := hdd43 3 (by decide)
 refine gP (OpW.move (v := .bool false) e76 ?_)
 exact ⟨_, h67, rfl, g101, fun j x _ p => p, rfl⟩
 intro ρ58 h68 w81 g102 hdd44 hdo50
 have e77 : ρ58 9 = .pointer (some ⟨b19, 0, none⟩) := hdo50 9 rfl
 have e78 : ρ58 88 = .bool false := hdd44 4 (by decide)
 refine gL (d := 88) (b := false) ?_ ?_ ?_ ?_
 · rfl
 · rfl
 · exact e78
 have o31 := g102.kp (p6.kp ne13 (g94.kp o25))
 refine (lA (cs := [.bool ((frK ((a.rat * b.rat) * c.rat)).neg), .slice b20 ((frK ((a.rat * b.rat) * c.rat)).n.length) c17, .slice b21 ((frK ((a.rat * b.rat) * c.rat)).d.length) c18]) Tryd.isAgg24 Tryd.sizeOf24 e77 o31.1 rfl rfl ?_)
 exact ⟨_, h68, rfl, g102, fun j x _ p => p, rfl⟩
 intro ρ59 h69 w82 g103 hdd45 hdo51
 have e79 : ρ59 10 = .pointer (some ⟨b23, 0, none⟩) := hdo51 10 rfl
 have e80 : ρ59 88 = .bool false := hdd45 4 (by decide)
 refine gL (d := 88) (b := false) ?_ ?_ ?_ ?_
 · rfl
 · rfl
 · exact e80
 have o32 := g103.kp (p6.kp ne14 (g94.kp o26))
 refine (lA (cs := [.bool ((frK (b.rat * (a.rat * c.rat))).neg), .slice b24 ((frK (b.rat * (a.rat * c.rat))).n.length) c19, .slice b25 ((frK (b.rat * (a.rat * c.rat))).d.length) c20]) Tryd.isAgg24 Tryd.sizeOf24 e79 o32.1 rfl rfl ?_)
 exact ⟨_, h69, rfl, g103, fun j x _ p => p, rfl⟩
 intro ρ60 h70 w83 g104 hdd46 hdo52
 have e81 : ρ60 88 = .bool false := hdd46 4 (by decide)
 have e82 : ρ60 89 = .agg #[.bool ((frK ((a.rat * b.rat) * c.rat)).neg), .slice b20 ((frK ((a.rat * b.rat) * c.rat)).n.length) c17, .slice b21 ((frK ((a.rat * b.rat) * c.rat)).d.length) c18] := hdd46 5 (by decide)
 have e83 : ρ60 90 = .agg #[.bool ((frK (b.rat * (a.rat * c.rat))).neg), .slice b24 ((frK (b.rat * (a.rat * c.rat))).n.length) c19, .slice b25 ((frK (b.rat * (a.rat * c.rat))).d.length) c20] := hdd46 6 (by decide)
 refine gL (d := 88) (b := false) ?_ ?_ ?_ ?_
 · rfl
 · rfl
 · exact e81
 have g105 := g95.trans g104
 refine (cF Tryd.call22 (rSame_c (f := frK ((a.rat * b.rat) * c.rat)) (g := frK (b.rat * (a.rat * c.rat))) g105.sat (F.mk (U.mono u11 (((g62.le.trans g76.le).trans g94.le).trans g104.le)) (U.mono u12 (((g62.le.trans g76.le).trans g94.le).trans g104.le))) (F.mk (U.mono u13 ((g76.le.trans g94.le).trans g104.le)) (U.mono u14 ((g76.le.trans g94.le).trans g104.le))) (by first | omega | (simp only [bf_frK, frK_rat, wts_cons, wts_nil]; omega)) (by first | omega | (simp only [bf_frK, frK_rat, wts_cons, wts_nil]; omega))) (cx e82 (cx e83 cxn)) ?_)
 intro r16 h71 w84 gr25 hr16
 replace hr16 := hr16.trans (congrArg Value.bool (sameF_cast (congrArg frK (by grind))))
 exact ⟨r16, h71, rfl, g104.trans gr25, fun j x _ => stab j _ _ _ _ x gr25, hr16⟩
 intro ρ61 h72 w85 g106 hdd47 hdo53
 have e84 : ρ61 88 = .bool false := hdd47 4 (by decide)
 have e85 : ρ61 91 = .bool true := hdd47 7 (by decide)
 refine gL (d := 88) (b := false) ?_ ?_ ?_ ?_
 · rfl
 · rfl
 · exact e84
 refine (OpW.notB (a := true) (r := false) e85 rfl ?_)
 exact ⟨_, h72, rfl, g106, fun j x _ p => p, rfl⟩
 intro ρ62 h73 w86 g107 hdd48 hdo54
 have e86 : ρ62 88 = .bool false := hdd48 4 (by decide)
 have e87 : ρ62 92 = .bool false := hdd48 8 (by decide)
 refine gP (pF (v := .bool false) e86 e87 ?_)
 exact ⟨_, h73, rfl, g107, fun j x _ p => p, rfl⟩
 intro ρ63 h74 w87 g108 hdd49 hdo55
 have e88 : ρ63 93 = .bool false := hdd49 9 (by decide)
 refine gP (OpW.move (v := .bool false) e88 ?_)
 exact ⟨_, h74, rfl, g108, fun j x _ p => p, rfl⟩
 intro ρ64 h75 w88 g109 hdd50 hdo56
 have e89 : ρ64 11 = .pointer (some ⟨b27, 0, none⟩) := hdo56 11 rfl
 have e90 : ρ64 94 = .bool false := hdd50 10 (by decide)
 refine gL (d := 94) (b := false) ?_ ?_ ?_ ?_
 · rfl
 · rfl
 · exact e90
 have o33 := g109.kp (p6.kp ne15 (g94.kp ⟨p5.at_, n10⟩))
 refine (lA (cs := [.bool ((frK (a.rat * (b.rat + c.rat))).neg), .slice b28 ((frK (a.rat * (b.rat + c.rat))).n.length) c21, .slice b29 ((frK (a.rat * (b.rat + c.rat))).d.length) c22]) Tryd.isAgg24 Tryd.sizeOf24 e89 o33.1 rfl rfl ?_)
 exact ⟨_, h75, rfl, g109, fun j x _ p => p, rfl⟩
 intro ρ65 h76 w89 g110 hdd51 hdo57
 have e91 : ρ65 12 = .pointer (some ⟨b31, 0, none⟩) := hdo57 12 rfl
 have e92 : ρ65 94 = .bool false := hdd51 10 (by decide)
 refine gL (d := 94) (b := false) ?_ ?_ ?_ ?_
 · rfl
 · rfl
 · exact e92
 have o34 := g110.kp ⟨p6.at_, n12⟩
 refine (lA (cs := [.bool ((frK ((a.rat * b.rat) + (c.rat * a.rat))).neg), .slice b32 ((frK ((a.rat * b.rat) + (c.rat * a.rat))).n.length) c23, .slice b33 ((frK ((a.rat * b.rat) + (c.rat * a.rat))).d.length) c24]) Tryd.isAgg24 Tryd.sizeOf24 e91 o34.1 rfl rfl ?_)
 exact ⟨_, h76, rfl, g110, fun j x _ p => p, rfl⟩
 intro ρ66 h77 w90 g111 hdd52 hdo58
 have e93 : ρ66 94 = .bool false := hdd52 10 (by decide)
 have e94 : ρ66 95 = .agg #[.bool ((frK (a.rat * (b.rat + c.rat))).neg), .slice b28 ((frK (a.rat * (b.rat + c.rat))).n.length) c21, .slice b29 ((frK (a.rat * (b.rat + c.rat))).d.length) c22] := hdd52 11 (by decide)
 have e95 : ρ66 96 = .agg #[.bool ((frK ((a.rat * b.rat) + (c.rat * a.rat))).neg), .slice b32 ((frK ((a.rat * b.rat) + (c.rat * a.rat))).n.length) c23, .slice b33 ((frK ((a.rat * b.rat) + (c.rat * a.rat))).d.length) c24] := hdd52 12 (by decide)
 refine gL (d := 94) (b := false) ?_ ?_ ?_ ?_
 · rfl
 · rfl
 · exact e93
 have g112 := g95.trans g111
 refine (cF Tryd.call22 (rSame_c (f := frK (a.rat * (b.rat + c.rat))) (g := frK ((a.rat * b.rat) + (c.rat * a.rat))) g112.sat (F.mk (U.mono u15 (g94.le.trans g111.le)) (U.mono u16 (g94.le.trans g111.le))) (F.mk (U.mono u17 g111.le) (U.mono u18 g111.le)) (by first | omega | (simp only [bf_frK, frK_rat, wts_cons, wts_nil]; omega)) (by first | omega | (simp only [bf_frK, frK_rat, wts_cons, wts_nil]; omega))) (cx e94 (cx e95 cxn)) ?_)
 intro r17 h78 w91 gr26 hr17
 replace hr17 := hr17.trans (congrArg Value.bool (sameF_cast (congrArg frK (by grind))))
 exact ⟨r17, h78, rfl, g111.trans gr26, fun j x _ => stab j _ _ _ _ x gr26, hr17⟩
 intro ρ67 h79 w92 g113 hdd53 hdo59
 have e96 : ρ67 94 = .bool false := hdd53 10 (by decide)
 have e97 : ρ67 97 = .bool true := hdd53 13 (by decide)
 refine gL (d := 94) (b := false) ?_ ?_ ?_ ?_
 · rfl
 · rfl
 · exact e96
 refine (OpW.notB (a := true) (r := false) e97 rfl ?_)
 exact ⟨_, h79, rfl, g113, fun j x _ p => p, rfl⟩
 intro ρ68 h80 w93 g114 hdd54 hdo60
 have e98 : ρ68 94 = .bool false := hdd54 10 (by decide)
 have e99 : ρ68 98 = .bool false := hdd54 14 (by decide)
 refine gP (pF (v := .bool false) e98 e99 ?_)
 exact ⟨_, h80, rfl, g114, fun j x _ p => p, rfl⟩
 intro ρ69 h81 w94 g115 hdd55 hdo61
 have e100 : ρ69 99 = .bool false := hdd55 15 (by decide)
 refine gP (OpW.move (v := .bool false) e100 ?_)
 exact ⟨_, h81, rfl, g115, fun j x _ p => p, rfl⟩
 intro ρ70 h82 w95 g116 hdd56 hdo62
 have e101 : ρ70 3 = .pointer (some ⟨b7, 0, none⟩) := hdo62 3 rfl
 have e102 : ρ70 100 = .bool false := hdd56 16 (by decide)
 refine gL (d := 100) (b := false) ?_ ?_ ?_ ?_
 · rfl
 · rfl
 · exact e102
 have g117 := g95.trans g116
 refine (lA (cs := [.bool a.neg, .slice b1 a.n.length c1, .slice b2 a.d.length c2]) Tryd.isAgg24 Tryd.sizeOf24 e101 (g117.sat _ _ (((((((((gr2.le.trans gr3.le).trans g20.le).trans g34.le).trans g48.le).trans g62.le).trans g76.le).trans g94.le).trans g116.le) _ _ qb1)) rfl rfl ?_)
 exact ⟨_, h82, rfl, g116, fun j x _ p => p, rfl⟩
 intro ρ71 h83 w96 g118 hdd57 hdo63
 have e103 : ρ71 4 = .pointer (some ⟨b8, 0, none⟩) := hdo63 4 rfl
 have e104 : ρ71 100 = .bool false := hdd57 16 (by decide)
 refine gL (d := 100) (b := false) ?_ ?_ ?_ ?_
 · rfl
 · rfl
 · exact e104
 have g119 := g95.trans g118
 refine (lA (cs := [.bool b.neg, .slice b3 b.n.length c3, .slice b4 b.d.length c4]) Tryd.isAgg24 Tryd.sizeOf24 e103 (g119.sat _ _ ((((((((gr3.le.trans g20.le).trans g34.le).trans g48.le).trans g62.le).trans g76.le).trans g94.le).trans g118.le) _ _ qb2)) rfl rfl ?_)
 exact ⟨_, h83, rfl, g118, fun j x _ p => p, rfl⟩
 intro ρ72 h84 w97 g120 hdd58 hdo64
 have e105 : ρ72 100 = .bool false := hdd58 16 (by decide)
 have e106 : ρ72 101 = .agg #[.bool a.neg, .slice b1 a.n.length c1, .slice b2 a.d.length c2] := hdd58 17 (by decide)
 have e107 : ρ72 102 = .agg #[.bool b.neg, .slice b3 b.n.length c3, .slice b4 b.d.length c4] := hdd58 18 (by decide)
 refine gL (d := 100) (b := false) ?_ ?_ ?_ ?_
 · rfl
 · rfl
 · exact e105
 have g121 := g95.trans g120
 refine (cF Tryd.call42 (Add_c (a := a) (b := b) g121.sat (F.mk (U.mono u1 (((((((((gr1.le.trans gr2.le).trans gr3.le).trans g20.le).trans g34.le).trans g48.le).trans g62.le).trans g76.le).trans g94.le).trans g120.le)) (U.mono u2 (((((((((gr1.le.trans gr2.le).trans gr3.le).trans g20.le).trans g34.le).trans g48.le).trans g62.le).trans g76.le).trans g94.le).trans g120.le))) (F.mk (U.mono u3 (((((((((gr1.le.trans gr2.le).trans gr3.le).trans g20.le).trans g34.le).trans g48.le).trans g62.le).trans g76.le).trans g94.le).trans g120.le)) (U.mono u4 (((((((((gr1.le.trans gr2.le).trans gr3.le).trans g20.le).trans g34.le).trans g48.le).trans g62.le).trans g76.le).trans g94.le).trans g120.le))) (by omega)) (cx e106 (cx e107 cxn)) ?_)
 intro r18 h85 w98 gr27 hr18
 exact ⟨r18, h85, rfl, g120.trans gr27, fun j x _ => stab j _ _ _ _ x gr27, hr18⟩
 intro ρ73 h86 w99 g122 hdd59 hdo65
 have e108 : ρ73 4 = .pointer (some ⟨b8, 0, none⟩) := hdo65 4 rfl
 have e109 : ρ73 100 = .bool false := hdd59 16 (by decide)
 refine gL (d := 100) (b := false) ?_ ?_ ?_ ?_
 · rfl
 · rfl
 · exact e109
 have g123 := g95.trans g122
 refine (lA (cs := [.bool b.neg, .slice b3 b.n.length c3, .slice b4 b.d.length c4]) Tryd.isAgg24 Tryd.sizeOf24 e108 (g123.sat _ _ ((((((((gr3.le.trans g20.le).trans g34.le).trans g48.le).trans g62.le).trans g76.le).trans g94.le).trans g122.le) _ _ qb2)) rfl rfl ?_)
 exact ⟨_, h86, rfl, g122, fun j x _ p => p, rfl⟩
 intro ρ74 h87 w100 g124 hdd60 hdo66
 have e110 : ρ74 100 = .bool false := hdd60 16 (by decide)
 have q14 : Kn h87 (ρ74 103) (a.rat + b.rat) := hdd60 19 (by decide)
 have e111 : ρ74 104 = .agg #[.bool b.neg, .slice b3 b.n.length c3, .slice b4 b.d.length c4] := hdd60 20 (by decide)
 refine gL (d := 100) (b := false) ?_ ?_ ?_ ?_
 · rfl
 · rfl
 · exact e110
 have g125 := g95.trans g124
 refine (cF Tryd.call44 (Sub_c (a := frK (a.rat + b.rat)) (b := b) g125.sat q14 (F.mk (U.mono u3 (((((((((gr1.le.trans gr2.le).trans gr3.le).trans g20.le).trans g34.le).trans g48.le).trans g62.le).trans g76.le).trans g94.le).trans g124.le)) (U.mono u4 (((((((((gr1.le.trans gr2.le).trans gr3.le).trans g20.le).trans g34.le).trans g48.le).trans g62.le).trans g76.le).trans g94.le).trans g124.le))) (by first | omega | (simp only [bf_frK, frK_rat, wts_cons, wts_nil]; omega))) (cx rfl (cx e111 cxn)) ?_)
 intro r19 h88 w101 gr28 hr19
 simp only [frK_rat, bf_frK, val_digs] at hr19
 exact ⟨r19, h88, rfl, g124.trans gr28, fun j x _ => stab j _ _ _ _ x gr28, hr19⟩
 intro ρ75 h89 w102 g126 hdd61 hdo67
 have e112 : ρ75 3 = .pointer (some ⟨b7, 0, none⟩) := hdo67 3 rfl
 have e113 : ρ75 100 = .bool false := hdd61 16 (by decide)
 refine gL (d := 100) (b := false) ?_ ?_ ?_ ?_
 · rfl
 · rfl
 · exact e113
 have g127 := g95.trans g126
 refine (lA (cs := [.bool a.neg, .slice b1 a.n.length c1, .slice b2 a.d.length c2]) Tryd.isAgg24 Tryd.sizeOf24 e112 (g127.sat _ _ (((((((((gr2.le.trans gr3.le).trans g20.le).trans g34.le).trans g48.le).trans g62.le).trans g76.le).trans g94.le).trans g126.le) _ _ qb1)) rfl rfl ?_)
 exact ⟨_, h89, rfl, g126, fun j x _ p => p, rfl⟩
 intro ρ76 h90 w103 g128 hdd62 hdo68
 have e114 : ρ76 100 = .bool false := hdd62 16 (by decide)
 have e115 : ρ76 106 = .agg #[.bool a.neg, .slice b1 a.n.length c1, .slice b2 a.d.length c2] := hdd62 22 (by decide)
 refine gL (d := 100) (b := false) ?_ ?_ ?_ ?_
 · rfl
 · rfl
 · exact e114
 have g129 := g95.trans g128
 refine (cF Tryd.call50 (Canon_c (a := a) g129.sat (F.mk (U.mono u1 (((((((((gr1.le.trans gr2.le).trans gr3.le).trans g20.le).trans g34.le).trans g48.le).trans g62.le).trans g76.le).trans g94.le).trans g128.le)) (U.mono u2 (((((((((gr1.le.trans gr2.le).trans gr3.le).trans g20.le).trans g34.le).trans g48.le).trans g62.le).trans g76.le).trans g94.le).trans g128.le))) (by omega)) (cx e115 cxn) ?_)
 intro r20 h91 w104 gr29 hr20
 exact ⟨r20, h91, rfl, g128.trans gr29, fun j x _ => stab j _ _ _ _ x gr29, hr20⟩
 intro ρ77 h92 w105 g130 hdd63 hdo69
 have e116 : ρ77 100 = .bool false := hdd63 16 (by decide)
 have q15 : Kn h92 (ρ77 105) ((a.rat + b.rat) - b.rat) := hdd63 21 (by decide)
 have q16 : Kn h92 (ρ77 107) a.rat := hdd63 23 (by decide)
 refine gL (d := 100) (b := false) ?_ ?_ ?_ ?_
 · rfl
 · rfl
 · exact e116
 have g131 := g95.trans g130
 refine (cF Tryd.call22 (rSame_c (f := frK ((a.rat + b.rat) - b.rat)) (g := frK a.rat) g131.sat q15 q16 (by first | omega | (simp only [bf_frK, frK_rat, wts_cons, wts_nil]; omega)) (by first | omega | (simp only [bf_frK, frK_rat, wts_cons, wts_nil]; omega))) rfl ?_)
 intro r21 h93 w106 gr30 hr21
 replace hr21 := hr21.trans (congrArg Value.bool (sameF_cast (congrArg frK (by grind))))
 exact ⟨r21, h93, rfl, g130.trans gr30, fun j x _ => stab j _ _ _ _ x gr30, hr21⟩
 intro ρ78 h94 w107 g132 hdd64 hdo70
 have e117 : ρ78 100 = .bool false := hdd64 16 (by decide)
 have e118 : ρ78 108 = .bool true := hdd64 24 (by decide)
 refine gL (d := 100) (b := false) ?_ ?_ ?_ ?_
 · rfl
 · rfl
 · exact e117
 refine (OpW.notB (a := true) (r := false) e118 rfl ?_)
 exact ⟨_, h94, rfl, g132, fun j x _ p => p, rfl⟩
 intro ρ79 h95 w108 g133 hdd65 hdo71
 have e119 : ρ79 100 = .bool false := hdd65 16 (by decide)
 have e120 : ρ79 109 = .bool false := hdd65 25 (by decide)
 refine gP (pF (v := .bool false) e119 e120 ?_)
 exact ⟨_, h95, rfl, g133, fun j x _ p => p, rfl⟩
 intro ρ80 h96 w109 g134 hdd66 hdo72
 have e121 : ρ80 110 = .bool false := hdd66 26 (by decide)
 refine gP (OpW.move (v := .bool false) e121 ?_)
 exact ⟨_, h96, rfl, g134, fun j x _ p => p, rfl⟩
 intro ρ81 h97 w110 g135 hdd67 hdo73
 have e122 : ρ81 3 = .pointer (some ⟨b7, 0, none⟩) := hdo73 3 rfl
 have e123 : ρ81 111 = .bool false := hdd67 27 (by decide)
 refine gL (d := 111) (b := false) ?_ ?_ ?_ ?_
 · rfl
 · rfl
 · exact e123
 have g136 := g95.trans g135
 refine (lA (cs := [.bool a.neg, .slice b1 a.n.length c1, .slice b2 a.d.length c2]) Tryd.isAgg24 Tryd.sizeOf24 e122 (g136.sat _ _ (((((((((gr2.le.trans gr3.le).trans g20.le).trans g34.le).trans g48.le).trans g62.le).trans g76.le).trans g94.le).trans g135.le) _ _ qb1)) rfl rfl ?_)
 exact ⟨_, h97, rfl, g135, fun j x _ p => p, rfl⟩
 intro ρ82 h98 w111 g137 hdd68 hdo74
 have e124 : ρ82 3 = .pointer (some ⟨b7, 0, none⟩) := hdo74 3 rfl
 have e125 : ρ82 111 = .bool false := hdd68 27 (by decide)
 refine gL (d := 111) (b := false) ?_ ?_ ?_ ?_
 · rfl
 · rfl
 · exact e125
 have g138 := g95.trans g137
 refine (lA (cs := [.bool a.neg, .slice b1 a.n.length c1, .slice b2 a.d.length c2]) Tryd.isAgg24 Tryd.sizeOf24 e124 (g138.sat _ _ (((((((((gr2.le.trans gr3.le).trans g20.le).trans g34.le).trans g48.le).trans g62.le).trans g76.le).trans g94.le).trans g137.le) _ _ qb1)) rfl rfl ?_)
 exact ⟨_, h98, rfl, g137, fun j x _ p => p, rfl⟩
 intro ρ83 h99 w112 g139 hdd69 hdo75
 have e126 : ρ83 111 = .bool false := hdd69 27 (by decide)
 have e127 : ρ83 112 = .agg #[.bool a.neg, .slice b1 a.n.length c1, .slice b2 a.d.length c2] := hdd69 28 (by decide)
 have e128 : ρ83 113 = .agg #[.bool a.neg, .slice b1 a.n.length c1, .slice b2 a.d.length c2] := hdd69 29 (by decide)
 refine gL (d := 111) (b := false) ?_ ?_ ?_ ?_
 · rfl
 · rfl
 · exact e126
 have g140 := g95.trans g139
 refine (cF Tryd.call44 (Sub_c (a := a) (b := a) g140.sat (F.mk (U.mono u1 (((((((((gr1.le.trans gr2.le).trans gr3.le).trans g20.le).trans g34.le).trans g48.le).trans g62.le).trans g76.le).trans g94.le).trans g139.le)) (U.mono u2 (((((((((gr1.le.trans gr2.le).trans gr3.le).trans g20.le).trans g34.le).trans g48.le).trans g62.le).trans g76.le).trans g94.le).trans g139.le))) (F.mk (U.mono u1 (((((((((gr1.le.trans gr2.le).trans gr3.le).trans g20.le).trans g34.le).trans g48.le).trans g62.le).trans g76.le).trans g94.le).trans g139.le)) (U.mono u2 (((((((((gr1.le.trans gr2.le).trans gr3.le).trans g20.le).trans g34.le).trans g48.le).trans g62.le).trans g76.le).trans g94.le).trans g139.le))) (by omega)) (cx e127 (cx e128 cxn)) ?_)
 intro r22 h100 w113 gr31 hr22
 exact ⟨r22, h100, rfl, g139.trans gr31, fun j x _ => stab j _ _ _ _ x gr31, hr22⟩
 intro ρ84 h101 w114 g141 hdd70 hdo76
 have e129 : ρ84 111 = .bool false := hdd70 27 (by decide)
 have q17 : Kn h101 (ρ84 114) (a.rat - a.rat) := hdd70 30 (by decide)
 refine gL (d := 111) (b := false) ?_ ?_ ?_ ?_
 · rfl
 · rfl
 · exact e129
 have g142 := g95.trans g141
 refine (cF Tryd.call40 (Sign_c (a := frK (a.rat - a.rat)) g142.sat q17 (by first | omega | (simp only [bf_frK, frK_rat, wts_cons, wts_nil]; omega))) rfl ?_)
 intro r23 h102 w115 gr32 hr23
 simp only [frK_rat, bf_frK, val_digs] at hr23
 exact ⟨r23, h102, rfl, g141.trans gr32, fun j x _ => stab j _ _ _ _ x gr32, hr23⟩
 intro ρ85 h103 w116 g143 hdd71 hdo77
 have e130 : ρ85 111 = .bool false := hdd71 27 (by decide)
 have e131 : ρ85 115 = .int .i64 (sgQ (a.rat - a.rat)) := hdd71 31 (by decide)
 refine gL (d := 111) (b := false) ?_ ?_ ?_ ?_
 · rfl
 · rfl
 · exact e130
 refine (OpW.neqI (a := (sgQ (a.rat - a.rat))) (b := ((0 : Nat) : Int)) (r := false) e131 rfl (decide_eq_false (fun h => h (sgQ_zero.2 (by grind)))) ?_)
 exact ⟨_, h103, rfl, g143, fun j x _ p => p, rfl⟩
 intro ρ86 h104 w117 g144 hdd72 hdo78
 have e132 : ρ86 111 = .bool false := hdd72 27 (by decide)
 have e133 : ρ86 116 = .bool false := hdd72 32 (by decide)
 refine gP (pF (v := .bool false) e132 e133 ?_)
 exact ⟨_, h104, rfl, g144, fun j x _ p => p, rfl⟩
 intro ρ87 h105 w118 g145 hdp7 hdo79
 have e134 : ρ87 3 = .pointer (some ⟨b7, 0, none⟩) := hdo79 3 rfl
 have e135 : ρ87 4 = .pointer (some ⟨b8, 0, none⟩) := hdo79 4 rfl
 have e136 : ρ87 117 = .bool false := hdp7 33 rfl
 refine Ops.forget [(3, .pointer (some ⟨b7, 0, none⟩)), (4, .pointer (some ⟨b8, 0, none⟩)), (117, .bool false)] ⟨e134, e135, e136, trivial⟩ (fun ρ88 => (oN (Wp.cond_f rfl (Wp.skip (wS (sr ?_))))))
 have g146 := g95.trans g145
 refine oC (lA (cs := [.bool b.neg, .slice b3 b.n.length c3, .slice b4 b.d.length c4]) Tryd.isAgg24 Tryd.sizeOf24 rfl (g146.sat _ _ ((((((((gr3.le.trans g20.le).trans g34.le).trans g48.le).trans g62.le).trans g76.le).trans g94.le).trans g145.le) _ _ qb2)) rfl rfl ?_)
 refine oC (cF Tryd.call40 (Sign_c (a := b) g146.sat (F.mk (U.mono u3 (((((((((gr1.le.trans gr2.le).trans gr3.le).trans g20.le).trans g34.le).trans g48.le).trans g62.le).trans g76.le).trans g94.le).trans g145.le)) (U.mono u4 (((((((((gr1.le.trans gr2.le).trans gr3.le).trans g20.le).trans g34.le).trans g48.le).trans g62.le).trans g76.le).trans g94.le).trans g145.le))) (by omega)) rfl ?_)
 intro r24 h106 w119 gr33 hr24
 subst hr24
 refine oC (OpW.eqlI (a := (sgQ b.rat)) (b := ((0 : Nat) : Int)) (r := decide ((sgQ b.rat) = ((0 : Nat) : Int))) rfl rfl rfl (oN (Wp.cond (t := decide ((sgQ b.rat) = ((0 : Nat) : Int))) rfl (fun c25 => ?_) (fun c25 => ?_))))
 replace c25 : (sgQ b.rat) = ((0 : Nat) : Int) := (of_decide_eq_true c25)
 refine sr ?_
 have g147 := g146.trans gr33
 refine oC (cF Tryd.call20 (known_c  g147.sat (tb.mono ((((((((((gr1.le.trans gr2.le).trans gr3.le).trans g20.le).trans g34.le).trans g48.le).trans g62.le).trans g76.le).trans g94.le).trans g145.le).trans gr33.le)) ) rfl ?_)
 intro r25 h107 w120 gr34 hr25
 subst hr25
 refine ma (oN (Wp.ret (fin1_ret rfl (resOf_tmp (v := .bool true) rfl) ?_)))
 have g148 := g147.trans gr34
 refine ⟨h107, g148, ?_⟩
 exact rfl
 replace c25 : ¬ ((sgQ b.rat) = ((0 : Nat) : Int)) := (of_decide_eq_false c25)
 have hb0 : b.rat ≠ 0 := fun e => c25 (hz.2 e)
 refine Wp.skip (wS ?_)
 have g149 := g146.trans gr33
 have hf17 := bq_mul a.rat b.rat
 have hf18 := bq_div (a.rat * b.rat) b.rat
 refine Wp.dagL 10 [123, 124, 125, 126, 127, 122, 128, 129, 13, 13] [eqv (.agg #[.bool a.neg, .slice b1 a.n.length c1, .slice b2 a.d.length c2]), eqv (.agg #[.bool b.neg, .slice b3 b.n.length c3, .slice b4 b.d.length c4]), fun h _ x => Kn h x (a.rat * b.rat), eqv (.agg #[.bool b.neg, .slice b3 b.n.length c3, .slice b4 b.d.length c4]), fun h _ x => ∃ x7 x8, x = .tuple #[x7, x8] ∧ Kn h x7 ((a.rat * b.rat) / b.rat) ∧ x8 = .int .i64 (errDiv b.rat), fun h _ x => ∃ b34z c26z b35z c27z, x = .tuple #[.agg #[.bool ((frK ((a.rat * b.rat) / b.rat)).neg), .slice b34z ((frK ((a.rat * b.rat) / b.rat)).n.length) c26z, .slice b35z ((frK ((a.rat * b.rat) / b.rat)).d.length) c27z], .int .i64 (errDiv b.rat)] ∧ U h (.slice b34z ((frK ((a.rat * b.rat) / b.rat)).n.length) c26z) ((frK ((a.rat * b.rat) / b.rat)).n) ∧ U h (.slice b35z ((frK ((a.rat * b.rat) / b.rat)).d.length) c27z) ((frK ((a.rat * b.rat) / b.rat)).d), fun h _ x => ∃ b36z c28z b37z c29z, x = .agg #[.bool ((frK ((a.rat * b.rat) / b.rat)).neg), .slice b36z ((frK ((a.rat * b.rat) / b.rat)).n.length) c28z, .slice b37z ((frK ((a.rat * b.rat) / b.rat)).d.length) c29z] ∧ U h (.slice b36z ((frK ((a.rat * b.rat) / b.rat)).n.length) c28z) ((frK ((a.rat * b.rat) / b.rat)).n) ∧ U h (.slice b37z ((frK ((a.rat * b.rat) / b.rat)).d.length) c29z) ((frK ((a.rat * b.rat) / b.rat)).d), eqv (.int .i64 (errDiv b.rat)), OwnC w119.heap.size 3 24, StC w119.heap.size 24 (fun h _ x => ∃ b42z c32z b43z c33z, x = .agg #[.bool ((frK ((a.rat * b.rat) / b.rat)).neg), .slice b42z ((frK ((a.rat * b.rat) / b.rat)).n.length) c32z, .slice b43z ((frK ((a.rat * b.rat) / b.rat)).d.length) c33z] ∧ U h (.slice b42z ((frK ((a.rat * b.rat) / b.rat)).n.length) c32z) ((frK ((a.rat * b.rat) / b.rat)).n) ∧ U h (.slice b43z ((frK ((a.rat * b.rat) / b.rat)).d.length) c33z) ((frK ((a.rat * b.rat) / b.rat)).d))] mixed g149.sat rfl (by decide +kernel) ⟨sQ _, sQ _, (stab_K (a.rat * b.rat)), sQ _, (stab_tup2 (stab_K ((a.rat * b.rat) / b.rat)) (sQ _)), (fun _ _ _ _ _ g ⟨_, _, _, _, e, f0, f1⟩ => ⟨_, _, _, _, e, U.mono f0 g.le, U.mono f1 g.le⟩), (fun _ _ _ _ _ g ⟨_, _, _, _, e, f0, f1⟩ => ⟨_, _, _, _, e, U.mono f0 g.le, U.mono f1 g.le⟩), sQ _, stab_OwnC _ _ _, stab_StC (fun _ _ _ _ _ g ⟨_, _, _, _, e, f0, f1⟩ => ⟨_, _, _, _, e, U.mono f0 g.le, U.mono f1 g.le⟩), trivial⟩ ?_ ?_
 intro stab
 refine ⟨?_, ?_, ?_, ?_, ?_, ?_, ?_, ?_, ?_, ?_, trivial⟩
 intro ρ89 h108 w121 g150 hdd73 hdo80
 have e137 : ρ89 3 = .pointer (some ⟨b7, 0, none⟩) := hdo80 3 rfl
 have g151 := g149.trans g150
 refine gP (lA (cs := [.bool a.neg, .slice b1 a.n.length c1, .slice b2 a.d.length c2]) Tryd.isAgg24 Tryd.sizeOf24 e137 (g151.sat _ _ (((((((((((gr2.le.trans gr3.le).trans g20.le).trans g34.le).trans g48.le).trans g62.le).trans g76.le).trans g94.le).trans g145.le).trans gr33.le).trans g150.le) _ _ qb1)) rfl rfl ?_)
 exact ⟨_, h108, rfl, g150, fun j x _ p => p, rfl⟩
 intro ρ90 h109 w122 g152 hdd74 hdo81
 have e138 : ρ90 4 = .pointer (some ⟨b8, 0, none⟩) := hdo81 4 rfl
 have g153 := g149.trans g152
 refine gP (lA (cs := [.bool b.neg, .slice b3 b.n.length c3, .slice b4 b.d.length c4]) Tryd.isAgg24 Tryd.sizeOf24 e138 (g153.sat _ _ ((((((((((gr3.le.trans g20.le).trans g34.le).trans g48.le).trans g62.le).trans g76.le).trans g94.le).trans g145.le).trans gr33.le).trans g152.le) _ _ qb2)) rfl rfl ?_)
 exact ⟨_, h109, rfl, g152, fun j x _ p => p, rfl⟩
 intro ρ91 h110 w123 g154 hdd75 hdo82
 have e139 : ρ91 123 = .agg #[.bool a.neg, .slice b1 a.n.length c1, .slice b2 a.d.length c2] := hdd75 0 (by decide)
 have e140 : ρ91 124 = .agg #[.bool b.neg, .slice b3 b.n.length c3, .slice b4 b.d.length c4] := hdd75 1 (by decide)
 have g155 := g149.trans g154
 refine gP (cF Tryd.call48 (Mul_c (a := a) (b := b) g155.sat (F.mk (U.mono u1 (((((((((((gr1.le.trans gr2.le).trans gr3.le).trans g20.le).trans g34.le).trans g48.le).trans g62.le).trans g76.le).trans g94.le).trans g145.le).trans gr33.le).trans g154.le)) (U.mono u2 (((((((((((gr1.le.trans gr2.le).trans gr3.le).trans g20.le).trans g34.le).trans g48.le).trans g62.le).trans g76.le).trans g94.le).trans g145.le).trans gr33.le).trans g154.le))) (F.mk (U.mono u3 (((((((((((gr1.le.trans gr2.le).trans gr3.le).trans g20.le).trans g34.le).trans g48.le).trans g62.le).trans g76.le).trans g94.le).trans g145.le).trans gr33.le).trans g154.le)) (U.mono u4 (((((((((((gr1.le.trans gr2.le).trans gr3.le).trans g20.le).trans g34.le).trans g48.le).trans g62.le).trans g76.le).trans g94.le).trans g145.le).trans gr33.le).trans g154.le))) (by omega)) (cx e139 (cx e140 cxn)) ?_)
 intro r26 h111 w124 gr35 hr26
 exact ⟨r26, h111, rfl, g154.trans gr35, fun j x _ => stab j _ _ _ _ x gr35, hr26⟩
 intro ρ92 h112 w125 g156 hdd76 hdo83
 have e141 : ρ92 4 = .pointer (some ⟨b8, 0, none⟩) := hdo83 4 rfl
 have g157 := g149.trans g156
 refine gP (lA (cs := [.bool b.neg, .slice b3 b.n.length c3, .slice b4 b.d.length c4]) Tryd.isAgg24 Tryd.sizeOf24 e141 (g157.sat _ _ ((((((((((gr3.le.trans g20.le).trans g34.le).trans g48.le).trans g62.le).trans g76.le).trans g94.le).trans g145.le).trans gr33.le).trans g156.le) _ _ qb2)) rfl rfl ?_)
 exact ⟨_, h112, rfl, g156, fun j x _ p => p, rfl⟩
 intro ρ93 h113 w126 g158 hdd77 hdo84
 have q18 : Kn h113 (ρ93 125) (a.rat * b.rat) := hdd77 2 (by decide)
 have e142 : ρ93 126 = .agg #[.bool b.neg, .slice b3 b.n.length c3, .slice b4 b.d.length c4] := hdd77 3 (by decide)
 have g159 := g149.trans g158
 refine gP (cF Tryd.call47 (Div_c (a := frK (a.rat * b.rat)) (b := b) g159.sat q18 (F.mk (U.mono u3 (((((((((((gr1.le.trans gr2.le).trans gr3.le).trans g20.le).trans g34.le).trans g48.le).trans g62.le).trans g76.le).trans g94.le).trans g145.le).trans gr33.le).trans g158.le)) (U.mono u4 (((((((((((gr1.le.trans gr2.le).trans gr3.le).trans g20.le).trans g34.le).trans g48.le).trans g62.le).trans g76.le).trans g94.le).trans g145.le).trans gr33.le).trans g158.le))) (by first | omega | (simp only [bf_frK, frK_rat, wts_cons, wts_nil]; omega))) (cx rfl (cx e142 cxn)) ?_)
 intro r27 h114 w127 gr36 hr27
 simp only [frK_rat, bf_frK, val_digs] at hr27
 exact ⟨r27, h114, rfl, g158.trans gr36, fun j x _ => stab j _ _ _ _ x gr36, hr27⟩
 intro ρ94 h115 w128 g160 hdd78 hdo85
 have q19 : ∃ x9 x10, (ρ94 127) = .tuple #[x9, x10] ∧ Kn h115 x9 ((a.rat * b.rat) / b.rat) ∧ x10 = .int .i64 (errDiv b.rat) := hdd78 4 (by decide)
 obtain ⟨x11, hx13⟩ : ∃ x, ρ94 127 = x := ⟨_, rfl⟩
 rw [hx13] at q19
 obtain ⟨r28, r29, rfl, hr28, hr29⟩ := q19
 obtain ⟨b34, c26, b35, c27, rfl, k19, k20, u19, u20⟩ := F.shape hr28
 subst hr29
 refine gP (OpW.move (v := .tuple #[.agg #[.bool ((frK ((a.rat * b.rat) / b.rat)).neg), .slice b34 ((frK ((a.rat * b.rat) / b.rat)).n.length) c26, .slice b35 ((frK ((a.rat * b.rat) / b.rat)).d.length) c27], .int .i64 (errDiv b.rat)]) hx13 ?_)
 exact ⟨_, h115, rfl, g160, fun j x _ p => p, ⟨_, _, _, _, rfl, u19, u20⟩⟩
 intro ρ95 h116 w129 g161 hdd79 hdo86
 have q20 : ∃ b34z c26z b35z c27z, (ρ95 122) = .tuple #[.agg #[.bool ((frK ((a.rat * b.rat) / b.rat)).neg), .slice b34z ((frK ((a.rat * b.rat) / b.rat)).n.length) c26z, .slice b35z ((frK ((a.rat * b.rat) / b.rat)).d.length) c27z], .int .i64 (errDiv b.rat)] ∧ U h116 (.slice b34z ((frK ((a.rat * b.rat) / b.rat)).n.length) c26z) ((frK ((a.rat * b.rat) / b.rat)).n) ∧ U h116 (.slice b35z ((frK ((a.rat * b.rat) / b.rat)).d.length) c27z) ((frK ((a.rat * b.rat) / b.rat)).d) := hdd79 5 (by decide)
 obtain ⟨b36, c28, b37, c29, e143, q21, q22⟩ := q20
 have e143 : ρ95 122 = .tuple #[.agg #[.bool ((frK ((a.rat * b.rat) / b.rat)).neg), .slice b36 ((frK ((a.rat * b.rat) / b.rat)).n.length) c28, .slice b37 ((frK ((a.rat * b.rat) / b.rat)).d.length) c29], .int .i64 (errDiv b.rat)] := e143
 refine gP (OpW.extract (v := .agg #[.bool ((frK ((a.rat * b.rat) / b.rat)).neg), .slice b36 ((frK ((a.rat * b.rat) / b.rat)).n.length) c28, .slice b37 ((frK ((a.rat * b.rat) / b.rat)).d.length) c29]) e143 rfl ?_)
 exact ⟨_, h116, rfl, g161, fun j x _ p => p, ⟨_, _, _, _, rfl, q21, q22⟩⟩
 intro ρ96 h117 w130 g162 hdd80 hdo87
 have q23 : ∃ b34z c26z b35z c27z, (ρ96 122) = .tuple #[.agg #[.bool ((frK ((a.rat * b.rat) / b.rat)).neg), .slice b34z ((frK ((a.rat * b.rat) / b.rat)).n.length) c26z, .slice b35z ((frK ((a.rat * b.rat) / b.rat)).d.length) c27z], .int .i64 (errDiv b.rat)] ∧ U h117 (.slice b34z ((frK ((a.rat * b.rat) / b.rat)).n.length) c26z) ((frK ((a.rat * b.rat) / b.rat)).n) ∧ U h117 (.slice b35z ((frK ((a.rat * b.rat) / b.rat)).d.length) c27z) ((frK ((a.rat * b.rat) / b.rat)).d) := hdd80 5 (by decide)
 obtain ⟨b38, c30, b39, c31, e144, q24, q25⟩ := q23
 have e144 : ρ96 122 = .tuple #[.agg #[.bool ((frK ((a.rat * b.rat) / b.rat)).neg), .slice b38 ((frK ((a.rat * b.rat) / b.rat)).n.length) c30, .slice b39 ((frK ((a.rat * b.rat) / b.rat)).d.length) c31], .int .i64 (errDiv b.rat)] := e144
 refine gP (OpW.extract (v := .int .i64 (errDiv b.rat)) e144 rfl ?_)
 exact ⟨_, h117, rfl, g162, fun j x _ p => p, rfl⟩
 intro ρ97 h118 w131 g163 hdd81 hdo88
 have g164 := g149.trans g163
 refine gP (OpW.allocO (arr := #[.bool false, .slice none 0 0, .slice none 0 0]) g164.sat Tryd.zeroValue24 rfl ?_)
 intro b40 w132 gr37 n13 lo19 o35
 exact ⟨_, h118, rfl, g163.trans gr37, fun j x _ => stab j _ _ _ _ x gr37, b40, _, rfl, Nat.le_trans g163.ext.size lo19, n13, o35, rfl⟩
 intro ρ98 h119 w133 g165 hdd82 hdo89
 obtain ⟨b41, a1, hx14, lo20, n14, o36, hz1⟩ : OwnC w119.heap.size 3 24 h119 w133 (ρ98 13) := hdd82 8 (by decide)
 have q26 : ∃ b36z c28z b37z c29z, (ρ98 128) = .agg #[.bool ((frK ((a.rat * b.rat) / b.rat)).neg), .slice b36z ((frK ((a.rat * b.rat) / b.rat)).n.length) c28z, .slice b37z ((frK ((a.rat * b.rat) / b.rat)).d.length) c29z] ∧ U h119 (.slice b36z ((frK ((a.rat * b.rat) / b.rat)).n.length) c28z) ((frK ((a.rat * b.rat) / b.rat)).n) ∧ U h119 (.slice b37z ((frK ((a.rat * b.rat) / b.rat)).d.length) c29z) ((frK ((a.rat * b.rat) / b.rat)).d) := hdd82 6 (by decide)
 obtain ⟨b42, c32, b43, c33, e145, q27, q28⟩ := q26
 have e145 : ρ98 128 = .agg #[.bool ((frK ((a.rat * b.rat) / b.rat)).neg), .slice b42 ((frK ((a.rat * b.rat) / b.rat)).n.length) c32, .slice b43 ((frK ((a.rat * b.rat) / b.rat)).d.length) c33] := e145
 refine gP (sR (cs := [.bool ((frK ((a.rat * b.rat) / b.rat)).neg), .slice b42 ((frK ((a.rat * b.rat) / b.rat)).n.length) c32, .slice b43 ((frK ((a.rat * b.rat) / b.rat)).d.length) c33]) Tryd.sizeOf24 rfl hx14 e145 rfl o36 (by rw [hz1]; decide) ?_)
 intro w134 p7
 rw [putIn_all (by exact hz1)] at p7
 exact ⟨undef, h119, rfl, g165.put p7 n14 lo20, (fun j x hj p => match j, hj, p with | 0, _, p => p | 1, _, p => p | 2, _, p => p | 3, _, p => p | 4, _, p => p | 5, _, p => p | 6, _, p => p | 7, _, p => p | 8, _, p => OwnC.put p7 rfl p | 9, hj, _ => absurd rfl hj | _ + 10, _, p => p), b41, _, hx14, lo20, n14, p7.at_, ⟨_, _, _, _, rfl, q27, q28⟩⟩
 intro ρ99 h120 w135 g166 hdp8 hdo90
 have o37 := gr33.kp (g145.kp (p6.kp ne11 (g94.kp o23)))
 have o38 := gr33.kp (g145.kp (p6.kp ne12 (g94.kp o24)))
 have o39 := gr33.kp (g145.kp (p6.kp ne13 (g94.kp o25)))
 have o40 := gr33.kp (g145.kp (p6.kp ne14 (g94.kp o26)))
 have o41 := gr33.kp (g145.kp (p6.kp ne15 (g94.kp ⟨p5.at_, n10⟩)))
 have o42 := gr33.kp (g145.kp ⟨p6.at_, n12⟩)
 have e146 : ρ99 3 = .pointer (some ⟨b7, 0, none⟩) := hdo90 3 rfl
 have e147 : ρ99 4 = .pointer (some ⟨b8, 0, none⟩) := hdo90 4 rfl
 obtain ⟨b44, a2, hx15, lo21, n15, o43, q29⟩ : StC w119.heap.size 24 (fun h _ x => ∃ b42z c32z b43z c33z, x = .agg #[.bool ((frK ((a.rat * b.rat) / b.rat)).neg), .slice b42z ((frK ((a.rat * b.rat) / b.rat)).n.length) c32z, .slice b43z ((frK ((a.rat * b.rat) / b.rat)).d.length) c33z] ∧ U h (.slice b42z ((frK ((a.rat * b.rat) / b.rat)).n.length) c32z) ((frK ((a.rat * b.rat) / b.rat)).n) ∧ U h (.slice b43z ((frK ((a.rat * b.rat) / b.rat)).d.length) c33z) ((frK ((a.rat * b.rat) / b.rat)).d)) h120 w135 (ρ99 13) := hdp8 9 rfl
 have lo22 := Nat.le_trans g149.ext.size lo21
 obtain ⟨b45, c34, b46, c35, e148, q30, q31⟩ := q29
 obtain rfl := Value.agg.inj e148
 have ne16 : b11 ≠ b44 := Nat.ne_of_lt (Nat.lt_of_lt_of_le (blk_lt o37.1) lo21)
 have ne17 : b15 ≠ b44 := Nat.ne_of_lt (Nat.lt_of_lt_of_le (blk_lt o38.1) lo21)
 have ne18 : b19 ≠ b44 := Nat.ne_of_lt (Nat.lt_of_lt_of_le (blk_lt o39.1) lo21)
 have ne19 : b23 ≠ b44 := Nat.ne_of_lt (Nat.lt_of_lt_of_le (blk_lt o40.1) lo21)
 have ne20 : b27 ≠ b44 := Nat.ne_of_lt (Nat.lt_of_lt_of_le (blk_lt o41.1) lo21)
 have ne21 : b31 ≠ b44 := Nat.ne_of_lt (Nat.lt_of_lt_of_le (blk_lt o42.1) lo21)
 have e149 : ρ99 129 = .int .i64 (errDiv b.rat) := hdp8 7 rfl
 refine Ops.forget [(3, .pointer (some ⟨b7, 0, none⟩)), (4, .pointer (some ⟨b8, 0, none⟩)), (13, .pointer (some ⟨b44, 0, none⟩)), (129, .int .i64 (errDiv b.rat))] ⟨e146, e147, hx15, e149, trivial⟩ (fun ρ100 => (ma (oN (sr ?_))))
 have g167 := g149.trans g166
 refine oC (lA (cs := [.bool b.neg, .slice b3 b.n.length c3, .slice b4 b.d.length c4]) Tryd.isAgg24 Tryd.sizeOf24 rfl (g167.sat _ _ ((((((((((gr3.le.trans g20.le).trans g34.le).trans g48.le).trans g62.le).trans g76.le).trans g94.le).trans g145.le).trans gr33.le).trans g166.le) _ _ qb2)) rfl rfl ?_)
 refine oC (lA (cs := [.bool b.neg, .slice b3 b.n.length c3, .slice b4 b.d.length c4]) Tryd.isAgg24 Tryd.sizeOf24 rfl (g167.sat _ _ ((((((((((gr3.le.trans g20.le).trans g34.le).trans g48.le).trans g62.le).trans g76.le).trans g94.le).trans g145.le).trans gr33.le).trans g166.le) _ _ qb2)) rfl rfl ?_)
 refine oC (cF Tryd.call47 (Div_c (a := b) (b := b) g167.sat (F.mk (U.mono u3 (((((((((((gr1.le.trans gr2.le).trans gr3.le).trans g20.le).trans g34.le).trans g48.le).trans g62.le).trans g76.le).trans g94.le).trans g145.le).trans gr33.le).trans g166.le)) (U.mono u4 (((((((((((gr1.le.trans gr2.le).trans gr3.le).trans g20.le).trans g34.le).trans g48.le).trans g62.le).trans g76.le).trans g94.le).trans g145.le).trans gr33.le).trans g166.le))) (F.mk (U.mono u3 (((((((((((gr1.le.trans gr2.le).trans gr3.le).trans g20.le).trans g34.le).trans g48.le).trans g62.le).trans g76.le).trans g94.le).trans g145.le).trans gr33.le).trans g166.le)) (U.mono u4 (((((((((((gr1.le.trans gr2.le).trans gr3.le).trans g20.le).trans g34.le).trans g48.le).trans g62.le).trans g76.le).trans g94.le).trans g145.le).trans gr33.le).trans g166.le))) (by omega)) rfl ?_)
 intro r30 h121 w136 gr38 hr30
 have hf19 := bq_div b.rat b.rat
 obtain ⟨r31, r32, rfl, hr31, hr32⟩ := hr30
 obtain ⟨b47, c36, b48, c37, rfl, k21, k22, u21, u22⟩ := F.shape hr31
 subst hr32
 refine mv (oC (OpW.extract (v := .agg #[.bool ((frK (b.rat / b.rat)).neg), .slice b47 ((frK (b.rat / b.rat)).n.length) c36, .slice b48 ((frK (b.rat / b.rat)).d.length) c37]) rfl rfl ?_))
 refine oC (OpW.extract (v := .int .i64 (errDiv b.rat)) rfl rfl ?_)
 have g168 := g167.trans gr38
 have o45 := gr38.kp (g166.kp o37)
 have lt1 := blk_lt o45.1
 have o46 := gr38.kp (g166.kp o38)
 have lt2 := blk_lt o46.1
 have o47 := gr38.kp (g166.kp o39)
 have lt3 := blk_lt o47.1
 have o48 := gr38.kp (g166.kp o40)
 have lt4 := blk_lt o48.1
 have o49 := gr38.kp (g166.kp o41)
 have lt5 := blk_lt o49.1
 have o50 := gr38.kp (g166.kp o42)
 have lt6 := blk_lt o50.1
 have o51 := gr38.kp ⟨o43, n15⟩
 have lt7 := blk_lt o51.1
 refine oC (OpW.allocO (arr := #[.bool false, .slice none 0 0, .slice none 0 0]) g168.sat Tryd.zeroValue24 rfl ?_)
 intro b49 w137 gr39 n16 lo23 o44
 have lo24 := Nat.le_trans g168.ext.size lo23
 have ne22 : b11 ≠ b49 := Nat.ne_of_lt (Nat.lt_of_lt_of_le lt1 lo23)
 have ne23 : b15 ≠ b49 := Nat.ne_of_lt (Nat.lt_of_lt_of_le lt2 lo23)
 have ne24 : b19 ≠ b49 := Nat.ne_of_lt (Nat.lt_of_lt_of_le lt3 lo23)
 have ne25 : b23 ≠ b49 := Nat.ne_of_lt (Nat.lt_of_lt_of_le lt4 lo23)
 have ne26 : b27 ≠ b49 := Nat.ne_of_lt (Nat.lt_of_lt_of_le lt5 lo23)
 have ne27 : b31 ≠ b49 := Nat.ne_of_lt (Nat.lt_of_lt_of_le lt6 lo23)
 have ne28 : b44 ≠ b49 := Nat.ne_of_lt (Nat.lt_of_lt_of_le lt7 lo23)
 refine oC (sA (cs := [.bool ((frK (b.rat / b.rat)).neg), .slice b47 ((frK (b.rat / b.rat)).n.length) c36, .slice b48 ((frK (b.rat / b.rat)).d.length) c37]) Tryd.sizeOf24 rfl rfl rfl rfl o44 rfl ?_)
 intro w138 p8
 refine ma (oN (wS (fg [(3, .pointer (some ⟨b7, 0, none⟩)), (13, .pointer (some ⟨b44, 0, none⟩)), (14, .int .i64 (errDiv b.rat)), (15, .pointer (some ⟨b49, 0, none⟩)), (16, .int .i64 (errDiv b.rat))] rfl (fun ρ101 => ?_))))
 have g169 := (g168.trans gr39).put p8 n16 lo24
 refine Wp.dagL 21 [136, 137, 138, 139, 140, 141, 142, 143, 144, 145, 146, 147, 148, 149, 150, 151, 152, 153, 154, 155, 6] [eqv (.int .i64 (errDiv b.rat)), eqv (.bool true), eqv (.bool true), eqv (.int .i64 (errDiv b.rat)), eqv (.bool true), eqv (.bool true), eqv (.bool true), eqv (.agg #[.bool ((frK ((a.rat * b.rat) / b.rat)).neg), .slice b45 ((frK ((a.rat * b.rat) / b.rat)).n.length) c34, .slice b46 ((frK ((a.rat * b.rat) / b.rat)).d.length) c35]), eqv (.agg #[.bool a.neg, .slice b1 a.n.length c1, .slice b2 a.d.length c2]), fun h _ x => Kn h x a.rat, eqv (.bool true), eqv (.bool true), eqv (.bool true), eqv (.agg #[.bool ((frK (b.rat / b.rat)).neg), .slice b47 ((frK (b.rat / b.rat)).n.length) c36, .slice b48 ((frK (b.rat / b.rat)).d.length) c37]), fun h _ x => Kn h x ((((1 : Nat) : Int) : Int) : Rat), eqv (.bool true), eqv (.bool true), eqv (.bool true), eqv (.bool true), eqv (.bool true), eqv (.bool true)] mixed g169.sat rfl (by decide +kernel) ⟨sQ _, sQ _, sQ _, sQ _, sQ _, sQ _, sQ _, sQ _, sQ _, (stab_K a.rat), sQ _, sQ _, sQ _, sQ _, (stab_K ((((1 : Nat) : Int) : Int) : Rat)), sQ _, sQ _, sQ _, sQ _, sQ _, sQ _, trivial⟩ ?_ ?_
 intro stab
 refine ⟨?_, ?_, ?_, ?_, ?_, ?_, ?_, ?_, ?_, ?_, ?_, ?_, ?_, ?_, ?_, ?_, ?_, ?_, ?_, ?_, ?_, trivial⟩
 intro ρ102 h122 w139 g170 hdd83 hdo91
 have e150 : ρ102 14 = .int .i64 (errDiv b.rat) := hdo91 14 rfl
 refine gP (OpW.move (v := .int .i64 (errDiv b.rat)) e150 ?_)
 exact ⟨_, h122, rfl, g170, fun j x _ p => p, rfl⟩
 intro ρ103 h123 w140 g171 hdd84 hdo92
 have e151 : ρ103 136 = .int .i64 (errDiv b.rat) := hdd84 0 (by decide)
 refine gP (OpW.eqlI (a := (errDiv b.rat)) (b := ((0 : Nat) : Int)) (r := true) e151 rfl (decide_eq_true (by unfold errDiv; rw [if_neg hb0]; rfl)) ?_)
 exact ⟨_, h123, rfl, g171, fun j x _ p => p, rfl⟩
 intro ρ104 h124 w141 g172 hdd85 hdo93
 have e152 : ρ104 137 = .bool true := hdd85 1 (by decide)
 refine gP (OpW.move (v := .bool true) e152 ?_)
 exact ⟨_, h124, rfl, g172, fun j x _ p => p, rfl⟩
 intro ρ105 h125 w142 g173 hdd86 hdo94
 have e153 : ρ105 16 = .int .i64 (errDiv b.rat) := hdo94 16 rfl
 have e154 : ρ105 138 = .bool true := hdd86 2 (by decide)
 refine gL (d := 138) (b := true) ?_ ?_ ?_ ?_
 · rfl
 · rfl
 · exact e154
 refine (OpW.move (v := .int .i64 (errDiv b.rat)) e153 ?_)
 exact ⟨_, h125, rfl, g173, fun j x _ p => p, rfl⟩
 intro ρ106 h126 w143 g174 hdd87 hdo95
 have e155 : ρ106 138 = .bool true := hdd87 2 (by decide)
 have e156 : ρ106 139 = .int .i64 (errDiv b.rat) := hdd87 3 (by decide)
 refine gL (d := 138) (b := true) ?_ ?_ ?_ ?_
 · rfl
 · rfl
 · exact e155
 refine (OpW.eqlI (a := (errDiv b.rat)) (b := ((0 : Nat) : Int)) (r := true) e156 rfl (decide_eq_true (by unfold errDiv; rw [if_neg hb0]; rfl)) ?_)
 exact ⟨_, h126, rfl, g174, fun j x _ p => p, rfl⟩
 intro ρ107 h127 w144 g175 hdd88 hdo96
 have e157 : ρ107 138 = .bool true := hdd88 2 (by decide)
 have e158 : ρ107 140 = .bool true := hdd88 4 (by decide)
 refine gP (pT (v := .bool true) e157 e158 ?_)
 exact ⟨_, h127, rfl, g175, fun j x _ p => p, rfl⟩
 intro ρ108 h128 w145 g176 hdd89 hdo97
 have e159 : ρ108 141 = .bool true := hdd89 5 (by decide)
 refine gP (OpW.move (v := .bool true) e159 ?_)
 exact ⟨_, h128, rfl, g176, fun j x _ p => p, rfl⟩
 intro ρ109 h129 w146 g177 hdd90 hdo98
 have e160 : ρ109 13 = .pointer (some ⟨b44, 0, none⟩) := hdo98 13 rfl
 have e161 : ρ109 142 = .bool true := hdd90 6 (by decide)
 refine gL (d := 142) (b := true) ?_ ?_ ?_ ?_
 · rfl
 · rfl
 · exact e161
 have o53 := g177.kp (p8.kp ne28 (gr39.kp o51))
 refine (lA (cs := [.bool ((frK ((a.rat * b.rat) / b.rat)).neg), .slice b45 ((frK ((a.rat * b.rat) / b.rat)).n.length) c34, .slice b46 ((frK ((a.rat * b.rat) / b.rat)).d.length) c35]) Tryd.isAgg24 Tryd.sizeOf24 e160 o53.1 rfl rfl ?_)
 exact ⟨_, h129, rfl, g177, fun j x _ p => p, rfl⟩
 intro ρ110 h130 w147 g178 hdd91 hdo99
 have e162 : ρ110 3 = .pointer (some ⟨b7, 0, none⟩) := hdo99 3 rfl
 have e163 : ρ110 142 = .bool true := hdd91 6 (by decide)
 refine gL (d := 142) (b := true) ?_ ?_ ?_ ?_
 · rfl
 · rfl
 · exact e163
 have g179 := g169.trans g178
 refine (lA (cs := [.bool a.neg, .slice b1 a.n.length c1, .slice b2 a.d.length c2]) Tryd.isAgg24 Tryd.sizeOf24 e162 (g179.sat _ _ (((((((((((((gr2.le.trans gr3.le).trans g20.le).trans g34.le).trans g48.le).trans g62.le).trans g76.le).trans g94.le).trans g145.le).trans gr33.le).trans g166.le).trans gr38.le).trans g178.le) _ _ qb1)) rfl rfl ?_)
 exact ⟨_, h130, rfl, g178, fun j x _ p => p, rfl⟩
 intro ρ111 h131 w148 g180 hdd92 hdo100
 have e164 : ρ111 142 = .bool true := hdd92 6 (by decide)
 have e165 : ρ111 144 = .agg #[.bool a.neg, .slice b1 a.n.length c1, .slice b2 a.d.length c2] := hdd92 8 (by decide)
 refine gL (d := 142) (b := true) ?_ ?_ ?_ ?_
 · rfl
 · rfl
 · exact e164
 have g181 := g169.trans g180
 refine (cF Tryd.call50 (Canon_c (a := a) g181.sat (F.mk (U.mono u1 (((((((((((((gr1.le.trans gr2.le).trans gr3.le).trans g20.le).trans g34.le).trans g48.le).trans g62.le).trans g76.le).trans g94.le).trans g145.le).trans gr33.le).trans g166.le).trans gr38.le).trans g180.le)) (U.mono u2 (((((((((((((gr1.le.trans gr2.le).trans gr3.le).trans g20.le).trans g34.le).trans g48.le).trans g62.le).trans g76.le).trans g94.le).trans g145.le).trans gr33.le).trans g166.le).trans gr38.le).trans g180.le))) (by omega)) (cx e165 cxn) ?_)
 intro r33 h132 w149 gr40 hr33
 exact ⟨r33, h132, rfl, g180.trans gr40, fun j x _ => stab j _ _ _ _ x gr40, hr33⟩
 intro ρ112 h133 w150 g182 hdd93 hdo101
 have e166 : ρ112 142 = .bool true := hdd93 6 (by decide)
 have e167 : ρ112 143 = .agg #[.bool ((frK ((a.rat * b.rat) / b.rat)).neg), .slice b45 ((frK ((a.rat * b.rat) / b.rat)).n.length) c34, .slice b46 ((frK ((a.rat * b.rat) / b.rat)).d.length) c35] := hdd93 7 (by decide)
 have q32 : Kn h133 (ρ112 145) a.rat := hdd93 9 (by decide)
 refine gL (d := 142) (b := true) ?_ ?_ ?_ ?_
 · rfl
 · rfl
 · exact e166
 have g183 := g169.trans g182
 refine (cF Tryd.call22 (rSame_c (f := frK ((a.rat * b.rat) / b.rat)) (g := frK a.rat) g183.sat (F.mk (U.mono q30 (gr38.le.trans g182.le)) (U.mono q31 (gr38.le.trans g182.le))) q32 (by first | omega | (simp only [bf_frK, frK_rat, wts_cons, wts_nil]; omega)) (by first | omega | (simp only [bf_frK, frK_rat, wts_cons, wts_nil]; omega))) (cx e167 (cx rfl cxn)) ?_)
 intro r34 h134 w151 gr41 hr34
 replace hr34 := hr34.trans (congrArg Value.bool (sameF_cast (congrArg frK (by rw [Rat.div_def, Rat.mul_assoc, Rat.mul_inv_cancel _ hb0, Rat.mul_one]))))
 exact ⟨r34, h134, rfl, g182.trans gr41, fun j x _ => stab j _ _ _ _ x gr41, hr34⟩
 intro ρ113 h135 w152 g184 hdd94 hdo102
 have e168 : ρ113 142 = .bool true := hdd94 6 (by decide)
 have e169 : ρ113 146 = .bool true := hdd94 10 (by decide)
 refine gP (pT (v := .bool true) e168 e169 ?_)
 exact ⟨_, h135, rfl, g184, fun j x _ p => p, rfl⟩
 intro ρ114 h136 w153 g185 hdd95 hdo103
 have e170 : ρ114 147 = .bool true := hdd95 11 (by decide)
 refine gP (OpW.move (v := .bool true) e170 ?_)
 exact ⟨_, h136, rfl, g185, fun j x _ p => p, rfl⟩
 intro ρ115 h137 w154 g186 hdd96 hdo104
 have e171 : ρ115 15 = .pointer (some ⟨b49, 0, none⟩) := hdo104 15 rfl
 have e172 : ρ115 148 = .bool true := hdd96 12 (by decide)
 refine gL (d := 148) (b := true) ?_ ?_ ?_ ?_
 · rfl
 · rfl
 · exact e172
 have o54 := g186.kp ⟨p8.at_, n16⟩
 refine (lA (cs := [.bool ((frK (b.rat / b.rat)).neg), .slice b47 ((frK (b.rat / b.rat)).n.length) c36, .slice b48 ((frK (b.rat / b.rat)).d.length) c37]) Tryd.isAgg24 Tryd.sizeOf24 e171 o54.1 rfl rfl ?_)
 exact ⟨_, h137, rfl, g186, fun j x _ p => p, rfl⟩
 intro ρ116 h138 w155 g187 hdd97 hdo105
 have e173 : ρ116 148 = .bool true := hdd97 12 (by decide)
 refine gL (d := 148) (b := true) ?_ ?_ ?_ ?_
 · rfl
 · rfl
 · exact e173
 have g188 := g169.trans g187
 refine (cF Tryd.call51 (Of_c (n := ((1 : Nat) : Int)) g188.sat  (by omega) (by omega)) rfl ?_)
 intro r35 h139 w156 gr42 hr35
 exact ⟨r35, h139, rfl, g187.trans gr42, fun j x _ => stab j _ _ _ _ x gr42, hr35⟩
 intro ρ117 h140 w157 g189 hdd98 hdo106
 have e174 : ρ117 148 = .bool true := hdd98 12 (by decide)
 have e175 : ρ117 149 = .agg #[.bool ((frK (b.rat / b.rat)).neg), .slice b47 ((frK (b.rat / b.rat)).n.length) c36, .slice b48 ((frK (b.rat / b.rat)).d.length) c37] := hdd98 13 (by decide)
 have q33 : Kn h140 (ρ117 150) ((((1 : Nat) : Int) : Int) : Rat) := hdd98 14 (by decide)
 refine gL (d := 148) (b := true) ?_ ?_ ?_ ?_
 · rfl
 · rfl
 · exact e174
 have g190 := g169.trans g189
 refine (cF Tryd.call22 (rSame_c (f := frK (b.rat / b.rat)) (g := frK ((((1 : Nat) : Int) : Int) : Rat)) g190.sat (F.mk (U.mono u21 g189.le) (U.mono u22 g189.le)) q33 (by first | omega | (simp only [bf_frK, frK_rat, wts_cons, wts_nil]; omega)) (by first | omega | (simp only [bf_frK, frK_rat, wts_cons, wts_nil]; omega))) (cx e175 (cx rfl cxn)) ?_)
 intro r36 h141 w158 gr43 hr36
 replace hr36 := hr36.trans (congrArg Value.bool (sameF_cast (congrArg frK (by rw [Rat.div_def, Rat.mul_inv_cancel _ hb0]; rfl))))
 exact ⟨r36, h141, rfl, g189.trans gr43, fun j x _ => stab j _ _ _ _ x gr43, hr36⟩
 intro ρ118 h142 w159 g191 hdd99 hdo107
 have e176 : ρ118 148 = .bool true := hdd99 12 (by decide)
 have e177 : ρ118 151 = .bool true := hdd99 15 (by decide)
 refine gP (pT (v := .bool true) e176 e177 ?_)
 exact ⟨_, h142, rfl, g191, fun j x _ p => p, rfl⟩
 intro ρ119 h143 w160 g192 hdd100 hdo108
 have e178 : ρ119 152 = .bool true := hdd100 16 (by decide)
 refine gP (OpW.move (v := .bool true) e178 ?_)
 exact ⟨_, h143, rfl, g192, fun j x _ p => p, rfl⟩
 intro ρ120 h144 w161 g193 hdd101 hdo109
 have e179 : ρ120 153 = .bool true := hdd101 17 (by decide)
 refine gL (d := 153) (b := true) ?_ ?_ ?_ ?_
 · rfl
 · rfl
 · exact e179
 have g194 := g169.trans g193
 refine (cF Tryd.call20 (known_c  g194.sat (tb.mono (((((((((((((gr1.le.trans gr2.le).trans gr3.le).trans g20.le).trans g34.le).trans g48.le).trans g62.le).trans g76.le).trans g94.le).trans g145.le).trans gr33.le).trans g166.le).trans gr38.le).trans g193.le)) ) rfl ?_)
 intro r37 h145 w162 gr44 hr37
 exact ⟨r37, h145, rfl, g193.trans gr44, fun j x _ => stab j _ _ _ _ x gr44, hr37⟩
 intro ρ121 h146 w163 g195 hdd102 hdo110
 have e180 : ρ121 153 = .bool true := hdd102 17 (by decide)
 have e181 : ρ121 154 = .bool true := hdd102 18 (by decide)
 refine gP (pT (v := .bool true) e180 e181 ?_)
 exact ⟨_, h146, rfl, g195, fun j x _ p => p, rfl⟩
 intro ρ122 h147 w164 g196 hdd103 hdo111
 have e182 : ρ122 155 = .bool true := hdd103 19 (by decide)
 refine gP (OpW.assign (v := .bool true) e182 ?_)
 exact ⟨_, h147, rfl, g196, fun j x _ p => p, rfl⟩
 intro ρ123 h148 w165 g197 hdp9 hdo112
 have e183 : ρ123 6 = .bool true := hdp9 20 rfl
 refine Ops.forget [(6, .bool true)] ⟨e183, trivial⟩ (fun ρ124 => (oN (Wp.ret (fin1_ret rfl (resOf_tmp (v := .bool true) rfl) ?_))))
 have g198 := g169.trans g197
 refine ⟨h148, g198, ?_⟩
 exact rfl
end Go.Ear
