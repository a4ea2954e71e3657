/- About package frac: LawFracLists. -/
import Derived.Test.YtmidncjhlnfojaaDoorNatLaw2
import Derived.Test.YtmidncjhlnfojaaDoorEarShort
import Derived.Test.YtmidncjhlnfojaaDoorProg
import Derived.Test.YtmidncjhlnfojaaDoorNatLaw3
import Derived.Test.YtmidncjhlnfojaaDoorEarFrac
import Derived.Test.YtmidncjhlnfojaaDoorEarDec
import Derived.Test.YtmidncjhlnfojaaDoorItoaLay
import Derived.Lib.ItoaMem
import Derived.Test.YtmidncjhlnfojaaDoorEarApi
import Derived.Test.YtmidncjhlnfojaaDoorEarRef2
import Derived.Test.YtmidncjhlnfojaaDoorEarLaw
import Derived.Test.YtmidncjhlnfojaaDoorEarWhole
import Derived.Test.YtmidncjhlnfojaaDoorEarLaw2
import Derived.Test.YtmidncjhlnfojaaDoorK14
import Derived.Test.YtmidncjhlnfojaaDoorK6
import Derived.Test.YtmidncjhlnfojaaDoorK8
import Derived.Test.YtmidncjhlnfojaaDoorX12
import Derived.Test.YtmidncjhlnfojaaDoorX6
import Derived.Test.YtmidncjhlnfojaaDoorX8
import Derived.Test.YtmidncjhlnfojaaDoorXrBest
import Derived.Test.YtmidncjhlnfojaaDoorXrDistribution
import Derived.Test.YtmidncjhlnfojaaDoorXrProduct
import Derived.Test.YtmidncjhlnfojaaDoorXrSum
set_option linter.all false
namespace Go.Ear
open Go.Proofs
set_option maxRecDepth 20000
set_option linter.unusedVariables false
set_option maxHeartbeats 2000000
theorem fracLists_c {h : PH} {w : World} {v0 : Value} {l : List (Fr)} (hs : Sat h w) (tb : Tab h) (pv0 : LR rpF h v0 l) :
    Calls Tryd.prog 18 #[v0] w (Ret h w fun h' r => r = .bool true) := by
 obtain ⟨b1, c1, rfl, k1⟩ := LR.shape pv0
 have hbs := bq_sumF pv0
 have hbp := bq_prodF pv0
 refine calls_ear (vs := [.slice b1 l.length c1]) Tryd.func18 rfl rfl ?_
 have g1 := Gr.refl hs
 refine sr (ma (oN (wS (sr (mv (oC (OpW.lenS Tryd.underlying50 (l := l.length) rfl ?_)))))))
 refine oC (OpW.gtr (a := ((l.length : Nat) : Int)) (b := ((8 : Nat) : Int)) (r := decide (8 < l.length)) rfl rfl (lt_nat (a := 8) (b := l.length)) (oN (Wp.cond (t := decide (8 < l.length)) rfl (fun c2 => ?_) (fun c2 => ?_))))
 replace c2 : 8 < l.length := (of_decide_eq_true c2)
 refine sr (oC (cF Tryd.call20 (known_c  g1.sat (tb.mono (PH.le.refl _)) ) rfl ?_))
 intro r1 h1 w1 gr1 hr1
 subst hr1
 refine ma (oN (Wp.ret (fin1_ret rfl (resOf_tmp (v := .bool true) rfl) ?_)))
 have g2 := g1.trans gr1
 refine ⟨h1, g2, ?_⟩
 exact rfl
 replace c2 : ¬ (8 < l.length) := (of_decide_eq_false c2)
 refine Wp.skip (wS (sr (ma (oN (Wp.block (Wp.loop (σ := Nat) (fun (k : Nat) (ρ : Env) (w' : World) => ∃ ρb h', ρ = upds ρb [(0, .slice b1 l.length c1), (3, .int .i64 ((k : Nat) : Int))] ∧ Gr h w h' w' ∧ PH.le h h' ∧ (k ≤ l.length) ∧ ((l.take k).any (bigN 4) = false)) (fun (k : Nat) => l.length - k) 0 ?_ ?_))))))
 exact ⟨_, h, nm rfl, g1, PH.le.refl _, (by omega), rfl⟩
 rintro k ρ1 w2 ⟨ρ2, h2, rfl, g3, l1, hk, hn⟩
 have hb2 := bf_getD l k
 have hb3 := LF.bq_getD pv0 k
 have hb4 := bf_n (l.getD k fr0)
 have hb5 := bf_d (l.getD k fr0)
 have hb7 := len_wts l
 refine wS (sr (mv (mv (oC (OpW.lenS Tryd.underlying50 (l := l.length) rfl ?_)))))
 refine oC (OpW.lss (a := ((k : Nat) : Int)) (b := ((l.length : Nat) : Int)) (r := decide (k < l.length)) rfl rfl (lt_nat (a := k) (b := l.length)) (oN (Wp.cond (t := decide (k < l.length)) rfl (fun c3 => ?_) (fun c3 => ?_))))
 replace c3 : k < l.length := (of_decide_eq_true c3)
 refine Wp.skip (wS (Wp.block (sr (Ops.cut (fun ρ' w' => w2 = w' ∧ ∃ ρb, ρ' = upds ρb [(0, .slice b1 l.length c1), (3, .int .i64 ((k : Nat) : Int)), (29, .bool ((decide (4 < (l.getD k fr0).n.length)) || (decide (4 < (l.getD k fr0).d.length))))]) ?_ ?_))))
 refine mv (mv (oC (OpW.indexL (i := ((k : Nat) : Int)) (j := k) fr0 (s := 3) rfl Tryd.underlying50 Tryd.sizeOf24 rfl (LR.mono pv0 l1) rfl (by omega) (by omega) ?_)))
 intro b2 o1 a1 e1 z1 cs1 qb1 qv1 qf1 qr1
 obtain ⟨b3, c4, b4, c5, rfl, k2, k3, u1, u2⟩ := F.open qr1
 have hbq1 : bq (l.getD k fr0).rat ≤ bf (l.getD k fr0) := F.bq qr1
 refine oC (fA (o := o1 + 1) Tryd.underlying24 rfl Tryd.sizeOf22 (by decide) rfl rfl ?_)
 refine oC (lO (v := .slice b3 ((l.getD k fr0).n.length) c4) Tryd.isAgg22 rfl (g3.sat _ _ qb1) (cut_cell qv1 1 (by decide) rfl) ?_)
 refine oC (OpW.lenS Tryd.underlying22 (l := (l.getD k fr0).n.length) rfl ?_)
 refine oC (OpW.gtr (a := (((l.getD k fr0).n.length : Nat) : Int)) (b := ((4 : Nat) : Int)) (r := decide (4 < (l.getD k fr0).n.length)) rfl rfl (lt_nat (a := 4) (b := (l.getD k fr0).n.length)) (mv ?_))
 cases c6 : (decide (4 < (l.getD k fr0).n.length))
 replace c6 : ¬ (4 < (l.getD k fr0).n.length) := (of_decide_eq_false c6)
 refine oL rfl rfl rfl (OpW.move (v := .slice b1 l.length c1) rfl ?_)
 refine oL rfl rfl rfl (OpW.move (v := .int .i64 ((k : Nat) : Int)) rfl ?_)
 refine oL rfl rfl rfl (OpW.indexL (i := ((k : Nat) : Int)) (j := k) fr0 (s := 3) rfl Tryd.underlying50 Tryd.sizeOf24 rfl (LR.mono pv0 l1) rfl (by omega) (by omega) ?_)
 intro b5 o2 a2 e2 z2 cs2 qb2 qv2 qf2 qr2
 obtain ⟨b6, c7, b7, c8, rfl, k4, k5, u3, u4⟩ := F.open qr2
 have hbq2 : bq (l.getD k fr0).rat ≤ bf (l.getD k fr0) := F.bq qr2
 refine oL rfl rfl rfl (fA (o := o2 + 2) Tryd.underlying24 rfl Tryd.sizeOf22 (by decide) rfl rfl ?_)
 refine oL rfl rfl rfl (lO (v := .slice b7 ((l.getD k fr0).d.length) c8) Tryd.isAgg22 rfl (g3.sat _ _ qb2) (cut_cell qv2 2 (by decide) rfl) ?_)
 refine oL rfl rfl rfl (OpW.lenS Tryd.underlying22 (l := (l.getD k fr0).d.length) rfl ?_)
 refine oL rfl rfl rfl (OpW.gtr (a := (((l.getD k fr0).d.length : Nat) : Int)) (b := ((4 : Nat) : Int)) (r := decide (4 < (l.getD k fr0).d.length)) rfl rfl (lt_nat (a := 4) (b := (l.getD k fr0).d.length)) ?_)
 refine oC (pF (v := .bool (decide (4 < (l.getD k fr0).d.length))) rfl rfl (oN ?_))
 exact ⟨rfl, _, nm rfl⟩
 replace c6 : 4 < (l.getD k fr0).n.length := (of_decide_eq_true c6)
 refine oD rfl rfl rfl rfl (oD rfl rfl rfl rfl (oD rfl rfl rfl rfl (oD rfl rfl rfl rfl (oD rfl rfl rfl rfl (oD rfl rfl rfl rfl (oD rfl rfl rfl rfl (oC (pT (v := .bool true) rfl rfl (oN ?_)))))))))
 exact ⟨rfl, _, nm rfl⟩
 rintro ρ3 w3 ⟨rfl, ρ4, rfl⟩
 refine Wp.cond (t := (decide (4 < (l.getD k fr0).n.length)) || (decide (4 < (l.getD k fr0).d.length))) rfl (fun c9 => ?_) (fun c9 => ?_)
 replace c9 : (4 < (l.getD k fr0).n.length) ∨ (4 < (l.getD k fr0).d.length) := ((or_t c9).imp (fun h => (of_decide_eq_true h)) (fun h => (of_decide_eq_true h)))
 refine sr (oC (cF Tryd.call20 (known_c  g3.sat (tb.mono l1) ) rfl ?_))
 intro r2 h3 w4 gr2 hr2
 subst hr2
 refine ma (oN (Wp.ret (fin1_ret rfl (resOf_tmp (v := .bool true) rfl) ?_)))
 have g4 := g3.trans gr2
 refine ⟨h3, g4, ?_⟩
 exact rfl
 replace c9 : ¬ ((4 < (l.getD k fr0).n.length) ∨ (4 < (l.getD k fr0).d.length)) := (fun pq => pq.elim (of_decide_eq_false (or_l c9)) (of_decide_eq_false (or_r c9)))
 have hno := c9
 refine Wp.skip (wR (mv (oC (OpW.add (a := ((k : Nat) : Int)) (b := ((1 : Nat) : Int)) (r := ((k + 1 : Nat) : Int)) rfl rfl (add_i64 (a := k) (b := 1) (by omega)) (ma (oN ?_))))))
 exact ⟨(k + 1), ⟨_, h2, nm rfl, g3, l1, (by omega), (any_take_succ fr0 (by omega) hn (bigN_f hno))⟩, (by omega)⟩
 replace c3 : ¬ (k < l.length) := (of_decide_eq_false c3)
 have hx := c3
 rw [List.take_of_length_le (by omega)] at hn
 have hws := wts_small hn
 refine Wp.exit (sr (mv (oC (cF Tryd.call52 (sum_c (l := l) g3.sat (LR.mono pv0 l1) (by first | omega | (simp only [bf_frK, frK_rat, wts_cons, wts_nil]; omega))) rfl ?_))))
 intro r3 h4 w5 gr3 hr3
 obtain ⟨b8, c10, b9, c11, rfl, k6, k7, u5, u6⟩ := F.shape hr3
 refine mv ?_
 have g5 := g3.trans gr3
 refine oC (cF Tryd.call62 (rSum_c (l := l) g5.sat (LR.mono pv0 (l1.trans gr3.le)) (by first | omega | (simp only [bf_frK, frK_rat, wts_cons, wts_nil]; omega))) rfl ?_)
 intro r4 h5 w6 gr4 hr4
 obtain ⟨b10, c12, b11, c13, rfl, k8, k9, u7, u8⟩ := F.shape hr4
 have g6 := g5.trans gr4
 refine oC (cF Tryd.call22 (rSame_c (f := frK (sumF l)) (g := frK (sumF l)) g6.sat (F.mono hr3 gr4.le) hr4 (by first | omega | (simp only [bf_frK, frK_rat, wts_cons, wts_nil]; omega)) (by first | omega | (simp only [bf_frK, frK_rat, wts_cons, wts_nil]; omega))) rfl ?_)
 intro r5 h6 w7 gr5 hr5
 replace hr5 := hr5.trans (congrArg Value.bool (sameF_self _))
 subst hr5
 refine mv (oL rfl rfl rfl (OpW.move (v := .slice b1 l.length c1) rfl ?_))
 have g7 := g6.trans gr5
 refine oL rfl rfl rfl (cF Tryd.call53 (product_c (l := l) g7.sat (LR.mono pv0 (((l1.trans gr3.le).trans gr4.le).trans gr5.le)) (by first | omega | (simp only [bf_frK, frK_rat, wts_cons, wts_nil]; omega))) rfl ?_)
 intro r6 h7 w8 gr6 hr6
 obtain ⟨b12, c14, b13, c15, rfl, k10, k11, u9, u10⟩ := F.shape hr6
 refine oL rfl rfl rfl (OpW.move (v := .slice b1 l.length c1) rfl ?_)
 have g8 := g7.trans gr6
 refine oL rfl rfl rfl (cF Tryd.call63 (rProduct_c (l := l) g8.sat (LR.mono pv0 ((((l1.trans gr3.le).trans gr4.le).trans gr5.le).trans gr6.le)) (by first | omega | (simp only [bf_frK, frK_rat, wts_cons, wts_nil]; omega))) rfl ?_)
 intro r7 h8 w9 gr7 hr7
 obtain ⟨b14, c16, b15, c17, rfl, k12, k13, u11, u12⟩ := F.shape hr7
 have g9 := g8.trans gr7
 refine oL rfl rfl rfl (cF Tryd.call22 (rSame_c (f := frK (prodF l)) (g := frK (prodF l)) g9.sat (F.mono hr6 gr7.le) hr7 (by first | omega | (simp only [bf_frK, frK_rat, wts_cons, wts_nil]; omega)) (by first | omega | (simp only [bf_frK, frK_rat, wts_cons, wts_nil]; omega))) rfl ?_)
 intro r8 h9 w10 gr8 hr8
 replace hr8 := hr8.trans (congrArg Value.bool (sameF_self _))
 subst hr8
 refine oC (pT (v := .bool true) rfl rfl (mv (oL rfl rfl rfl (OpW.move (v := .slice b1 l.length c1) rfl ?_))))
 have g10 := g9.trans gr8
 refine oL rfl rfl rfl (cF Tryd.call64 (Best_c (l := l) g10.sat (LR.mono pv0 ((((((l1.trans gr3.le).trans gr4.le).trans gr5.le).trans gr6.le).trans gr7.le).trans gr8.le)) (by first | omega | (simp only [bf_frK, frK_rat, wts_cons, wts_nil]; omega))) rfl ?_)
 intro r9 h10 w11 gr9 hr9
 subst hr9
 refine oL rfl rfl rfl (OpW.move (v := .slice b1 l.length c1) rfl ?_)
 have g11 := g10.trans gr9
 refine oL rfl rfl rfl (cF Tryd.call65 (rBest_c (l := l) g11.sat (LR.mono pv0 (((((((l1.trans gr3.le).trans gr4.le).trans gr5.le).trans gr6.le).trans gr7.le).trans gr8.le).trans gr9.le)) (by first | omega | (simp only [bf_frK, frK_rat, wts_cons, wts_nil]; omega))) rfl ?_)
 intro r10 h11 w12 gr10 hr10
 subst hr10
 refine oL rfl rfl rfl (OpW.eqlI (a := (bestAt l l.length)) (b := (bestAt l l.length)) (r := true) rfl rfl (decide_eq_true rfl) ?_)
 refine oC (pT (v := .bool true) rfl rfl (mv (oL rfl rfl rfl (OpW.move (v := .slice b1 l.length c1) rfl ?_))))
 have g12 := g11.trans gr10
 refine oL rfl rfl rfl (cF Tryd.call66 (Distribution_c (l := l) g12.sat (LR.mono pv0 ((((((((l1.trans gr3.le).trans gr4.le).trans gr5.le).trans gr6.le).trans gr7.le).trans gr8.le).trans gr9.le).trans gr10.le)) (by first | omega | (simp only [bf_frK, frK_rat, wts_cons, wts_nil]; omega))) rfl ?_)
 intro r11 h12 w13 gr11 hr11
 subst hr11
 refine oL rfl rfl rfl (OpW.move (v := .slice b1 l.length c1) rfl ?_)
 have g13 := g12.trans gr11
 refine oL rfl rfl rfl (cF Tryd.call67 (rDistribution_c (l := l) g13.sat (LR.mono pv0 (((((((((l1.trans gr3.le).trans gr4.le).trans gr5.le).trans gr6.le).trans gr7.le).trans gr8.le).trans gr9.le).trans gr10.le).trans gr11.le)) (by first | omega | (simp only [bf_frK, frK_rat, wts_cons, wts_nil]; omega))) rfl ?_)
 intro r12 h13 w14 gr12 hr12
 subst hr12
 refine oL rfl rfl rfl (OpW.eqlB (a := distF l) (b := distF l) (r := true) Tryd.underlying4 rfl rfl (beq_self_eq_true _) ?_)
 refine oC (pT (v := .bool true) rfl rfl (mv ?_))
 have g14 := g13.trans gr12
 refine oL rfl rfl rfl (cF Tryd.call20 (known_c  g14.sat (tb.mono ((((((((((l1.trans gr3.le).trans gr4.le).trans gr5.le).trans gr6.le).trans gr7.le).trans gr8.le).trans gr9.le).trans gr10.le).trans gr11.le).trans gr12.le)) ) rfl ?_)
 intro r13 h14 w15 gr13 hr13
 subst hr13
 refine oC (pT (v := .bool true) rfl rfl (ma (oN (Wp.ret (fin1_ret rfl (resOf_tmp (v := .bool true) rfl) ?_)))))
 have g15 := g14.trans gr13
 refine ⟨h14, g15, ?_⟩
 exact rfl
end Go.Ear
