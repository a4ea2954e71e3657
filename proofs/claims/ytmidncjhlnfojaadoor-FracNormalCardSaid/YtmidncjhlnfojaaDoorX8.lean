/- About package frac: X8. -/
import Derived.Test.YtmidncjhlnfojaaDoorNatLaw2
import Derived.Test.YtmidncjhlnfojaaDoorEarShort
import Derived.Test.YtmidncjhlnfojaaDoorProg
import Derived.Test.YtmidncjhlnfojaaDoorNatLaw3
import Derived.Test.YtmidncjhlnfojaaDoorEarFrac
import Derived.Test.YtmidncjhlnfojaaDoorEarDec
import Derived.Test.YtmidncjhlnfojaaDoorItoaLay
import Derived.Lib.ItoaMem
import Derived.Test.YtmidncjhlnfojaaDoorEarApi
import Derived.Test.YtmidncjhlnfojaaDoorK1
import Derived.Test.YtmidncjhlnfojaaDoorK4
import Derived.Test.YtmidncjhlnfojaaDoorK5
import Derived.Test.YtmidncjhlnfojaaDoorK6
import Derived.Test.YtmidncjhlnfojaaDoorX6
set_option linter.all false
namespace Go.Ear
open Go.Proofs
set_option maxRecDepth 20000
set_option linter.unusedVariables false
set_option maxHeartbeats 2000000
theorem Distribution_1_c {h : PH} {w : World} {v0 : Value} {a : Fr} (hs : Sat h w) (pv0 : F h v0 a) (hp0 : bf a ≤ 134217000) :
    Calls Tryd.prog 112 #[v0] w (Ret h w fun h' r => r = .bool (negF a)) := by
 obtain ⟨b1, c1, b2, c2, rfl, k1, k2, u1, u2⟩ := F.shape pv0
 have hbq1 := F.bq pv0
 refine calls_ear (vs := [.agg #[.bool a.neg, .slice b1 a.n.length c1, .slice b2 a.d.length c2]]) Tryd.func112 rfl rfl ?_
 have g1 := Gr.refl hs
 refine sr (oC (OpW.boxK (v := .agg #[.bool a.neg, .slice b1 a.n.length c1, .slice b2 a.d.length c2]) (arr := #[.bool a.neg, .slice b1 a.n.length c1, .slice b2 a.d.length c2]) g1.sat rfl rfl ?_))
 intro b3 h1 w1 gr1 qb1
 refine ma (oN (sr ?_))
 have g2 := g1.trans gr1
 refine oC (lA (cs := [.bool a.neg, .slice b1 a.n.length c1, .slice b2 a.d.length c2]) Tryd.isAgg24 Tryd.sizeOf24 rfl (g2.sat _ _ qb1) rfl rfl ?_)
 refine oC (cF Tryd.call40 (Sign_c (a := a) g2.sat (F.mk (U.mono u1 gr1.le) (U.mono u2 gr1.le)) (by omega)) rfl ?_)
 intro r1 h2 w2 gr2 hr1
 subst hr1
 refine oC (OpW.lss (a := (sgQ a.rat)) (b := ((0 : Nat) : Int)) (r := decide ((sgQ a.rat) < ((0 : Nat) : Int))) rfl rfl rfl (ma (oN (Wp.ret (fin1_ret rfl (resOf_tmp (v := .bool (decide ((sgQ a.rat) < ((0 : Nat) : Int)))) rfl) ?_)))))
 have g3 := g2.trans gr2
 refine ⟨h2, g3, ?_⟩
 exact (boolv (decide_eq_decide.2 sgQ_neg))
theorem Normalize_1_c {h : PH} {w : World} {v0 : Value} {a : Fr} (hs : Sat h w) (pv0 : F h v0 a) (hp0 : bf a ≤ 134217000) :
    Calls Tryd.prog 113 #[v0] w (Ret h w fun h' r => r = .bool (negF a)) := by
 obtain ⟨b1, c1, b2, c2, rfl, k1, k2, u1, u2⟩ := F.shape pv0
 have hbq1 := F.bq pv0
 refine calls_ear (vs := [.agg #[.bool a.neg, .slice b1 a.n.length c1, .slice b2 a.d.length c2]]) Tryd.func113 rfl rfl ?_
 have g1 := Gr.refl hs
 refine sr (oC (OpW.boxK (v := .agg #[.bool a.neg, .slice b1 a.n.length c1, .slice b2 a.d.length c2]) (arr := #[.bool a.neg, .slice b1 a.n.length c1, .slice b2 a.d.length c2]) g1.sat rfl rfl ?_))
 intro b3 h1 w1 gr1 qb1
 refine ma (oN (sr ?_))
 have g2 := g1.trans gr1
 refine oC (lA (cs := [.bool a.neg, .slice b1 a.n.length c1, .slice b2 a.d.length c2]) Tryd.isAgg24 Tryd.sizeOf24 rfl (g2.sat _ _ qb1) rfl rfl ?_)
 refine oC (cF Tryd.call40 (Sign_c (a := a) g2.sat (F.mk (U.mono u1 gr1.le) (U.mono u2 gr1.le)) (by omega)) rfl ?_)
 intro r1 h2 w2 gr2 hr1
 subst hr1
 refine oC (OpW.lss (a := (sgQ a.rat)) (b := ((0 : Nat) : Int)) (r := decide ((sgQ a.rat) < ((0 : Nat) : Int))) rfl rfl rfl (ma (oN (Wp.ret (fin1_ret rfl (resOf_tmp (v := .bool (decide ((sgQ a.rat) < ((0 : Nat) : Int)))) rfl) ?_)))))
 have g3 := g2.trans gr2
 refine ⟨h2, g3, ?_⟩
 exact (boolv (decide_eq_decide.2 sgQ_neg))
theorem cntDI_c {h : PH} {w : World} {v0 : Value} {l : List (Fr)} (hs : Sat h w) (pv0 : LR rpF h v0 l) (hp0 : wts l ≤ 134000000) :
    Calls Tryd.prog 126 #[v0, .func (.func 112) #[] #[]] w (Ret h w fun h' r => r = .int .i64 (idxP negF l)) := by
 obtain ⟨b1, c1, rfl, k1⟩ := LR.shape pv0
 refine calls_ear (vs := [.slice b1 l.length c1, .func (.func 112) #[] #[]]) Tryd.func126 rfl rfl ?_
 have g1 := Gr.refl hs
 refine sr (ma (oN (wS (sr (mv (oC (OpW.lenS Tryd.underlying50 (l := l.length) rfl (mv (oN (Wp.block (Wp.loop (σ := Nat) (fun (k : Nat) (ρ : Env) (w' : World) => ∃ ρb h', ρ = upds ρb [(0, .slice b1 l.length c1), (1, .func (.func 112) #[] #[]), (7, .int .i64 ((l.length : Nat) : Int)), (8, .int .i64 ((k : Nat) : Int))] ∧ Gr h w h' w' ∧ PH.le h h' ∧ (k ≤ l.length) ∧ ((l.take k).any negF = false)) (fun (k : Nat) => l.length - k) 0 ?_ ?_)))))))))))
 exact ⟨_, h, nm rfl, g1, PH.le.refl _, (by omega), rfl⟩
 rintro k ρ1 w1 ⟨ρ2, h1, rfl, g2, l1, hk, hn⟩
 have hb2 := bf_getD l k
 have hb7 := len_wts l
 refine sr (oC (OpW.lss (a := ((k : Nat) : Int)) (b := ((l.length : Nat) : Int)) (r := decide (k < l.length)) rfl rfl (lt_nat (a := k) (b := l.length)) (oN (wS (Wp.cond (t := decide (k < l.length)) rfl (fun c2 => ?_) (fun c2 => ?_))))))
 replace c2 : k < l.length := (of_decide_eq_true c2)
 refine Wp.skip (wS (Wp.block (sr (mv (ma (oN (sr (mv (mv (mv (oC (OpW.indexL (i := ((k : Nat) : Int)) (j := k) fr0 (s := 3) rfl Tryd.underlying50 Tryd.sizeOf24 rfl (LR.mono pv0 l1) rfl (by omega) (by omega) ?_))))))))))))
 intro b2 o1 a1 e1 z1 cs1 qb1 qv1 qf1 qr1
 obtain ⟨b3, c3, b4, c4, rfl, k2, k3, u1, u2⟩ := F.open qr1
 have hbq1 : bq (l.getD k fr0).rat ≤ bf (l.getD k fr0) := F.bq qr1
 refine oC (OpW.loadA (cs := [.bool ((l.getD k fr0).neg), .slice b3 ((l.getD k fr0).n.length) c3, .slice b4 ((l.getD k fr0).d.length) c4]) Tryd.isAgg24 Tryd.sizeOf24 rfl (g2.sat _ _ qb1) qf1 qv1 ?_)
 refine oC (OpW.callV (vs := [.agg #[.bool ((l.getD k fr0).neg), .slice b3 ((l.getD k fr0).n.length) c3, .slice b4 ((l.getD k fr0).d.length) c4]]) rfl Tryd.call112 rfl (Distribution_1_c (a := l.getD k fr0) g2.sat qr1 (by omega)) ?_)
 intro r1 h2 w2 gr1 hr1
 subst hr1
 refine oN (Wp.cond (t := negF (l.getD k fr0)) rfl (fun c5 => ?_) (fun c5 => ?_))
 replace c5 : negF (l.getD k fr0) = true := c5
 have hyes : negF (l.getD k fr0) = true := by assumption
 refine wS (fg [(5, .int .i64 ((k : Nat) : Int))] rfl (fun ρ3 => (wR (mv (ma (oN (Wp.ret (fin1_ret rfl (resOf_tmp (v := .int .i64 ((k : Nat) : Int)) rfl) ?_))))))))
 have g3 := g2.trans gr1
 refine ⟨h2, g3, ?_⟩
 exact (intv (idx_found fr0 (by omega) hn hyes).symm)
 replace c5 : ¬ (negF (l.getD k fr0) = true) := (raw_f c5)
 have hno : ¬ (negF (l.getD k fr0) = true) := by assumption
 refine Wp.skip (fg [(0, .slice b1 l.length c1), (1, .func (.func 112) #[] #[]), (7, .int .i64 ((l.length : Nat) : Int)), (8, .int .i64 ((k : Nat) : Int))] rfl (fun ρ4 => (wR (oC (OpW.add (a := ((k : Nat) : Int)) (b := ((1 : Nat) : Int)) (r := ((k + 1 : Nat) : Int)) rfl rfl (add_i64 (a := k) (b := 1) (by omega)) (mv (oN ?_)))))))
 have g4 := g2.trans gr1
 exact ⟨(k + 1), ⟨_, h2, nm rfl, g4, (l1.trans gr1.le), (by omega), (any_take_succ fr0 (by omega) hn (Bool.eq_false_iff.2 hno))⟩, (by omega)⟩
 replace c2 : ¬ (k < l.length) := (of_decide_eq_false c2)
 refine Wp.exit (sr (ma (oN (Wp.ret (fin1_ret rfl (resOf_tmp (v := .int .i64 (-1)) rfl) ?_)))))
 refine ⟨h1, g2, ?_⟩
 exact (intv (idx_none (by omega) hn).symm)
theorem cntD_c {h : PH} {w : World} {v0 : Value} {l : List (Fr)} (hs : Sat h w) (pv0 : LR rpF h v0 l) (hp0 : wts l ≤ 134000000) :
    Calls Tryd.prog 111 #[v0, .func (.func 112) #[] #[]] w (Ret h w fun h' r => r = .bool (l.any negF)) := by
 obtain ⟨b1, c1, rfl, k1⟩ := LR.shape pv0
 have hib := idx_bd negF l
 refine calls_ear (vs := [.slice b1 l.length c1, .func (.func 112) #[] #[]]) Tryd.func111 rfl rfl ?_
 have g1 := Gr.refl hs
 refine sr (ma (oN (sr (mv (mv (oC (cF Tryd.call126 (cntDI_c (l := l) g1.sat pv0 (by first | omega | (simp only [bf_frK, frK_rat, wts_cons, wts_nil]; omega))) rfl ?_)))))))
 intro r1 h1 w1 gr1 hr1
 subst hr1
 refine oC (OpW.geq (a := (idxP negF l)) (b := ((0 : Nat) : Int)) (r := decide (((0 : Nat) : Int) ≤ (idxP negF l))) rfl rfl rfl (ma (oN (Wp.ret (fin1_ret rfl (resOf_tmp (v := .bool (decide (((0 : Nat) : Int) ≤ (idxP negF l)))) rfl) ?_)))))
 have g2 := g1.trans gr1
 refine ⟨h1, g2, ?_⟩
 exact (boolv idx_any)
theorem cntNI_c {h : PH} {w : World} {v0 : Value} {l : List (Fr)} (hs : Sat h w) (pv0 : LR rpF h v0 l) (hp0 : wts l ≤ 134000000) :
    Calls Tryd.prog 126 #[v0, .func (.func 113) #[] #[]] w (Ret h w fun h' r => r = .int .i64 (idxP negF l)) := by
 obtain ⟨b1, c1, rfl, k1⟩ := LR.shape pv0
 refine calls_ear (vs := [.slice b1 l.length c1, .func (.func 113) #[] #[]]) Tryd.func126 rfl rfl ?_
 have g1 := Gr.refl hs
 refine sr (ma (oN (wS (sr (mv (oC (OpW.lenS Tryd.underlying50 (l := l.length) rfl (mv (oN (Wp.block (Wp.loop (σ := Nat) (fun (k : Nat) (ρ : Env) (w' : World) => ∃ ρb h', ρ = upds ρb [(0, .slice b1 l.length c1), (1, .func (.func 113) #[] #[]), (7, .int .i64 ((l.length : Nat) : Int)), (8, .int .i64 ((k : Nat) : Int))] ∧ Gr h w h' w' ∧ PH.le h h' ∧ (k ≤ l.length) ∧ ((l.take k).any negF = false)) (fun (k : Nat) => l.length - k) 0 ?_ ?_)))))))))))
 exact ⟨_, h, nm rfl, g1, PH.le.refl _, (by omega), rfl⟩
 rintro k ρ1 w1 ⟨ρ2, h1, rfl, g2, l1, hk, hn⟩
 have hb2 := bf_getD l k
 have hb7 := len_wts l
 refine sr (oC (OpW.lss (a := ((k : Nat) : Int)) (b := ((l.length : Nat) : Int)) (r := decide (k < l.length)) rfl rfl (lt_nat (a := k) (b := l.length)) (oN (wS (Wp.cond (t := decide (k < l.length)) rfl (fun c2 => ?_) (fun c2 => ?_))))))
 replace c2 : k < l.length := (of_decide_eq_true c2)
 refine Wp.skip (wS (Wp.block (sr (mv (ma (oN (sr (mv (mv (mv (oC (OpW.indexL (i := ((k : Nat) : Int)) (j := k) fr0 (s := 3) rfl Tryd.underlying50 Tryd.sizeOf24 rfl (LR.mono pv0 l1) rfl (by omega) (by omega) ?_))))))))))))
 intro b2 o1 a1 e1 z1 cs1 qb1 qv1 qf1 qr1
 obtain ⟨b3, c3, b4, c4, rfl, k2, k3, u1, u2⟩ := F.open qr1
 have hbq1 : bq (l.getD k fr0).rat ≤ bf (l.getD k fr0) := F.bq qr1
 refine oC (OpW.loadA (cs := [.bool ((l.getD k fr0).neg), .slice b3 ((l.getD k fr0).n.length) c3, .slice b4 ((l.getD k fr0).d.length) c4]) Tryd.isAgg24 Tryd.sizeOf24 rfl (g2.sat _ _ qb1) qf1 qv1 ?_)
 refine oC (OpW.callV (vs := [.agg #[.bool ((l.getD k fr0).neg), .slice b3 ((l.getD k fr0).n.length) c3, .slice b4 ((l.getD k fr0).d.length) c4]]) rfl Tryd.call113 rfl (Normalize_1_c (a := l.getD k fr0) g2.sat qr1 (by omega)) ?_)
 intro r1 h2 w2 gr1 hr1
 subst hr1
 refine oN (Wp.cond (t := negF (l.getD k fr0)) rfl (fun c5 => ?_) (fun c5 => ?_))
 replace c5 : negF (l.getD k fr0) = true := c5
 have hyes : negF (l.getD k fr0) = true := by assumption
 refine wS (fg [(5, .int .i64 ((k : Nat) : Int))] rfl (fun ρ3 => (wR (mv (ma (oN (Wp.ret (fin1_ret rfl (resOf_tmp (v := .int .i64 ((k : Nat) : Int)) rfl) ?_))))))))
 have g3 := g2.trans gr1
 refine ⟨h2, g3, ?_⟩
 exact (intv (idx_found fr0 (by omega) hn hyes).symm)
 replace c5 : ¬ (negF (l.getD k fr0) = true) := (raw_f c5)
 have hno : ¬ (negF (l.getD k fr0) = true) := by assumption
 refine Wp.skip (fg [(0, .slice b1 l.length c1), (1, .func (.func 113) #[] #[]), (7, .int .i64 ((l.length : Nat) : Int)), (8, .int .i64 ((k : Nat) : Int))] rfl (fun ρ4 => (wR (oC (OpW.add (a := ((k : Nat) : Int)) (b := ((1 : Nat) : Int)) (r := ((k + 1 : Nat) : Int)) rfl rfl (add_i64 (a := k) (b := 1) (by omega)) (mv (oN ?_)))))))
 have g4 := g2.trans gr1
 exact ⟨(k + 1), ⟨_, h2, nm rfl, g4, (l1.trans gr1.le), (by omega), (any_take_succ fr0 (by omega) hn (Bool.eq_false_iff.2 hno))⟩, (by omega)⟩
 replace c2 : ¬ (k < l.length) := (of_decide_eq_false c2)
 refine Wp.exit (sr (ma (oN (Wp.ret (fin1_ret rfl (resOf_tmp (v := .int .i64 (-1)) rfl) ?_)))))
 refine ⟨h1, g2, ?_⟩
 exact (intv (idx_none (by omega) hn).symm)
theorem cntN_c {h : PH} {w : World} {v0 : Value} {l : List (Fr)} (hs : Sat h w) (pv0 : LR rpF h v0 l) (hp0 : wts l ≤ 134000000) :
    Calls Tryd.prog 111 #[v0, .func (.func 113) #[] #[]] w (Ret h w fun h' r => r = .bool (l.any negF)) := by
 obtain ⟨b1, c1, rfl, k1⟩ := LR.shape pv0
 have hib := idx_bd negF l
 refine calls_ear (vs := [.slice b1 l.length c1, .func (.func 113) #[] #[]]) Tryd.func111 rfl rfl ?_
 have g1 := Gr.refl hs
 refine sr (ma (oN (sr (mv (mv (oC (cF Tryd.call126 (cntNI_c (l := l) g1.sat pv0 (by first | omega | (simp only [bf_frK, frK_rat, wts_cons, wts_nil]; omega))) rfl ?_)))))))
 intro r1 h1 w1 gr1 hr1
 subst hr1
 refine oC (OpW.geq (a := (idxP negF l)) (b := ((0 : Nat) : Int)) (r := decide (((0 : Nat) : Int) ≤ (idxP negF l))) rfl rfl rfl (ma (oN (Wp.ret (fin1_ret rfl (resOf_tmp (v := .bool (decide (((0 : Nat) : Int) ≤ (idxP negF l)))) rfl) ?_)))))
 have g2 := g1.trans gr1
 refine ⟨h1, g2, ?_⟩
 exact (boolv idx_any)
theorem Distribution_c {h : PH} {w : World} {v0 : Value} {l : List (Fr)} (hs : Sat h w) (pv0 : LR rpF h v0 l) (hp0 : wts l ≤ 134000000) :
    Calls Tryd.prog 66 #[v0] w (Ret h w fun h' r => r = .bool (distF l)) := by
 obtain ⟨b1, c1, rfl, k1⟩ := LR.shape pv0
 have hbs := bq_sumF pv0
 have hb1 : bq (((1 : Nat) : Int) : Rat) ≤ 2 := bq_intc (by decide) (by decide)
 refine calls_ear (vs := [.slice b1 l.length c1]) Tryd.func66 rfl rfl ?_
 have g1 := Gr.refl hs
 refine sr (ma (oN (sr (mv (oC (cF Tryd.call111 (cntD_c (l := l) g1.sat pv0 (by first | omega | (simp only [bf_frK, frK_rat, wts_cons, wts_nil]; omega))) rfl ?_))))))
 intro r1 h1 w1 gr1 hr1
 subst hr1
 refine oC (OpW.notB (a := l.any negF) (r := !(l.any negF)) rfl rfl (mv ?_))
 cases c2 : (!(l.any negF))
 replace c2 : ¬ (¬ (l.any negF = true)) := (fun n => n (not_f c2))
 refine oD rfl rfl rfl rfl (oD rfl rfl rfl rfl (oD rfl rfl rfl rfl (oD rfl rfl rfl rfl (oD rfl rfl rfl rfl (oC (pF (v := .bool false) rfl rfl (ma (oN (Wp.ret (fin1_ret rfl (resOf_tmp (v := .bool false) rfl) ?_))))))))))
 have g2 := g1.trans gr1
 refine ⟨h1, g2, ?_⟩
 exact (boolv (dist_f (Classical.not_not.1 c2)))
 replace c2 : ¬ (l.any negF = true) := (raw_f (not_t c2))
 refine oL rfl rfl rfl (OpW.move (v := .slice b1 l.length c1) rfl ?_)
 have g3 := g1.trans gr1
 refine oL rfl rfl rfl (cF Tryd.call52 (sum_c (l := l) g3.sat (LR.mono pv0 gr1.le) (by first | omega | (simp only [bf_frK, frK_rat, wts_cons, wts_nil]; omega))) rfl ?_)
 intro r2 h2 w2 gr2 hr2
 obtain ⟨b2, c3, b3, c4, rfl, k2, k3, u1, u2⟩ := F.shape hr2
 have g4 := g3.trans gr2
 refine oL rfl rfl rfl (cF Tryd.call51 (Of_c (n := ((1 : Nat) : Int)) g4.sat  (by omega) (by omega)) rfl ?_)
 intro r3 h3 w3 gr3 hr3
 obtain ⟨b4, c5, b5, c6, rfl, k4, k5, u3, u4⟩ := F.shape hr3
 have g5 := g4.trans gr3
 refine oL rfl rfl rfl (cF Tryd.call41 (Cmp_c (a := frK (sumF l)) (b := frK ((((1 : Nat) : Int) : Int) : Rat)) g5.sat (F.mono hr2 gr3.le) hr3 (by first | omega | (simp only [bf_frK, frK_rat, wts_cons, wts_nil]; omega))) rfl ?_)
 intro r4 h4 w4 gr4 hr4
 simp only [frK_rat, bf_frK, val_digs] at hr4
 subst hr4
 refine oL rfl rfl rfl (OpW.eqlI (a := (sgQ ((sumF l) - ((((1 : Nat) : Int) : Int) : Rat)))) (b := ((0 : Nat) : Int)) (r := decide ((sgQ ((sumF l) - ((((1 : Nat) : Int) : Int) : Rat))) = ((0 : Nat) : Int))) rfl rfl rfl ?_)
 refine oC (pT (v := .bool (decide ((sgQ ((sumF l) - ((((1 : Nat) : Int) : Int) : Rat))) = ((0 : Nat) : Int)))) rfl rfl (ma (oN (Wp.ret (fin1_ret rfl (resOf_tmp (v := .bool (decide ((sgQ ((sumF l) - ((((1 : Nat) : Int) : Int) : Rat))) = ((0 : Nat) : Int)))) rfl) ?_)))))
 have g6 := g5.trans gr4
 refine ⟨h4, g6, ?_⟩
 exact (boolv (dist_t c2))
theorem Normalize_c {h : PH} {w : World} {v0 : Value} {l : List (Fr)} (hs : Sat h w) (pv0 : LR rpF h v0 l) (hp0 : wts l ≤ 60000000) :
    Calls Tryd.prog 68 #[v0] w (Ret h w fun h' r => ∃ x1 x2, r = .tuple #[x1, x2] ∧ LR rpK h' x1 (normF l) ∧ x2 = .int .i64 (normE l)) := by
 obtain ⟨b1, c1, rfl, k1⟩ := LR.shape pv0
 have hbs := bq_sumF pv0
 have hb7 := len_wts l
 have hbi := bq_inv' (sumF l)
 have hbk := bq_K (sumF l)
 refine calls_ear (vs := [.slice b1 l.length c1]) Tryd.func68 rfl rfl ?_
 have g1 := Gr.refl hs
 refine sr (ma (ma (oN (wS (sr (mv (oC (cF Tryd.call111 (cntN_c (l := l) g1.sat pv0 (by first | omega | (simp only [bf_frK, frK_rat, wts_cons, wts_nil]; omega))) rfl ?_))))))))
 intro r1 h1 w1 gr1 hr1
 subst hr1
 refine oN (Wp.cond (t := l.any negF) rfl (fun c2 => ?_) (fun c2 => ?_))
 replace c2 : l.any negF = true := c2
 refine sr (ma (ma (oN (Wp.ret (fin2_ret rfl (resOf_tmp (v := .slice none 0 0) rfl) (resOf_tmp (v := .int .i64 ((2 : Nat) : Int)) rfl) ?_)))))
 have g2 := g1.trans gr1
 refine ⟨h1, g2, ?_⟩
 exact ⟨_, _, rfl, LR.cast (by unfold normF; simp_all) (LR.nil rpK _ none 0), intv (by unfold normE; simp_all)⟩
 replace c2 : ¬ (l.any negF = true) := (raw_f c2)
 refine Wp.skip (sr (mv ?_))
 have g3 := g1.trans gr1
 refine oC (cF Tryd.call52 (sum_c (l := l) g3.sat (LR.mono pv0 gr1.le) (by first | omega | (simp only [bf_frK, frK_rat, wts_cons, wts_nil]; omega))) rfl ?_)
 intro r2 h2 w2 gr2 hr2
 obtain ⟨b2, c3, b3, c4, rfl, k2, k3, u1, u2⟩ := F.shape hr2
 have g4 := g3.trans gr2
 refine oC (cF Tryd.call70 (take_c (f := frK (sumF l)) g4.sat hr2 (by omega) (by omega)) rfl ?_)
 intro r3 h3 w3 gr3 hr3
 simp only [frK_rat, bf_frK, val_digs] at hr3
 obtain ⟨b4, c5, b5, c6, rfl, k4, k5, u3, u4⟩ := Qn.shape hr3
 have g5 := g4.trans gr3
 refine oC (OpW.allocO (arr := #[.bool false, .slice none 0 0, .slice none 0 0]) g5.sat Tryd.zeroValue66 rfl ?_)
 intro b6 w4 gr4 n1 lo1 o1
 have lo2 := Nat.le_trans g5.ext.size lo1
 refine oC (sA (cs := [.bool (decide ((sumF l).num < 0)), .slice b4 ((digs ((sumF l).num.natAbs)).length) c5, .slice b5 ((digs ((sumF l).den)).length) c6]) Tryd.sizeOf66 rfl rfl rfl rfl o1 rfl ?_)
 intro w5 p1
 refine oN (wS (sr (oC (lA (cs := [.bool (decide ((sumF l).num < 0)), .slice b4 ((digs ((sumF l).num.natAbs)).length) c5, .slice b5 ((digs ((sumF l).den)).length) c6]) Tryd.isAgg66 Tryd.sizeOf66 rfl p1.at_ rfl rfl ?_))))
 have g6 := (g5.trans gr4).put p1 n1 lo2
 refine oC (cF Tryd.call71 (zero_c (q := sumF l) g6.sat (Qn.mk u3 u4 rfl rfl rfl) ) rfl ?_)
 intro r4 h4 w6 gr5 hr4
 subst hr4
 refine oN (Wp.cond (t := decide ((sumF l) = 0)) rfl (fun c7 => ?_) (fun c7 => ?_))
 replace c7 : (sumF l) = 0 := (of_decide_eq_true c7)
 refine wS (fg [] rfl (fun ρ1 => (wR (ma (ma (oN (Wp.ret (fin2_ret rfl (resOf_tmp (v := .slice none 0 0) rfl) (resOf_tmp (v := .int .i64 ((3 : Nat) : Int)) rfl) ?_))))))))
 have g7 := g6.trans gr5
 refine ⟨h4, g7, ?_⟩
 exact ⟨_, _, rfl, LR.cast (by unfold normF; simp_all) (LR.nil rpK _ none 0), intv (by unfold normE; simp_all)⟩
 replace c7 : ¬ ((sumF l) = 0) := (of_decide_eq_false c7)
 refine Wp.skip (wS (fg [(0, .slice b1 l.length c1), (4, .pointer (some ⟨b6, 0, none⟩))] rfl (fun ρ2 => (wR (ma (oN (wS (sr (mv (oC (OpW.lenS Tryd.underlying50 (l := l.length) rfl (mv (oN (Wp.block ?_))))))))))))))
 have g8 := g6.trans gr5
 have o3 := gr5.kp ⟨p1.at_, n1⟩
 refine Wp.loop (σ := Nat × Value) (fun s (ρ : Env) (w' : World) => match s with | (k, vOs5) => ∃ ρb h', ρ = upds ρb [(4, .pointer (some ⟨b6, 0, none⟩)), (5, vOs5), (15, .slice b1 l.length c1), (16, .int .i64 ((l.length : Nat) : Int)), (17, .int .i64 ((k : Nat) : Int))] ∧ Gr h w h' w' ∧ PH.le h4 h' ∧ w'.heap[b6]? = some (.cells #[.bool (decide ((sumF l).num < 0)), .slice b4 ((digs ((sumF l).num.natAbs)).length) c5, .slice b5 ((digs ((sumF l).den)).length) c6] 66 (0, 0)) ∧ h' b6 = none ∧ (k ≤ l.length) ∧ (OwnL rpK w.heap.size h' w' 24 vOs5 ((l.take k).map fun f => f.rat * (sumF l)⁻¹)) ∧ (Value.blk vOs5 ≠ some b6)) (fun s => match s with | (k, vOs5) => l.length - k) (0, .slice none 0 0) ?_ ?_
 exact ⟨_, h4, nm rfl, g8, PH.le.refl _, o3.1, o3.2, (by omega), (OwnL.nil rpK w.heap.size h4 w6 24), ne_nil⟩
 rintro ⟨k, vOs5⟩ ρ3 w7 ⟨ρ4, h5, rfl, g9, l1, o4, n2, hk, hO5, hOn5b6⟩
 have hb2 := bf_getD l k
 have hb3 := LF.bq_getD pv0 k
 have hb4 := bf_n (l.getD k fr0)
 have hb5 := bf_d (l.getD k fr0)
 have hb6 := bq_mul (l.getD k fr0).rat (sumF l)⁻¹
 have hlt : ((l.take k).map fun f => f.rat * (sumF l)⁻¹).length = min k l.length := by simp
 refine sr (oC (OpW.lss (a := ((k : Nat) : Int)) (b := ((l.length : Nat) : Int)) (r := decide (k < l.length)) rfl rfl (lt_nat (a := k) (b := l.length)) (oN (wS (Wp.cond (t := decide (k < l.length)) rfl (fun c8 => ?_) (fun c8 => ?_))))))
 replace c8 : k < l.length := (of_decide_eq_true c8)
 refine Wp.skip (wS (Wp.block (sr (oC (OpW.indexL (i := ((k : Nat) : Int)) (j := k) fr0 (s := 3) rfl Tryd.underlying50 Tryd.sizeOf24 rfl (LR.mono pv0 ((((gr1.le.trans gr2.le).trans gr3.le).trans gr5.le).trans l1)) rfl (by omega) (by omega) ?_)))))
 intro b7 o5 a1 e1 z1 cs1 qb1 qv1 qf1 qr1
 obtain ⟨b8, c9, b9, c10, rfl, k6, k7, u5, u6⟩ := F.open qr1
 have hbq1 : bq (l.getD k fr0).rat ≤ bf (l.getD k fr0) := F.bq qr1
 refine oC (OpW.loadA (cs := [.bool ((l.getD k fr0).neg), .slice b8 ((l.getD k fr0).n.length) c9, .slice b9 ((l.getD k fr0).d.length) c10]) Tryd.isAgg24 Tryd.sizeOf24 rfl (g9.sat _ _ qb1) qf1 qv1 ?_)
 have lt1 := blk_lt o4
 refine oC (OpW.allocO (arr := #[.bool false, .slice none 0 0, .slice none 0 0]) g9.sat Tryd.zeroValue24 rfl ?_)
 intro b10 w8 gr6 n3 lo3 o6
 have ne1 := (OwnL.ne_new hO5 lo3)
 have ow1 := OwnL.gr hO5 gr6
 have lo4 := Nat.le_trans g9.ext.size lo3
 have ne2 : b6 ≠ b10 := Nat.ne_of_lt (Nat.lt_of_lt_of_le lt1 lo3)
 refine oC (sA (cs := [.bool ((l.getD k fr0).neg), .slice b8 ((l.getD k fr0).n.length) c9, .slice b9 ((l.getD k fr0).d.length) c10]) Tryd.sizeOf24 rfl rfl rfl rfl o6 rfl ?_)
 intro w9 p2
 have ow2 := OwnL.put ow1 p2 ne1
 refine oN ?_
 have g10 := (g9.trans gr6).put p2 n3 lo4
 refine Wp.dagL 8 [21, 22, 23, 24, 25, 26, 27, 28] [eqv vOs5, eqv (.agg #[.bool ((l.getD k fr0).neg), .slice b8 ((l.getD k fr0).n.length) c9, .slice b9 ((l.getD k fr0).d.length) c10]), fun h _ x => Qn h x ((l.getD k fr0).rat), eqv (.agg #[.bool (decide ((sumF l).num < 0)), .slice b4 ((digs ((sumF l).num.natAbs)).length) c5, .slice b5 ((digs ((sumF l).den)).length) c6]), fun h _ x => Qn h x ((sumF l)⁻¹), fun h _ x => Qn h x (((l.getD k fr0).rat) * ((sumF l)⁻¹)), fun h _ x => Kn h x (((l.getD k fr0).rat) * ((sumF l)⁻¹)), fun h _ x => LR rpK h x ([(((l.getD k fr0).rat) * ((sumF l)⁻¹))])] mixed g10.sat rfl (by decide +kernel) ⟨sQ _, sQ _, (stab_Q ((l.getD k fr0).rat)), sQ _, (stab_Q ((sumF l)⁻¹)), (stab_Q (((l.getD k fr0).rat) * ((sumF l)⁻¹))), (stab_K (((l.getD k fr0).rat) * ((sumF l)⁻¹))), (stab_LR rpK ([(((l.getD k fr0).rat) * ((sumF l)⁻¹))])), trivial⟩ ?_ ?_
 intro stab
 refine ⟨?_, ?_, ?_, ?_, ?_, ?_, ?_, ?_, trivial⟩
 intro ρ5 h6 w10 g11 hdd1 hdo1
 have e2 : ρ5 5 = vOs5 := hdo1 5 rfl
 refine gP (OpW.move (v := vOs5) e2 ?_)
 exact ⟨_, h6, rfl, g11, fun j x _ p => p, rfl⟩
 intro ρ6 h7 w11 g12 hdd2 hdo2
 have e3 : ρ6 7 = .pointer (some ⟨b10, 0, none⟩) := hdo2 7 rfl
 have o8 := g12.kp ⟨p2.at_, n3⟩
 refine gP (lA (cs := [.bool ((l.getD k fr0).neg), .slice b8 ((l.getD k fr0).n.length) c9, .slice b9 ((l.getD k fr0).d.length) c10]) Tryd.isAgg24 Tryd.sizeOf24 e3 o8.1 rfl rfl ?_)
 exact ⟨_, h7, rfl, g12, fun j x _ p => p, rfl⟩
 intro ρ7 h8 w12 g13 hdd3 hdo3
 have e4 : ρ7 22 = .agg #[.bool ((l.getD k fr0).neg), .slice b8 ((l.getD k fr0).n.length) c9, .slice b9 ((l.getD k fr0).d.length) c10] := hdd3 1 (by decide)
 have g14 := g10.trans g13
 refine gP (cF Tryd.call70 (take_c (f := l.getD k fr0) g14.sat (F.mk (U.mono u5 g13.le) (U.mono u6 g13.le)) (by omega) (by omega)) (cx e4 cxn) ?_)
 intro r5 h9 w13 gr7 hr5
 have ow3 := OwnL.gr (OwnL.gr ow2 g13) gr7
 exact ⟨r5, h9, rfl, g13.trans gr7, fun j x _ => stab j _ _ _ _ x gr7, hr5⟩
 intro ρ8 h10 w14 g15 hdd4 hdo4
 have e5 : ρ8 4 = .pointer (some ⟨b6, 0, none⟩) := hdo4 4 rfl
 have o9 := g15.kp (p2.kp ne2 (gr6.kp ⟨o4, n2⟩))
 refine gP (lA (cs := [.bool (decide ((sumF l).num < 0)), .slice b4 ((digs ((sumF l).num.natAbs)).length) c5, .slice b5 ((digs ((sumF l).den)).length) c6]) Tryd.isAgg66 Tryd.sizeOf66 e5 o9.1 rfl rfl ?_)
 exact ⟨_, h10, rfl, g15, fun j x _ p => p, rfl⟩
 intro ρ9 h11 w15 g16 hdd5 hdo5
 have e6 : ρ9 24 = .agg #[.bool (decide ((sumF l).num < 0)), .slice b4 ((digs ((sumF l).num.natAbs)).length) c5, .slice b5 ((digs ((sumF l).den)).length) c6] := hdd5 3 (by decide)
 have g17 := g10.trans g16
 refine gP (cF Tryd.call72 (inverse_c (q := sumF l) g17.sat (Qn.mk (N.mono u3 ((gr5.le.trans l1).trans g16.le)) (N.mono u4 ((gr5.le.trans l1).trans g16.le)) rfl rfl rfl) (by omega)) (cx e6 cxn) ?_)
 intro r6 h12 w16 gr8 hr6
 have ow4 := OwnL.gr (OwnL.gr ow2 g16) gr8
 exact ⟨r6, h12, rfl, g16.trans gr8, fun j x _ => stab j _ _ _ _ x gr8, hr6⟩
 intro ρ10 h13 w17 g18 hdd6 hdo6
 have q1 : Qn h13 (ρ10 23) ((l.getD k fr0).rat) := hdd6 2 (by decide)
 have q2 : Qn h13 (ρ10 25) ((sumF l)⁻¹) := hdd6 4 (by decide)
 have g19 := g10.trans g18
 refine gP (cF Tryd.call78 (nmul_c (a := (l.getD k fr0).rat) (b := (sumF l)⁻¹) g19.sat q1 q2 (by omega) (by omega)) rfl ?_)
 intro r7 h14 w18 gr9 hr7
 have ow5 := OwnL.gr (OwnL.gr ow2 g18) gr9
 exact ⟨r7, h14, rfl, g18.trans gr9, fun j x _ => stab j _ _ _ _ x gr9, hr7⟩
 intro ρ11 h15 w19 g20 hdd7 hdo7
 have q3 : Qn h15 (ρ11 26) (((l.getD k fr0).rat) * ((sumF l)⁻¹)) := hdd7 5 (by decide)
 have g21 := g10.trans g20
 refine gP (cF Tryd.call74 (give_c (q := ((l.getD k fr0).rat) * ((sumF l)⁻¹)) g21.sat q3 (by omega)) rfl ?_)
 intro r8 h16 w20 gr10 hr8
 have ow6 := OwnL.gr (OwnL.gr ow2 g20) gr10
 exact ⟨r8, h16, rfl, g20.trans gr10, fun j x _ => stab j _ _ _ _ x gr10, hr8⟩
 intro ρ12 h17 w21 g22 hdd8 hdo8
 have q4 : Kn h17 (ρ12 27) (((l.getD k fr0).rat) * ((sumF l)⁻¹)) := hdd8 6 (by decide)
 obtain ⟨x3, hx1⟩ : ∃ x, ρ12 27 = x := ⟨_, rfl⟩
 rw [hx1] at q4
 obtain ⟨b11, c11, b12, c12, rfl, k8, k9, u7, u8⟩ := F.shape q4
 have g23 := g10.trans g22
 refine gP (OpW.buildSliceO (arr := #[.bool ((frK (((l.getD k fr0).rat) * ((sumF l)⁻¹))).neg), .slice b11 ((frK (((l.getD k fr0).rat) * ((sumF l)⁻¹))).n.length) c11, .slice b12 ((frK (((l.getD k fr0).rat) * ((sumF l)⁻¹))).d.length) c12]) g23.sat Tryd.underlying50 Tryd.zeroValue24 Tryd.sizeOf24 rfl (by show Instr.fill _ _ [(0, ρ12 27)] = _; rw [hx1]; rfl) ?_)
 intro b13 w22 gr11 n4 lo5 o10
 obtain ⟨h19, gr13, le1, qb2, fr1⟩ := freeze_ex gr11 o10 n4 lo5
 have q5 : LR rpK h19 (.slice (some ⟨b13, 0, none⟩) 1 1) ([(((l.getD k fr0).rat) * ((sumF l)⁻¹))]) := LR.own' qb2 (css := [[.bool ((frK (((l.getD k fr0).rat) * ((sumF l)⁻¹))).neg), .slice b11 ((frK (((l.getD k fr0).rat) * ((sumF l)⁻¹))).n.length) c11, .slice b12 ((frK (((l.getD k fr0).rat) * ((sumF l)⁻¹))).d.length) c12]]) rfl ((show Rows rpK h17 [[.bool ((frK (((l.getD k fr0).rat) * ((sumF l)⁻¹))).neg), .slice b11 ((frK (((l.getD k fr0).rat) * ((sumF l)⁻¹))).n.length) c11, .slice b12 ((frK (((l.getD k fr0).rat) * ((sumF l)⁻¹))).d.length) c12]] [(((l.getD k fr0).rat) * ((sumF l)⁻¹))] from (Rows.cons q4 Rows.nil)).mono gr13.le) rfl (Nat.le_refl _)
 exact ⟨_, h19, rfl, g22.trans gr13, fun j x _ => stab j _ _ _ _ x gr13, q5⟩
 intro ρ13 h20 w23 g24 hdp1 hdo9
 have ow7 := OwnL.gr ow2 g24
 have e7 : ρ13 4 = .pointer (some ⟨b6, 0, none⟩) := hdo9 4 rfl
 have e8 : ρ13 15 = .slice b1 l.length c1 := hdo9 15 rfl
 have e9 : ρ13 16 = .int .i64 ((l.length : Nat) : Int) := hdo9 16 rfl
 have e10 : ρ13 17 = .int .i64 ((k : Nat) : Int) := hdo9 17 rfl
 have e11 : ρ13 21 = vOs5 := hdp1 0 rfl
 have q6 : LR rpK h20 (ρ13 28) ([(((l.getD k fr0).rat) * ((sumF l)⁻¹))]) := hdp1 7 rfl
 obtain ⟨x4, hx2⟩ : ∃ x, ρ13 28 = x := ⟨_, rfl⟩
 rw [hx2] at q6
 obtain ⟨b14, c13, rfl, k10⟩ := LR.shape q6
 refine Ops.forget [(4, .pointer (some ⟨b6, 0, none⟩)), (15, .slice b1 l.length c1), (16, .int .i64 ((l.length : Nat) : Int)), (17, .int .i64 ((k : Nat) : Int)), (21, vOs5), (28, .slice b14 (([(((l.getD k fr0).rat) * ((sumF l)⁻¹))]).length) c13)] ⟨e7, e8, e9, e10, e11, hx2, trivial⟩ (fun ρ14 => ?_)
 have g25 := g10.trans g24
 refine oC (OpW.appendL (r := rpK) (lo := w.heap.size) (i := Tryd.t24) (v := vOs5) (x := .slice b14 (([(((l.getD k fr0).rat) * ((sumF l)⁻¹))]).length) c13) (l := (l.take k).map fun f => f.rat * (sumF l)⁻¹) (m := [(((l.getD k fr0).rat) * ((sumF l)⁻¹))]) Tryd.underlying50 Tryd.type24 rfl rfl rfl g25.sat g25.ext.size rfl rfl ow7 q6 (by simp only [List.length_cons, List.length_nil]; omega) (show _ * _ ≤ _ by simp only [List.length_cons, List.length_nil, Tryd.t24]; omega) ?_)
 intro vO1 w24 ow8 oo1 hbl1
 have g26 := OwnL.ow ow7 g25 (Nat.le_refl _) oo1
 have o11 := g24.kp (p2.kp ne2 (gr6.kp ⟨o4, n2⟩))
 have ne3 := blk_ne hbl1 hOn5b6 o11.1
 have o12 := g24.kp ⟨p2.at_, n3⟩
 have ne4 := blk_ne hbl1 ne1 o12.1
 refine oC (OpW.assign (v := vO1) rfl (oN (wR (oC (OpW.add (a := ((k : Nat) : Int)) (b := ((1 : Nat) : Int)) (r := ((k + 1 : Nat) : Int)) rfl rfl (add_i64 (a := k) (b := 1) (by omega)) (mv (oN ?_)))))))
 have o13 := Ow.kp oo1 hOn5b6 o11
 exact ⟨(k + 1, vO1), ⟨_, h20, nm rfl, g26, (l1.trans g24.le), o13.1, o13.2, (by omega), (OwnL.cast (map_take_succ fr0 (by omega)).symm ow8), ne3⟩, (by dsimp only; omega)⟩
 replace c8 : ¬ (k < l.length) := (of_decide_eq_false c8)
 refine Wp.exit (sr (oC (OpW.move (v := vOs5) rfl ?_)))
 refine oC (OpW.assign (v := vOs5) rfl (ma (oN (Wp.ret ?_))))
 obtain ⟨h21, g27, l2, fr2, q7⟩ := OwnL.freeze g9 (Nat.le_refl _) hO5
 obtain ⟨b15, c14, e12, k11⟩ := LR.shape q7
 subst e12
 refine fin2_ret rfl (resOf_tmp (v := .slice b15 (((l.take k).map fun f => f.rat * (sumF l)⁻¹).length) c14) rfl) (resOf_tmp (v := .int .i64 ((0 : Nat) : Int)) rfl) ?_
 refine ⟨h21, g27, ?_⟩
 exact ⟨_, _, rfl, (LR.cast (by unfold normF; rw [List.take_of_length_le (by omega), if_neg (by simp_all)]) q7), (intv (by unfold normE; simp_all))⟩
end Go.Ear
