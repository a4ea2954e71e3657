/- About package frac: XrDistribution. -/
import Derived.Test.YtmidncjhlnfojaaDoorNatLaw2
import Derived.Test.YtmidncjhlnfojaaDoorEarShort
import Derived.Test.YtmidncjhlnfojaaDoorProg
import Derived.Test.YtmidncjhlnfojaaDoorNatLaw3
import Derived.Test.YtmidncjhlnfojaaDoorEarFrac
import Derived.Test.YtmidncjhlnfojaaDoorEarDec
import Derived.Test.YtmidncjhlnfojaaDoorItoaLay
import Derived.Lib.ItoaMem
import Derived.Test.YtmidncjhlnfojaaDoorEarApi
import Derived.Test.YtmidncjhlnfojaaDoorEarRef2
import Derived.Test.YtmidncjhlnfojaaDoorX12
import Derived.Test.YtmidncjhlnfojaaDoorXrSum
set_option linter.all false
namespace Go.Ear
open Go.Proofs
set_option maxRecDepth 20000
set_option linter.unusedVariables false
set_option maxHeartbeats 2000000
theorem rDistribution_c {h : PH} {w : World} {v0 : Value} {l : List (Fr)} (hs : Sat h w) (pv0 : LR rpF h v0 l) (hp0 : wts l ≤ 50000000) :
    Calls Tryd.prog 67 #[v0] w (Ret h w fun h' r => r = .bool (distF l)) := by
 obtain ⟨b1, c1, rfl, k1⟩ := LR.shape pv0
 have hbs := bq_sumF pv0
 have hb1' : bq (((1 : Nat) : Int) : Rat) ≤ 2 := bq_intc (by decide) (by decide)
 refine calls_ear (vs := [.slice b1 l.length c1]) Tryd.func67 rfl rfl ?_
 have g1 := Gr.refl hs
 refine sr (ma (oN (wS (sr (ma (oN (Wp.block (Wp.loop (σ := Nat) (fun (k : Nat) (ρ : Env) (w' : World) => ∃ ρb h', ρ = upds ρb [(0, .slice b1 l.length c1), (3, .int .i64 ((k : Nat) : Int))] ∧ Gr h w h' w' ∧ PH.le h h' ∧ (k ≤ l.length) ∧ ((l.take k).any negF = false)) (fun (k : Nat) => l.length - k) 0 ?_ ?_))))))))
 exact ⟨_, h, nm rfl, g1, PH.le.refl _, (by omega), rfl⟩
 rintro k ρ1 w1 ⟨ρ2, h1, rfl, g2, l1, hk, hn⟩
 have hb2 := bf_getD l k
 have hb3 := LF.bq_getD pv0 k
 have hb4 := bf_n (l.getD k fr0)
 have hb5 := bf_d (l.getD k fr0)
 have hb7 := len_wts l
 refine wS (sr (mv (mv (oC (OpW.lenS Tryd.underlying50 (l := l.length) rfl ?_)))))
 refine oC (OpW.lss (a := ((k : Nat) : Int)) (b := ((l.length : Nat) : Int)) (r := decide (k < l.length)) rfl rfl (lt_nat (a := k) (b := l.length)) (oN (Wp.cond (t := decide (k < l.length)) rfl (fun c2 => ?_) (fun c2 => ?_))))
 replace c2 : k < l.length := (of_decide_eq_true c2)
 refine Wp.skip (wS (Wp.block (sr (mv (mv (oC (OpW.indexL (i := ((k : Nat) : Int)) (j := k) fr0 (s := 3) rfl Tryd.underlying50 Tryd.sizeOf24 rfl (LR.mono pv0 l1) rfl (by omega) (by omega) ?_)))))))
 intro b2 o1 a1 e1 z1 cs1 qb1 qv1 qf1 qr1
 obtain ⟨b3, c3, b4, c4, rfl, k2, k3, u1, u2⟩ := F.open qr1
 have hbq1 : bq (l.getD k fr0).rat ≤ bf (l.getD k fr0) := F.bq qr1
 refine oC (OpW.loadA (cs := [.bool ((l.getD k fr0).neg), .slice b3 ((l.getD k fr0).n.length) c3, .slice b4 ((l.getD k fr0).d.length) c4]) Tryd.isAgg24 Tryd.sizeOf24 rfl (g2.sat _ _ qb1) qf1 qv1 ?_)
 refine oC (cF Tryd.call23 (rSign_c (a := l.getD k fr0) g2.sat qr1 (by omega)) rfl ?_)
 intro r1 h2 w2 gr1 hr1
 subst hr1
 refine oC (OpW.lss (a := (sgQ (l.getD k fr0).rat)) (b := ((0 : Nat) : Int)) (r := decide ((sgQ (l.getD k fr0).rat) < ((0 : Nat) : Int))) rfl rfl rfl (oN (Wp.cond (t := decide ((sgQ (l.getD k fr0).rat) < ((0 : Nat) : Int))) rfl (fun c5 => ?_) (fun c5 => ?_))))
 replace c5 : (sgQ (l.getD k fr0).rat) < ((0 : Nat) : Int) := (of_decide_eq_true c5)
 have hyes : negF (l.getD k fr0) = true := decide_eq_true (sgQ_neg.1 c5)
 refine wS (fg [] rfl (fun ρ3 => (wR (ma (oN (Wp.ret (fin1_ret rfl (resOf_tmp (v := .bool false) rfl) ?_)))))))
 have g3 := g2.trans gr1
 refine ⟨h2, g3, ?_⟩
 exact (boolv (dist_f (any_of_getD (by omega) hyes)))
 replace c5 : ¬ ((sgQ (l.getD k fr0).rat) < ((0 : Nat) : Int)) := (of_decide_eq_false c5)
 have hno : negF (l.getD k fr0) = false := decide_eq_false (fun e => absurd (sgQ_neg.2 e) c5)
 refine Wp.skip (fg [(0, .slice b1 l.length c1), (3, .int .i64 ((k : Nat) : Int))] rfl (fun ρ4 => (wR (mv (oC (OpW.add (a := ((k : Nat) : Int)) (b := ((1 : Nat) : Int)) (r := ((k + 1 : Nat) : Int)) rfl rfl (add_i64 (a := k) (b := 1) (by omega)) (ma (oN ?_))))))))
 have g4 := g2.trans gr1
 exact ⟨(k + 1), ⟨_, h2, nm rfl, g4, (l1.trans gr1.le), (by omega), (any_take_succ fr0 (by omega) hn hno)⟩, (by omega)⟩
 replace c2 : ¬ (k < l.length) := (of_decide_eq_false c2)
 refine Wp.exit (sr (mv (oC (cF Tryd.call62 (rSum_c (l := l) g2.sat (LR.mono pv0 l1) (by first | omega | (simp only [bf_frK, frK_rat, wts_cons, wts_nil]; omega))) rfl ?_))))
 intro r2 h3 w3 gr2 hr2
 obtain ⟨b5, c6, b6, c7, rfl, k4, k5, u3, u4⟩ := F.shape hr2
 have g5 := g2.trans gr2
 refine oC (cF Tryd.call38 (rOf_c (n := ((1 : Nat) : Int)) g5.sat  (by omega) (by omega)) rfl ?_)
 intro r3 h4 w4 gr3 hr3
 obtain ⟨b7, c8, b8, c9, rfl, k6, k7, u5, u6⟩ := F.shape hr3
 have g6 := g5.trans gr3
 refine oC (cF Tryd.call29 (rCmp_c (a := frK (sumF l)) (b := frK ((((1 : Nat) : Int) : Int) : Rat)) g6.sat (F.mono hr2 gr3.le) hr3 (by first | omega | (simp only [bf_frK, frK_rat, wts_cons, wts_nil]; omega))) rfl ?_)
 intro r4 h5 w5 gr4 hr4
 simp only [frK_rat, bf_frK, val_digs] at hr4
 subst hr4
 refine oC (OpW.eqlI (a := (sgQ ((sumF l) - ((((1 : Nat) : Int) : Int) : Rat)))) (b := ((0 : Nat) : Int)) (r := decide ((sgQ ((sumF l) - ((((1 : Nat) : Int) : Int) : Rat))) = ((0 : Nat) : Int))) rfl rfl rfl (ma (oN (Wp.ret (fin1_ret rfl (resOf_tmp (v := .bool (decide ((sgQ ((sumF l) - ((((1 : Nat) : Int) : Int) : Rat))) = ((0 : Nat) : Int)))) rfl) ?_)))))
 have g7 := g6.trans gr4
 refine ⟨h5, g7, ?_⟩
 exact (boolv (dist_t (by rw [List.take_of_length_le (by omega)] at hn; rw [hn]; decide)))
end Go.Ear
