/- About package frac: X14. -/
import Derived.Test.YtmidncjhlnfojaaDoorNatLaw2
import Derived.Test.YtmidncjhlnfojaaDoorEarShort
import Derived.Test.YtmidncjhlnfojaaDoorProg
import Derived.Test.YtmidncjhlnfojaaDoorNatLaw3
import Derived.Test.YtmidncjhlnfojaaDoorEarFrac
import Derived.Test.YtmidncjhlnfojaaDoorEarDec
import Derived.Test.YtmidncjhlnfojaaDoorItoaLay
import Derived.Lib.ItoaMem
import Derived.Test.YtmidncjhlnfojaaDoorEarApi
import Derived.Test.YtmidncjhlnfojaaDoorEarRef2
import Derived.Test.YtmidncjhlnfojaaDoorEarLaw
set_option linter.all false
namespace Go.Ear
open Go.Proofs
set_option maxRecDepth 20000
set_option linter.unusedVariables false
set_option maxHeartbeats 2000000
theorem lsmall_c {h : PH} {w : World} {v0 : Value} {l : List (Fr)} (hs : Sat h w) (pv0 : LR rpF h v0 l) (hp0 : l.length ≤ 1000000) :
    Calls Tryd.prog 25 #[v0] w (Ret h w fun h' r => r = .bool (smallL l)) := by
 obtain ⟨b1, c1, rfl, k1⟩ := LR.shape pv0
 refine calls_ear (vs := [.slice b1 l.length c1]) Tryd.func25 rfl rfl ?_
 have g1 := Gr.refl hs
 refine sr (ma (oN (wS (sr (ma (oN (Wp.block (Wp.loop (σ := Nat) (fun (k : Nat) (ρ : Env) (w' : World) => ∃ ρb h', ρ = upds ρb [(0, .slice b1 l.length c1), (3, .int .i64 ((k : Nat) : Int))] ∧ Gr h w h' w' ∧ PH.le h h' ∧ (k ≤ l.length) ∧ ((l.take k).any bigF = false)) (fun (k : Nat) => l.length - k) 0 ?_ ?_))))))))
 exact ⟨_, h, nm rfl, g1, PH.le.refl _, (by omega), rfl⟩
 rintro k ρ1 w1 ⟨ρ2, h1, rfl, g2, l1, hk, hn⟩
 have hb2 := bf_getD l k
 have hb3 := LF.bq_getD pv0 k
 have hb4 := bf_n (l.getD k fr0)
 have hb5 := bf_d (l.getD k fr0)
 have hb7 := len_wts l
 refine wS (sr (mv (mv (oC (OpW.lenS Tryd.underlying50 (l := l.length) rfl ?_)))))
 refine oC (OpW.lss (a := ((k : Nat) : Int)) (b := ((l.length : Nat) : Int)) (r := decide (k < l.length)) rfl rfl (lt_nat (a := k) (b := l.length)) (oN (Wp.cond (t := decide (k < l.length)) rfl (fun c2 => ?_) (fun c2 => ?_))))
 replace c2 : k < l.length := (of_decide_eq_true c2)
 refine Wp.skip (wS (Wp.block (sr (Ops.cut (fun ρ' w' => w1 = w' ∧ ∃ ρb, ρ' = upds ρb [(0, .slice b1 l.length c1), (3, .int .i64 ((k : Nat) : Int)), (25, .bool ((decide (12 < (l.getD k fr0).n.length)) || (decide (12 < (l.getD k fr0).d.length))))]) ?_ ?_))))
 refine mv (mv (oC (OpW.indexL (i := ((k : Nat) : Int)) (j := k) fr0 (s := 3) rfl Tryd.underlying50 Tryd.sizeOf24 rfl (LR.mono pv0 l1) rfl (by omega) (by omega) ?_)))
 intro b2 o1 a1 e1 z1 cs1 qb1 qv1 qf1 qr1
 obtain ⟨b3, c3, b4, c4, rfl, k2, k3, u1, u2⟩ := F.open qr1
 have hbq1 : bq (l.getD k fr0).rat ≤ bf (l.getD k fr0) := F.bq qr1
 refine oC (fA (o := o1 + 1) Tryd.underlying24 rfl Tryd.sizeOf22 (by decide) rfl rfl ?_)
 refine oC (lO (v := .slice b3 ((l.getD k fr0).n.length) c3) Tryd.isAgg22 rfl (g2.sat _ _ qb1) (cut_cell qv1 1 (by decide) rfl) ?_)
 refine oC (OpW.lenS Tryd.underlying22 (l := (l.getD k fr0).n.length) rfl ?_)
 refine oC (OpW.gtr (a := (((l.getD k fr0).n.length : Nat) : Int)) (b := ((12 : Nat) : Int)) (r := decide (12 < (l.getD k fr0).n.length)) rfl rfl (lt_nat (a := 12) (b := (l.getD k fr0).n.length)) (mv ?_))
 cases c5 : (decide (12 < (l.getD k fr0).n.length))
 replace c5 : ¬ (12 < (l.getD k fr0).n.length) := (of_decide_eq_false c5)
 refine oL rfl rfl rfl (OpW.move (v := .slice b1 l.length c1) rfl ?_)
 refine oL rfl rfl rfl (OpW.move (v := .int .i64 ((k : Nat) : Int)) rfl ?_)
 refine oL rfl rfl rfl (OpW.indexL (i := ((k : Nat) : Int)) (j := k) fr0 (s := 3) rfl Tryd.underlying50 Tryd.sizeOf24 rfl (LR.mono pv0 l1) rfl (by omega) (by omega) ?_)
 intro b5 o2 a2 e2 z2 cs2 qb2 qv2 qf2 qr2
 obtain ⟨b6, c6, b7, c7, rfl, k4, k5, u3, u4⟩ := F.open qr2
 have hbq2 : bq (l.getD k fr0).rat ≤ bf (l.getD k fr0) := F.bq qr2
 refine oL rfl rfl rfl (fA (o := o2 + 2) Tryd.underlying24 rfl Tryd.sizeOf22 (by decide) rfl rfl ?_)
 refine oL rfl rfl rfl (lO (v := .slice b7 ((l.getD k fr0).d.length) c7) Tryd.isAgg22 rfl (g2.sat _ _ qb2) (cut_cell qv2 2 (by decide) rfl) ?_)
 refine oL rfl rfl rfl (OpW.lenS Tryd.underlying22 (l := (l.getD k fr0).d.length) rfl ?_)
 refine oL rfl rfl rfl (OpW.gtr (a := (((l.getD k fr0).d.length : Nat) : Int)) (b := ((12 : Nat) : Int)) (r := decide (12 < (l.getD k fr0).d.length)) rfl rfl (lt_nat (a := 12) (b := (l.getD k fr0).d.length)) ?_)
 refine oC (pF (v := .bool (decide (12 < (l.getD k fr0).d.length))) rfl rfl (oN ?_))
 exact ⟨rfl, _, nm rfl⟩
 replace c5 : 12 < (l.getD k fr0).n.length := (of_decide_eq_true c5)
 refine oD rfl rfl rfl rfl (oD rfl rfl rfl rfl (oD rfl rfl rfl rfl (oD rfl rfl rfl rfl (oD rfl rfl rfl rfl (oD rfl rfl rfl rfl (oD rfl rfl rfl rfl (oC (pT (v := .bool true) rfl rfl (oN ?_)))))))))
 exact ⟨rfl, _, nm rfl⟩
 rintro ρ3 w2 ⟨rfl, ρ4, rfl⟩
 refine Wp.cond (t := (decide (12 < (l.getD k fr0).n.length)) || (decide (12 < (l.getD k fr0).d.length))) rfl (fun c8 => ?_) (fun c8 => ?_)
 replace c8 : (12 < (l.getD k fr0).n.length) ∨ (12 < (l.getD k fr0).d.length) := ((or_t c8).imp (fun h => (of_decide_eq_true h)) (fun h => (of_decide_eq_true h)))
 have hyes := c8
 refine sr (ma (oN (Wp.ret (fin1_ret rfl (resOf_tmp (v := .bool false) rfl) ?_))))
 refine ⟨h1, g2, ?_⟩
 exact (boolv (smallL_f (by omega) (bigF_t hyes)).symm)
 replace c8 : ¬ ((12 < (l.getD k fr0).n.length) ∨ (12 < (l.getD k fr0).d.length)) := (fun pq => pq.elim (of_decide_eq_false (or_l c8)) (of_decide_eq_false (or_r c8)))
 have hno := c8
 refine Wp.skip (wR (mv (oC (OpW.add (a := ((k : Nat) : Int)) (b := ((1 : Nat) : Int)) (r := ((k + 1 : Nat) : Int)) rfl rfl (add_i64 (a := k) (b := 1) (by omega)) (ma (oN ?_))))))
 exact ⟨(k + 1), ⟨_, h1, nm rfl, g2, l1, (by omega), (any_take_succ fr0 (by omega) hn (bigF_f hno))⟩, (by omega)⟩
 replace c2 : ¬ (k < l.length) := (of_decide_eq_false c2)
 refine Wp.exit (sr (ma (oN (Wp.ret (fin1_ret rfl (resOf_tmp (v := .bool true) rfl) ?_)))))
 refine ⟨h1, g2, ?_⟩
 exact (boolv (smallL_t (by rw [List.take_of_length_le (by omega)] at hn; exact hn)).symm)
end Go.Ear
