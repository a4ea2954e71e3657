/- About package frac: LawFracNormal. -/
import Derived.Test.YtmidncjhlnfojaaDoorNatLaw2
import Derived.Test.YtmidncjhlnfojaaDoorEarShort
import Derived.Test.YtmidncjhlnfojaaDoorProg
import Derived.Test.YtmidncjhlnfojaaDoorNatLaw3
import Derived.Test.YtmidncjhlnfojaaDoorEarFrac
import Derived.Test.YtmidncjhlnfojaaDoorEarDec
import Derived.Test.YtmidncjhlnfojaaDoorItoaLay
import Derived.Lib.ItoaMem
import Derived.Test.YtmidncjhlnfojaaDoorEarApi
import Derived.Test.YtmidncjhlnfojaaDoorEarRef2
import Derived.Test.YtmidncjhlnfojaaDoorEarLaw
import Derived.Test.YtmidncjhlnfojaaDoorEarWhole
import Derived.Test.YtmidncjhlnfojaaDoorEarLaw2
import Derived.Test.YtmidncjhlnfojaaDoorEarLaw3
import Derived.Test.YtmidncjhlnfojaaDoorK1
import Derived.Test.YtmidncjhlnfojaaDoorK14
import Derived.Test.YtmidncjhlnfojaaDoorX12
import Derived.Test.YtmidncjhlnfojaaDoorX8
import Derived.Test.YtmidncjhlnfojaaDoorXrSum
set_option linter.all false
namespace Go.Ear
open Go.Proofs
set_option maxRecDepth 20000
set_option linter.unusedVariables false
set_option maxHeartbeats 2000000
theorem fracNormal_c {h : PH} {w : World} {v0 : Value} {l : List (Fr)} (hs : Sat h w) (tb : Tab h) (pv0 : LR rpF h v0 l) :
    Calls Tryd.prog 19 #[v0] w (Ret h w fun h' r => r = .bool true) := by
 obtain ⟨b1, c1, rfl, k1⟩ := LR.shape pv0
 have hbs := bq_sumF pv0
 have hqa := LF.bq pv0
 have hz := sgQ_zero (q := sumF l)
 refine calls_ear (vs := [.slice b1 l.length c1]) Tryd.func19 rfl rfl ?_
 have g1 := Gr.refl hs
 refine sr (ma (oN (wS (sr (mv (oC (OpW.lenS Tryd.underlying50 (l := l.length) rfl ?_)))))))
 refine oC (OpW.gtr (a := ((l.length : Nat) : Int)) (b := ((8 : Nat) : Int)) (r := decide (8 < l.length)) rfl rfl (lt_nat (a := 8) (b := l.length)) (oN (Wp.cond (t := decide (8 < l.length)) rfl (fun c2 => ?_) (fun c2 => ?_))))
 replace c2 : 8 < l.length := (of_decide_eq_true c2)
 refine sr (oC (cF Tryd.call20 (known_c  g1.sat (tb.mono (PH.le.refl _)) ) rfl ?_))
 intro r1 h1 w1 gr1 hr1
 subst hr1
 refine ma (oN (Wp.ret (fin1_ret rfl (resOf_tmp (v := .bool true) rfl) ?_)))
 have g2 := g1.trans gr1
 refine ⟨h1, g2, ?_⟩
 exact rfl
 replace c2 : ¬ (8 < l.length) := (of_decide_eq_false c2)
 refine Wp.skip (sr (ma (oN (wS (sr (ma (oN (Wp.block (Wp.loop (σ := Nat) (fun (k : Nat) (ρ : Env) (w' : World) => ∃ ρb h', ρ = upds ρb [(0, .slice b1 l.length c1), (3, .bool ((l.take k).any negF)), (4, .int .i64 ((k : Nat) : Int))] ∧ Gr h w h' w' ∧ PH.le h h' ∧ (k ≤ l.length) ∧ ((l.take k).any (bigN 3) = false)) (fun (k : Nat) => l.length - k) 0 ?_ ?_)))))))))
 exact ⟨_, h, nm rfl, g1, PH.le.refl _, (by omega), rfl⟩
 rintro k ρ1 w2 ⟨ρ2, h2, rfl, g3, l1, hk, hn⟩
 have hb2 := bf_getD l k
 have hb3 := LF.bq_getD pv0 k
 have hb4 := bf_n (l.getD k fr0)
 have hb5 := bf_d (l.getD k fr0)
 have hb7 := len_wts l
 refine wS (sr (mv (mv (oC (OpW.lenS Tryd.underlying50 (l := l.length) rfl ?_)))))
 refine oC (OpW.lss (a := ((k : Nat) : Int)) (b := ((l.length : Nat) : Int)) (r := decide (k < l.length)) rfl rfl (lt_nat (a := k) (b := l.length)) (oN (Wp.cond (t := decide (k < l.length)) rfl (fun c3 => ?_) (fun c3 => ?_))))
 replace c3 : k < l.length := (of_decide_eq_true c3)
 refine Wp.skip (wS (Wp.block (wS (sr (Ops.cut (fun ρ' w' => w2 = w' ∧ ∃ ρb, ρ' = upds ρb [(0, .slice b1 l.length c1), (3, .bool ((l.take k).any negF)), (4, .int .i64 ((k : Nat) : Int)), (34, .bool ((decide (3 < (l.getD k fr0).n.length)) || (decide (3 < (l.getD k fr0).d.length))))]) ?_ ?_)))))
 refine mv (mv (oC (OpW.indexL (i := ((k : Nat) : Int)) (j := k) fr0 (s := 3) rfl Tryd.underlying50 Tryd.sizeOf24 rfl (LR.mono pv0 l1) rfl (by omega) (by omega) ?_)))
 intro b2 o1 a1 e1 z1 cs1 qb1 qv1 qf1 qr1
 obtain ⟨b3, c4, b4, c5, rfl, k2, k3, u1, u2⟩ := F.open qr1
 have hbq1 : bq (l.getD k fr0).rat ≤ bf (l.getD k fr0) := F.bq qr1
 refine oC (fA (o := o1 + 1) Tryd.underlying24 rfl Tryd.sizeOf22 (by decide) rfl rfl ?_)
 refine oC (lO (v := .slice b3 ((l.getD k fr0).n.length) c4) Tryd.isAgg22 rfl (g3.sat _ _ qb1) (cut_cell qv1 1 (by decide) rfl) ?_)
 refine oC (OpW.lenS Tryd.underlying22 (l := (l.getD k fr0).n.length) rfl ?_)
 refine oC (OpW.gtr (a := (((l.getD k fr0).n.length : Nat) : Int)) (b := ((3 : Nat) : Int)) (r := decide (3 < (l.getD k fr0).n.length)) rfl rfl (lt_nat (a := 3) (b := (l.getD k fr0).n.length)) (mv ?_))
 cases c6 : (decide (3 < (l.getD k fr0).n.length))
 replace c6 : ¬ (3 < (l.getD k fr0).n.length) := (of_decide_eq_false c6)
 refine oL rfl rfl rfl (OpW.move (v := .slice b1 l.length c1) rfl ?_)
 refine oL rfl rfl rfl (OpW.move (v := .int .i64 ((k : Nat) : Int)) rfl ?_)
 refine oL rfl rfl rfl (OpW.indexL (i := ((k : Nat) : Int)) (j := k) fr0 (s := 3) rfl Tryd.underlying50 Tryd.sizeOf24 rfl (LR.mono pv0 l1) rfl (by omega) (by omega) ?_)
 intro b5 o2 a2 e2 z2 cs2 qb2 qv2 qf2 qr2
 obtain ⟨b6, c7, b7, c8, rfl, k4, k5, u3, u4⟩ := F.open qr2
 have hbq2 : bq (l.getD k fr0).rat ≤ bf (l.getD k fr0) := F.bq qr2
 refine oL rfl rfl rfl (fA (o := o2 + 2) Tryd.underlying24 rfl Tryd.sizeOf22 (by decide) rfl rfl ?_)
 refine oL rfl rfl rfl (lO (v := .slice b7 ((l.getD k fr0).d.length) c8) Tryd.isAgg22 rfl (g3.sat _ _ qb2) (cut_cell qv2 2 (by decide) rfl) ?_)
 refine oL rfl rfl rfl (OpW.lenS Tryd.underlying22 (l := (l.getD k fr0).d.length) rfl ?_)
 refine oL rfl rfl rfl (OpW.gtr (a := (((l.getD k fr0).d.length : Nat) : Int)) (b := ((3 : Nat) : Int)) (r := decide (3 < (l.getD k fr0).d.length)) rfl rfl (lt_nat (a := 3) (b := (l.getD k fr0).d.length)) ?_)
 refine oC (pF (v := .bool (decide (3 < (l.getD k fr0).d.length))) rfl rfl (oN ?_))
 exact ⟨rfl, _, nm rfl⟩
 replace c6 : 3 < (l.getD k fr0).n.length := (of_decide_eq_true c6)
 refine oD rfl rfl rfl rfl (oD rfl rfl rfl rfl (oD rfl rfl rfl rfl (oD rfl rfl rfl rfl (oD rfl rfl rfl rfl (oD rfl rfl rfl rfl (oD rfl rfl rfl rfl (oC (pT (v := .bool true) rfl rfl (oN ?_)))))))))
 exact ⟨rfl, _, nm rfl⟩
 rintro ρ3 w3 ⟨rfl, ρ4, rfl⟩
 refine Wp.cond (t := (decide (3 < (l.getD k fr0).n.length)) || (decide (3 < (l.getD k fr0).d.length))) rfl (fun c9 => ?_) (fun c9 => ?_)
 replace c9 : (3 < (l.getD k fr0).n.length) ∨ (3 < (l.getD k fr0).d.length) := ((or_t c9).imp (fun h => (of_decide_eq_true h)) (fun h => (of_decide_eq_true h)))
 refine sr (oC (cF Tryd.call20 (known_c  g3.sat (tb.mono l1) ) rfl ?_))
 intro r2 h3 w4 gr2 hr2
 subst hr2
 refine ma (oN (Wp.ret (fin1_ret rfl (resOf_tmp (v := .bool true) rfl) ?_)))
 have g4 := g3.trans gr2
 refine ⟨h3, g4, ?_⟩
 exact rfl
 replace c9 : ¬ ((3 < (l.getD k fr0).n.length) ∨ (3 < (l.getD k fr0).d.length)) := (fun pq => pq.elim (of_decide_eq_false (or_l c9)) (of_decide_eq_false (or_r c9)))
 have hno := c9
 have hbf : bf (l.getD k fr0) ≤ 4 := by unfold bf; omega
 refine Wp.skip (wR (mv (mv ?_)))
 cases c10 : ((l.take k).any negF)
 replace c10 : ¬ ((l.take k).any negF = true) := (raw_f c10)
 refine oL rfl rfl rfl (OpW.move (v := .slice b1 l.length c1) rfl ?_)
 refine oL rfl rfl rfl (OpW.move (v := .int .i64 ((k : Nat) : Int)) rfl ?_)
 refine oL rfl rfl rfl (OpW.indexL (i := ((k : Nat) : Int)) (j := k) fr0 (s := 3) rfl Tryd.underlying50 Tryd.sizeOf24 rfl (LR.mono pv0 l1) rfl (by omega) (by omega) ?_)
 intro b8 o3 a3 e3 z3 cs3 qb3 qv3 qf3 qr3
 obtain ⟨b9, c11, b10, c12, rfl, k6, k7, u5, u6⟩ := F.open qr3
 have hbq3 : bq (l.getD k fr0).rat ≤ bf (l.getD k fr0) := F.bq qr3
 refine oL rfl rfl rfl (OpW.loadA (cs := [.bool ((l.getD k fr0).neg), .slice b9 ((l.getD k fr0).n.length) c11, .slice b10 ((l.getD k fr0).d.length) c12]) Tryd.isAgg24 Tryd.sizeOf24 rfl (g3.sat _ _ qb3) qf3 qv3 ?_)
 refine oL rfl rfl rfl (cF Tryd.call23 (rSign_c (a := l.getD k fr0) g3.sat qr3 (by omega)) rfl ?_)
 intro r3 h4 w5 gr3 hr3
 subst hr3
 refine oL rfl rfl rfl (OpW.lss (a := (sgQ (l.getD k fr0).rat)) (b := ((0 : Nat) : Int)) (r := decide ((sgQ (l.getD k fr0).rat) < ((0 : Nat) : Int))) rfl rfl rfl ?_)
 refine oC (pF (v := .bool (decide ((sgQ (l.getD k fr0).rat) < ((0 : Nat) : Int)))) rfl rfl (ma (oN (wR (mv (oC (OpW.add (a := ((k : Nat) : Int)) (b := ((1 : Nat) : Int)) (r := ((k + 1 : Nat) : Int)) rfl rfl (add_i64 (a := k) (b := 1) (by omega)) (ma (oN ?_)))))))))
 have g5 := g3.trans gr3
 exact ⟨(k + 1), ⟨_, h4, named ⟨rfl, (boolv (by have hx : (l.take k).any negF = false := Bool.eq_false_iff.2 (by assumption); rw [any_snoc fr0 (by omega), hx, Bool.false_or]; exact decide_eq_decide.2 sgQ_neg)), rfl, trivial⟩, g5, (l1.trans gr3.le), (by omega), (any_take_succ fr0 (by omega) hn (bigN_f hno))⟩, (by omega)⟩
 replace c10 : (l.take k).any negF = true := c10
 refine oD rfl rfl rfl rfl (oD rfl rfl rfl rfl (oD rfl rfl rfl rfl (oD rfl rfl rfl rfl (oD rfl rfl rfl rfl (oD rfl rfl rfl rfl (oC (pT (v := .bool true) rfl rfl (ma (oN (wR (mv (oC (OpW.add (a := ((k : Nat) : Int)) (b := ((1 : Nat) : Int)) (r := ((k + 1 : Nat) : Int)) rfl rfl (add_i64 (a := k) (b := 1) (by omega)) (ma (oN ?_)))))))))))))))
 exact ⟨(k + 1), ⟨_, h2, named ⟨rfl, (boolv (by rw [any_snoc fr0 (by omega), (by assumption : (l.take k).any negF = true), Bool.true_or])), rfl, trivial⟩, g3, l1, (by omega), (any_take_succ fr0 (by omega) hn (bigN_f hno))⟩, (by omega)⟩
 replace c3 : ¬ (k < l.length) := (of_decide_eq_false c3)
 have hke : k = l.length := by omega
 rw [List.take_of_length_le (by omega)] at hn
 have hws := wts_small hn
 refine Wp.exit (sr (mv (oC (cF Tryd.call68 (Normalize_c (l := l) g3.sat (LR.mono pv0 l1) (by first | omega | (simp only [bf_frK, frK_rat, wts_cons, wts_nil]; omega))) rfl ?_))))
 intro r4 h5 w6 gr4 hr4
 obtain ⟨r5, r6, rfl, hr5, hr6⟩ := hr4
 obtain ⟨b11, c13, rfl, k8⟩ := LR.shape hr5
 subst hr6
 refine mv (oC (OpW.extract (v := .slice b11 ((normF l).length) c13) rfl rfl ?_))
 refine oC (OpW.extract (v := .int .i64 (normE l)) rfl rfl (ma (ma (oN (wS (fg [(0, .slice b1 l.length c1), (3, .bool ((l.take k).any negF)), (5, .slice b11 ((normF l).length) c13), (6, .int .i64 (normE l))] rfl (fun ρ5 => (wR (mv ?_)))))))))
 have g6 := g3.trans gr4
 refine oC (cF Tryd.call62 (rSum_c (l := l) g6.sat (LR.mono pv0 (l1.trans gr4.le)) (by first | omega | (simp only [bf_frK, frK_rat, wts_cons, wts_nil]; omega))) rfl ?_)
 intro r7 h6 w7 gr5 hr7
 obtain ⟨b12, c14, b13, c15, rfl, k9, k10, u7, u8⟩ := F.shape hr7
 have g7 := g6.trans gr5
 refine oC (OpW.allocO (arr := #[.bool false, .slice none 0 0, .slice none 0 0]) g7.sat Tryd.zeroValue24 rfl ?_)
 intro b14 w8 gr6 n1 lo1 o4
 have lo2 := Nat.le_trans g7.ext.size lo1
 refine oC (sA (cs := [.bool ((frK (sumF l)).neg), .slice b12 ((frK (sumF l)).n.length) c14, .slice b13 ((frK (sumF l)).d.length) c15]) Tryd.sizeOf24 rfl rfl rfl rfl o4 rfl ?_)
 intro w9 p1
 refine oN (wS (sr (mv (oN (Wp.cond (t := (l.take k).any negF) rfl (fun c16 => ?_) (fun c16 => ?_))))))
 replace c16 : (l.take k).any negF = true := c16
 have hng : l.any negF = true := by have hx := c16; rwa [List.take_of_length_le (by omega)] at hx
 refine sr (mv (oC (OpW.eqlI (a := (normE l)) (b := ((2 : Nat) : Int)) (r := true) rfl rfl (decide_eq_true (by unfold normE; rw [if_pos hng]; rfl)) (mv (oL rfl rfl rfl (OpW.move (v := .slice b11 ((normF l).length) c13) rfl ?_))))))
 refine oL rfl rfl rfl (OpW.lenS Tryd.underlying50 (l := (normF l).length) rfl ?_)
 refine oL rfl rfl rfl (OpW.eqlI (a := (((normF l).length : Nat) : Int)) (b := ((0 : Nat) : Int)) (r := true) rfl rfl (decide_eq_true (by unfold normF; rw [if_pos (.inl hng)]; rfl)) ?_)
 refine oC (pT (v := .bool true) rfl rfl (mv ?_))
 have g8 := (g7.trans gr6).put p1 n1 lo2
 refine oL rfl rfl rfl (cF Tryd.call20 (known_c  g8.sat (tb.mono ((l1.trans gr4.le).trans gr5.le)) ) rfl ?_)
 intro r8 h7 w10 gr7 hr8
 subst hr8
 refine oC (pT (v := .bool true) rfl rfl (ma (oN (Wp.ret (fin1_ret rfl (resOf_tmp (v := .bool true) rfl) ?_)))))
 have g9 := g8.trans gr7
 refine ⟨h7, g9, ?_⟩
 exact rfl
 replace c16 : ¬ ((l.take k).any negF = true) := (raw_f c16)
 have hng : l.any negF = false := by have hx := c16; rwa [List.take_of_length_le (by omega), Bool.not_eq_true] at hx
 refine Wp.skip (wS (sr (oC (lA (cs := [.bool ((frK (sumF l)).neg), .slice b12 ((frK (sumF l)).n.length) c14, .slice b13 ((frK (sumF l)).d.length) c15]) Tryd.isAgg24 Tryd.sizeOf24 rfl p1.at_ rfl rfl ?_))))
 have g10 := (g7.trans gr6).put p1 n1 lo2
 refine oC (cF Tryd.call23 (rSign_c (a := frK (sumF l)) g10.sat (F.mk u7 u8) (by first | omega | (simp only [bf_frK, frK_rat, wts_cons, wts_nil]; omega))) rfl ?_)
 intro r9 h8 w11 gr8 hr9
 simp only [frK_rat, bf_frK, val_digs] at hr9
 subst hr9
 refine oC (OpW.eqlI (a := (sgQ (sumF l))) (b := ((0 : Nat) : Int)) (r := decide ((sgQ (sumF l)) = ((0 : Nat) : Int))) rfl rfl rfl (oN (Wp.cond (t := decide ((sgQ (sumF l)) = ((0 : Nat) : Int))) rfl (fun c17 => ?_) (fun c17 => ?_))))
 replace c17 : (sgQ (sumF l)) = ((0 : Nat) : Int) := (of_decide_eq_true c17)
 have hs0 : sumF l = 0 := hz.1 c17
 refine wS (fg [(5, .slice b11 ((normF l).length) c13), (6, .int .i64 (normE l))] rfl (fun ρ6 => (wR (mv (oC (OpW.eqlI (a := (normE l)) (b := ((3 : Nat) : Int)) (r := true) rfl rfl (decide_eq_true (by unfold normE; rw [hng, if_neg (by decide), if_pos hs0]; rfl)) (mv (oL rfl rfl rfl (OpW.move (v := .slice b11 ((normF l).length) c13) rfl ?_)))))))))
 refine oL rfl rfl rfl (OpW.lenS Tryd.underlying50 (l := (normF l).length) rfl ?_)
 refine oL rfl rfl rfl (OpW.eqlI (a := (((normF l).length : Nat) : Int)) (b := ((0 : Nat) : Int)) (r := true) rfl rfl (decide_eq_true (by unfold normF; rw [if_pos (.inr hs0)]; rfl)) ?_)
 refine oC (pT (v := .bool true) rfl rfl (mv ?_))
 have g11 := g10.trans gr8
 refine oL rfl rfl rfl (cF Tryd.call20 (known_c  g11.sat (tb.mono (((l1.trans gr4.le).trans gr5.le).trans gr8.le)) ) rfl ?_)
 intro r10 h9 w12 gr9 hr10
 subst hr10
 refine oC (pT (v := .bool true) rfl rfl (ma (oN (Wp.ret (fin1_ret rfl (resOf_tmp (v := .bool true) rfl) ?_)))))
 have g12 := g11.trans gr9
 refine ⟨h9, g12, ?_⟩
 exact rfl
 replace c17 : ¬ ((sgQ (sumF l)) = ((0 : Nat) : Int)) := (of_decide_eq_false c17)
 have hs0 : sumF l ≠ 0 := fun e => c17 (hz.2 e)
 have hnl := norm_len hng hs0
 have hmul := Nat.mul_le_mul hbs (show l.length ≤ 8 by omega)
 have hnw := norm_wts hqa hbs hng hs0
 have hmul2 := Nat.mul_le_mul_right (1 + wts l) (show l.length ≤ 8 by omega)
 rw [Nat.mul_comm] at hmul2
 refine Wp.skip (wS (wS (fg [(0, .slice b1 l.length c1), (5, .slice b11 ((normF l).length) c13), (6, .int .i64 (normE l)), (7, .pointer (some ⟨b14, 0, none⟩))] rfl (fun ρ7 => (wR (mv (oC (OpW.neqI (a := (normE l)) (b := ((0 : Nat) : Int)) (r := false) rfl rfl (decide_eq_false (fun h => h (by unfold normE; rw [hng, if_neg (by decide), if_neg hs0]; rfl))) (mv (oL rfl rfl rfl (OpW.move (v := .slice b11 ((normF l).length) c13) rfl ?_)))))))))))
 refine oL rfl rfl rfl (OpW.lenS Tryd.underlying50 (l := (normF l).length) rfl ?_)
 refine oL rfl rfl rfl (OpW.move (v := .slice b1 l.length c1) rfl ?_)
 refine oL rfl rfl rfl (OpW.lenS Tryd.underlying50 (l := l.length) rfl ?_)
 refine oL rfl rfl rfl (OpW.neqI (a := (((normF l).length : Nat) : Int)) (b := ((l.length : Nat) : Int)) (r := false) rfl rfl (decide_eq_false (fun h => h (congrArg (fun n : Nat => (n : Int)) hnl))) ?_)
 refine oC (pF (v := .bool false) rfl rfl (mv (oL rfl rfl rfl (OpW.move (v := .slice b11 ((normF l).length) c13) rfl ?_))))
 have g13 := g10.trans gr8
 refine oL rfl rfl rfl (cF Tryd.call66 (Distribution_c (l := (normF l).map frK) g13.sat (LR.toF (LR.mono hr5 (gr5.le.trans gr8.le))) (by first | omega | (simp only [bf_frK, frK_rat, wts_cons, wts_nil]; omega))) rfl ?_)
 intro r11 h10 w13 gr10 hr11
 replace hr11 := hr11.trans (congrArg Value.bool (norm_dist hng hs0))
 subst hr11
 refine oL rfl rfl rfl (OpW.notB (a := true) (r := false) rfl rfl ?_)
 refine oC (pF (v := .bool false) rfl rfl (oN (Wp.cond_f rfl (Wp.skip (wS (wS (fg [(0, .slice b1 l.length c1), (5, .slice b11 ((normF l).length) c13), (7, .pointer (some ⟨b14, 0, none⟩))] rfl (fun ρ8 => (wR (ma (oN (Wp.block ?_))))))))))))
 have g14 := g13.trans gr10
 have o6 := gr10.kp (gr8.kp ⟨p1.at_, n1⟩)
 refine Wp.loop (σ := Nat) (fun (k2 : Nat) (ρ : Env) (w' : World) => ∃ ρb h', ρ = upds ρb [(0, .slice b1 l.length c1), (5, .slice b11 ((normF l).length) c13), (7, .pointer (some ⟨b14, 0, none⟩)), (8, .int .i64 ((k2 : Nat) : Int))] ∧ Gr h w h' w' ∧ PH.le h10 h' ∧ w'.heap[b14]? = some (.cells #[.bool ((frK (sumF l)).neg), .slice b12 ((frK (sumF l)).n.length) c14, .slice b13 ((frK (sumF l)).d.length) c15] 24 (0, 0)) ∧ h' b14 = none ∧ (k2 ≤ l.length)) (fun (k2 : Nat) => l.length - k2) 0 ?_ ?_
 exact ⟨_, h10, nm rfl, g14, PH.le.refl _, o6.1, o6.2, (by omega)⟩
 rintro k2 ρ9 w14 ⟨ρ10, h11, rfl, g15, l2, o7, n2, hk2⟩
 have hc2 := bf_getD l k2
 have hc3 := LF.bq_getD pv0 k2
 have hc4 := bf_n (l.getD k2 fr0)
 have hc5 := bf_d (l.getD k2 fr0)
 have hc7 := len_wts l
 have hna := fun h => norm_at (k := k2) hng hs0 h
 have hbq := bq_div (l.getD k2 fr0).rat (sumF l)
 refine wS (sr (mv (mv (oC (OpW.lenS Tryd.underlying50 (l := l.length) rfl ?_)))))
 refine oC (OpW.lss (a := ((k2 : Nat) : Int)) (b := ((l.length : Nat) : Int)) (r := decide (k2 < l.length)) rfl rfl (lt_nat (a := k2) (b := l.length)) (oN (Wp.cond (t := decide (k2 < l.length)) rfl (fun c18 => ?_) (fun c18 => ?_))))
 replace c18 : k2 < l.length := (of_decide_eq_true c18)
 have hbq2 : bq ((normF l).getD k2 0) ≤ bq (l.getD k2 fr0).rat + bq (sumF l) := by rw [hna (by omega)]; exact hbq
 refine Wp.skip (wS (Wp.block (wS ?_)))
 obtain ⟨b15, o8, a4, e8, z4, cs4, qs1, qb4, qv4, qf4, qr4⟩ := LR.at' (LR.mono hr5 (((gr5.le.trans gr8.le).trans gr10.le).trans l2)) 0 (s := 3) rfl (i := k2) (by omega)
 obtain ⟨b16, c19, b17, c20, rfl, k11, k12, u9, u10⟩ := F.open qr4
 obtain ⟨b18, o9, a5, e14, z5, cs5, qs2, qb5, qv5, qf5, qr5⟩ := LR.at' (LR.mono pv0 (((((l1.trans gr4.le).trans gr5.le).trans gr8.le).trans gr10.le).trans l2)) fr0 (s := 3) rfl (i := k2) (by omega)
 obtain ⟨b19, c21, b20, c22, rfl, k13, k14, u11, u12⟩ := F.open qr5
 have hbq4 : bq (l.getD k2 fr0).rat ≤ bf (l.getD k2 fr0) := F.bq qr5
 have hf1 := bq_div (l.getD k2 fr0).rat (sumF l)
 refine Wp.dagL 12 [96, 97, 98, 99, 100, 101, 102, 103, 104, 105, 106, 107] [eqv (.slice b11 ((normF l).length) c13), eqv (.int .i64 ((k2 : Nat) : Int)), eqv (.pointer (some ⟨b15, o8 + k2 * 3, none⟩)), eqv (.agg #[.bool ((frK ((normF l).getD k2 0)).neg), .slice b16 ((frK ((normF l).getD k2 0)).n.length) c19, .slice b17 ((frK ((normF l).getD k2 0)).d.length) c20]), eqv (.slice b1 l.length c1), eqv (.int .i64 ((k2 : Nat) : Int)), eqv (.pointer (some ⟨b18, o9 + k2 * 3, none⟩)), eqv (.agg #[.bool ((l.getD k2 fr0).neg), .slice b19 ((l.getD k2 fr0).n.length) c21, .slice b20 ((l.getD k2 fr0).d.length) c22]), eqv (.agg #[.bool ((frK (sumF l)).neg), .slice b12 ((frK (sumF l)).n.length) c14, .slice b13 ((frK (sumF l)).d.length) c15]), fun h _ x => Kn h x ((l.getD k2 fr0).rat / (sumF l)), eqv (.bool true), eqv (.bool false)] mixed g15.sat rfl (by decide +kernel) ⟨sQ _, sQ _, sQ _, sQ _, sQ _, sQ _, sQ _, sQ _, sQ _, (stab_K ((l.getD k2 fr0).rat / (sumF l))), sQ _, sQ _, trivial⟩ ?_ ?_
 intro stab
 refine ⟨?_, ?_, ?_, ?_, ?_, ?_, ?_, ?_, ?_, ?_, ?_, ?_, trivial⟩
 intro ρ11 h12 w15 g16 hdd1 hdo1
 have e4 : ρ11 5 = .slice b11 ((normF l).length) c13 := hdo1 5 rfl
 refine gP (OpW.move (v := .slice b11 ((normF l).length) c13) e4 ?_)
 exact ⟨_, h12, rfl, g16, fun j x _ p => p, rfl⟩
 intro ρ12 h13 w16 g17 hdd2 hdo2
 have e5 : ρ12 8 = .int .i64 ((k2 : Nat) : Int) := hdo2 8 rfl
 refine gP (OpW.move (v := .int .i64 ((k2 : Nat) : Int)) e5 ?_)
 exact ⟨_, h13, rfl, g17, fun j x _ p => p, rfl⟩
 intro ρ13 h14 w17 g18 hdd3 hdo3
 have e6 : ρ13 96 = .slice b11 ((normF l).length) c13 := hdd3 0 (by decide)
 have e7 : ρ13 97 = .int .i64 ((k2 : Nat) : Int) := hdd3 1 (by decide)
 refine gP (iA (b := b15) (off := o8) (l := (normF l).length) (c := c13) (i := ((k2 : Nat) : Int)) (o := o8 + k2 * 3) Tryd.underlying50 Tryd.sizeOf24 (e6.trans (congrArg (fun x => Value.slice x ((normF l).length) c13) qs1)) e7 (by omega) (by omega) ?_)
 exact ⟨_, h14, rfl, g18, fun j x _ p => p, rfl⟩
 intro ρ14 h15 w18 g19 hdd4 hdo4
 have e9 : ρ14 98 = .pointer (some ⟨b15, o8 + k2 * 3, none⟩) := hdd4 2 (by decide)
 have g20 := g15.trans g19
 refine gP (OpW.loadA (cs := [.bool ((frK ((normF l).getD k2 0)).neg), .slice b16 ((frK ((normF l).getD k2 0)).n.length) c19, .slice b17 ((frK ((normF l).getD k2 0)).d.length) c20]) Tryd.isAgg24 Tryd.sizeOf24 e9 (g20.sat _ _ (g19.le _ _ qb4)) qf4 qv4 ?_)
 exact ⟨_, h15, rfl, g19, fun j x _ p => p, rfl⟩
 intro ρ15 h16 w19 g21 hdd5 hdo5
 have e10 : ρ15 0 = .slice b1 l.length c1 := hdo5 0 rfl
 refine gP (OpW.move (v := .slice b1 l.length c1) e10 ?_)
 exact ⟨_, h16, rfl, g21, fun j x _ p => p, rfl⟩
 intro ρ16 h17 w20 g22 hdd6 hdo6
 have e11 : ρ16 8 = .int .i64 ((k2 : Nat) : Int) := hdo6 8 rfl
 refine gP (OpW.move (v := .int .i64 ((k2 : Nat) : Int)) e11 ?_)
 exact ⟨_, h17, rfl, g22, fun j x _ p => p, rfl⟩
 intro ρ17 h18 w21 g23 hdd7 hdo7
 have e12 : ρ17 100 = .slice b1 l.length c1 := hdd7 4 (by decide)
 have e13 : ρ17 101 = .int .i64 ((k2 : Nat) : Int) := hdd7 5 (by decide)
 refine gP (iA (b := b18) (off := o9) (l := l.length) (c := c1) (i := ((k2 : Nat) : Int)) (o := o9 + k2 * 3) Tryd.underlying50 Tryd.sizeOf24 (e12.trans (congrArg (fun x => Value.slice x l.length c1) qs2)) e13 (by omega) (by omega) ?_)
 exact ⟨_, h18, rfl, g23, fun j x _ p => p, rfl⟩
 intro ρ18 h19 w22 g24 hdd8 hdo8
 have e15 : ρ18 102 = .pointer (some ⟨b18, o9 + k2 * 3, none⟩) := hdd8 6 (by decide)
 have g25 := g15.trans g24
 refine gP (OpW.loadA (cs := [.bool ((l.getD k2 fr0).neg), .slice b19 ((l.getD k2 fr0).n.length) c21, .slice b20 ((l.getD k2 fr0).d.length) c22]) Tryd.isAgg24 Tryd.sizeOf24 e15 (g25.sat _ _ (g24.le _ _ qb5)) qf5 qv5 ?_)
 exact ⟨_, h19, rfl, g24, fun j x _ p => p, rfl⟩
 intro ρ19 h20 w23 g26 hdd9 hdo9
 have e16 : ρ19 7 = .pointer (some ⟨b14, 0, none⟩) := hdo9 7 rfl
 have o10 := g26.kp ⟨o7, n2⟩
 refine gP (lA (cs := [.bool ((frK (sumF l)).neg), .slice b12 ((frK (sumF l)).n.length) c14, .slice b13 ((frK (sumF l)).d.length) c15]) Tryd.isAgg24 Tryd.sizeOf24 e16 o10.1 rfl rfl ?_)
 exact ⟨_, h20, rfl, g26, fun j x _ p => p, rfl⟩
 intro ρ20 h21 w24 g27 hdd10 hdo10
 have e17 : ρ20 103 = .agg #[.bool ((l.getD k2 fr0).neg), .slice b19 ((l.getD k2 fr0).n.length) c21, .slice b20 ((l.getD k2 fr0).d.length) c22] := hdd10 7 (by decide)
 have e18 : ρ20 104 = .agg #[.bool ((frK (sumF l)).neg), .slice b12 ((frK (sumF l)).n.length) c14, .slice b13 ((frK (sumF l)).d.length) c15] := hdd10 8 (by decide)
 have g28 := g15.trans g27
 refine gP (cF Tryd.call49 (rDiv_c (a := l.getD k2 fr0) (b := frK (sumF l)) g28.sat (F.mono qr5 g27.le) (F.mk (U.mono u7 (((gr8.le.trans gr10.le).trans l2).trans g27.le)) (U.mono u8 (((gr8.le.trans gr10.le).trans l2).trans g27.le))) (by first | omega | (simp only [bf_frK, frK_rat, wts_cons, wts_nil]; omega)) (by first | assumption | (rw [frK_rat]; assumption) | omega)) (cx e17 (cx e18 cxn)) ?_)
 intro r12 h22 w25 gr11 hr12
 simp only [frK_rat, bf_frK, val_digs] at hr12
 exact ⟨r12, h22, rfl, g27.trans gr11, fun j x _ => stab j _ _ _ _ x gr11, hr12⟩
 intro ρ21 h23 w26 g29 hdd11 hdo11
 have e19 : ρ21 99 = .agg #[.bool ((frK ((normF l).getD k2 0)).neg), .slice b16 ((frK ((normF l).getD k2 0)).n.length) c19, .slice b17 ((frK ((normF l).getD k2 0)).d.length) c20] := hdd11 3 (by decide)
 have q1 : Kn h23 (ρ21 105) ((l.getD k2 fr0).rat / (sumF l)) := hdd11 9 (by decide)
 have g30 := g15.trans g29
 refine gP (cF Tryd.call22 (rSame_c (f := frK ((normF l).getD k2 0)) (g := frK ((l.getD k2 fr0).rat / (sumF l))) g30.sat (F.mono qr4 g29.le) q1 (by first | omega | (simp only [bf_frK, frK_rat, wts_cons, wts_nil]; omega)) (by first | omega | (simp only [bf_frK, frK_rat, wts_cons, wts_nil]; omega))) (cx e19 (cx rfl cxn)) ?_)
 intro r13 h24 w27 gr12 hr13
 replace hr13 := hr13.trans (congrArg Value.bool (sameF_cast (congrArg frK (hna (by omega)))))
 exact ⟨r13, h24, rfl, g29.trans gr12, fun j x _ => stab j _ _ _ _ x gr12, hr13⟩
 intro ρ22 h25 w28 g31 hdd12 hdo12
 have e20 : ρ22 106 = .bool true := hdd12 10 (by decide)
 refine gP (OpW.notB (a := true) (r := false) e20 rfl ?_)
 exact ⟨_, h25, rfl, g31, fun j x _ p => p, rfl⟩
 intro ρ23 h26 w29 g32 hdp1 hdo13
 have e21 : ρ23 0 = .slice b1 l.length c1 := hdo13 0 rfl
 have e22 : ρ23 5 = .slice b11 ((normF l).length) c13 := hdo13 5 rfl
 have e23 : ρ23 7 = .pointer (some ⟨b14, 0, none⟩) := hdo13 7 rfl
 have e24 : ρ23 8 = .int .i64 ((k2 : Nat) : Int) := hdo13 8 rfl
 have e25 : ρ23 107 = .bool false := hdp1 11 rfl
 refine Ops.forget [(0, .slice b1 l.length c1), (5, .slice b11 ((normF l).length) c13), (7, .pointer (some ⟨b14, 0, none⟩)), (8, .int .i64 ((k2 : Nat) : Int)), (107, .bool false)] ⟨e21, e22, e23, e24, e25, trivial⟩ (fun ρ24 => (oN (Wp.cond_f rfl (Wp.skip (wR (mv (oC (OpW.add (a := ((k2 : Nat) : Int)) (b := ((1 : Nat) : Int)) (r := ((k2 + 1 : Nat) : Int)) rfl rfl (add_i64 (a := k2) (b := 1) (by omega)) (ma (oN ?_))))))))))
 have g33 := g15.trans g32
 have o11 := g32.kp ⟨o7, n2⟩
 exact ⟨(k2 + 1), ⟨_, h26, nm rfl, g33, (l2.trans g32.le), o11.1, o11.2, (by omega)⟩, (by omega)⟩
 replace c18 : ¬ (k2 < l.length) := (of_decide_eq_false c18)
 refine Wp.exit (sr (oC (cF Tryd.call20 (known_c  g15.sat (tb.mono (((((l1.trans gr4.le).trans gr5.le).trans gr8.le).trans gr10.le).trans l2)) ) rfl ?_)))
 intro r14 h27 w30 gr13 hr14
 subst hr14
 refine ma (oN (Wp.ret (fin1_ret rfl (resOf_tmp (v := .bool true) rfl) ?_)))
 have g34 := g15.trans gr13
 refine ⟨h27, g34, ?_⟩
 exact rfl
end Go.Ear
