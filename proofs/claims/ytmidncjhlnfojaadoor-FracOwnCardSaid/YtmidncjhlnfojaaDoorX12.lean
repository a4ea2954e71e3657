/- About package frac: X12. -/
import Derived.Test.YtmidncjhlnfojaaDoorNatLaw2
import Derived.Test.YtmidncjhlnfojaaDoorEarShort
import Derived.Test.YtmidncjhlnfojaaDoorProg
import Derived.Test.YtmidncjhlnfojaaDoorNatLaw3
import Derived.Test.YtmidncjhlnfojaaDoorEarFrac
import Derived.Test.YtmidncjhlnfojaaDoorEarDec
import Derived.Test.YtmidncjhlnfojaaDoorItoaLay
import Derived.Lib.ItoaMem
import Derived.Test.YtmidncjhlnfojaaDoorEarApi
import Derived.Test.YtmidncjhlnfojaaDoorEarRef2
import Derived.Test.YtmidncjhlnfojaaDoorK1
import Derived.Test.YtmidncjhlnfojaaDoorK10
import Derived.Test.YtmidncjhlnfojaaDoorK12
import Derived.Test.YtmidncjhlnfojaaDoorX10
set_option linter.all false
namespace Go.Ear
open Go.Proofs
set_option maxRecDepth 20000
set_option linter.unusedVariables false
set_option maxHeartbeats 2000000
theorem rCanon_c {h : PH} {w : World} {v0 : Value} {a : Fr} (hs : Sat h w) (pv0 : F h v0 a) (hp0 : bf a ≤ 134217000) :
    Calls Tryd.prog 34 #[v0] w (Ret h w fun h' r => Kn h' r a.rat) := by
 obtain ⟨b1, c1, b2, c2, rfl, k1, k2, u1, u2⟩ := F.shape pv0
 have hbq1 := F.bq pv0
 have hbn := bf_n a
 have hbd := bf_d a
 have hbp := bf_pos a
 refine calls_ear (vs := [.agg #[.bool a.neg, .slice b1 a.n.length c1, .slice b2 a.d.length c2]]) Tryd.func34 rfl rfl ?_
 have g1 := Gr.refl hs
 refine sr (oC (OpW.boxK (v := .agg #[.bool a.neg, .slice b1 a.n.length c1, .slice b2 a.d.length c2]) (arr := #[.bool a.neg, .slice b1 a.n.length c1, .slice b2 a.d.length c2]) g1.sat rfl rfl ?_))
 intro b3 h1 w1 gr1 qb1
 have g2 := g1.trans gr1
 refine oC (OpW.allocO (arr := #[.bool false, .slice none 0 0, .slice none 0 0]) g2.sat Tryd.zeroValue24 rfl ?_)
 intro b4 w2 gr2 n1 lo1 o1
 have lo2 := Nat.le_trans g2.ext.size lo1
 refine oN (sr (oC (fA (o := 0) Tryd.underlying24 rfl Tryd.sizeOf4 (by decide) rfl rfl ?_)))
 have g3 := g2.trans gr2
 refine oC (lO (v := .bool a.neg) Tryd.isAgg4 rfl (g3.sat _ _ qb1) rfl ?_)
 refine oC (fA (o := 1) Tryd.underlying24 rfl Tryd.sizeOf22 (by decide) rfl rfl ?_)
 refine oC (lO (v := .slice b1 a.n.length c1) Tryd.isAgg22 rfl (g3.sat _ _ qb1) rfl ?_)
 refine oC (fA (o := 2) Tryd.underlying24 rfl Tryd.sizeOf22 (by decide) rfl rfl ?_)
 refine oC (lO (v := .slice b2 a.d.length c2) Tryd.isAgg22 rfl (g3.sat _ _ qb1) rfl ?_)
 refine oC (cF Tryd.call81 (rmake1_c (s := a.neg) (n := a.n) (d := a.d) g3.sat (U.mono u1 gr1.le) (U.mono u2 gr1.le) (by omega) (by first | omega | exact Nat.zero_le _)) rfl ?_)
 intro r1 h2 w3 gr3 hr1
 obtain ⟨b5, c3, b6, c4, rfl, k3, k4, u3, u4⟩ := F.shape hr1
 have o2 := gr3.kp ⟨o1, n1⟩
 refine oC (sA (cs := [.bool ((frK ((Fr.mk a.neg a.n a.d).rat)).neg), .slice b5 ((frK ((Fr.mk a.neg a.n a.d).rat)).n.length) c3, .slice b6 ((frK ((Fr.mk a.neg a.n a.d).rat)).d.length) c4]) Tryd.sizeOf24 rfl rfl rfl rfl o2.1 rfl ?_)
 intro w4 p1
 refine oN (Wp.ret (fin1_ret rfl (resOf_cellA (cs := [.bool ((frK ((Fr.mk a.neg a.n a.d).rat)).neg), .slice b5 ((frK ((Fr.mk a.neg a.n a.d).rat)).n.length) c3, .slice b6 ((frK ((Fr.mk a.neg a.n a.d).rat)).d.length) c4]) Tryd.isAgg24 Tryd.sizeOf24 rfl p1.at_ (Nat.le_of_ble_eq_true rfl) rfl) ?_))
 have g4 := (g3.trans gr3).put p1 o2.2 lo2
 refine ⟨h2, g4, ?_⟩
 exact (show Kn _ _ a.rat from (F.mk u3 u4))
theorem rsameDigits_c {h : PH} {w : World} {v0 : Value} {a : List Nat} {v1 : Value} {b : List Nat} (hs : Sat h w) (pv0 : U h v0 a) (pv1 : U h v1 b) (hp0 : a.length ≤ 1099511627776) (hp1 : b.length ≤ 1099511627776) :
    Calls Tryd.prog 75 #[v0, v1] w (Ret h w fun h' r => r = .bool (decide (a = b))) := by
 obtain ⟨b1, c1, rfl, k1⟩ := U.shape pv0
 obtain ⟨b2, c2, rfl, k2⟩ := U.shape pv1
 refine calls_ear (vs := [.slice b1 a.length c1, .slice b2 b.length c2]) Tryd.func75 rfl rfl ?_
 have g1 := Gr.refl hs
 refine sr (ma (oN (wS (sr (mv (oC (OpW.lenS Tryd.underlying22 (l := a.length) rfl (mv (oC (OpW.lenS Tryd.underlying22 (l := b.length) rfl ?_))))))))))
 refine oC (OpW.neqI (a := ((a.length : Nat) : Int)) (b := ((b.length : Nat) : Int)) (r := decide (a.length ≠ b.length)) rfl rfl (ne_nat (a := a.length) (b := b.length)) (oN (Wp.cond (t := decide (a.length ≠ b.length)) rfl (fun c3 => ?_) (fun c3 => ?_))))
 replace c3 : a.length ≠ b.length := (of_decide_eq_true c3)
 refine sr (ma (oN (Wp.ret (fin1_ret rfl (resOf_tmp (v := .bool false) rfl) ?_))))
 refine ⟨h, g1, ?_⟩
 exact (boolv (decide_eq_false (fun e => absurd (congrArg List.length e) (by assumption))).symm)
 replace c3 : ¬ (a.length ≠ b.length) := (of_decide_eq_false c3)
 have hlen : a.length = b.length := by omega
 refine Wp.skip (wS (sr (ma (oN (Wp.block (Wp.loop (σ := Nat) (fun (k : Nat) (ρ : Env) (w' : World) => ∃ ρb h', ρ = upds ρb [(0, .slice b1 a.length c1), (1, .slice b2 b.length c2), (5, .int .i64 ((k : Nat) : Int))] ∧ Gr h w h' w' ∧ PH.le h h' ∧ (k ≤ a.length) ∧ (a.take k = b.take k)) (fun (k : Nat) => a.length - k) 0 ?_ ?_))))))
 exact ⟨_, h, nm rfl, g1, PH.le.refl _, (by omega), rfl⟩
 rintro k ρ1 w1 ⟨ρ2, h1, rfl, g2, l1, hk, hd⟩
 refine wS (sr (mv (mv (oC (OpW.lenS Tryd.underlying22 (l := a.length) rfl ?_)))))
 refine oC (OpW.lss (a := ((k : Nat) : Int)) (b := ((a.length : Nat) : Int)) (r := decide (k < a.length)) rfl rfl (lt_nat (a := k) (b := a.length)) (oN (Wp.cond (t := decide (k < a.length)) rfl (fun c4 => ?_) (fun c4 => ?_))))
 replace c4 : k < a.length := (of_decide_eq_true c4)
 refine Wp.skip (wS (Wp.block (wS ?_)))
 obtain ⟨b3, o1, a1, e5, z1, qs1, qb1, qv1⟩ := U.at (U.mono pv0 l1) (i := k) (by omega)
 have bd1 := Fit.getD (U.mono pv0 l1).1 k
 obtain ⟨b4, o2, a2, e11, z2, qs2, qb2, qv2⟩ := U.at (U.mono pv1 l1) (i := k) (by omega)
 have bd2 := Fit.getD (U.mono pv1 l1).1 k
 refine Wp.dagL 9 [17, 18, 19, 20, 21, 22, 23, 24, 25] [eqv (.slice b1 a.length c1), eqv (.int .i64 ((k : Nat) : Int)), eqv (.pointer (some ⟨b3, o1 + k, none⟩)), eqv (.int .u32 ((a.getD k 0 : Nat) : Int)), eqv (.slice b2 b.length c2), eqv (.int .i64 ((k : Nat) : Int)), eqv (.pointer (some ⟨b4, o2 + k, none⟩)), eqv (.int .u32 ((b.getD k 0 : Nat) : Int)), eqv (.bool (decide (a.getD k 0 ≠ b.getD k 0)))] mixed g2.sat rfl (by decide +kernel) ⟨sQ _, sQ _, sQ _, sQ _, sQ _, sQ _, sQ _, sQ _, sQ _, trivial⟩ ?_ ?_
 intro stab
 refine ⟨?_, ?_, ?_, ?_, ?_, ?_, ?_, ?_, ?_, trivial⟩
 intro ρ3 h2 w2 g3 hdd1 hdo1
 have e1 : ρ3 0 = .slice b1 a.length c1 := hdo1 0 rfl
 refine gP (OpW.move (v := .slice b1 a.length c1) e1 ?_)
 exact ⟨_, h2, rfl, g3, fun j x _ p => p, rfl⟩
 intro ρ4 h3 w3 g4 hdd2 hdo2
 have e2 : ρ4 5 = .int .i64 ((k : Nat) : Int) := hdo2 5 rfl
 refine gP (OpW.move (v := .int .i64 ((k : Nat) : Int)) e2 ?_)
 exact ⟨_, h3, rfl, g4, fun j x _ p => p, rfl⟩
 intro ρ5 h4 w4 g5 hdd3 hdo3
 have e3 : ρ5 17 = .slice b1 a.length c1 := hdd3 0 (by decide)
 have e4 : ρ5 18 = .int .i64 ((k : Nat) : Int) := hdd3 1 (by decide)
 refine gP (iA (b := b3) (off := o1) (l := a.length) (c := c1) (i := ((k : Nat) : Int)) (o := o1 + k) Tryd.underlying22 Tryd.sizeOf51 (e3.trans (congrArg (fun x => Value.slice x a.length c1) qs1)) e4 (by omega) (by omega) ?_)
 exact ⟨_, h4, rfl, g5, fun j x _ p => p, rfl⟩
 intro ρ6 h5 w5 g6 hdd4 hdo4
 have e6 : ρ6 19 = .pointer (some ⟨b3, o1 + k, none⟩) := hdd4 2 (by decide)
 have g7 := g2.trans g6
 refine gP (lO (v := .int .u32 ((a.getD k 0 : Nat) : Int)) Tryd.isAgg51 e6 (g7.sat _ _ (g6.le _ _ qb1)) qv1 ?_)
 exact ⟨_, h5, rfl, g6, fun j x _ p => p, rfl⟩
 intro ρ7 h6 w6 g8 hdd5 hdo5
 have e7 : ρ7 1 = .slice b2 b.length c2 := hdo5 1 rfl
 refine gP (OpW.move (v := .slice b2 b.length c2) e7 ?_)
 exact ⟨_, h6, rfl, g8, fun j x _ p => p, rfl⟩
 intro ρ8 h7 w7 g9 hdd6 hdo6
 have e8 : ρ8 5 = .int .i64 ((k : Nat) : Int) := hdo6 5 rfl
 refine gP (OpW.move (v := .int .i64 ((k : Nat) : Int)) e8 ?_)
 exact ⟨_, h7, rfl, g9, fun j x _ p => p, rfl⟩
 intro ρ9 h8 w8 g10 hdd7 hdo7
 have e9 : ρ9 21 = .slice b2 b.length c2 := hdd7 4 (by decide)
 have e10 : ρ9 22 = .int .i64 ((k : Nat) : Int) := hdd7 5 (by decide)
 refine gP (iA (b := b4) (off := o2) (l := b.length) (c := c2) (i := ((k : Nat) : Int)) (o := o2 + k) Tryd.underlying22 Tryd.sizeOf51 (e9.trans (congrArg (fun x => Value.slice x b.length c2) qs2)) e10 (by omega) (by omega) ?_)
 exact ⟨_, h8, rfl, g10, fun j x _ p => p, rfl⟩
 intro ρ10 h9 w9 g11 hdd8 hdo8
 have e12 : ρ10 23 = .pointer (some ⟨b4, o2 + k, none⟩) := hdd8 6 (by decide)
 have g12 := g2.trans g11
 refine gP (lO (v := .int .u32 ((b.getD k 0 : Nat) : Int)) Tryd.isAgg51 e12 (g12.sat _ _ (g11.le _ _ qb2)) qv2 ?_)
 exact ⟨_, h9, rfl, g11, fun j x _ p => p, rfl⟩
 intro ρ11 h10 w10 g13 hdd9 hdo9
 have e13 : ρ11 20 = .int .u32 ((a.getD k 0 : Nat) : Int) := hdd9 3 (by decide)
 have e14 : ρ11 24 = .int .u32 ((b.getD k 0 : Nat) : Int) := hdd9 7 (by decide)
 refine gP (OpW.neqI (a := ((a.getD k 0 : Nat) : Int)) (b := ((b.getD k 0 : Nat) : Int)) (r := decide (a.getD k 0 ≠ b.getD k 0)) e13 e14 (ne_nat (a := a.getD k 0) (b := b.getD k 0)) ?_)
 exact ⟨_, h10, rfl, g13, fun j x _ p => p, rfl⟩
 intro ρ12 h11 w11 g14 hdp1 hdo10
 have e15 : ρ12 0 = .slice b1 a.length c1 := hdo10 0 rfl
 have e16 : ρ12 1 = .slice b2 b.length c2 := hdo10 1 rfl
 have e17 : ρ12 5 = .int .i64 ((k : Nat) : Int) := hdo10 5 rfl
 have e18 : ρ12 25 = .bool (decide (a.getD k 0 ≠ b.getD k 0)) := hdp1 8 rfl
 refine Ops.forget [(0, .slice b1 a.length c1), (1, .slice b2 b.length c2), (5, .int .i64 ((k : Nat) : Int)), (25, .bool (decide (a.getD k 0 ≠ b.getD k 0)))] ⟨e15, e16, e17, e18, trivial⟩ (fun ρ13 => (oN (Wp.cond (t := decide (a.getD k 0 ≠ b.getD k 0)) rfl (fun c5 => ?_) (fun c5 => ?_))))
 replace c5 : a.getD k 0 ≠ b.getD k 0 := (of_decide_eq_true c5)
 refine sr (ma (oN (Wp.ret (fin1_ret rfl (resOf_tmp (v := .bool false) rfl) ?_))))
 have g15 := g2.trans g14
 refine ⟨h11, g15, ?_⟩
 exact (boolv (decide_eq_false (ne_of_getD (by assumption))).symm)
 replace c5 : ¬ (a.getD k 0 ≠ b.getD k 0) := (of_decide_eq_false c5)
 refine Wp.skip (wR (mv (oC (OpW.add (a := ((k : Nat) : Int)) (b := ((1 : Nat) : Int)) (r := ((k + 1 : Nat) : Int)) rfl rfl (add_i64 (a := k) (b := 1) (by omega)) (ma (oN ?_))))))
 have g16 := g2.trans g14
 exact ⟨(k + 1), ⟨_, h11, nm rfl, g16, (l1.trans g14.le), (by omega), (take_eq_succ (by omega) (by omega) hd (by omega))⟩, (by omega)⟩
 replace c4 : ¬ (k < a.length) := (of_decide_eq_false c4)
 refine Wp.exit (sr (ma (oN (Wp.ret (fin1_ret rfl (resOf_tmp (v := .bool true) rfl) ?_)))))
 refine ⟨h1, g2, ?_⟩
 exact (boolv (decide_eq_true (by rw [List.take_of_length_le (by omega), List.take_of_length_le (by omega)] at hd; exact hd)).symm)
theorem rSame_c {h : PH} {w : World} {v0 : Value} {f : Fr} {v1 : Value} {g : Fr} (hs : Sat h w) (pv0 : F h v0 f) (pv1 : F h v1 g) (hp0 : bf f ≤ 1000000000) (hp1 : bf g ≤ 1000000000) :
    Calls Tryd.prog 22 #[v0, v1] w (Ret h w fun h' r => r = .bool (sameF f g)) := by
 obtain ⟨b1, c1, b2, c2, rfl, k1, k2, u1, u2⟩ := F.shape pv0
 have hbq1 := F.bq pv0
 obtain ⟨b3, c3, b4, c4, rfl, k3, k4, u3, u4⟩ := F.shape pv1
 have hbq2 := F.bq pv1
 have hbn := bf_n f
 have hbd := bf_d f
 have hbn2 := bf_n g
 have hbd2 := bf_d g
 refine calls_ear (vs := [.agg #[.bool f.neg, .slice b1 f.n.length c1, .slice b2 f.d.length c2], .agg #[.bool g.neg, .slice b3 g.n.length c3, .slice b4 g.d.length c4]]) Tryd.func22 rfl rfl ?_
 have g1 := Gr.refl hs
 refine sr (oC (OpW.boxK (v := .agg #[.bool f.neg, .slice b1 f.n.length c1, .slice b2 f.d.length c2]) (arr := #[.bool f.neg, .slice b1 f.n.length c1, .slice b2 f.d.length c2]) g1.sat rfl rfl ?_))
 intro b5 h1 w1 gr1 qb1
 have g2 := g1.trans gr1
 refine oC (OpW.boxK (v := .agg #[.bool g.neg, .slice b3 g.n.length c3, .slice b4 g.d.length c4]) (arr := #[.bool g.neg, .slice b3 g.n.length c3, .slice b4 g.d.length c4]) g2.sat rfl rfl ?_)
 intro b6 h2 w2 gr2 qb2
 refine ma (oN (sr (oC (fA (o := 0) Tryd.underlying24 rfl Tryd.sizeOf4 (by decide) rfl rfl ?_))))
 have g3 := g2.trans gr2
 refine oC (lO (v := .bool f.neg) Tryd.isAgg4 rfl (g3.sat _ _ (gr2.le _ _ qb1)) rfl ?_)
 refine oC (fA (o := 0) Tryd.underlying24 rfl Tryd.sizeOf4 (by decide) rfl rfl ?_)
 refine oC (lO (v := .bool g.neg) Tryd.isAgg4 rfl (g3.sat _ _ qb2) rfl ?_)
 refine oC (OpW.eqlB (a := f.neg) (b := g.neg) (r := f.neg == g.neg) Tryd.underlying4 rfl rfl rfl (mv ?_))
 cases c5 : (f.neg == g.neg)
 replace c5 : ¬ (f.neg = g.neg) := (beq_f c5)
 refine oD rfl rfl rfl rfl (oD rfl rfl rfl rfl (oD rfl rfl rfl rfl (oD rfl rfl rfl rfl (oD rfl rfl rfl rfl (oC (pF (v := .bool false) rfl rfl (mv (oD rfl rfl rfl rfl (oD rfl rfl rfl rfl (oD rfl rfl rfl rfl (oD rfl rfl rfl rfl (oD rfl rfl rfl rfl (oC (pF (v := .bool false) rfl rfl (ma (oN (Wp.ret (fin1_ret rfl (resOf_tmp (v := .bool false) rfl) ?_))))))))))))))))))
 refine ⟨h2, g3, ?_⟩
 exact (boolv (by unfold sameF; simp_all))
 replace c5 : f.neg = g.neg := (beq_t c5)
 refine oL rfl rfl rfl (fA (o := 1) Tryd.underlying24 rfl Tryd.sizeOf22 (by decide) rfl rfl ?_)
 refine oL rfl rfl rfl (lO (v := .slice b1 f.n.length c1) Tryd.isAgg22 rfl (g3.sat _ _ (gr2.le _ _ qb1)) rfl ?_)
 refine oL rfl rfl rfl (fA (o := 1) Tryd.underlying24 rfl Tryd.sizeOf22 (by decide) rfl rfl ?_)
 refine oL rfl rfl rfl (lO (v := .slice b3 g.n.length c3) Tryd.isAgg22 rfl (g3.sat _ _ qb2) rfl ?_)
 refine oL rfl rfl rfl (cF Tryd.call75 (rsameDigits_c (a := f.n) (b := g.n) g3.sat (U.mono u1 (gr1.le.trans gr2.le)) (U.mono u3 (gr1.le.trans gr2.le)) (by omega) (by omega)) rfl ?_)
 intro r1 h3 w3 gr3 hr1
 subst hr1
 refine oC (pT (v := .bool (decide (f.n = g.n))) rfl rfl (mv ?_))
 cases c6 : (decide (f.n = g.n))
 replace c6 : ¬ (f.n = g.n) := (of_decide_eq_false c6)
 refine oD rfl rfl rfl rfl (oD rfl rfl rfl rfl (oD rfl rfl rfl rfl (oD rfl rfl rfl rfl (oD rfl rfl rfl rfl (oC (pF (v := .bool false) rfl rfl (ma (oN (Wp.ret (fin1_ret rfl (resOf_tmp (v := .bool false) rfl) ?_))))))))))
 have g4 := g3.trans gr3
 refine ⟨h3, g4, ?_⟩
 exact (boolv (by unfold sameF; simp_all))
 replace c6 : f.n = g.n := (of_decide_eq_true c6)
 refine oL rfl rfl rfl (fA (o := 2) Tryd.underlying24 rfl Tryd.sizeOf22 (by decide) rfl rfl ?_)
 have g5 := g3.trans gr3
 refine oL rfl rfl rfl (lO (v := .slice b2 f.d.length c2) Tryd.isAgg22 rfl (g5.sat _ _ ((gr2.le.trans gr3.le) _ _ qb1)) rfl ?_)
 refine oL rfl rfl rfl (fA (o := 2) Tryd.underlying24 rfl Tryd.sizeOf22 (by decide) rfl rfl ?_)
 refine oL rfl rfl rfl (lO (v := .slice b4 g.d.length c4) Tryd.isAgg22 rfl (g5.sat _ _ (gr3.le _ _ qb2)) rfl ?_)
 refine oL rfl rfl rfl (cF Tryd.call75 (rsameDigits_c (a := f.d) (b := g.d) g5.sat (U.mono u2 ((gr1.le.trans gr2.le).trans gr3.le)) (U.mono u4 ((gr1.le.trans gr2.le).trans gr3.le)) (by omega) (by omega)) rfl ?_)
 intro r2 h4 w4 gr4 hr2
 subst hr2
 refine oC (pT (v := .bool (decide (f.d = g.d))) rfl rfl (ma (oN (Wp.ret (fin1_ret rfl (resOf_tmp (v := .bool (decide (f.d = g.d))) rfl) ?_)))))
 have g6 := g5.trans gr4
 refine ⟨h4, g6, ?_⟩
 exact (boolv (by unfold sameF; simp_all))
theorem rOf_c {h : PH} {w : World} {n : Int} (hs : Sat h w) (hp0 : -9223372036854775808 ≤ n) (hp1 : n ≤ 9223372036854775807) :
    Calls Tryd.prog 38 #[.int .i64 n] w (Ret h w fun h' r => Kn h' r ((n : Int) : Rat)) := by
 have hsb := bq_intc hp0 hp1
 have hss := sz_small (n := n.natAbs) (by omega)
 have hl1 : (digs n.natAbs).length ≤ 536870912 := Nat.le_trans hss (by omega)
 refine calls_ear (vs := [.int .i64 n]) Tryd.func38 rfl rfl ?_
 have g1 := Gr.refl hs
 refine sr (oC (OpW.allocO (arr := #[.bool false, .slice none 0 0, .slice none 0 0]) g1.sat Tryd.zeroValue24 rfl ?_))
 intro b1 w1 gr1 n1 lo1 o1
 have lo2 := Nat.le_trans g1.ext.size lo1
 refine oN (sr (mv (oC (OpW.lss (a := n) (b := ((0 : Nat) : Int)) (r := decide (n < ((0 : Nat) : Int))) rfl rfl rfl (mv ?_)))))
 have g2 := g1.trans gr1
 refine oC (cF Tryd.call83 (rsize_c (n := n) g2.sat  (by omega) (by omega)) rfl ?_)
 intro r1 h1 w2 gr2 hr1
 subst hr1
 have g3 := g2.trans gr2
 refine oC (cF Tryd.call82 (rnatural_c (n := n.natAbs) g3.sat  (by omega)) rfl ?_)
 intro r2 h2 w3 gr3 hr2
 obtain ⟨b2, c1, rfl, k1⟩ := N.shape hr2
 have g4 := g3.trans gr3
 refine oC (cF Tryd.call81 (rmake1_c (s := decide (n < ((0 : Nat) : Int))) (n := digs n.natAbs) (d := []) g4.sat hr2 (U.nil _ none _) (by omega) (by first | omega | exact Nat.zero_le _)) rfl ?_)
 intro r3 h3 w4 gr4 hr3
 obtain ⟨b3, c2, b4, c3, rfl, k2, k3, u1, u2⟩ := F.shape hr3
 have o2 := gr4.kp (gr3.kp (gr2.kp ⟨o1, n1⟩))
 refine oC (sA (cs := [.bool ((frK ((Fr.mk (decide (n < ((0 : Nat) : Int))) (digs n.natAbs) ([])).rat)).neg), .slice b3 ((frK ((Fr.mk (decide (n < ((0 : Nat) : Int))) (digs n.natAbs) ([])).rat)).n.length) c2, .slice b4 ((frK ((Fr.mk (decide (n < ((0 : Nat) : Int))) (digs n.natAbs) ([])).rat)).d.length) c3]) Tryd.sizeOf24 rfl rfl rfl rfl o2.1 rfl ?_)
 intro w5 p1
 refine oN (Wp.ret (fin1_ret rfl (resOf_cellA (cs := [.bool ((frK ((Fr.mk (decide (n < ((0 : Nat) : Int))) (digs n.natAbs) ([])).rat)).neg), .slice b3 ((frK ((Fr.mk (decide (n < ((0 : Nat) : Int))) (digs n.natAbs) ([])).rat)).n.length) c2, .slice b4 ((frK ((Fr.mk (decide (n < ((0 : Nat) : Int))) (digs n.natAbs) ([])).rat)).d.length) c3]) Tryd.isAgg24 Tryd.sizeOf24 rfl p1.at_ (Nat.le_of_ble_eq_true rfl) rfl) ?_))
 have g5 := (g4.trans gr4).put p1 o2.2 lo2
 refine ⟨h3, g5, ?_⟩
 exact (Kn.cast (mk_rat1.trans int_s) (F.mk u1 u2))
theorem rNeg_c {h : PH} {w : World} {v0 : Value} {a : Fr} (hs : Sat h w) (pv0 : F h v0 a) (hp0 : bf a ≤ 134217000) :
    Calls Tryd.prog 46 #[v0] w (Ret h w fun h' r => Kn h' r (-a.rat)) := by
 obtain ⟨b1, c1, b2, c2, rfl, k1, k2, u1, u2⟩ := F.shape pv0
 have hbq1 := F.bq pv0
 have hbn := bf_n a
 have hbd := bf_d a
 have hbp := bf_pos a
 refine calls_ear (vs := [.agg #[.bool a.neg, .slice b1 a.n.length c1, .slice b2 a.d.length c2]]) Tryd.func46 rfl rfl ?_
 have g1 := Gr.refl hs
 refine sr (oC (OpW.boxK (v := .agg #[.bool a.neg, .slice b1 a.n.length c1, .slice b2 a.d.length c2]) (arr := #[.bool a.neg, .slice b1 a.n.length c1, .slice b2 a.d.length c2]) g1.sat rfl rfl ?_))
 intro b3 h1 w1 gr1 qb1
 have g2 := g1.trans gr1
 refine oC (OpW.allocO (arr := #[.bool false, .slice none 0 0, .slice none 0 0]) g2.sat Tryd.zeroValue24 rfl ?_)
 intro b4 w2 gr2 n1 lo1 o1
 have lo2 := Nat.le_trans g2.ext.size lo1
 refine oN (sr (oC (fA (o := 0) Tryd.underlying24 rfl Tryd.sizeOf4 (by decide) rfl rfl ?_)))
 have g3 := g2.trans gr2
 refine oC (lO (v := .bool a.neg) Tryd.isAgg4 rfl (g3.sat _ _ qb1) rfl ?_)
 refine oC (OpW.notB (a := a.neg) (r := !(a.neg)) rfl rfl ?_)
 refine oC (fA (o := 1) Tryd.underlying24 rfl Tryd.sizeOf22 (by decide) rfl rfl ?_)
 refine oC (lO (v := .slice b1 a.n.length c1) Tryd.isAgg22 rfl (g3.sat _ _ qb1) rfl ?_)
 refine oC (fA (o := 2) Tryd.underlying24 rfl Tryd.sizeOf22 (by decide) rfl rfl ?_)
 refine oC (lO (v := .slice b2 a.d.length c2) Tryd.isAgg22 rfl (g3.sat _ _ qb1) rfl ?_)
 refine oC (cF Tryd.call81 (rmake1_c (s := !(a.neg)) (n := a.n) (d := a.d) g3.sat (U.mono u1 gr1.le) (U.mono u2 gr1.le) (by omega) (by first | omega | exact Nat.zero_le _)) rfl ?_)
 intro r1 h2 w3 gr3 hr1
 obtain ⟨b5, c3, b6, c4, rfl, k3, k4, u3, u4⟩ := F.shape hr1
 have o2 := gr3.kp ⟨o1, n1⟩
 refine oC (sA (cs := [.bool ((frK ((Fr.mk (!(a.neg)) a.n a.d).rat)).neg), .slice b5 ((frK ((Fr.mk (!(a.neg)) a.n a.d).rat)).n.length) c3, .slice b6 ((frK ((Fr.mk (!(a.neg)) a.n a.d).rat)).d.length) c4]) Tryd.sizeOf24 rfl rfl rfl rfl o2.1 rfl ?_)
 intro w4 p1
 refine oN (Wp.ret (fin1_ret rfl (resOf_cellA (cs := [.bool ((frK ((Fr.mk (!(a.neg)) a.n a.d).rat)).neg), .slice b5 ((frK ((Fr.mk (!(a.neg)) a.n a.d).rat)).n.length) c3, .slice b6 ((frK ((Fr.mk (!(a.neg)) a.n a.d).rat)).d.length) c4]) Tryd.isAgg24 Tryd.sizeOf24 rfl p1.at_ (Nat.le_of_ble_eq_true rfl) rfl) ?_))
 have g4 := (g3.trans gr3).put p1 o2.2 lo2
 refine ⟨h2, g4, ?_⟩
 exact (Kn.cast neg_F (F.mk u3 u4))
theorem rAdd_c {h : PH} {w : World} {v0 : Value} {a : Fr} {v1 : Value} {b : Fr} (hs : Sat h w) (pv0 : F h v0 a) (pv1 : F h v1 b) (hp0 : bf a + bf b ≤ 134217000) :
    Calls Tryd.prog 43 #[v0, v1] w (Ret h w fun h' r => Kn h' r (a.rat + b.rat)) := by
 obtain ⟨b1, c1, b2, c2, rfl, k1, k2, u1, u2⟩ := F.shape pv0
 have hbq1 := F.bq pv0
 obtain ⟨b3, c3, b4, c4, rfl, k3, k4, u3, u4⟩ := F.shape pv1
 have hbq2 := F.bq pv1
 have ha1 := sz_valn (F.fit pv0).1
 have ha2 := sz_lowF (F.fit pv0).2
 have ha3 := lowF_ne a
 have ha4 := bf_n a
 have ha5 := bf_d a
 have ha6 := bf_pos a
 have hb1 := sz_valn (F.fit pv1).1
 have hb2 := sz_lowF (F.fit pv1).2
 have hb3 := lowF_ne b
 have hb4 := bf_n b
 have hb5 := bf_d b
 have hb6 := bf_pos b
 have m1 := sz_mul (val a.n) (lowF b)
 have m2 := sz_mul (val b.n) (lowF a)
 have m3 := sz_mul (lowF a) (lowF b)
 have m4 := sz_add (val a.n * lowF b) (val b.n * lowF a)
 have m5 := sz_mono (Nat.sub_le (val a.n * lowF b) (val b.n * lowF a))
 have m6 := sz_mono (Nat.sub_le (val b.n * lowF a) (val a.n * lowF b))
 have l1 : (digs ((val a.n * lowF b) + (val b.n * lowF a))).length ≤ 536870912 := Nat.le_trans m4 (by omega)
 have l2 : (digs (lowF a * lowF b)).length ≤ 536870912 := Nat.le_trans m3 (by omega)
 have l3 : (digs ((val a.n * lowF b) - (val b.n * lowF a))).length ≤ 536870912 := Nat.le_trans m5 (by omega)
 have l4 : (digs ((val b.n * lowF a) - (val a.n * lowF b))).length ≤ 536870912 := Nat.le_trans m6 (by omega)
 have hD := Nat.mul_ne_zero ha3 hb3
 refine calls_ear (vs := [.agg #[.bool a.neg, .slice b1 a.n.length c1, .slice b2 a.d.length c2], .agg #[.bool b.neg, .slice b3 b.n.length c3, .slice b4 b.d.length c4]]) Tryd.func43 rfl rfl ?_
 have g1 := Gr.refl hs
 refine sr (oC (OpW.boxK (v := .agg #[.bool a.neg, .slice b1 a.n.length c1, .slice b2 a.d.length c2]) (arr := #[.bool a.neg, .slice b1 a.n.length c1, .slice b2 a.d.length c2]) g1.sat rfl rfl ?_))
 intro b5 h1 w1 gr1 qb1
 have g2 := g1.trans gr1
 refine oC (OpW.boxK (v := .agg #[.bool b.neg, .slice b3 b.n.length c3, .slice b4 b.d.length c4]) (arr := #[.bool b.neg, .slice b3 b.n.length c3, .slice b4 b.d.length c4]) g2.sat rfl rfl ?_)
 intro b6 h2 w2 gr2 qb2
 have g3 := g2.trans gr2
 refine oC (OpW.allocO (arr := #[.bool false, .slice none 0 0, .slice none 0 0]) g3.sat Tryd.zeroValue24 rfl ?_)
 intro b7 w3 gr3 n1 lo1 o1
 have lo2 := Nat.le_trans g3.ext.size lo1
 refine oN (wS ?_)
 have g4 := g3.trans gr3
 refine Wp.dagL 20 [8, 9, 10, 11, 12, 13, 14, 15, 16, 17, 18, 19, 20, 21, 22, 23, 24, 5, 6, 7] [eqv (.pointer (some ⟨b5, 1, none⟩)), eqv (.slice b1 a.n.length c1), fun h _ x => N h x (val a.n), eqv (.agg #[.bool b.neg, .slice b3 b.n.length c3, .slice b4 b.d.length c4]), fun h _ x => N h x (lowF b), fun h _ x => N h x ((val a.n) * (lowF b)), eqv (.pointer (some ⟨b6, 1, none⟩)), eqv (.slice b3 b.n.length c3), fun h _ x => N h x (val b.n), eqv (.agg #[.bool a.neg, .slice b1 a.n.length c1, .slice b2 a.d.length c2]), fun h _ x => N h x (lowF a), fun h _ x => N h x ((val b.n) * (lowF a)), eqv (.agg #[.bool a.neg, .slice b1 a.n.length c1, .slice b2 a.d.length c2]), fun h _ x => N h x (lowF a), eqv (.agg #[.bool b.neg, .slice b3 b.n.length c3, .slice b4 b.d.length c4]), fun h _ x => N h x (lowF b), fun h _ x => N h x ((lowF a) * (lowF b)), fun h _ x => N h x ((val a.n) * (lowF b)), fun h _ x => N h x ((val b.n) * (lowF a)), fun h _ x => N h x ((lowF a) * (lowF b))] mixed g4.sat rfl (by decide +kernel) ⟨sQ _, sQ _, (stab_N (val a.n)), sQ _, (stab_N (lowF b)), (stab_N ((val a.n) * (lowF b))), sQ _, sQ _, (stab_N (val b.n)), sQ _, (stab_N (lowF a)), (stab_N ((val b.n) * (lowF a))), sQ _, (stab_N (lowF a)), sQ _, (stab_N (lowF b)), (stab_N ((lowF a) * (lowF b))), (stab_N ((val a.n) * (lowF b))), (stab_N ((val b.n) * (lowF a))), (stab_N ((lowF a) * (lowF b))), trivial⟩ ?_ ?_
 intro stab
 refine ⟨?_, ?_, ?_, ?_, ?_, ?_, ?_, ?_, ?_, ?_, ?_, ?_, ?_, ?_, ?_, ?_, ?_, ?_, ?_, ?_, trivial⟩
 intro ρ1 h3 w4 g5 hdd1 hdo1
 have e1 : ρ1 2 = .pointer (some ⟨b5, 0, none⟩) := hdo1 2 rfl
 refine gP (fA (o := 1) Tryd.underlying24 rfl Tryd.sizeOf22 (by decide) e1 rfl ?_)
 exact ⟨_, h3, rfl, g5, fun j x _ p => p, rfl⟩
 intro ρ2 h4 w5 g6 hdd2 hdo2
 have e2 : ρ2 8 = .pointer (some ⟨b5, 1, none⟩) := hdd2 0 (by decide)
 have g7 := g4.trans g6
 refine gP (lO (v := .slice b1 a.n.length c1) Tryd.isAgg22 e2 (g7.sat _ _ ((gr2.le.trans g6.le) _ _ qb1)) rfl ?_)
 exact ⟨_, h4, rfl, g6, fun j x _ p => p, rfl⟩
 intro ρ3 h5 w6 g8 hdd3 hdo3
 have e3 : ρ3 9 = .slice b1 a.n.length c1 := hdd3 1 (by decide)
 have g9 := g4.trans g8
 refine gP (cF Tryd.call76 (rtrim_c (l := a.n) g9.sat (U.mono u1 ((gr1.le.trans gr2.le).trans g8.le)) (by first | omega | (simp only [List.length_set, List.length_replicate]; omega))) (cx e3 cxn) ?_)
 intro r1 h6 w7 gr4 hr1
 exact ⟨r1, h6, rfl, g8.trans gr4, fun j x _ => stab j _ _ _ _ x gr4, hr1⟩
 intro ρ4 h7 w8 g10 hdd4 hdo4
 have e4 : ρ4 3 = .pointer (some ⟨b6, 0, none⟩) := hdo4 3 rfl
 have g11 := g4.trans g10
 refine gP (lA (cs := [.bool b.neg, .slice b3 b.n.length c3, .slice b4 b.d.length c4]) Tryd.isAgg24 Tryd.sizeOf24 e4 (g11.sat _ _ (g10.le _ _ qb2)) rfl rfl ?_)
 exact ⟨_, h7, rfl, g10, fun j x _ p => p, rfl⟩
 intro ρ5 h8 w9 g12 hdd5 hdo5
 have e5 : ρ5 11 = .agg #[.bool b.neg, .slice b3 b.n.length c3, .slice b4 b.d.length c4] := hdd5 3 (by decide)
 have g13 := g4.trans g12
 refine gP (cF Tryd.call94 (rlow_c (f := b) g13.sat (F.mk (U.mono u3 ((gr1.le.trans gr2.le).trans g12.le)) (U.mono u4 ((gr1.le.trans gr2.le).trans g12.le))) (by omega)) (cx e5 cxn) ?_)
 intro r2 h9 w10 gr5 hr2
 exact ⟨r2, h9, rfl, g12.trans gr5, fun j x _ => stab j _ _ _ _ x gr5, hr2⟩
 intro ρ6 h10 w11 g14 hdd6 hdo6
 have q1 : N h10 (ρ6 10) (val a.n) := hdd6 2 (by decide)
 have q2 : N h10 (ρ6 12) (lowF b) := hdd6 4 (by decide)
 have g15 := g4.trans g14
 refine gP (cF Tryd.call93 (rtimes_c (a := val a.n) (b := lowF b) g15.sat q1 q2 (by omega) (by omega)) rfl ?_)
 intro r3 h11 w12 gr6 hr3
 exact ⟨r3, h11, rfl, g14.trans gr6, fun j x _ => stab j _ _ _ _ x gr6, hr3⟩
 intro ρ7 h12 w13 g16 hdd7 hdo7
 have e6 : ρ7 3 = .pointer (some ⟨b6, 0, none⟩) := hdo7 3 rfl
 refine gP (fA (o := 1) Tryd.underlying24 rfl Tryd.sizeOf22 (by decide) e6 rfl ?_)
 exact ⟨_, h12, rfl, g16, fun j x _ p => p, rfl⟩
 intro ρ8 h13 w14 g17 hdd8 hdo8
 have e7 : ρ8 14 = .pointer (some ⟨b6, 1, none⟩) := hdd8 6 (by decide)
 have g18 := g4.trans g17
 refine gP (lO (v := .slice b3 b.n.length c3) Tryd.isAgg22 e7 (g18.sat _ _ (g17.le _ _ qb2)) rfl ?_)
 exact ⟨_, h13, rfl, g17, fun j x _ p => p, rfl⟩
 intro ρ9 h14 w15 g19 hdd9 hdo9
 have e8 : ρ9 15 = .slice b3 b.n.length c3 := hdd9 7 (by decide)
 have g20 := g4.trans g19
 refine gP (cF Tryd.call76 (rtrim_c (l := b.n) g20.sat (U.mono u3 ((gr1.le.trans gr2.le).trans g19.le)) (by first | omega | (simp only [List.length_set, List.length_replicate]; omega))) (cx e8 cxn) ?_)
 intro r4 h15 w16 gr7 hr4
 exact ⟨r4, h15, rfl, g19.trans gr7, fun j x _ => stab j _ _ _ _ x gr7, hr4⟩
 intro ρ10 h16 w17 g21 hdd10 hdo10
 have e9 : ρ10 2 = .pointer (some ⟨b5, 0, none⟩) := hdo10 2 rfl
 have g22 := g4.trans g21
 refine gP (lA (cs := [.bool a.neg, .slice b1 a.n.length c1, .slice b2 a.d.length c2]) Tryd.isAgg24 Tryd.sizeOf24 e9 (g22.sat _ _ ((gr2.le.trans g21.le) _ _ qb1)) rfl rfl ?_)
 exact ⟨_, h16, rfl, g21, fun j x _ p => p, rfl⟩
 intro ρ11 h17 w18 g23 hdd11 hdo11
 have e10 : ρ11 17 = .agg #[.bool a.neg, .slice b1 a.n.length c1, .slice b2 a.d.length c2] := hdd11 9 (by decide)
 have g24 := g4.trans g23
 refine gP (cF Tryd.call94 (rlow_c (f := a) g24.sat (F.mk (U.mono u1 ((gr1.le.trans gr2.le).trans g23.le)) (U.mono u2 ((gr1.le.trans gr2.le).trans g23.le))) (by omega)) (cx e10 cxn) ?_)
 intro r5 h18 w19 gr8 hr5
 exact ⟨r5, h18, rfl, g23.trans gr8, fun j x _ => stab j _ _ _ _ x gr8, hr5⟩
 intro ρ12 h19 w20 g25 hdd12 hdo12
 have q3 : N h19 (ρ12 16) (val b.n) := hdd12 8 (by decide)
 have q4 : N h19 (ρ12 18) (lowF a) := hdd12 10 (by decide)
 have g26 := g4.trans g25
 refine gP (cF Tryd.call93 (rtimes_c (a := val b.n) (b := lowF a) g26.sat q3 q4 (by omega) (by omega)) rfl ?_)
 intro r6 h20 w21 gr9 hr6
 exact ⟨r6, h20, rfl, g25.trans gr9, fun j x _ => stab j _ _ _ _ x gr9, hr6⟩
 intro ρ13 h21 w22 g27 hdd13 hdo13
 have e11 : ρ13 2 = .pointer (some ⟨b5, 0, none⟩) := hdo13 2 rfl
 have g28 := g4.trans g27
 refine gP (lA (cs := [.bool a.neg, .slice b1 a.n.length c1, .slice b2 a.d.length c2]) Tryd.isAgg24 Tryd.sizeOf24 e11 (g28.sat _ _ ((gr2.le.trans g27.le) _ _ qb1)) rfl rfl ?_)
 exact ⟨_, h21, rfl, g27, fun j x _ p => p, rfl⟩
 intro ρ14 h22 w23 g29 hdd14 hdo14
 have e12 : ρ14 20 = .agg #[.bool a.neg, .slice b1 a.n.length c1, .slice b2 a.d.length c2] := hdd14 12 (by decide)
 have g30 := g4.trans g29
 refine gP (cF Tryd.call94 (rlow_c (f := a) g30.sat (F.mk (U.mono u1 ((gr1.le.trans gr2.le).trans g29.le)) (U.mono u2 ((gr1.le.trans gr2.le).trans g29.le))) (by omega)) (cx e12 cxn) ?_)
 intro r7 h23 w24 gr10 hr7
 exact ⟨r7, h23, rfl, g29.trans gr10, fun j x _ => stab j _ _ _ _ x gr10, hr7⟩
 intro ρ15 h24 w25 g31 hdd15 hdo15
 have e13 : ρ15 3 = .pointer (some ⟨b6, 0, none⟩) := hdo15 3 rfl
 have g32 := g4.trans g31
 refine gP (lA (cs := [.bool b.neg, .slice b3 b.n.length c3, .slice b4 b.d.length c4]) Tryd.isAgg24 Tryd.sizeOf24 e13 (g32.sat _ _ (g31.le _ _ qb2)) rfl rfl ?_)
 exact ⟨_, h24, rfl, g31, fun j x _ p => p, rfl⟩
 intro ρ16 h25 w26 g33 hdd16 hdo16
 have e14 : ρ16 22 = .agg #[.bool b.neg, .slice b3 b.n.length c3, .slice b4 b.d.length c4] := hdd16 14 (by decide)
 have g34 := g4.trans g33
 refine gP (cF Tryd.call94 (rlow_c (f := b) g34.sat (F.mk (U.mono u3 ((gr1.le.trans gr2.le).trans g33.le)) (U.mono u4 ((gr1.le.trans gr2.le).trans g33.le))) (by omega)) (cx e14 cxn) ?_)
 intro r8 h26 w27 gr11 hr8
 exact ⟨r8, h26, rfl, g33.trans gr11, fun j x _ => stab j _ _ _ _ x gr11, hr8⟩
 intro ρ17 h27 w28 g35 hdd17 hdo17
 have q5 : N h27 (ρ17 21) (lowF a) := hdd17 13 (by decide)
 have q6 : N h27 (ρ17 23) (lowF b) := hdd17 15 (by decide)
 have g36 := g4.trans g35
 refine gP (cF Tryd.call93 (rtimes_c (a := lowF a) (b := lowF b) g36.sat q5 q6 (by omega) (by omega)) rfl ?_)
 intro r9 h28 w29 gr12 hr9
 exact ⟨r9, h28, rfl, g35.trans gr12, fun j x _ => stab j _ _ _ _ x gr12, hr9⟩
 intro ρ18 h29 w30 g37 hdd18 hdo18
 have q7 : N h29 (ρ18 13) ((val a.n) * (lowF b)) := hdd18 5 (by decide)
 refine gP (OpW.assign (v := (ρ18 13)) rfl ?_)
 exact ⟨_, h29, rfl, g37, fun j x _ p => p, q7⟩
 intro ρ19 h30 w31 g38 hdd19 hdo19
 have q8 : N h30 (ρ19 19) ((val b.n) * (lowF a)) := hdd19 11 (by decide)
 refine gP (OpW.assign (v := (ρ19 19)) rfl ?_)
 exact ⟨_, h30, rfl, g38, fun j x _ p => p, q8⟩
 intro ρ20 h31 w32 g39 hdd20 hdo20
 have q9 : N h31 (ρ20 24) ((lowF a) * (lowF b)) := hdd20 16 (by decide)
 refine gP (OpW.assign (v := (ρ20 24)) rfl ?_)
 exact ⟨_, h31, rfl, g39, fun j x _ p => p, q9⟩
 intro ρ21 h32 w33 g40 hdp1 hdo21
 have e15 : ρ21 2 = .pointer (some ⟨b5, 0, none⟩) := hdo21 2 rfl
 have e16 : ρ21 3 = .pointer (some ⟨b6, 0, none⟩) := hdo21 3 rfl
 have e17 : ρ21 4 = .pointer (some ⟨b7, 0, none⟩) := hdo21 4 rfl
 have q10 : N h32 (ρ21 5) ((val a.n) * (lowF b)) := hdp1 17 rfl
 obtain ⟨x1, hx1⟩ : ∃ x, ρ21 5 = x := ⟨_, rfl⟩
 rw [hx1] at q10
 obtain ⟨b8, c5, rfl, k5⟩ := N.shape q10
 have q11 : N h32 (ρ21 6) ((val b.n) * (lowF a)) := hdp1 18 rfl
 obtain ⟨x2, hx2⟩ : ∃ x, ρ21 6 = x := ⟨_, rfl⟩
 rw [hx2] at q11
 obtain ⟨b9, c6, rfl, k6⟩ := N.shape q11
 have q12 : N h32 (ρ21 7) ((lowF a) * (lowF b)) := hdp1 19 rfl
 obtain ⟨x3, hx3⟩ : ∃ x, ρ21 7 = x := ⟨_, rfl⟩
 rw [hx3] at q12
 obtain ⟨b10, c7, rfl, k7⟩ := N.shape q12
 refine Ops.forget [(2, .pointer (some ⟨b5, 0, none⟩)), (3, .pointer (some ⟨b6, 0, none⟩)), (4, .pointer (some ⟨b7, 0, none⟩)), (5, .slice b8 ((digs ((val a.n) * (lowF b))).length) c5), (6, .slice b9 ((digs ((val b.n) * (lowF a))).length) c6), (7, .slice b10 ((digs ((lowF a) * (lowF b))).length) c7)] ⟨e15, e16, e17, hx1, hx2, hx3, trivial⟩ (fun ρ22 => (oN (wS (sr (oC (fA (o := 0) Tryd.underlying24 rfl Tryd.sizeOf4 (by decide) rfl rfl ?_))))))
 have g41 := g4.trans g40
 refine oC (lO (v := .bool a.neg) Tryd.isAgg4 rfl (g41.sat _ _ ((gr2.le.trans g40.le) _ _ qb1)) rfl ?_)
 refine oC (fA (o := 0) Tryd.underlying24 rfl Tryd.sizeOf4 (by decide) rfl rfl ?_)
 refine oC (lO (v := .bool b.neg) Tryd.isAgg4 rfl (g41.sat _ _ (g40.le _ _ qb2)) rfl ?_)
 refine oC (OpW.eqlB (a := a.neg) (b := b.neg) (r := a.neg == b.neg) Tryd.underlying4 rfl rfl rfl (oN (Wp.cond (t := a.neg == b.neg) rfl (fun c8 => ?_) (fun c8 => ?_))))
 replace c8 : a.neg = b.neg := (beq_t c8)
 refine wS (fg [(2, .pointer (some ⟨b5, 0, none⟩)), (4, .pointer (some ⟨b7, 0, none⟩)), (5, .slice b8 ((digs ((val a.n) * (lowF b))).length) c5), (6, .slice b9 ((digs ((val b.n) * (lowF a))).length) c6), (7, .slice b10 ((digs ((lowF a) * (lowF b))).length) c7)] rfl (fun ρ23 => ?_))
 refine Wp.dagL 7 [30, 31, 32, 33, 34, 35, 36] [eqv (.pointer (some ⟨b5, 0, none⟩)), eqv (.bool a.neg), eqv (.slice b8 ((digs ((val a.n) * (lowF b))).length) c5), eqv (.slice b9 ((digs ((val b.n) * (lowF a))).length) c6), fun h _ x => N h x (((val a.n) * (lowF b)) + ((val b.n) * (lowF a))), eqv (.slice b10 ((digs ((lowF a) * (lowF b))).length) c7), fun h _ x => Kn h x ((Fr.mk a.neg (digs (((val a.n) * (lowF b)) + ((val b.n) * (lowF a)))) (digs ((lowF a) * (lowF b)))).rat)] mixed g41.sat rfl (by decide +kernel) ⟨sQ _, sQ _, sQ _, sQ _, (stab_N (((val a.n) * (lowF b)) + ((val b.n) * (lowF a)))), sQ _, (stab_K ((Fr.mk a.neg (digs (((val a.n) * (lowF b)) + ((val b.n) * (lowF a)))) (digs ((lowF a) * (lowF b)))).rat)), trivial⟩ ?_ ?_
 intro stab
 refine ⟨?_, ?_, ?_, ?_, ?_, ?_, ?_, trivial⟩
 intro ρ24 h33 w34 g42 hdd21 hdo22
 have e18 : ρ24 2 = .pointer (some ⟨b5, 0, none⟩) := hdo22 2 rfl
 refine gP (fA (o := 0) Tryd.underlying24 rfl Tryd.sizeOf4 (by decide) e18 rfl ?_)
 exact ⟨_, h33, rfl, g42, fun j x _ p => p, rfl⟩
 intro ρ25 h34 w35 g43 hdd22 hdo23
 have e19 : ρ25 30 = .pointer (some ⟨b5, 0, none⟩) := hdd22 0 (by decide)
 have g44 := g41.trans g43
 refine gP (lO (v := .bool a.neg) Tryd.isAgg4 e19 (g44.sat _ _ (((gr2.le.trans g40.le).trans g43.le) _ _ qb1)) rfl ?_)
 exact ⟨_, h34, rfl, g43, fun j x _ p => p, rfl⟩
 intro ρ26 h35 w36 g45 hdd23 hdo24
 have e20 : ρ26 5 = .slice b8 ((digs ((val a.n) * (lowF b))).length) c5 := hdo24 5 rfl
 refine gP (OpW.move (v := .slice b8 ((digs ((val a.n) * (lowF b))).length) c5) e20 ?_)
 exact ⟨_, h35, rfl, g45, fun j x _ p => p, rfl⟩
 intro ρ27 h36 w37 g46 hdd24 hdo25
 have e21 : ρ27 6 = .slice b9 ((digs ((val b.n) * (lowF a))).length) c6 := hdo25 6 rfl
 refine gP (OpW.move (v := .slice b9 ((digs ((val b.n) * (lowF a))).length) c6) e21 ?_)
 exact ⟨_, h36, rfl, g46, fun j x _ p => p, rfl⟩
 intro ρ28 h37 w38 g47 hdd25 hdo26
 have e22 : ρ28 32 = .slice b8 ((digs ((val a.n) * (lowF b))).length) c5 := hdd25 2 (by decide)
 have e23 : ρ28 33 = .slice b9 ((digs ((val b.n) * (lowF a))).length) c6 := hdd25 3 (by decide)
 have g48 := g41.trans g47
 refine gP (cF Tryd.call96 (rplus_c (a := (val a.n) * (lowF b)) (b := (val b.n) * (lowF a)) g48.sat (N.mono q10 g47.le) (N.mono q11 g47.le) (by omega) (by omega)) (cx e22 (cx e23 cxn)) ?_)
 intro r10 h38 w39 gr13 hr10
 exact ⟨r10, h38, rfl, g47.trans gr13, fun j x _ => stab j _ _ _ _ x gr13, hr10⟩
 intro ρ29 h39 w40 g49 hdd26 hdo27
 have e24 : ρ29 7 = .slice b10 ((digs ((lowF a) * (lowF b))).length) c7 := hdo27 7 rfl
 refine gP (OpW.move (v := .slice b10 ((digs ((lowF a) * (lowF b))).length) c7) e24 ?_)
 exact ⟨_, h39, rfl, g49, fun j x _ p => p, rfl⟩
 intro ρ30 h40 w41 g50 hdd27 hdo28
 have e25 : ρ30 31 = .bool a.neg := hdd27 1 (by decide)
 have q13 : N h40 (ρ30 34) (((val a.n) * (lowF b)) + ((val b.n) * (lowF a))) := hdd27 4 (by decide)
 have e26 : ρ30 35 = .slice b10 ((digs ((lowF a) * (lowF b))).length) c7 := hdd27 5 (by decide)
 have g51 := g41.trans g50
 refine gP (cF Tryd.call81 (rmake1_c (s := a.neg) (n := digs (((val a.n) * (lowF b)) + ((val b.n) * (lowF a)))) (d := digs ((lowF a) * (lowF b))) g51.sat q13 (U.mono q12 g50.le) (by omega) (by first | omega | exact Nat.zero_le _)) (cx e25 (cx rfl (cx e26 cxn))) ?_)
 intro r11 h41 w42 gr14 hr11
 exact ⟨r11, h41, rfl, g50.trans gr14, fun j x _ => stab j _ _ _ _ x gr14, hr11⟩
 intro ρ31 h42 w43 g52 hdp2 hdo29
 have e27 : ρ31 4 = .pointer (some ⟨b7, 0, none⟩) := hdo29 4 rfl
 have q14 : Kn h42 (ρ31 36) ((Fr.mk a.neg (digs (((val a.n) * (lowF b)) + ((val b.n) * (lowF a)))) (digs ((lowF a) * (lowF b)))).rat) := hdp2 6 rfl
 obtain ⟨x4, hx4⟩ : ∃ x, ρ31 36 = x := ⟨_, rfl⟩
 rw [hx4] at q14
 obtain ⟨b11, c9, b12, c10, rfl, k8, k9, u5, u6⟩ := F.shape q14
 refine Ops.forget [(4, .pointer (some ⟨b7, 0, none⟩)), (36, .agg #[.bool ((frK ((Fr.mk a.neg (digs (((val a.n) * (lowF b)) + ((val b.n) * (lowF a)))) (digs ((lowF a) * (lowF b)))).rat)).neg), .slice b11 ((frK ((Fr.mk a.neg (digs (((val a.n) * (lowF b)) + ((val b.n) * (lowF a)))) (digs ((lowF a) * (lowF b)))).rat)).n.length) c9, .slice b12 ((frK ((Fr.mk a.neg (digs (((val a.n) * (lowF b)) + ((val b.n) * (lowF a)))) (digs ((lowF a) * (lowF b)))).rat)).d.length) c10])] ⟨e27, hx4, trivial⟩ (fun ρ32 => ?_)
 have o2 := g52.kp (g40.kp ⟨o1, n1⟩)
 refine oC (sA (cs := [.bool ((frK ((Fr.mk a.neg (digs (((val a.n) * (lowF b)) + ((val b.n) * (lowF a)))) (digs ((lowF a) * (lowF b)))).rat)).neg), .slice b11 ((frK ((Fr.mk a.neg (digs (((val a.n) * (lowF b)) + ((val b.n) * (lowF a)))) (digs ((lowF a) * (lowF b)))).rat)).n.length) c9, .slice b12 ((frK ((Fr.mk a.neg (digs (((val a.n) * (lowF b)) + ((val b.n) * (lowF a)))) (digs ((lowF a) * (lowF b)))).rat)).d.length) c10]) Tryd.sizeOf24 rfl rfl rfl rfl o2.1 rfl ?_)
 intro w44 p1
 refine oN (Wp.ret (fin1_ret rfl (resOf_cellA (cs := [.bool ((frK ((Fr.mk a.neg (digs (((val a.n) * (lowF b)) + ((val b.n) * (lowF a)))) (digs ((lowF a) * (lowF b)))).rat)).neg), .slice b11 ((frK ((Fr.mk a.neg (digs (((val a.n) * (lowF b)) + ((val b.n) * (lowF a)))) (digs ((lowF a) * (lowF b)))).rat)).n.length) c9, .slice b12 ((frK ((Fr.mk a.neg (digs (((val a.n) * (lowF b)) + ((val b.n) * (lowF a)))) (digs ((lowF a) * (lowF b)))).rat)).d.length) c10]) Tryd.isAgg24 Tryd.sizeOf24 rfl p1.at_ (Nat.le_of_ble_eq_true rfl) rfl) ?_))
 have g53 := (g41.trans g52).put p1 o2.2 lo2
 refine ⟨h42, g53, ?_⟩
 exact (Kn.cast ((mk_rat hD).trans (add_F (by assumption))) (F.mk u5 u6))
 replace c8 : ¬ (a.neg = b.neg) := (beq_f c8)
 refine Wp.skip (wS (wS (fg [(2, .pointer (some ⟨b5, 0, none⟩)), (3, .pointer (some ⟨b6, 0, none⟩)), (4, .pointer (some ⟨b7, 0, none⟩)), (5, .slice b8 ((digs ((val a.n) * (lowF b))).length) c5), (6, .slice b9 ((digs ((val b.n) * (lowF a))).length) c6), (7, .slice b10 ((digs ((lowF a) * (lowF b))).length) c7)] rfl (fun ρ33 => (wR (mv (mv (oC (cF Tryd.call100 (rorder_c (a := (val a.n) * (lowF b)) (b := (val b.n) * (lowF a)) g41.sat q10 q11 (by omega) (by omega)) rfl ?_)))))))))
 intro r12 h43 w45 gr15 hr12
 subst hr12
 refine oC (OpW.geq (a := (cmpN ((val a.n) * (lowF b)) ((val b.n) * (lowF a)))) (b := ((0 : Nat) : Int)) (r := decide (((0 : Nat) : Int) ≤ (cmpN ((val a.n) * (lowF b)) ((val b.n) * (lowF a))))) rfl rfl rfl (oN (Wp.cond (t := decide (((0 : Nat) : Int) ≤ (cmpN ((val a.n) * (lowF b)) ((val b.n) * (lowF a))))) rfl (fun c11 => ?_) (fun c11 => ?_))))
 replace c11 : ((0 : Nat) : Int) ≤ (cmpN ((val a.n) * (lowF b)) ((val b.n) * (lowF a))) := (of_decide_eq_true c11)
 have hge := cmpN_nonneg c11
 refine wS ?_
 have g54 := g41.trans gr15
 refine Wp.dagL 7 [41, 42, 43, 44, 45, 46, 47] [eqv (.pointer (some ⟨b5, 0, none⟩)), eqv (.bool a.neg), eqv (.slice b8 ((digs ((val a.n) * (lowF b))).length) c5), eqv (.slice b9 ((digs ((val b.n) * (lowF a))).length) c6), fun h _ x => N h x (((val a.n) * (lowF b)) - ((val b.n) * (lowF a))), eqv (.slice b10 ((digs ((lowF a) * (lowF b))).length) c7), fun h _ x => Kn h x ((Fr.mk a.neg (digs (((val a.n) * (lowF b)) - ((val b.n) * (lowF a)))) (digs ((lowF a) * (lowF b)))).rat)] mixed g54.sat rfl (by decide +kernel) ⟨sQ _, sQ _, sQ _, sQ _, (stab_N (((val a.n) * (lowF b)) - ((val b.n) * (lowF a)))), sQ _, (stab_K ((Fr.mk a.neg (digs (((val a.n) * (lowF b)) - ((val b.n) * (lowF a)))) (digs ((lowF a) * (lowF b)))).rat)), trivial⟩ ?_ ?_
 intro stab
 refine ⟨?_, ?_, ?_, ?_, ?_, ?_, ?_, trivial⟩
 intro ρ34 h44 w46 g55 hdd28 hdo30
 have e28 : ρ34 2 = .pointer (some ⟨b5, 0, none⟩) := hdo30 2 rfl
 refine gP (fA (o := 0) Tryd.underlying24 rfl Tryd.sizeOf4 (by decide) e28 rfl ?_)
 exact ⟨_, h44, rfl, g55, fun j x _ p => p, rfl⟩
 intro ρ35 h45 w47 g56 hdd29 hdo31
 have e29 : ρ35 41 = .pointer (some ⟨b5, 0, none⟩) := hdd29 0 (by decide)
 have g57 := g54.trans g56
 refine gP (lO (v := .bool a.neg) Tryd.isAgg4 e29 (g57.sat _ _ ((((gr2.le.trans g40.le).trans gr15.le).trans g56.le) _ _ qb1)) rfl ?_)
 exact ⟨_, h45, rfl, g56, fun j x _ p => p, rfl⟩
 intro ρ36 h46 w48 g58 hdd30 hdo32
 have e30 : ρ36 5 = .slice b8 ((digs ((val a.n) * (lowF b))).length) c5 := hdo32 5 rfl
 refine gP (OpW.move (v := .slice b8 ((digs ((val a.n) * (lowF b))).length) c5) e30 ?_)
 exact ⟨_, h46, rfl, g58, fun j x _ p => p, rfl⟩
 intro ρ37 h47 w49 g59 hdd31 hdo33
 have e31 : ρ37 6 = .slice b9 ((digs ((val b.n) * (lowF a))).length) c6 := hdo33 6 rfl
 refine gP (OpW.move (v := .slice b9 ((digs ((val b.n) * (lowF a))).length) c6) e31 ?_)
 exact ⟨_, h47, rfl, g59, fun j x _ p => p, rfl⟩
 intro ρ38 h48 w50 g60 hdd32 hdo34
 have e32 : ρ38 43 = .slice b8 ((digs ((val a.n) * (lowF b))).length) c5 := hdd32 2 (by decide)
 have e33 : ρ38 44 = .slice b9 ((digs ((val b.n) * (lowF a))).length) c6 := hdd32 3 (by decide)
 have g61 := g54.trans g60
 refine gP (cF Tryd.call101 (rminus_c (a := (val a.n) * (lowF b)) (b := (val b.n) * (lowF a)) g61.sat (N.mono q10 (gr15.le.trans g60.le)) (N.mono q11 (gr15.le.trans g60.le)) (by omega) (by omega) (by omega)) (cx e32 (cx e33 cxn)) ?_)
 intro r13 h49 w51 gr16 hr13
 exact ⟨r13, h49, rfl, g60.trans gr16, fun j x _ => stab j _ _ _ _ x gr16, hr13⟩
 intro ρ39 h50 w52 g62 hdd33 hdo35
 have e34 : ρ39 7 = .slice b10 ((digs ((lowF a) * (lowF b))).length) c7 := hdo35 7 rfl
 refine gP (OpW.move (v := .slice b10 ((digs ((lowF a) * (lowF b))).length) c7) e34 ?_)
 exact ⟨_, h50, rfl, g62, fun j x _ p => p, rfl⟩
 intro ρ40 h51 w53 g63 hdd34 hdo36
 have e35 : ρ40 42 = .bool a.neg := hdd34 1 (by decide)
 have q15 : N h51 (ρ40 45) (((val a.n) * (lowF b)) - ((val b.n) * (lowF a))) := hdd34 4 (by decide)
 have e36 : ρ40 46 = .slice b10 ((digs ((lowF a) * (lowF b))).length) c7 := hdd34 5 (by decide)
 have g64 := g54.trans g63
 refine gP (cF Tryd.call81 (rmake1_c (s := a.neg) (n := digs (((val a.n) * (lowF b)) - ((val b.n) * (lowF a)))) (d := digs ((lowF a) * (lowF b))) g64.sat q15 (U.mono q12 (gr15.le.trans g63.le)) (by omega) (by first | omega | exact Nat.zero_le _)) (cx e35 (cx rfl (cx e36 cxn))) ?_)
 intro r14 h52 w54 gr17 hr14
 exact ⟨r14, h52, rfl, g63.trans gr17, fun j x _ => stab j _ _ _ _ x gr17, hr14⟩
 intro ρ41 h53 w55 g65 hdp3 hdo37
 have e37 : ρ41 4 = .pointer (some ⟨b7, 0, none⟩) := hdo37 4 rfl
 have q16 : Kn h53 (ρ41 47) ((Fr.mk a.neg (digs (((val a.n) * (lowF b)) - ((val b.n) * (lowF a)))) (digs ((lowF a) * (lowF b)))).rat) := hdp3 6 rfl
 obtain ⟨x5, hx5⟩ : ∃ x, ρ41 47 = x := ⟨_, rfl⟩
 rw [hx5] at q16
 obtain ⟨b13, c12, b14, c13, rfl, k10, k11, u7, u8⟩ := F.shape q16
 refine Ops.forget [(4, .pointer (some ⟨b7, 0, none⟩)), (47, .agg #[.bool ((frK ((Fr.mk a.neg (digs (((val a.n) * (lowF b)) - ((val b.n) * (lowF a)))) (digs ((lowF a) * (lowF b)))).rat)).neg), .slice b13 ((frK ((Fr.mk a.neg (digs (((val a.n) * (lowF b)) - ((val b.n) * (lowF a)))) (digs ((lowF a) * (lowF b)))).rat)).n.length) c12, .slice b14 ((frK ((Fr.mk a.neg (digs (((val a.n) * (lowF b)) - ((val b.n) * (lowF a)))) (digs ((lowF a) * (lowF b)))).rat)).d.length) c13])] ⟨e37, hx5, trivial⟩ (fun ρ42 => ?_)
 have o4 := g65.kp (gr15.kp (g40.kp ⟨o1, n1⟩))
 refine oC (sA (cs := [.bool ((frK ((Fr.mk a.neg (digs (((val a.n) * (lowF b)) - ((val b.n) * (lowF a)))) (digs ((lowF a) * (lowF b)))).rat)).neg), .slice b13 ((frK ((Fr.mk a.neg (digs (((val a.n) * (lowF b)) - ((val b.n) * (lowF a)))) (digs ((lowF a) * (lowF b)))).rat)).n.length) c12, .slice b14 ((frK ((Fr.mk a.neg (digs (((val a.n) * (lowF b)) - ((val b.n) * (lowF a)))) (digs ((lowF a) * (lowF b)))).rat)).d.length) c13]) Tryd.sizeOf24 rfl rfl rfl rfl o4.1 rfl ?_)
 intro w56 p2
 refine oN (Wp.ret (fin1_ret rfl (resOf_cellA (cs := [.bool ((frK ((Fr.mk a.neg (digs (((val a.n) * (lowF b)) - ((val b.n) * (lowF a)))) (digs ((lowF a) * (lowF b)))).rat)).neg), .slice b13 ((frK ((Fr.mk a.neg (digs (((val a.n) * (lowF b)) - ((val b.n) * (lowF a)))) (digs ((lowF a) * (lowF b)))).rat)).n.length) c12, .slice b14 ((frK ((Fr.mk a.neg (digs (((val a.n) * (lowF b)) - ((val b.n) * (lowF a)))) (digs ((lowF a) * (lowF b)))).rat)).d.length) c13]) Tryd.isAgg24 Tryd.sizeOf24 rfl p2.at_ (Nat.le_of_ble_eq_true rfl) rfl) ?_))
 have g66 := (g54.trans g65).put p2 o4.2 lo2
 refine ⟨h53, g66, ?_⟩
 exact (Kn.cast ((mk_rat hD).trans (sub_F (by assumption) hge)) (F.mk u7 u8))
 replace c11 : ¬ (((0 : Nat) : Int) ≤ (cmpN ((val a.n) * (lowF b)) ((val b.n) * (lowF a)))) := (of_decide_eq_false c11)
 have hge := Nat.le_of_lt (cmpN_nneg c11)
 refine Wp.skip (wS ?_)
 have g67 := g41.trans gr15
 refine Wp.dagL 7 [48, 49, 50, 51, 52, 53, 54] [eqv (.pointer (some ⟨b6, 0, none⟩)), eqv (.bool b.neg), eqv (.slice b9 ((digs ((val b.n) * (lowF a))).length) c6), eqv (.slice b8 ((digs ((val a.n) * (lowF b))).length) c5), fun h _ x => N h x (((val b.n) * (lowF a)) - ((val a.n) * (lowF b))), eqv (.slice b10 ((digs ((lowF a) * (lowF b))).length) c7), fun h _ x => Kn h x ((Fr.mk b.neg (digs (((val b.n) * (lowF a)) - ((val a.n) * (lowF b)))) (digs ((lowF a) * (lowF b)))).rat)] mixed g67.sat rfl (by decide +kernel) ⟨sQ _, sQ _, sQ _, sQ _, (stab_N (((val b.n) * (lowF a)) - ((val a.n) * (lowF b)))), sQ _, (stab_K ((Fr.mk b.neg (digs (((val b.n) * (lowF a)) - ((val a.n) * (lowF b)))) (digs ((lowF a) * (lowF b)))).rat)), trivial⟩ ?_ ?_
 intro stab
 refine ⟨?_, ?_, ?_, ?_, ?_, ?_, ?_, trivial⟩
 intro ρ43 h54 w57 g68 hdd35 hdo38
 have e38 : ρ43 3 = .pointer (some ⟨b6, 0, none⟩) := hdo38 3 rfl
 refine gP (fA (o := 0) Tryd.underlying24 rfl Tryd.sizeOf4 (by decide) e38 rfl ?_)
 exact ⟨_, h54, rfl, g68, fun j x _ p => p, rfl⟩
 intro ρ44 h55 w58 g69 hdd36 hdo39
 have e39 : ρ44 48 = .pointer (some ⟨b6, 0, none⟩) := hdd36 0 (by decide)
 have g70 := g67.trans g69
 refine gP (lO (v := .bool b.neg) Tryd.isAgg4 e39 (g70.sat _ _ (((g40.le.trans gr15.le).trans g69.le) _ _ qb2)) rfl ?_)
 exact ⟨_, h55, rfl, g69, fun j x _ p => p, rfl⟩
 intro ρ45 h56 w59 g71 hdd37 hdo40
 have e40 : ρ45 6 = .slice b9 ((digs ((val b.n) * (lowF a))).length) c6 := hdo40 6 rfl
 refine gP (OpW.move (v := .slice b9 ((digs ((val b.n) * (lowF a))).length) c6) e40 ?_)
 exact ⟨_, h56, rfl, g71, fun j x _ p => p, rfl⟩
 intro ρ46 h57 w60 g72 hdd38 hdo41
 have e41 : ρ46 5 = .slice b8 ((digs ((val a.n) * (lowF b))).length) c5 := hdo41 5 rfl
 refine gP (OpW.move (v := .slice b8 ((digs ((val a.n) * (lowF b))).length) c5) e41 ?_)
 exact ⟨_, h57, rfl, g72, fun j x _ p => p, rfl⟩
 intro ρ47 h58 w61 g73 hdd39 hdo42
 have e42 : ρ47 50 = .slice b9 ((digs ((val b.n) * (lowF a))).length) c6 := hdd39 2 (by decide)
 have e43 : ρ47 51 = .slice b8 ((digs ((val a.n) * (lowF b))).length) c5 := hdd39 3 (by decide)
 have g74 := g67.trans g73
 refine gP (cF Tryd.call101 (rminus_c (a := (val b.n) * (lowF a)) (b := (val a.n) * (lowF b)) g74.sat (N.mono q11 (gr15.le.trans g73.le)) (N.mono q10 (gr15.le.trans g73.le)) (by omega) (by omega) (by omega)) (cx e42 (cx e43 cxn)) ?_)
 intro r15 h59 w62 gr18 hr15
 exact ⟨r15, h59, rfl, g73.trans gr18, fun j x _ => stab j _ _ _ _ x gr18, hr15⟩
 intro ρ48 h60 w63 g75 hdd40 hdo43
 have e44 : ρ48 7 = .slice b10 ((digs ((lowF a) * (lowF b))).length) c7 := hdo43 7 rfl
 refine gP (OpW.move (v := .slice b10 ((digs ((lowF a) * (lowF b))).length) c7) e44 ?_)
 exact ⟨_, h60, rfl, g75, fun j x _ p => p, rfl⟩
 intro ρ49 h61 w64 g76 hdd41 hdo44
 have e45 : ρ49 49 = .bool b.neg := hdd41 1 (by decide)
 have q17 : N h61 (ρ49 52) (((val b.n) * (lowF a)) - ((val a.n) * (lowF b))) := hdd41 4 (by decide)
 have e46 : ρ49 53 = .slice b10 ((digs ((lowF a) * (lowF b))).length) c7 := hdd41 5 (by decide)
 have g77 := g67.trans g76
 refine gP (cF Tryd.call81 (rmake1_c (s := b.neg) (n := digs (((val b.n) * (lowF a)) - ((val a.n) * (lowF b)))) (d := digs ((lowF a) * (lowF b))) g77.sat q17 (U.mono q12 (gr15.le.trans g76.le)) (by omega) (by first | omega | exact Nat.zero_le _)) (cx e45 (cx rfl (cx e46 cxn))) ?_)
 intro r16 h62 w65 gr19 hr16
 exact ⟨r16, h62, rfl, g76.trans gr19, fun j x _ => stab j _ _ _ _ x gr19, hr16⟩
 intro ρ50 h63 w66 g78 hdp4 hdo45
 have e47 : ρ50 4 = .pointer (some ⟨b7, 0, none⟩) := hdo45 4 rfl
 have q18 : Kn h63 (ρ50 54) ((Fr.mk b.neg (digs (((val b.n) * (lowF a)) - ((val a.n) * (lowF b)))) (digs ((lowF a) * (lowF b)))).rat) := hdp4 6 rfl
 obtain ⟨x6, hx6⟩ : ∃ x, ρ50 54 = x := ⟨_, rfl⟩
 rw [hx6] at q18
 obtain ⟨b15, c14, b16, c15, rfl, k12, k13, u9, u10⟩ := F.shape q18
 refine Ops.forget [(4, .pointer (some ⟨b7, 0, none⟩)), (54, .agg #[.bool ((frK ((Fr.mk b.neg (digs (((val b.n) * (lowF a)) - ((val a.n) * (lowF b)))) (digs ((lowF a) * (lowF b)))).rat)).neg), .slice b15 ((frK ((Fr.mk b.neg (digs (((val b.n) * (lowF a)) - ((val a.n) * (lowF b)))) (digs ((lowF a) * (lowF b)))).rat)).n.length) c14, .slice b16 ((frK ((Fr.mk b.neg (digs (((val b.n) * (lowF a)) - ((val a.n) * (lowF b)))) (digs ((lowF a) * (lowF b)))).rat)).d.length) c15])] ⟨e47, hx6, trivial⟩ (fun ρ51 => ?_)
 have o6 := g78.kp (gr15.kp (g40.kp ⟨o1, n1⟩))
 refine oC (sA (cs := [.bool ((frK ((Fr.mk b.neg (digs (((val b.n) * (lowF a)) - ((val a.n) * (lowF b)))) (digs ((lowF a) * (lowF b)))).rat)).neg), .slice b15 ((frK ((Fr.mk b.neg (digs (((val b.n) * (lowF a)) - ((val a.n) * (lowF b)))) (digs ((lowF a) * (lowF b)))).rat)).n.length) c14, .slice b16 ((frK ((Fr.mk b.neg (digs (((val b.n) * (lowF a)) - ((val a.n) * (lowF b)))) (digs ((lowF a) * (lowF b)))).rat)).d.length) c15]) Tryd.sizeOf24 rfl rfl rfl rfl o6.1 rfl ?_)
 intro w67 p3
 refine oN (Wp.ret (fin1_ret rfl (resOf_cellA (cs := [.bool ((frK ((Fr.mk b.neg (digs (((val b.n) * (lowF a)) - ((val a.n) * (lowF b)))) (digs ((lowF a) * (lowF b)))).rat)).neg), .slice b15 ((frK ((Fr.mk b.neg (digs (((val b.n) * (lowF a)) - ((val a.n) * (lowF b)))) (digs ((lowF a) * (lowF b)))).rat)).n.length) c14, .slice b16 ((frK ((Fr.mk b.neg (digs (((val b.n) * (lowF a)) - ((val a.n) * (lowF b)))) (digs ((lowF a) * (lowF b)))).rat)).d.length) c15]) Tryd.isAgg24 Tryd.sizeOf24 rfl p3.at_ (Nat.le_of_ble_eq_true rfl) rfl) ?_))
 have g79 := (g67.trans g78).put p3 o6.2 lo2
 refine ⟨h63, g79, ?_⟩
 exact (Kn.cast ((mk_rat hD).trans (sub_F' (by assumption) hge)) (F.mk u9 u10))
theorem rSub_c {h : PH} {w : World} {v0 : Value} {a : Fr} {v1 : Value} {b : Fr} (hs : Sat h w) (pv0 : F h v0 a) (pv1 : F h v1 b) (hp0 : bf a + bf b ≤ 134216000) :
    Calls Tryd.prog 27 #[v0, v1] w (Ret h w fun h' r => Kn h' r (a.rat - b.rat)) := by
 obtain ⟨b1, c1, b2, c2, rfl, k1, k2, u1, u2⟩ := F.shape pv0
 have hbq1 := F.bq pv0
 obtain ⟨b3, c3, b4, c4, rfl, k3, k4, u3, u4⟩ := F.shape pv1
 have hbq2 := F.bq pv1
 have hbn := bf_n a
 have hbd := bf_d a
 have hbp := bf_pos a
 have hbn2 := bf_n b
 have hbd2 := bf_d b
 have hbp2 := bf_pos b
 refine calls_ear (vs := [.agg #[.bool a.neg, .slice b1 a.n.length c1, .slice b2 a.d.length c2], .agg #[.bool b.neg, .slice b3 b.n.length c3, .slice b4 b.d.length c4]]) Tryd.func27 rfl rfl ?_
 have g1 := Gr.refl hs
 refine sr (oC (OpW.boxK (v := .agg #[.bool a.neg, .slice b1 a.n.length c1, .slice b2 a.d.length c2]) (arr := #[.bool a.neg, .slice b1 a.n.length c1, .slice b2 a.d.length c2]) g1.sat rfl rfl ?_))
 intro b5 h1 w1 gr1 qb1
 have g2 := g1.trans gr1
 refine oC (OpW.boxK (v := .agg #[.bool b.neg, .slice b3 b.n.length c3, .slice b4 b.d.length c4]) (arr := #[.bool b.neg, .slice b3 b.n.length c3, .slice b4 b.d.length c4]) g2.sat rfl rfl ?_)
 intro b6 h2 w2 gr2 qb2
 have g3 := g2.trans gr2
 refine oC (OpW.allocO (arr := #[.bool false, .slice none 0 0, .slice none 0 0]) g3.sat Tryd.zeroValue24 rfl ?_)
 intro b7 w3 gr3 n1 lo1 o1
 have lo2 := Nat.le_trans g3.ext.size lo1
 refine oN (wS ?_)
 have g4 := g3.trans gr3
 have hf1 := bq_neg b.rat
 have hf2 := bq_add a.rat (-b.rat)
 refine Wp.dagL 4 [5, 6, 7, 8] [eqv (.agg #[.bool a.neg, .slice b1 a.n.length c1, .slice b2 a.d.length c2]), eqv (.agg #[.bool b.neg, .slice b3 b.n.length c3, .slice b4 b.d.length c4]), fun h _ x => Kn h x (-b.rat), fun h _ x => Kn h x (a.rat + (-b.rat))] mixed g4.sat rfl (by decide +kernel) ⟨sQ _, sQ _, (stab_K (-b.rat)), (stab_K (a.rat + (-b.rat))), trivial⟩ ?_ ?_
 intro stab
 refine ⟨?_, ?_, ?_, ?_, trivial⟩
 intro ρ1 h3 w4 g5 hdd1 hdo1
 have e1 : ρ1 2 = .pointer (some ⟨b5, 0, none⟩) := hdo1 2 rfl
 have g6 := g4.trans g5
 refine gP (lA (cs := [.bool a.neg, .slice b1 a.n.length c1, .slice b2 a.d.length c2]) Tryd.isAgg24 Tryd.sizeOf24 e1 (g6.sat _ _ ((gr2.le.trans g5.le) _ _ qb1)) rfl rfl ?_)
 exact ⟨_, h3, rfl, g5, fun j x _ p => p, rfl⟩
 intro ρ2 h4 w5 g7 hdd2 hdo2
 have e2 : ρ2 3 = .pointer (some ⟨b6, 0, none⟩) := hdo2 3 rfl
 have g8 := g4.trans g7
 refine gP (lA (cs := [.bool b.neg, .slice b3 b.n.length c3, .slice b4 b.d.length c4]) Tryd.isAgg24 Tryd.sizeOf24 e2 (g8.sat _ _ (g7.le _ _ qb2)) rfl rfl ?_)
 exact ⟨_, h4, rfl, g7, fun j x _ p => p, rfl⟩
 intro ρ3 h5 w6 g9 hdd3 hdo3
 have e3 : ρ3 6 = .agg #[.bool b.neg, .slice b3 b.n.length c3, .slice b4 b.d.length c4] := hdd3 1 (by decide)
 have g10 := g4.trans g9
 refine gP (cF Tryd.call46 (rNeg_c (a := b) g10.sat (F.mk (U.mono u3 ((gr1.le.trans gr2.le).trans g9.le)) (U.mono u4 ((gr1.le.trans gr2.le).trans g9.le))) (by omega)) (cx e3 cxn) ?_)
 intro r1 h6 w7 gr4 hr1
 exact ⟨r1, h6, rfl, g9.trans gr4, fun j x _ => stab j _ _ _ _ x gr4, hr1⟩
 intro ρ4 h7 w8 g11 hdd4 hdo4
 have e4 : ρ4 5 = .agg #[.bool a.neg, .slice b1 a.n.length c1, .slice b2 a.d.length c2] := hdd4 0 (by decide)
 have q1 : Kn h7 (ρ4 7) (-b.rat) := hdd4 2 (by decide)
 have g12 := g4.trans g11
 refine gP (cF Tryd.call43 (rAdd_c (a := a) (b := frK (-b.rat)) g12.sat (F.mk (U.mono u1 ((gr1.le.trans gr2.le).trans g11.le)) (U.mono u2 ((gr1.le.trans gr2.le).trans g11.le))) q1 (by first | omega | (simp only [bf_frK, frK_rat, wts_cons, wts_nil]; omega))) (cx e4 (cx rfl cxn)) ?_)
 intro r2 h8 w9 gr5 hr2
 simp only [frK_rat, bf_frK, val_digs] at hr2
 exact ⟨r2, h8, rfl, g11.trans gr5, fun j x _ => stab j _ _ _ _ x gr5, hr2⟩
 intro ρ5 h9 w10 g13 hdp1 hdo5
 have e5 : ρ5 4 = .pointer (some ⟨b7, 0, none⟩) := hdo5 4 rfl
 have q2 : Kn h9 (ρ5 8) (a.rat + (-b.rat)) := hdp1 3 rfl
 obtain ⟨x1, hx1⟩ : ∃ x, ρ5 8 = x := ⟨_, rfl⟩
 rw [hx1] at q2
 obtain ⟨b8, c5, b9, c6, rfl, k5, k6, u5, u6⟩ := F.shape q2
 refine Ops.forget [(4, .pointer (some ⟨b7, 0, none⟩)), (8, .agg #[.bool ((frK (a.rat + (-b.rat))).neg), .slice b8 ((frK (a.rat + (-b.rat))).n.length) c5, .slice b9 ((frK (a.rat + (-b.rat))).d.length) c6])] ⟨e5, hx1, trivial⟩ (fun ρ6 => ?_)
 have o2 := g13.kp ⟨o1, n1⟩
 refine oC (sA (cs := [.bool ((frK (a.rat + (-b.rat))).neg), .slice b8 ((frK (a.rat + (-b.rat))).n.length) c5, .slice b9 ((frK (a.rat + (-b.rat))).d.length) c6]) Tryd.sizeOf24 rfl rfl rfl rfl o2.1 rfl ?_)
 intro w11 p1
 refine oN (Wp.ret (fin1_ret rfl (resOf_cellA (cs := [.bool ((frK (a.rat + (-b.rat))).neg), .slice b8 ((frK (a.rat + (-b.rat))).n.length) c5, .slice b9 ((frK (a.rat + (-b.rat))).d.length) c6]) Tryd.isAgg24 Tryd.sizeOf24 rfl p1.at_ (Nat.le_of_ble_eq_true rfl) rfl) ?_))
 have g14 := (g4.trans g13).put p1 o2.2 lo2
 refine ⟨h9, g14, ?_⟩
 exact (Kn.cast (Rat.sub_eq_add_neg _ _).symm (F.mk u5 u6))
theorem rMul_c {h : PH} {w : World} {v0 : Value} {a : Fr} {v1 : Value} {b : Fr} (hs : Sat h w) (pv0 : F h v0 a) (pv1 : F h v1 b) (hp0 : bf a + bf b ≤ 134217000) :
    Calls Tryd.prog 37 #[v0, v1] w (Ret h w fun h' r => Kn h' r (a.rat * b.rat)) := by
 obtain ⟨b1, c1, b2, c2, rfl, k1, k2, u1, u2⟩ := F.shape pv0
 have hbq1 := F.bq pv0
 obtain ⟨b3, c3, b4, c4, rfl, k3, k4, u3, u4⟩ := F.shape pv1
 have hbq2 := F.bq pv1
 have ha1 := sz_valn (F.fit pv0).1
 have ha2 := sz_lowF (F.fit pv0).2
 have ha3 := lowF_ne a
 have ha4 := bf_n a
 have ha5 := bf_d a
 have ha6 := bf_pos a
 have hb1 := sz_valn (F.fit pv1).1
 have hb2 := sz_lowF (F.fit pv1).2
 have hb3 := lowF_ne b
 have hb4 := bf_n b
 have hb5 := bf_d b
 have hb6 := bf_pos b
 have m1 := sz_mul (val a.n) (val b.n)
 have m3 := sz_mul (lowF a) (lowF b)
 have l1 : (digs (val a.n * val b.n)).length ≤ 536870912 := Nat.le_trans m1 (by omega)
 have l2 : (digs (lowF a * lowF b)).length ≤ 536870912 := Nat.le_trans m3 (by omega)
 have hD := Nat.mul_ne_zero ha3 hb3
 refine calls_ear (vs := [.agg #[.bool a.neg, .slice b1 a.n.length c1, .slice b2 a.d.length c2], .agg #[.bool b.neg, .slice b3 b.n.length c3, .slice b4 b.d.length c4]]) Tryd.func37 rfl rfl ?_
 have g1 := Gr.refl hs
 refine sr (oC (OpW.boxK (v := .agg #[.bool a.neg, .slice b1 a.n.length c1, .slice b2 a.d.length c2]) (arr := #[.bool a.neg, .slice b1 a.n.length c1, .slice b2 a.d.length c2]) g1.sat rfl rfl ?_))
 intro b5 h1 w1 gr1 qb1
 have g2 := g1.trans gr1
 refine oC (OpW.boxK (v := .agg #[.bool b.neg, .slice b3 b.n.length c3, .slice b4 b.d.length c4]) (arr := #[.bool b.neg, .slice b3 b.n.length c3, .slice b4 b.d.length c4]) g2.sat rfl rfl ?_)
 intro b6 h2 w2 gr2 qb2
 have g3 := g2.trans gr2
 refine oC (OpW.allocO (arr := #[.bool false, .slice none 0 0, .slice none 0 0]) g3.sat Tryd.zeroValue24 rfl ?_)
 intro b7 w3 gr3 n1 lo1 o1
 have lo2 := Nat.le_trans g3.ext.size lo1
 refine oN (wS ?_)
 have g4 := g3.trans gr3
 refine Wp.dagL 18 [5, 6, 7, 8, 9, 10, 11, 12, 13, 14, 15, 16, 17, 18, 19, 20, 21, 22] [eqv (.pointer (some ⟨b5, 0, none⟩)), eqv (.bool a.neg), eqv (.pointer (some ⟨b6, 0, none⟩)), eqv (.bool b.neg), eqv (.bool (a.neg != b.neg)), eqv (.pointer (some ⟨b5, 1, none⟩)), eqv (.slice b1 a.n.length c1), fun h _ x => N h x (val a.n), eqv (.pointer (some ⟨b6, 1, none⟩)), eqv (.slice b3 b.n.length c3), fun h _ x => N h x (val b.n), fun h _ x => N h x ((val a.n) * (val b.n)), eqv (.agg #[.bool a.neg, .slice b1 a.n.length c1, .slice b2 a.d.length c2]), fun h _ x => N h x (lowF a), eqv (.agg #[.bool b.neg, .slice b3 b.n.length c3, .slice b4 b.d.length c4]), fun h _ x => N h x (lowF b), fun h _ x => N h x ((lowF a) * (lowF b)), fun h _ x => Kn h x ((Fr.mk (a.neg != b.neg) (digs ((val a.n) * (val b.n))) (digs ((lowF a) * (lowF b)))).rat)] mixed g4.sat rfl (by decide +kernel) ⟨sQ _, sQ _, sQ _, sQ _, sQ _, sQ _, sQ _, (stab_N (val a.n)), sQ _, sQ _, (stab_N (val b.n)), (stab_N ((val a.n) * (val b.n))), sQ _, (stab_N (lowF a)), sQ _, (stab_N (lowF b)), (stab_N ((lowF a) * (lowF b))), (stab_K ((Fr.mk (a.neg != b.neg) (digs ((val a.n) * (val b.n))) (digs ((lowF a) * (lowF b)))).rat)), trivial⟩ ?_ ?_
 intro stab
 refine ⟨?_, ?_, ?_, ?_, ?_, ?_, ?_, ?_, ?_, ?_, ?_, ?_, ?_, ?_, ?_, ?_, ?_, ?_, trivial⟩
 intro ρ1 h3 w4 g5 hdd1 hdo1
 have e1 : ρ1 2 = .pointer (some ⟨b5, 0, none⟩) := hdo1 2 rfl
 refine gP (fA (o := 0) Tryd.underlying24 rfl Tryd.sizeOf4 (by decide) e1 rfl ?_)
 exact ⟨_, h3, rfl, g5, fun j x _ p => p, rfl⟩
 intro ρ2 h4 w5 g6 hdd2 hdo2
 have e2 : ρ2 5 = .pointer (some ⟨b5, 0, none⟩) := hdd2 0 (by decide)
 have g7 := g4.trans g6
 refine gP (lO (v := .bool a.neg) Tryd.isAgg4 e2 (g7.sat _ _ ((gr2.le.trans g6.le) _ _ qb1)) rfl ?_)
 exact ⟨_, h4, rfl, g6, fun j x _ p => p, rfl⟩
 intro ρ3 h5 w6 g8 hdd3 hdo3
 have e3 : ρ3 3 = .pointer (some ⟨b6, 0, none⟩) := hdo3 3 rfl
 refine gP (fA (o := 0) Tryd.underlying24 rfl Tryd.sizeOf4 (by decide) e3 rfl ?_)
 exact ⟨_, h5, rfl, g8, fun j x _ p => p, rfl⟩
 intro ρ4 h6 w7 g9 hdd4 hdo4
 have e4 : ρ4 7 = .pointer (some ⟨b6, 0, none⟩) := hdd4 2 (by decide)
 have g10 := g4.trans g9
 refine gP (lO (v := .bool b.neg) Tryd.isAgg4 e4 (g10.sat _ _ (g9.le _ _ qb2)) rfl ?_)
 exact ⟨_, h6, rfl, g9, fun j x _ p => p, rfl⟩
 intro ρ5 h7 w8 g11 hdd5 hdo5
 have e5 : ρ5 6 = .bool a.neg := hdd5 1 (by decide)
 have e6 : ρ5 8 = .bool b.neg := hdd5 3 (by decide)
 refine gP (OpW.neqB (a := a.neg) (b := b.neg) (r := a.neg != b.neg) Tryd.underlying4 e5 e6 rfl ?_)
 exact ⟨_, h7, rfl, g11, fun j x _ p => p, rfl⟩
 intro ρ6 h8 w9 g12 hdd6 hdo6
 have e7 : ρ6 2 = .pointer (some ⟨b5, 0, none⟩) := hdo6 2 rfl
 refine gP (fA (o := 1) Tryd.underlying24 rfl Tryd.sizeOf22 (by decide) e7 rfl ?_)
 exact ⟨_, h8, rfl, g12, fun j x _ p => p, rfl⟩
 intro ρ7 h9 w10 g13 hdd7 hdo7
 have e8 : ρ7 10 = .pointer (some ⟨b5, 1, none⟩) := hdd7 5 (by decide)
 have g14 := g4.trans g13
 refine gP (lO (v := .slice b1 a.n.length c1) Tryd.isAgg22 e8 (g14.sat _ _ ((gr2.le.trans g13.le) _ _ qb1)) rfl ?_)
 exact ⟨_, h9, rfl, g13, fun j x _ p => p, rfl⟩
 intro ρ8 h10 w11 g15 hdd8 hdo8
 have e9 : ρ8 11 = .slice b1 a.n.length c1 := hdd8 6 (by decide)
 have g16 := g4.trans g15
 refine gP (cF Tryd.call76 (rtrim_c (l := a.n) g16.sat (U.mono u1 ((gr1.le.trans gr2.le).trans g15.le)) (by first | omega | (simp only [List.length_set, List.length_replicate]; omega))) (cx e9 cxn) ?_)
 intro r1 h11 w12 gr4 hr1
 exact ⟨r1, h11, rfl, g15.trans gr4, fun j x _ => stab j _ _ _ _ x gr4, hr1⟩
 intro ρ9 h12 w13 g17 hdd9 hdo9
 have e10 : ρ9 3 = .pointer (some ⟨b6, 0, none⟩) := hdo9 3 rfl
 refine gP (fA (o := 1) Tryd.underlying24 rfl Tryd.sizeOf22 (by decide) e10 rfl ?_)
 exact ⟨_, h12, rfl, g17, fun j x _ p => p, rfl⟩
 intro ρ10 h13 w14 g18 hdd10 hdo10
 have e11 : ρ10 13 = .pointer (some ⟨b6, 1, none⟩) := hdd10 8 (by decide)
 have g19 := g4.trans g18
 refine gP (lO (v := .slice b3 b.n.length c3) Tryd.isAgg22 e11 (g19.sat _ _ (g18.le _ _ qb2)) rfl ?_)
 exact ⟨_, h13, rfl, g18, fun j x _ p => p, rfl⟩
 intro ρ11 h14 w15 g20 hdd11 hdo11
 have e12 : ρ11 14 = .slice b3 b.n.length c3 := hdd11 9 (by decide)
 have g21 := g4.trans g20
 refine gP (cF Tryd.call76 (rtrim_c (l := b.n) g21.sat (U.mono u3 ((gr1.le.trans gr2.le).trans g20.le)) (by first | omega | (simp only [List.length_set, List.length_replicate]; omega))) (cx e12 cxn) ?_)
 intro r2 h15 w16 gr5 hr2
 exact ⟨r2, h15, rfl, g20.trans gr5, fun j x _ => stab j _ _ _ _ x gr5, hr2⟩
 intro ρ12 h16 w17 g22 hdd12 hdo12
 have q1 : N h16 (ρ12 12) (val a.n) := hdd12 7 (by decide)
 have q2 : N h16 (ρ12 15) (val b.n) := hdd12 10 (by decide)
 have g23 := g4.trans g22
 refine gP (cF Tryd.call93 (rtimes_c (a := val a.n) (b := val b.n) g23.sat q1 q2 (by omega) (by omega)) rfl ?_)
 intro r3 h17 w18 gr6 hr3
 exact ⟨r3, h17, rfl, g22.trans gr6, fun j x _ => stab j _ _ _ _ x gr6, hr3⟩
 intro ρ13 h18 w19 g24 hdd13 hdo13
 have e13 : ρ13 2 = .pointer (some ⟨b5, 0, none⟩) := hdo13 2 rfl
 have g25 := g4.trans g24
 refine gP (lA (cs := [.bool a.neg, .slice b1 a.n.length c1, .slice b2 a.d.length c2]) Tryd.isAgg24 Tryd.sizeOf24 e13 (g25.sat _ _ ((gr2.le.trans g24.le) _ _ qb1)) rfl rfl ?_)
 exact ⟨_, h18, rfl, g24, fun j x _ p => p, rfl⟩
 intro ρ14 h19 w20 g26 hdd14 hdo14
 have e14 : ρ14 17 = .agg #[.bool a.neg, .slice b1 a.n.length c1, .slice b2 a.d.length c2] := hdd14 12 (by decide)
 have g27 := g4.trans g26
 refine gP (cF Tryd.call94 (rlow_c (f := a) g27.sat (F.mk (U.mono u1 ((gr1.le.trans gr2.le).trans g26.le)) (U.mono u2 ((gr1.le.trans gr2.le).trans g26.le))) (by omega)) (cx e14 cxn) ?_)
 intro r4 h20 w21 gr7 hr4
 exact ⟨r4, h20, rfl, g26.trans gr7, fun j x _ => stab j _ _ _ _ x gr7, hr4⟩
 intro ρ15 h21 w22 g28 hdd15 hdo15
 have e15 : ρ15 3 = .pointer (some ⟨b6, 0, none⟩) := hdo15 3 rfl
 have g29 := g4.trans g28
 refine gP (lA (cs := [.bool b.neg, .slice b3 b.n.length c3, .slice b4 b.d.length c4]) Tryd.isAgg24 Tryd.sizeOf24 e15 (g29.sat _ _ (g28.le _ _ qb2)) rfl rfl ?_)
 exact ⟨_, h21, rfl, g28, fun j x _ p => p, rfl⟩
 intro ρ16 h22 w23 g30 hdd16 hdo16
 have e16 : ρ16 19 = .agg #[.bool b.neg, .slice b3 b.n.length c3, .slice b4 b.d.length c4] := hdd16 14 (by decide)
 have g31 := g4.trans g30
 refine gP (cF Tryd.call94 (rlow_c (f := b) g31.sat (F.mk (U.mono u3 ((gr1.le.trans gr2.le).trans g30.le)) (U.mono u4 ((gr1.le.trans gr2.le).trans g30.le))) (by omega)) (cx e16 cxn) ?_)
 intro r5 h23 w24 gr8 hr5
 exact ⟨r5, h23, rfl, g30.trans gr8, fun j x _ => stab j _ _ _ _ x gr8, hr5⟩
 intro ρ17 h24 w25 g32 hdd17 hdo17
 have q3 : N h24 (ρ17 18) (lowF a) := hdd17 13 (by decide)
 have q4 : N h24 (ρ17 20) (lowF b) := hdd17 15 (by decide)
 have g33 := g4.trans g32
 refine gP (cF Tryd.call93 (rtimes_c (a := lowF a) (b := lowF b) g33.sat q3 q4 (by omega) (by omega)) rfl ?_)
 intro r6 h25 w26 gr9 hr6
 exact ⟨r6, h25, rfl, g32.trans gr9, fun j x _ => stab j _ _ _ _ x gr9, hr6⟩
 intro ρ18 h26 w27 g34 hdd18 hdo18
 have e17 : ρ18 9 = .bool (a.neg != b.neg) := hdd18 4 (by decide)
 have q5 : N h26 (ρ18 16) ((val a.n) * (val b.n)) := hdd18 11 (by decide)
 have q6 : N h26 (ρ18 21) ((lowF a) * (lowF b)) := hdd18 16 (by decide)
 have g35 := g4.trans g34
 refine gP (cF Tryd.call81 (rmake1_c (s := a.neg != b.neg) (n := digs ((val a.n) * (val b.n))) (d := digs ((lowF a) * (lowF b))) g35.sat q5 q6 (by omega) (by first | omega | exact Nat.zero_le _)) (cx e17 (cx rfl (cx rfl cxn))) ?_)
 intro r7 h27 w28 gr10 hr7
 exact ⟨r7, h27, rfl, g34.trans gr10, fun j x _ => stab j _ _ _ _ x gr10, hr7⟩
 intro ρ19 h28 w29 g36 hdp1 hdo19
 have e18 : ρ19 4 = .pointer (some ⟨b7, 0, none⟩) := hdo19 4 rfl
 have q7 : Kn h28 (ρ19 22) ((Fr.mk (a.neg != b.neg) (digs ((val a.n) * (val b.n))) (digs ((lowF a) * (lowF b)))).rat) := hdp1 17 rfl
 obtain ⟨x1, hx1⟩ : ∃ x, ρ19 22 = x := ⟨_, rfl⟩
 rw [hx1] at q7
 obtain ⟨b8, c5, b9, c6, rfl, k5, k6, u5, u6⟩ := F.shape q7
 refine Ops.forget [(4, .pointer (some ⟨b7, 0, none⟩)), (22, .agg #[.bool ((frK ((Fr.mk (a.neg != b.neg) (digs ((val a.n) * (val b.n))) (digs ((lowF a) * (lowF b)))).rat)).neg), .slice b8 ((frK ((Fr.mk (a.neg != b.neg) (digs ((val a.n) * (val b.n))) (digs ((lowF a) * (lowF b)))).rat)).n.length) c5, .slice b9 ((frK ((Fr.mk (a.neg != b.neg) (digs ((val a.n) * (val b.n))) (digs ((lowF a) * (lowF b)))).rat)).d.length) c6])] ⟨e18, hx1, trivial⟩ (fun ρ20 => ?_)
 have o2 := g36.kp ⟨o1, n1⟩
 refine oC (sA (cs := [.bool ((frK ((Fr.mk (a.neg != b.neg) (digs ((val a.n) * (val b.n))) (digs ((lowF a) * (lowF b)))).rat)).neg), .slice b8 ((frK ((Fr.mk (a.neg != b.neg) (digs ((val a.n) * (val b.n))) (digs ((lowF a) * (lowF b)))).rat)).n.length) c5, .slice b9 ((frK ((Fr.mk (a.neg != b.neg) (digs ((val a.n) * (val b.n))) (digs ((lowF a) * (lowF b)))).rat)).d.length) c6]) Tryd.sizeOf24 rfl rfl rfl rfl o2.1 rfl ?_)
 intro w30 p1
 refine oN (Wp.ret (fin1_ret rfl (resOf_cellA (cs := [.bool ((frK ((Fr.mk (a.neg != b.neg) (digs ((val a.n) * (val b.n))) (digs ((lowF a) * (lowF b)))).rat)).neg), .slice b8 ((frK ((Fr.mk (a.neg != b.neg) (digs ((val a.n) * (val b.n))) (digs ((lowF a) * (lowF b)))).rat)).n.length) c5, .slice b9 ((frK ((Fr.mk (a.neg != b.neg) (digs ((val a.n) * (val b.n))) (digs ((lowF a) * (lowF b)))).rat)).d.length) c6]) Tryd.isAgg24 Tryd.sizeOf24 rfl p1.at_ (Nat.le_of_ble_eq_true rfl) rfl) ?_))
 have g37 := (g4.trans g36).put p1 o2.2 lo2
 refine ⟨h28, g37, ?_⟩
 exact (Kn.cast ((mk_rat hD).trans mul_F) (F.mk u5 u6))
theorem rInverse_c {h : PH} {w : World} {v0 : Value} {a : Fr} (hs : Sat h w) (pv0 : F h v0 a) (hp0 : bf a ≤ 134217000) (hp1 : a.rat ≠ 0) :
    Calls Tryd.prog 77 #[v0] w (Ret h w fun h' r => Kn h' r ((a.rat)⁻¹)) := by
 obtain ⟨b1, c1, b2, c2, rfl, k1, k2, u1, u2⟩ := F.shape pv0
 have hbq1 := F.bq pv0
 have ha1 := sz_valn (F.fit pv0).1
 have ha2 := sz_lowF (F.fit pv0).2
 have ha3 := lowF_ne a
 have ha4 := bf_n a
 have ha5 := bf_d a
 have ha6 := bf_pos a
 have hn0 : val a.n ≠ 0 := fun e => hp1 (rat_zero_iff.2 e)
 have l1 : (digs (lowF a)).length ≤ 536870912 := Nat.le_trans ha2 (by omega)
 have l2 : (digs (val a.n)).length ≤ 536870912 := Nat.le_trans ha1 (by omega)
 refine calls_ear (vs := [.agg #[.bool a.neg, .slice b1 a.n.length c1, .slice b2 a.d.length c2]]) Tryd.func77 rfl rfl ?_
 have g1 := Gr.refl hs
 refine sr (oC (OpW.boxK (v := .agg #[.bool a.neg, .slice b1 a.n.length c1, .slice b2 a.d.length c2]) (arr := #[.bool a.neg, .slice b1 a.n.length c1, .slice b2 a.d.length c2]) g1.sat rfl rfl ?_))
 intro b3 h1 w1 gr1 qb1
 have g2 := g1.trans gr1
 refine oC (OpW.allocO (arr := #[.bool false, .slice none 0 0, .slice none 0 0]) g2.sat Tryd.zeroValue24 rfl ?_)
 intro b4 w2 gr2 n1 lo1 o1
 have lo2 := Nat.le_trans g2.ext.size lo1
 refine oN (wS ?_)
 have g3 := g2.trans gr2
 refine Wp.dagL 8 [3, 4, 5, 6, 7, 8, 9, 10] [eqv (.pointer (some ⟨b3, 0, none⟩)), eqv (.bool a.neg), eqv (.agg #[.bool a.neg, .slice b1 a.n.length c1, .slice b2 a.d.length c2]), fun h _ x => N h x (lowF a), eqv (.pointer (some ⟨b3, 1, none⟩)), eqv (.slice b1 a.n.length c1), fun h _ x => N h x (val a.n), fun h _ x => Kn h x ((Fr.mk a.neg (digs (lowF a)) (digs (val a.n))).rat)] mixed g3.sat rfl (by decide +kernel) ⟨sQ _, sQ _, sQ _, (stab_N (lowF a)), sQ _, sQ _, (stab_N (val a.n)), (stab_K ((Fr.mk a.neg (digs (lowF a)) (digs (val a.n))).rat)), trivial⟩ ?_ ?_
 intro stab
 refine ⟨?_, ?_, ?_, ?_, ?_, ?_, ?_, ?_, trivial⟩
 intro ρ1 h2 w3 g4 hdd1 hdo1
 have e1 : ρ1 1 = .pointer (some ⟨b3, 0, none⟩) := hdo1 1 rfl
 refine gP (fA (o := 0) Tryd.underlying24 rfl Tryd.sizeOf4 (by decide) e1 rfl ?_)
 exact ⟨_, h2, rfl, g4, fun j x _ p => p, rfl⟩
 intro ρ2 h3 w4 g5 hdd2 hdo2
 have e2 : ρ2 3 = .pointer (some ⟨b3, 0, none⟩) := hdd2 0 (by decide)
 have g6 := g3.trans g5
 refine gP (lO (v := .bool a.neg) Tryd.isAgg4 e2 (g6.sat _ _ (g5.le _ _ qb1)) rfl ?_)
 exact ⟨_, h3, rfl, g5, fun j x _ p => p, rfl⟩
 intro ρ3 h4 w5 g7 hdd3 hdo3
 have e3 : ρ3 1 = .pointer (some ⟨b3, 0, none⟩) := hdo3 1 rfl
 have g8 := g3.trans g7
 refine gP (lA (cs := [.bool a.neg, .slice b1 a.n.length c1, .slice b2 a.d.length c2]) Tryd.isAgg24 Tryd.sizeOf24 e3 (g8.sat _ _ (g7.le _ _ qb1)) rfl rfl ?_)
 exact ⟨_, h4, rfl, g7, fun j x _ p => p, rfl⟩
 intro ρ4 h5 w6 g9 hdd4 hdo4
 have e4 : ρ4 5 = .agg #[.bool a.neg, .slice b1 a.n.length c1, .slice b2 a.d.length c2] := hdd4 2 (by decide)
 have g10 := g3.trans g9
 refine gP (cF Tryd.call94 (rlow_c (f := a) g10.sat (F.mk (U.mono u1 (gr1.le.trans g9.le)) (U.mono u2 (gr1.le.trans g9.le))) (by omega)) (cx e4 cxn) ?_)
 intro r1 h6 w7 gr3 hr1
 exact ⟨r1, h6, rfl, g9.trans gr3, fun j x _ => stab j _ _ _ _ x gr3, hr1⟩
 intro ρ5 h7 w8 g11 hdd5 hdo5
 have e5 : ρ5 1 = .pointer (some ⟨b3, 0, none⟩) := hdo5 1 rfl
 refine gP (fA (o := 1) Tryd.underlying24 rfl Tryd.sizeOf22 (by decide) e5 rfl ?_)
 exact ⟨_, h7, rfl, g11, fun j x _ p => p, rfl⟩
 intro ρ6 h8 w9 g12 hdd6 hdo6
 have e6 : ρ6 7 = .pointer (some ⟨b3, 1, none⟩) := hdd6 4 (by decide)
 have g13 := g3.trans g12
 refine gP (lO (v := .slice b1 a.n.length c1) Tryd.isAgg22 e6 (g13.sat _ _ (g12.le _ _ qb1)) rfl ?_)
 exact ⟨_, h8, rfl, g12, fun j x _ p => p, rfl⟩
 intro ρ7 h9 w10 g14 hdd7 hdo7
 have e7 : ρ7 8 = .slice b1 a.n.length c1 := hdd7 5 (by decide)
 have g15 := g3.trans g14
 refine gP (cF Tryd.call76 (rtrim_c (l := a.n) g15.sat (U.mono u1 (gr1.le.trans g14.le)) (by first | omega | (simp only [List.length_set, List.length_replicate]; omega))) (cx e7 cxn) ?_)
 intro r2 h10 w11 gr4 hr2
 exact ⟨r2, h10, rfl, g14.trans gr4, fun j x _ => stab j _ _ _ _ x gr4, hr2⟩
 intro ρ8 h11 w12 g16 hdd8 hdo8
 have e8 : ρ8 4 = .bool a.neg := hdd8 1 (by decide)
 have q1 : N h11 (ρ8 6) (lowF a) := hdd8 3 (by decide)
 have q2 : N h11 (ρ8 9) (val a.n) := hdd8 6 (by decide)
 have g17 := g3.trans g16
 refine gP (cF Tryd.call81 (rmake1_c (s := a.neg) (n := digs (lowF a)) (d := digs (val a.n)) g17.sat q1 q2 (by omega) (by first | omega | exact Nat.zero_le _)) (cx e8 (cx rfl (cx rfl cxn))) ?_)
 intro r3 h12 w13 gr5 hr3
 exact ⟨r3, h12, rfl, g16.trans gr5, fun j x _ => stab j _ _ _ _ x gr5, hr3⟩
 intro ρ9 h13 w14 g18 hdp1 hdo9
 have e9 : ρ9 2 = .pointer (some ⟨b4, 0, none⟩) := hdo9 2 rfl
 have q3 : Kn h13 (ρ9 10) ((Fr.mk a.neg (digs (lowF a)) (digs (val a.n))).rat) := hdp1 7 rfl
 obtain ⟨x1, hx1⟩ : ∃ x, ρ9 10 = x := ⟨_, rfl⟩
 rw [hx1] at q3
 obtain ⟨b5, c3, b6, c4, rfl, k3, k4, u3, u4⟩ := F.shape q3
 refine Ops.forget [(2, .pointer (some ⟨b4, 0, none⟩)), (10, .agg #[.bool ((frK ((Fr.mk a.neg (digs (lowF a)) (digs (val a.n))).rat)).neg), .slice b5 ((frK ((Fr.mk a.neg (digs (lowF a)) (digs (val a.n))).rat)).n.length) c3, .slice b6 ((frK ((Fr.mk a.neg (digs (lowF a)) (digs (val a.n))).rat)).d.length) c4])] ⟨e9, hx1, trivial⟩ (fun ρ10 => ?_)
 have o2 := g18.kp ⟨o1, n1⟩
 refine oC (sA (cs := [.bool ((frK ((Fr.mk a.neg (digs (lowF a)) (digs (val a.n))).rat)).neg), .slice b5 ((frK ((Fr.mk a.neg (digs (lowF a)) (digs (val a.n))).rat)).n.length) c3, .slice b6 ((frK ((Fr.mk a.neg (digs (lowF a)) (digs (val a.n))).rat)).d.length) c4]) Tryd.sizeOf24 rfl rfl rfl rfl o2.1 rfl ?_)
 intro w15 p1
 refine oN (Wp.ret (fin1_ret rfl (resOf_cellA (cs := [.bool ((frK ((Fr.mk a.neg (digs (lowF a)) (digs (val a.n))).rat)).neg), .slice b5 ((frK ((Fr.mk a.neg (digs (lowF a)) (digs (val a.n))).rat)).n.length) c3, .slice b6 ((frK ((Fr.mk a.neg (digs (lowF a)) (digs (val a.n))).rat)).d.length) c4]) Tryd.isAgg24 Tryd.sizeOf24 rfl p1.at_ (Nat.le_of_ble_eq_true rfl) rfl) ?_))
 have g19 := (g3.trans g18).put p1 o2.2 lo2
 refine ⟨h13, g19, ?_⟩
 exact (Kn.cast ((mk_rat hn0).trans (inv_F hp1)) (F.mk u3 u4))
theorem rDiv_c {h : PH} {w : World} {v0 : Value} {a : Fr} {v1 : Value} {b : Fr} (hs : Sat h w) (pv0 : F h v0 a) (pv1 : F h v1 b) (hp0 : bf a + bf b ≤ 134216000) (hp1 : b.rat ≠ 0) :
    Calls Tryd.prog 49 #[v0, v1] w (Ret h w fun h' r => Kn h' r (a.rat / b.rat)) := by
 obtain ⟨b1, c1, b2, c2, rfl, k1, k2, u1, u2⟩ := F.shape pv0
 have hbq1 := F.bq pv0
 obtain ⟨b3, c3, b4, c4, rfl, k3, k4, u3, u4⟩ := F.shape pv1
 have hbq2 := F.bq pv1
 have hbn := bf_n a
 have hbd := bf_d a
 have hbp := bf_pos a
 have hbn2 := bf_n b
 have hbd2 := bf_d b
 have hbp2 := bf_pos b
 refine calls_ear (vs := [.agg #[.bool a.neg, .slice b1 a.n.length c1, .slice b2 a.d.length c2], .agg #[.bool b.neg, .slice b3 b.n.length c3, .slice b4 b.d.length c4]]) Tryd.func49 rfl rfl ?_
 have g1 := Gr.refl hs
 refine sr (oC (OpW.boxK (v := .agg #[.bool a.neg, .slice b1 a.n.length c1, .slice b2 a.d.length c2]) (arr := #[.bool a.neg, .slice b1 a.n.length c1, .slice b2 a.d.length c2]) g1.sat rfl rfl ?_))
 intro b5 h1 w1 gr1 qb1
 have g2 := g1.trans gr1
 refine oC (OpW.boxK (v := .agg #[.bool b.neg, .slice b3 b.n.length c3, .slice b4 b.d.length c4]) (arr := #[.bool b.neg, .slice b3 b.n.length c3, .slice b4 b.d.length c4]) g2.sat rfl rfl ?_)
 intro b6 h2 w2 gr2 qb2
 have g3 := g2.trans gr2
 refine oC (OpW.allocO (arr := #[.bool false, .slice none 0 0, .slice none 0 0]) g3.sat Tryd.zeroValue24 rfl ?_)
 intro b7 w3 gr3 n1 lo1 o1
 have lo2 := Nat.le_trans g3.ext.size lo1
 refine oN (wS ?_)
 have g4 := g3.trans gr3
 have hf1 := bq_inv' b.rat
 have hf2 := bq_mul a.rat ((b.rat)⁻¹)
 refine Wp.dagL 4 [5, 6, 7, 8] [eqv (.agg #[.bool a.neg, .slice b1 a.n.length c1, .slice b2 a.d.length c2]), eqv (.agg #[.bool b.neg, .slice b3 b.n.length c3, .slice b4 b.d.length c4]), fun h _ x => Kn h x ((b.rat)⁻¹), fun h _ x => Kn h x (a.rat * ((b.rat)⁻¹))] mixed g4.sat rfl (by decide +kernel) ⟨sQ _, sQ _, (stab_K ((b.rat)⁻¹)), (stab_K (a.rat * ((b.rat)⁻¹))), trivial⟩ ?_ ?_
 intro stab
 refine ⟨?_, ?_, ?_, ?_, trivial⟩
 intro ρ1 h3 w4 g5 hdd1 hdo1
 have e1 : ρ1 2 = .pointer (some ⟨b5, 0, none⟩) := hdo1 2 rfl
 have g6 := g4.trans g5
 refine gP (lA (cs := [.bool a.neg, .slice b1 a.n.length c1, .slice b2 a.d.length c2]) Tryd.isAgg24 Tryd.sizeOf24 e1 (g6.sat _ _ ((gr2.le.trans g5.le) _ _ qb1)) rfl rfl ?_)
 exact ⟨_, h3, rfl, g5, fun j x _ p => p, rfl⟩
 intro ρ2 h4 w5 g7 hdd2 hdo2
 have e2 : ρ2 3 = .pointer (some ⟨b6, 0, none⟩) := hdo2 3 rfl
 have g8 := g4.trans g7
 refine gP (lA (cs := [.bool b.neg, .slice b3 b.n.length c3, .slice b4 b.d.length c4]) Tryd.isAgg24 Tryd.sizeOf24 e2 (g8.sat _ _ (g7.le _ _ qb2)) rfl rfl ?_)
 exact ⟨_, h4, rfl, g7, fun j x _ p => p, rfl⟩
 intro ρ3 h5 w6 g9 hdd3 hdo3
 have e3 : ρ3 6 = .agg #[.bool b.neg, .slice b3 b.n.length c3, .slice b4 b.d.length c4] := hdd3 1 (by decide)
 have g10 := g4.trans g9
 refine gP (cF Tryd.call77 (rInverse_c (a := b) g10.sat (F.mk (U.mono u3 ((gr1.le.trans gr2.le).trans g9.le)) (U.mono u4 ((gr1.le.trans gr2.le).trans g9.le))) (by omega) (by first | assumption | (rw [frK_rat]; assumption) | omega)) (cx e3 cxn) ?_)
 intro r1 h6 w7 gr4 hr1
 exact ⟨r1, h6, rfl, g9.trans gr4, fun j x _ => stab j _ _ _ _ x gr4, hr1⟩
 intro ρ4 h7 w8 g11 hdd4 hdo4
 have e4 : ρ4 5 = .agg #[.bool a.neg, .slice b1 a.n.length c1, .slice b2 a.d.length c2] := hdd4 0 (by decide)
 have q1 : Kn h7 (ρ4 7) ((b.rat)⁻¹) := hdd4 2 (by decide)
 have g12 := g4.trans g11
 refine gP (cF Tryd.call37 (rMul_c (a := a) (b := frK ((b.rat)⁻¹)) g12.sat (F.mk (U.mono u1 ((gr1.le.trans gr2.le).trans g11.le)) (U.mono u2 ((gr1.le.trans gr2.le).trans g11.le))) q1 (by first | omega | (simp only [bf_frK, frK_rat, wts_cons, wts_nil]; omega))) (cx e4 (cx rfl cxn)) ?_)
 intro r2 h8 w9 gr5 hr2
 simp only [frK_rat, bf_frK, val_digs] at hr2
 exact ⟨r2, h8, rfl, g11.trans gr5, fun j x _ => stab j _ _ _ _ x gr5, hr2⟩
 intro ρ5 h9 w10 g13 hdp1 hdo5
 have e5 : ρ5 4 = .pointer (some ⟨b7, 0, none⟩) := hdo5 4 rfl
 have q2 : Kn h9 (ρ5 8) (a.rat * ((b.rat)⁻¹)) := hdp1 3 rfl
 obtain ⟨x1, hx1⟩ : ∃ x, ρ5 8 = x := ⟨_, rfl⟩
 rw [hx1] at q2
 obtain ⟨b8, c5, b9, c6, rfl, k5, k6, u5, u6⟩ := F.shape q2
 refine Ops.forget [(4, .pointer (some ⟨b7, 0, none⟩)), (8, .agg #[.bool ((frK (a.rat * ((b.rat)⁻¹))).neg), .slice b8 ((frK (a.rat * ((b.rat)⁻¹))).n.length) c5, .slice b9 ((frK (a.rat * ((b.rat)⁻¹))).d.length) c6])] ⟨e5, hx1, trivial⟩ (fun ρ6 => ?_)
 have o2 := g13.kp ⟨o1, n1⟩
 refine oC (sA (cs := [.bool ((frK (a.rat * ((b.rat)⁻¹))).neg), .slice b8 ((frK (a.rat * ((b.rat)⁻¹))).n.length) c5, .slice b9 ((frK (a.rat * ((b.rat)⁻¹))).d.length) c6]) Tryd.sizeOf24 rfl rfl rfl rfl o2.1 rfl ?_)
 intro w11 p1
 refine oN (Wp.ret (fin1_ret rfl (resOf_cellA (cs := [.bool ((frK (a.rat * ((b.rat)⁻¹))).neg), .slice b8 ((frK (a.rat * ((b.rat)⁻¹))).n.length) c5, .slice b9 ((frK (a.rat * ((b.rat)⁻¹))).d.length) c6]) Tryd.isAgg24 Tryd.sizeOf24 rfl p1.at_ (Nat.le_of_ble_eq_true rfl) rfl) ?_))
 have g14 := (g4.trans g13).put p1 o2.2 lo2
 refine ⟨h9, g14, ?_⟩
 exact (Kn.cast (Rat.div_def _ _).symm (F.mk u5 u6))
theorem rSign_c {h : PH} {w : World} {v0 : Value} {a : Fr} (hs : Sat h w) (pv0 : F h v0 a) (hp0 : bf a ≤ 134217000) :
    Calls Tryd.prog 23 #[v0] w (Ret h w fun h' r => r = .int .i64 (sgQ a.rat)) := by
 obtain ⟨b1, c1, b2, c2, rfl, k1, k2, u1, u2⟩ := F.shape pv0
 have hbq1 := F.bq pv0
 have hbn := bf_n a
 have hbd := bf_d a
 have hbp := bf_pos a
 have hz := len_zero (n := val a.n)
 refine calls_ear (vs := [.agg #[.bool a.neg, .slice b1 a.n.length c1, .slice b2 a.d.length c2]]) Tryd.func23 rfl rfl ?_
 have g1 := Gr.refl hs
 refine sr (oC (OpW.boxK (v := .agg #[.bool a.neg, .slice b1 a.n.length c1, .slice b2 a.d.length c2]) (arr := #[.bool a.neg, .slice b1 a.n.length c1, .slice b2 a.d.length c2]) g1.sat rfl rfl ?_))
 intro b3 h1 w1 gr1 qb1
 refine ma (oN (wS (sr (oC (fA (o := 1) Tryd.underlying24 rfl Tryd.sizeOf22 (by decide) rfl rfl ?_)))))
 have g2 := g1.trans gr1
 refine oC (lO (v := .slice b1 a.n.length c1) Tryd.isAgg22 rfl (g2.sat _ _ qb1) rfl ?_)
 refine oC (cF Tryd.call76 (rtrim_c (l := a.n) g2.sat (U.mono u1 gr1.le) (by first | omega | (simp only [List.length_set, List.length_replicate]; omega))) rfl ?_)
 intro r1 h2 w2 gr2 hr1
 obtain ⟨b4, c3, rfl, k3⟩ := N.shape hr1
 refine oC (OpW.lenS Tryd.underlying22 (l := (digs (val a.n)).length) rfl ?_)
 refine oC (OpW.eqlI (a := (((digs (val a.n)).length : Nat) : Int)) (b := ((0 : Nat) : Int)) (r := decide ((digs (val a.n)).length = 0)) rfl rfl (eq_nat (a := (digs (val a.n)).length) (b := 0)) (oN (Wp.cond (t := decide ((digs (val a.n)).length = 0)) rfl (fun c4 => ?_) (fun c4 => ?_))))
 replace c4 : (digs (val a.n)).length = 0 := (of_decide_eq_true c4)
 refine sr (ma (oN (Wp.ret (fin1_ret rfl (resOf_tmp (v := .int .i64 ((0 : Nat) : Int)) rfl) ?_))))
 have g3 := g2.trans gr2
 refine ⟨h2, g3, ?_⟩
 exact (intv (by rw [sign_s, if_pos (by omega)]; rfl))
 replace c4 : ¬ ((digs (val a.n)).length = 0) := (of_decide_eq_false c4)
 refine Wp.skip (wS (sr (oC (fA (o := 0) Tryd.underlying24 rfl Tryd.sizeOf4 (by decide) rfl rfl ?_))))
 have g4 := g2.trans gr2
 refine oC (lO (v := .bool a.neg) Tryd.isAgg4 rfl (g4.sat _ _ (gr2.le _ _ qb1)) rfl (oN (Wp.cond (t := a.neg) rfl (fun c5 => ?_) (fun c5 => ?_))))
 replace c5 : a.neg = true := c5
 refine sr (ma (oN (Wp.ret (fin1_ret rfl (resOf_tmp (v := .int .i64 (-1)) rfl) ?_))))
 refine ⟨h2, g4, ?_⟩
 exact (intv (by rw [sign_s, if_neg (by omega), if_pos (by assumption)]))
 replace c5 : ¬ (a.neg = true) := (raw_f c5)
 refine Wp.skip (sr (ma (oN (Wp.ret (fin1_ret rfl (resOf_tmp (v := .int .i64 ((1 : Nat) : Int)) rfl) ?_)))))
 refine ⟨h2, g4, ?_⟩
 exact (intv (by rw [sign_s, if_neg (by omega), if_neg (by assumption)]; rfl))
theorem rCmp_c {h : PH} {w : World} {v0 : Value} {a : Fr} {v1 : Value} {b : Fr} (hs : Sat h w) (pv0 : F h v0 a) (pv1 : F h v1 b) (hp0 : bf a + bf b ≤ 134216000) :
    Calls Tryd.prog 29 #[v0, v1] w (Ret h w fun h' r => r = .int .i64 (sgQ (a.rat - b.rat))) := by
 obtain ⟨b1, c1, b2, c2, rfl, k1, k2, u1, u2⟩ := F.shape pv0
 have hbq1 := F.bq pv0
 obtain ⟨b3, c3, b4, c4, rfl, k3, k4, u3, u4⟩ := F.shape pv1
 have hbq2 := F.bq pv1
 have hbn := bf_n a
 have hbd := bf_d a
 have hbp := bf_pos a
 have hbn2 := bf_n b
 have hbd2 := bf_d b
 have hbp2 := bf_pos b
 refine calls_ear (vs := [.agg #[.bool a.neg, .slice b1 a.n.length c1, .slice b2 a.d.length c2], .agg #[.bool b.neg, .slice b3 b.n.length c3, .slice b4 b.d.length c4]]) Tryd.func29 rfl rfl ?_
 have g1 := Gr.refl hs
 refine sr (oC (OpW.boxK (v := .agg #[.bool a.neg, .slice b1 a.n.length c1, .slice b2 a.d.length c2]) (arr := #[.bool a.neg, .slice b1 a.n.length c1, .slice b2 a.d.length c2]) g1.sat rfl rfl ?_))
 intro b5 h1 w1 gr1 qb1
 have g2 := g1.trans gr1
 refine oC (OpW.boxK (v := .agg #[.bool b.neg, .slice b3 b.n.length c3, .slice b4 b.d.length c4]) (arr := #[.bool b.neg, .slice b3 b.n.length c3, .slice b4 b.d.length c4]) g2.sat rfl rfl ?_)
 intro b6 h2 w2 gr2 qb2
 refine ma (oN (sr ?_))
 have g3 := g2.trans gr2
 refine oC (lA (cs := [.bool a.neg, .slice b1 a.n.length c1, .slice b2 a.d.length c2]) Tryd.isAgg24 Tryd.sizeOf24 rfl (g3.sat _ _ (gr2.le _ _ qb1)) rfl rfl ?_)
 refine oC (lA (cs := [.bool b.neg, .slice b3 b.n.length c3, .slice b4 b.d.length c4]) Tryd.isAgg24 Tryd.sizeOf24 rfl (g3.sat _ _ qb2) rfl rfl ?_)
 refine oC (cF Tryd.call27 (rSub_c (a := a) (b := b) g3.sat (F.mk (U.mono u1 (gr1.le.trans gr2.le)) (U.mono u2 (gr1.le.trans gr2.le))) (F.mk (U.mono u3 (gr1.le.trans gr2.le)) (U.mono u4 (gr1.le.trans gr2.le))) (by omega)) rfl ?_)
 intro r1 h3 w3 gr3 hr1
 have hf1 := bq_sub a.rat b.rat
 obtain ⟨b7, c5, b8, c6, rfl, k5, k6, u5, u6⟩ := F.shape hr1
 have g4 := g3.trans gr3
 refine oC (cF Tryd.call23 (rSign_c (a := frK (a.rat - b.rat)) g4.sat hr1 (by first | omega | (simp only [bf_frK, frK_rat, wts_cons, wts_nil]; omega))) rfl ?_)
 intro r2 h4 w4 gr4 hr2
 simp only [frK_rat, bf_frK, val_digs] at hr2
 subst hr2
 refine ma (oN (Wp.ret (fin1_ret rfl (resOf_tmp (v := .int .i64 (sgQ (a.rat - b.rat))) rfl) ?_)))
 have g5 := g4.trans gr4
 refine ⟨h4, g5, ?_⟩
 exact rfl
end Go.Ear
