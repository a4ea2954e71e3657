/- About package frac: K10. -/
import Derived.Test.YtmidncjhlnfojaaDoorNatLaw2
import Derived.Test.YtmidncjhlnfojaaDoorEarShort
import Derived.Test.YtmidncjhlnfojaaDoorProg
import Derived.Test.YtmidncjhlnfojaaDoorNatLaw3
import Derived.Test.YtmidncjhlnfojaaDoorEarFrac
import Derived.Test.YtmidncjhlnfojaaDoorEarDec
import Derived.Test.YtmidncjhlnfojaaDoorItoaLay
import Derived.Lib.ItoaMem
import Derived.Test.YtmidncjhlnfojaaDoorEarApi
import Derived.Test.YtmidncjhlnfojaaDoorEarRef2
import Derived.Test.YtmidncjhlnfojaaDoorK1
set_option linter.all false
namespace Go.Ear
open Go.Proofs
set_option maxRecDepth 20000
set_option linter.unusedVariables false
set_option maxHeartbeats 2000000
theorem rtrim_c {h : PH} {w : World} {v0 : Value} {l : List Nat} (hs : Sat h w) (pv0 : U h v0 l) (hp0 : l.length ≤ 1099511627776) :
    Calls Tryd.prog 76 #[v0] w (Ret h w fun h' r => N h' r (val l)) := by
 obtain ⟨b1, c1, rfl, k1⟩ := U.shape pv0
 refine calls_ear (vs := [.slice b1 l.length c1]) Tryd.func76 rfl rfl ?_
 have g1 := Gr.refl hs
 refine sr (ma (oN (sr (mv (oC (OpW.lenS Tryd.underlying22 (l := l.length) rfl (ma (oN (wS (Wp.block (Wp.loop (σ := Nat) (fun (k : Nat) (ρ : Env) (w' : World) => ∃ ρb h', ρ = upds ρb [(0, .slice b1 l.length c1), (3, .int .i64 ((k : Nat) : Int))] ∧ Gr h w h' w' ∧ PH.le h h' ∧ (k ≤ l.length) ∧ (trim (l.take k) = trim l)) (fun (k : Nat) => k) l.length ?_ ?_)))))))))))
 exact ⟨_, h, nm rfl, g1, PH.le.refl _, (by omega), (by rw [List.take_length])⟩
 rintro k ρ1 w1 ⟨ρ2, h1, rfl, g2, l1, hk, ht⟩
 refine wS (sr (Ops.cut (fun ρ' w' => w1 = w' ∧ ∃ ρb, ρ' = upds ρb [(0, .slice b1 l.length c1), (3, .int .i64 ((k : Nat) : Int)), (15, .bool ((decide (0 < k)) && (decide (l.getD (k - 1) 0 = 0))))]) ?_ ?_))
 refine mv (oC (OpW.gtr (a := ((k : Nat) : Int)) (b := ((0 : Nat) : Int)) (r := decide (0 < k)) rfl rfl (lt_nat (a := 0) (b := k)) (mv ?_)))
 cases c2 : (decide (0 < k))
 replace c2 : ¬ (0 < k) := (of_decide_eq_false c2)
 refine oD rfl rfl rfl rfl (oD rfl rfl rfl rfl (oD rfl rfl rfl rfl (oD rfl rfl rfl rfl (oD rfl rfl rfl rfl (oD rfl rfl rfl rfl (oC (pF (v := .bool false) rfl rfl (oN ?_))))))))
 exact ⟨rfl, _, nm rfl⟩
 replace c2 : 0 < k := (of_decide_eq_true c2)
 refine oL rfl rfl rfl (OpW.move (v := .slice b1 l.length c1) rfl ?_)
 refine oL rfl rfl rfl (OpW.move (v := .int .i64 ((k : Nat) : Int)) rfl ?_)
 refine oL rfl rfl rfl (OpW.sub (a := ((k : Nat) : Int)) (b := ((1 : Nat) : Int)) (r := ((k - 1 : Nat) : Int)) rfl rfl (sub_i64 (a := k) (b := 1) (by omega) (by omega)) ?_)
 refine oL rfl rfl rfl (OpW.indexU (i := ((k - 1 : Nat) : Int)) (j := k - 1) Tryd.underlying22 Tryd.sizeOf51 rfl (U.mono pv0 l1) rfl (by omega) (by omega) ?_)
 intro b2 o1 a1 e1 z1 qb1 qv1
 have bd1 := Fit.getD (U.mono pv0 l1).1 (k - 1)
 refine oL rfl rfl rfl (lO (v := .int .u32 ((l.getD (k - 1) 0 : Nat) : Int)) Tryd.isAgg51 rfl (g2.sat _ _ qb1) qv1 ?_)
 refine oL rfl rfl rfl (OpW.eqlI (a := ((l.getD (k - 1) 0 : Nat) : Int)) (b := ((0 : Nat) : Int)) (r := decide (l.getD (k - 1) 0 = 0)) rfl rfl (eq_nat (a := l.getD (k - 1) 0) (b := 0)) ?_)
 refine oC (pT (v := .bool (decide (l.getD (k - 1) 0 = 0))) rfl rfl (oN ?_))
 exact ⟨rfl, _, nm rfl⟩
 rintro ρ3 w2 ⟨rfl, ρ4, rfl⟩
 refine Wp.cond (t := (decide (0 < k)) && (decide (l.getD (k - 1) 0 = 0))) rfl (fun c3 => ?_) (fun c3 => ?_)
 replace c3 : (0 < k) ∧ (l.getD (k - 1) 0 = 0) := ⟨(of_decide_eq_true (and_l c3)), (of_decide_eq_true (and_r c3))⟩
 refine Wp.skip (Wp.block (wR (mv (oC (OpW.sub (a := ((k : Nat) : Int)) (b := ((1 : Nat) : Int)) (r := ((k - 1 : Nat) : Int)) rfl rfl (sub_i64 (a := k) (b := 1) (by omega) (by omega)) (ma (oN ?_)))))))
 exact ⟨(k - 1), ⟨_, h1, nm rfl, g2, l1, (by omega), (by rw [← ht, ← trim_take_zero (l := l) (k := k - 1) (by omega) (by omega), show k - 1 + 1 = k by omega])⟩, (by omega)⟩
 replace c3 : ¬ ((0 < k) ∧ (l.getD (k - 1) 0 = 0)) := (fun pq => (and_f c3).elim (fun h => (of_decide_eq_false h) pq.1) (fun h => (of_decide_eq_false h) pq.2))
 refine Wp.exit (sr (mv (mv ?_)))
 have f1 := U.take (U.mono pv0 l1) k (by omega)
 refine oC (OpW.sliceTo (m := k) Tryd.underlying22 Tryd.sizeOf51 rfl rfl (by omega) (ma (oN (Wp.ret (fin1_ret rfl (resOf_tmp (v := .slice b1 k c1) rfl) ?_)))))
 refine ⟨h1, g2, ?_⟩
 exact trimmed_close pv0.1 hk ht c3 f1
theorem rorder_c {h : PH} {w : World} {v0 : Value} {a : Nat} {v1 : Value} {b : Nat} (hs : Sat h w) (pv0 : N h v0 a) (pv1 : N h v1 b) (hp0 : sz a ≤ 1073741824) (hp1 : sz b ≤ 1073741824) :
    Calls Tryd.prog 100 #[v0, v1] w (Ret h w fun h' r => r = .int .i64 (cmpN a b)) := by
 obtain ⟨b1, c1, rfl, k1⟩ := N.shape pv0
 obtain ⟨b2, c2, rfl, k2⟩ := N.shape pv1
 unfold sz at hp0 hp1
 refine calls_ear (vs := [.slice b1 ((digs a).length) c1, .slice b2 ((digs b).length) c2]) Tryd.func100 rfl rfl ?_
 have g1 := Gr.refl hs
 refine sr (ma (oN (sr (mv (oC (cF Tryd.call76 (rtrim_c (l := digs a) g1.sat pv0 (by first | omega | (simp only [List.length_set, List.length_replicate]; omega))) rfl ?_))))))
 intro r1 h1 w1 gr1 hr1
 simp only [frK_rat, bf_frK, val_digs] at hr1
 obtain ⟨b3, c3, rfl, k3⟩ := N.shape hr1
 refine mv ?_
 have g2 := g1.trans gr1
 refine oC (cF Tryd.call76 (rtrim_c (l := digs b) g2.sat (U.mono pv1 gr1.le) (by first | omega | (simp only [List.length_set, List.length_replicate]; omega))) rfl ?_)
 intro r2 h2 w2 gr2 hr2
 simp only [frK_rat, bf_frK, val_digs] at hr2
 obtain ⟨b4, c4, rfl, k4⟩ := N.shape hr2
 refine ma (ma (oN (wS (sr (mv (oC (OpW.lenS Tryd.underlying22 (l := (digs a).length) rfl (mv (oC (OpW.lenS Tryd.underlying22 (l := (digs b).length) rfl ?_))))))))))
 refine oC (OpW.neqI (a := (((digs a).length : Nat) : Int)) (b := (((digs b).length : Nat) : Int)) (r := decide ((digs a).length ≠ (digs b).length)) rfl rfl (ne_nat (a := (digs a).length) (b := (digs b).length)) (oN (Wp.cond (t := decide ((digs a).length ≠ (digs b).length)) rfl (fun c5 => ?_) (fun c5 => ?_))))
 replace c5 : (digs a).length ≠ (digs b).length := (of_decide_eq_true c5)
 refine wS (wS (fg [(0, .slice b3 ((digs a).length) c3), (1, .slice b4 ((digs b).length) c4)] rfl (fun ρ1 => (wR (mv (oC (OpW.lenS Tryd.underlying22 (l := (digs a).length) rfl (mv (oC (OpW.lenS Tryd.underlying22 (l := (digs b).length) rfl ?_))))))))))
 refine oC (OpW.lss (a := (((digs a).length : Nat) : Int)) (b := (((digs b).length : Nat) : Int)) (r := decide ((digs a).length < (digs b).length)) rfl rfl (lt_nat (a := (digs a).length) (b := (digs b).length)) (oN (Wp.cond (t := decide ((digs a).length < (digs b).length)) rfl (fun c6 => ?_) (fun c6 => ?_))))
 replace c6 : (digs a).length < (digs b).length := (of_decide_eq_true c6)
 refine sr (ma (oN (Wp.ret (fin1_ret rfl (resOf_tmp (v := .int .i64 (-1)) rfl) ?_))))
 have g3 := g2.trans gr2
 refine ⟨h2, g3, ?_⟩
 exact (intv (cmpN_lt (sz_lt (by unfold sz; omega))).symm)
 replace c6 : ¬ ((digs a).length < (digs b).length) := (of_decide_eq_false c6)
 refine Wp.skip (sr (ma (oN (Wp.ret (fin1_ret rfl (resOf_tmp (v := .int .i64 ((1 : Nat) : Int)) rfl) ?_)))))
 have g4 := g2.trans gr2
 refine ⟨h2, g4, ?_⟩
 exact (intv (cmpN_gt (sz_lt (by unfold sz; omega))).symm)
 replace c5 : ¬ ((digs a).length ≠ (digs b).length) := (of_decide_eq_false c5)
 have hlen : (digs a).length = (digs b).length := by omega
 refine Wp.skip (wS (wS (fg [(0, .slice b3 ((digs a).length) c3), (1, .slice b4 ((digs b).length) c4)] rfl (fun ρ2 => (wR (mv (oC (OpW.lenS Tryd.underlying22 (l := (digs a).length) rfl ?_))))))))
 refine oC (OpW.sub (a := (((digs a).length : Nat) : Int)) (b := ((1 : Nat) : Int)) (r := ((((digs a).length : Nat) : Int) - ((1 : Nat) : Int))) rfl rfl (in_i64 (by omega)) (ma (oN (Wp.block ?_))))
 have g5 := g2.trans gr2
 refine Wp.loop (σ := Nat) (fun (k : Nat) (ρ : Env) (w' : World) => ∃ ρb h', ρ = upds ρb [(0, .slice b3 ((digs a).length) c3), (1, .slice b4 ((digs b).length) c4), (5, .int .i64 (((k : Nat) : Int) - 1))] ∧ Gr h w h' w' ∧ PH.le h2 h' ∧ (k ≤ (digs a).length) ∧ ((digs a).drop k = (digs b).drop k)) (fun (k : Nat) => k) ((digs a).length) ?_ ?_
 exact ⟨_, h2, nm rfl, g5, PH.le.refl _, (by omega), (by rw [List.drop_length, hlen, List.drop_length])⟩
 rintro k ρ3 w3 ⟨ρ4, h3, rfl, g6, l1, hk, hd⟩
 refine wS (sr (mv (oC (OpW.geq (a := (((k : Nat) : Int) - 1)) (b := ((0 : Nat) : Int)) (r := decide (((0 : Nat) : Int) ≤ (((k : Nat) : Int) - 1))) rfl rfl rfl (oN (Wp.cond (t := decide (((0 : Nat) : Int) ≤ (((k : Nat) : Int) - 1))) rfl (fun c7 => ?_) (fun c7 => ?_)))))))
 replace c7 : ((0 : Nat) : Int) ≤ (((k : Nat) : Int) - 1) := (of_decide_eq_true c7)
 refine Wp.skip (wS (Wp.block (wS ?_)))
 obtain ⟨b5, o1, a1, e5, z1, qs1, qb1, qv1⟩ := U.at (U.mono hr1 (gr2.le.trans l1)) (i := k - 1) (by omega)
 have bd1 := Fit.getD (U.mono hr1 (gr2.le.trans l1)).1 (k - 1)
 obtain ⟨b6, o2, a2, e11, z2, qs2, qb2, qv2⟩ := U.at (U.mono hr2 l1) (i := k - 1) (by omega)
 have bd2 := Fit.getD (U.mono hr2 l1).1 (k - 1)
 refine Wp.dagL 9 [27, 28, 29, 30, 31, 32, 33, 34, 35] [eqv (.slice b3 ((digs a).length) c3), eqv (.int .i64 (((k : Nat) : Int) - 1)), eqv (.pointer (some ⟨b5, o1 + (k - 1), none⟩)), eqv (.int .u32 (((digs a).getD (k - 1) 0 : Nat) : Int)), eqv (.slice b4 ((digs b).length) c4), eqv (.int .i64 (((k : Nat) : Int) - 1)), eqv (.pointer (some ⟨b6, o2 + (k - 1), none⟩)), eqv (.int .u32 (((digs b).getD (k - 1) 0 : Nat) : Int)), eqv (.bool (decide ((digs a).getD (k - 1) 0 ≠ (digs b).getD (k - 1) 0)))] mixed g6.sat rfl (by decide +kernel) ⟨sQ _, sQ _, sQ _, sQ _, sQ _, sQ _, sQ _, sQ _, sQ _, trivial⟩ ?_ ?_
 intro stab
 refine ⟨?_, ?_, ?_, ?_, ?_, ?_, ?_, ?_, ?_, trivial⟩
 intro ρ5 h4 w4 g7 hdd1 hdo1
 have e1 : ρ5 0 = .slice b3 ((digs a).length) c3 := hdo1 0 rfl
 refine gP (OpW.move (v := .slice b3 ((digs a).length) c3) e1 ?_)
 exact ⟨_, h4, rfl, g7, fun j x _ p => p, rfl⟩
 intro ρ6 h5 w5 g8 hdd2 hdo2
 have e2 : ρ6 5 = .int .i64 (((k : Nat) : Int) - 1) := hdo2 5 rfl
 refine gP (OpW.move (v := .int .i64 (((k : Nat) : Int) - 1)) e2 ?_)
 exact ⟨_, h5, rfl, g8, fun j x _ p => p, rfl⟩
 intro ρ7 h6 w6 g9 hdd3 hdo3
 have e3 : ρ7 27 = .slice b3 ((digs a).length) c3 := hdd3 0 (by decide)
 have e4 : ρ7 28 = .int .i64 (((k : Nat) : Int) - 1) := hdd3 1 (by decide)
 refine gP (iA (b := b5) (off := o1) (l := (digs a).length) (c := c3) (i := (((k : Nat) : Int) - 1)) (o := o1 + (k - 1)) Tryd.underlying22 Tryd.sizeOf51 (e3.trans (congrArg (fun x => Value.slice x ((digs a).length) c3) qs1)) e4 (by omega) (by omega) ?_)
 exact ⟨_, h6, rfl, g9, fun j x _ p => p, rfl⟩
 intro ρ8 h7 w7 g10 hdd4 hdo4
 have e6 : ρ8 29 = .pointer (some ⟨b5, o1 + (k - 1), none⟩) := hdd4 2 (by decide)
 have g11 := g6.trans g10
 refine gP (lO (v := .int .u32 (((digs a).getD (k - 1) 0 : Nat) : Int)) Tryd.isAgg51 e6 (g11.sat _ _ (g10.le _ _ qb1)) qv1 ?_)
 exact ⟨_, h7, rfl, g10, fun j x _ p => p, rfl⟩
 intro ρ9 h8 w8 g12 hdd5 hdo5
 have e7 : ρ9 1 = .slice b4 ((digs b).length) c4 := hdo5 1 rfl
 refine gP (OpW.move (v := .slice b4 ((digs b).length) c4) e7 ?_)
 exact ⟨_, h8, rfl, g12, fun j x _ p => p, rfl⟩
 intro ρ10 h9 w9 g13 hdd6 hdo6
 have e8 : ρ10 5 = .int .i64 (((k : Nat) : Int) - 1) := hdo6 5 rfl
 refine gP (OpW.move (v := .int .i64 (((k : Nat) : Int) - 1)) e8 ?_)
 exact ⟨_, h9, rfl, g13, fun j x _ p => p, rfl⟩
 intro ρ11 h10 w10 g14 hdd7 hdo7
 have e9 : ρ11 31 = .slice b4 ((digs b).length) c4 := hdd7 4 (by decide)
 have e10 : ρ11 32 = .int .i64 (((k : Nat) : Int) - 1) := hdd7 5 (by decide)
 refine gP (iA (b := b6) (off := o2) (l := (digs b).length) (c := c4) (i := (((k : Nat) : Int) - 1)) (o := o2 + (k - 1)) Tryd.underlying22 Tryd.sizeOf51 (e9.trans (congrArg (fun x => Value.slice x ((digs b).length) c4) qs2)) e10 (by omega) (by omega) ?_)
 exact ⟨_, h10, rfl, g14, fun j x _ p => p, rfl⟩
 intro ρ12 h11 w11 g15 hdd8 hdo8
 have e12 : ρ12 33 = .pointer (some ⟨b6, o2 + (k - 1), none⟩) := hdd8 6 (by decide)
 have g16 := g6.trans g15
 refine gP (lO (v := .int .u32 (((digs b).getD (k - 1) 0 : Nat) : Int)) Tryd.isAgg51 e12 (g16.sat _ _ (g15.le _ _ qb2)) qv2 ?_)
 exact ⟨_, h11, rfl, g15, fun j x _ p => p, rfl⟩
 intro ρ13 h12 w12 g17 hdd9 hdo9
 have e13 : ρ13 30 = .int .u32 (((digs a).getD (k - 1) 0 : Nat) : Int) := hdd9 3 (by decide)
 have e14 : ρ13 34 = .int .u32 (((digs b).getD (k - 1) 0 : Nat) : Int) := hdd9 7 (by decide)
 refine gP (OpW.neqI (a := (((digs a).getD (k - 1) 0 : Nat) : Int)) (b := (((digs b).getD (k - 1) 0 : Nat) : Int)) (r := decide ((digs a).getD (k - 1) 0 ≠ (digs b).getD (k - 1) 0)) e13 e14 (ne_nat (a := (digs a).getD (k - 1) 0) (b := (digs b).getD (k - 1) 0)) ?_)
 exact ⟨_, h12, rfl, g17, fun j x _ p => p, rfl⟩
 intro ρ14 h13 w13 g18 hdp1 hdo10
 have e15 : ρ14 0 = .slice b3 ((digs a).length) c3 := hdo10 0 rfl
 have e16 : ρ14 1 = .slice b4 ((digs b).length) c4 := hdo10 1 rfl
 have e17 : ρ14 5 = .int .i64 (((k : Nat) : Int) - 1) := hdo10 5 rfl
 have e18 : ρ14 35 = .bool (decide ((digs a).getD (k - 1) 0 ≠ (digs b).getD (k - 1) 0)) := hdp1 8 rfl
 refine Ops.forget [(0, .slice b3 ((digs a).length) c3), (1, .slice b4 ((digs b).length) c4), (5, .int .i64 (((k : Nat) : Int) - 1)), (35, .bool (decide ((digs a).getD (k - 1) 0 ≠ (digs b).getD (k - 1) 0)))] ⟨e15, e16, e17, e18, trivial⟩ (fun ρ15 => (oN (Wp.cond (t := decide ((digs a).getD (k - 1) 0 ≠ (digs b).getD (k - 1) 0)) rfl (fun c8 => ?_) (fun c8 => ?_))))
 replace c8 : (digs a).getD (k - 1) 0 ≠ (digs b).getD (k - 1) 0 := (of_decide_eq_true c8)
 refine wS (wS ?_)
 have g19 := g6.trans g18
 obtain ⟨b7, o3, a3, e23, z3, qs3, qb3, qv3⟩ := U.at (U.mono hr1 ((gr2.le.trans l1).trans g18.le)) (i := k - 1) (by omega)
 have bd3 := Fit.getD (U.mono hr1 ((gr2.le.trans l1).trans g18.le)).1 (k - 1)
 obtain ⟨b8, o4, a4, e29, z4, qs4, qb4, qv4⟩ := U.at (U.mono hr2 (l1.trans g18.le)) (i := k - 1) (by omega)
 have bd4 := Fit.getD (U.mono hr2 (l1.trans g18.le)).1 (k - 1)
 refine Wp.dagL 9 [36, 37, 38, 39, 40, 41, 42, 43, 44] [eqv (.slice b3 ((digs a).length) c3), eqv (.int .i64 (((k : Nat) : Int) - 1)), eqv (.pointer (some ⟨b7, o3 + (k - 1), none⟩)), eqv (.int .u32 (((digs a).getD (k - 1) 0 : Nat) : Int)), eqv (.slice b4 ((digs b).length) c4), eqv (.int .i64 (((k : Nat) : Int) - 1)), eqv (.pointer (some ⟨b8, o4 + (k - 1), none⟩)), eqv (.int .u32 (((digs b).getD (k - 1) 0 : Nat) : Int)), eqv (.bool (decide ((digs a).getD (k - 1) 0 < (digs b).getD (k - 1) 0)))] mixed g19.sat rfl (by decide +kernel) ⟨sQ _, sQ _, sQ _, sQ _, sQ _, sQ _, sQ _, sQ _, sQ _, trivial⟩ ?_ ?_
 intro stab
 refine ⟨?_, ?_, ?_, ?_, ?_, ?_, ?_, ?_, ?_, trivial⟩
 intro ρ16 h14 w14 g20 hdd10 hdo11
 have e19 : ρ16 0 = .slice b3 ((digs a).length) c3 := hdo11 0 rfl
 refine gP (OpW.move (v := .slice b3 ((digs a).length) c3) e19 ?_)
 exact ⟨_, h14, rfl, g20, fun j x _ p => p, rfl⟩
 intro ρ17 h15 w15 g21 hdd11 hdo12
 have e20 : ρ17 5 = .int .i64 (((k : Nat) : Int) - 1) := hdo12 5 rfl
 refine gP (OpW.move (v := .int .i64 (((k : Nat) : Int) - 1)) e20 ?_)
 exact ⟨_, h15, rfl, g21, fun j x _ p => p, rfl⟩
 intro ρ18 h16 w16 g22 hdd12 hdo13
 have e21 : ρ18 36 = .slice b3 ((digs a).length) c3 := hdd12 0 (by decide)
 have e22 : ρ18 37 = .int .i64 (((k : Nat) : Int) - 1) := hdd12 1 (by decide)
 refine gP (iA (b := b7) (off := o3) (l := (digs a).length) (c := c3) (i := (((k : Nat) : Int) - 1)) (o := o3 + (k - 1)) Tryd.underlying22 Tryd.sizeOf51 (e21.trans (congrArg (fun x => Value.slice x ((digs a).length) c3) qs3)) e22 (by omega) (by omega) ?_)
 exact ⟨_, h16, rfl, g22, fun j x _ p => p, rfl⟩
 intro ρ19 h17 w17 g23 hdd13 hdo14
 have e24 : ρ19 38 = .pointer (some ⟨b7, o3 + (k - 1), none⟩) := hdd13 2 (by decide)
 have g24 := g19.trans g23
 refine gP (lO (v := .int .u32 (((digs a).getD (k - 1) 0 : Nat) : Int)) Tryd.isAgg51 e24 (g24.sat _ _ (g23.le _ _ qb3)) qv3 ?_)
 exact ⟨_, h17, rfl, g23, fun j x _ p => p, rfl⟩
 intro ρ20 h18 w18 g25 hdd14 hdo15
 have e25 : ρ20 1 = .slice b4 ((digs b).length) c4 := hdo15 1 rfl
 refine gP (OpW.move (v := .slice b4 ((digs b).length) c4) e25 ?_)
 exact ⟨_, h18, rfl, g25, fun j x _ p => p, rfl⟩
 intro ρ21 h19 w19 g26 hdd15 hdo16
 have e26 : ρ21 5 = .int .i64 (((k : Nat) : Int) - 1) := hdo16 5 rfl
 refine gP (OpW.move (v := .int .i64 (((k : Nat) : Int) - 1)) e26 ?_)
 exact ⟨_, h19, rfl, g26, fun j x _ p => p, rfl⟩
 intro ρ22 h20 w20 g27 hdd16 hdo17
 have e27 : ρ22 40 = .slice b4 ((digs b).length) c4 := hdd16 4 (by decide)
 have e28 : ρ22 41 = .int .i64 (((k : Nat) : Int) - 1) := hdd16 5 (by decide)
 refine gP (iA (b := b8) (off := o4) (l := (digs b).length) (c := c4) (i := (((k : Nat) : Int) - 1)) (o := o4 + (k - 1)) Tryd.underlying22 Tryd.sizeOf51 (e27.trans (congrArg (fun x => Value.slice x ((digs b).length) c4) qs4)) e28 (by omega) (by omega) ?_)
 exact ⟨_, h20, rfl, g27, fun j x _ p => p, rfl⟩
 intro ρ23 h21 w21 g28 hdd17 hdo18
 have e30 : ρ23 42 = .pointer (some ⟨b8, o4 + (k - 1), none⟩) := hdd17 6 (by decide)
 have g29 := g19.trans g28
 refine gP (lO (v := .int .u32 (((digs b).getD (k - 1) 0 : Nat) : Int)) Tryd.isAgg51 e30 (g29.sat _ _ (g28.le _ _ qb4)) qv4 ?_)
 exact ⟨_, h21, rfl, g28, fun j x _ p => p, rfl⟩
 intro ρ24 h22 w22 g30 hdd18 hdo19
 have e31 : ρ24 39 = .int .u32 (((digs a).getD (k - 1) 0 : Nat) : Int) := hdd18 3 (by decide)
 have e32 : ρ24 43 = .int .u32 (((digs b).getD (k - 1) 0 : Nat) : Int) := hdd18 7 (by decide)
 refine gP (OpW.lss (a := (((digs a).getD (k - 1) 0 : Nat) : Int)) (b := (((digs b).getD (k - 1) 0 : Nat) : Int)) (r := decide ((digs a).getD (k - 1) 0 < (digs b).getD (k - 1) 0)) e31 e32 (lt_nat (a := (digs a).getD (k - 1) 0) (b := (digs b).getD (k - 1) 0)) ?_)
 exact ⟨_, h22, rfl, g30, fun j x _ p => p, rfl⟩
 intro ρ25 h23 w23 g31 hdp2 hdo20
 have e33 : ρ25 44 = .bool (decide ((digs a).getD (k - 1) 0 < (digs b).getD (k - 1) 0)) := hdp2 8 rfl
 refine Ops.forget [(44, .bool (decide ((digs a).getD (k - 1) 0 < (digs b).getD (k - 1) 0)))] ⟨e33, trivial⟩ (fun ρ26 => (oN (Wp.cond (t := decide ((digs a).getD (k - 1) 0 < (digs b).getD (k - 1) 0)) rfl (fun c9 => ?_) (fun c9 => ?_))))
 replace c9 : (digs a).getD (k - 1) 0 < (digs b).getD (k - 1) 0 := (of_decide_eq_true c9)
 refine sr (ma (oN (Wp.ret (fin1_ret rfl (resOf_tmp (v := .int .i64 (-1)) rfl) ?_))))
 have g32 := g19.trans g31
 refine ⟨h23, g32, ?_⟩
 exact (intv (cmpN_lt (cmp_at hlen (by omega) (by omega) hd (by omega))).symm)
 replace c9 : ¬ ((digs a).getD (k - 1) 0 < (digs b).getD (k - 1) 0) := (of_decide_eq_false c9)
 refine Wp.skip (sr (ma (oN (Wp.ret (fin1_ret rfl (resOf_tmp (v := .int .i64 ((1 : Nat) : Int)) rfl) ?_)))))
 have g33 := g19.trans g31
 refine ⟨h23, g33, ?_⟩
 exact (intv (cmpN_gt (cmp_at hlen.symm (by omega) (by omega) hd.symm (by omega))).symm)
 replace c8 : ¬ ((digs a).getD (k - 1) 0 ≠ (digs b).getD (k - 1) 0) := (of_decide_eq_false c8)
 refine Wp.skip (wR (mv (oC (OpW.sub (a := (((k : Nat) : Int) - 1)) (b := ((1 : Nat) : Int)) (r := ((((k : Nat) : Int) - 1) - ((1 : Nat) : Int))) rfl rfl (in_i64 (by omega)) (ma (oN ?_))))))
 have g34 := g6.trans g18
 exact ⟨(k - 1), ⟨_, h13, named ⟨rfl, rfl, (intv (by omega)), trivial⟩, g34, (l1.trans g18.le), (by omega), (drop_eq_succ (by omega) (by omega) (by rw [show k - 1 + 1 = k by omega]; exact hd) (by omega))⟩, (by omega)⟩
 replace c7 : ¬ (((0 : Nat) : Int) ≤ (((k : Nat) : Int) - 1)) := (of_decide_eq_false c7)
 refine Wp.exit (sr (ma (oN (Wp.ret (fin1_ret rfl (resOf_tmp (v := .int .i64 ((0 : Nat) : Int)) rfl) ?_)))))
 refine ⟨h3, g6, ?_⟩
 exact (intv (cmp_end hd (by omega)).symm)
theorem rplus_c {h : PH} {w : World} {v0 : Value} {a : Nat} {v1 : Value} {b : Nat} (hs : Sat h w) (pv0 : N h v0 a) (pv1 : N h v1 b) (hp0 : sz a ≤ 1073741824) (hp1 : sz b ≤ 1073741824) :
    Calls Tryd.prog 96 #[v0, v1] w (Ret h w fun h' r => N h' r (a + b)) := by
 obtain ⟨b1, c1, rfl, k1⟩ := N.shape pv0
 obtain ⟨b2, c2, rfl, k2⟩ := N.shape pv1
 unfold sz at hp0 hp1
 refine calls_ear (vs := [.slice b1 ((digs a).length) c1, .slice b2 ((digs b).length) c2]) Tryd.func96 rfl rfl ?_
 have g1 := Gr.refl hs
 refine sr (ma (oN (sr (ma (oN (sr (ma (oN (wS (sr (ma (oN (Wp.block (Wp.loop (σ := Nat × Nat × List Nat × Value) (fun s (ρ : Env) (w' : World) => match s with | (k, c, out, vOs5) => ∃ ρb h', ρ = upds ρb [(0, .slice b1 ((digs a).length) c1), (1, .slice b2 ((digs b).length) c2), (5, vOs5), (6, .int .u64 ((c : Nat) : Int)), (7, .int .i64 ((k : Nat) : Int))] ∧ Gr h w h' w' ∧ PH.le h h' ∧ (k ≤ max (digs a).length (digs b).length + 1) ∧ (out.length = k) ∧ (c ≤ 1) ∧ (val out + c * B32 ^ k = val ((digs a).take k) + val ((digs b).take k)) ∧ (k ≤ max (digs a).length (digs b).length ∨ c = 0) ∧ (OwnL rpU w.heap.size h' w' 51 vOs5 out)) (fun s => match s with | (k, c, out, vOs5) => 2 * (max (digs a).length (digs b).length + 1 - k) + c) (0, 0, [], .slice none 0 0) ?_ ?_))))))))))))))
 exact ⟨_, h, nm (by exact rfl), g1, PH.le.refl _, (by omega), rfl, (by omega), (by simp [val]), (by omega), (OwnL.nil rpU w.heap.size h w 51)⟩
 rintro ⟨k, c, out, vOs5⟩ ρ1 w1 ⟨ρ2, h1, rfl, g2, l1, hk, hl, hc, hv, hkc, hO5⟩
 have bda := (digs_fit a).getD k
 have bdb := (digs_fit b).getD k
 have ga := fun h => getD_ge (l := digs a) (k := k) h
 have gb := fun h => getD_ge (l := digs b) (k := k) h
 have h32 : (2:Nat)^32 = 4294967296 := rfl
 refine wS (sr (Ops.cut (fun ρ' w' => w1 = w' ∧ ∃ ρb, ρ' = upds ρb [(0, .slice b1 ((digs a).length) c1), (1, .slice b2 ((digs b).length) c2), (5, vOs5), (6, .int .u64 ((c : Nat) : Int)), (7, .int .i64 ((k : Nat) : Int)), (21, .bool ((decide (k < (digs a).length)) || ((decide (k < (digs b).length)) || (decide (0 < c)))))]) ?_ ?_))
 refine mv (mv (oC (OpW.lenS Tryd.underlying22 (l := (digs a).length) rfl ?_)))
 refine oC (OpW.lss (a := ((k : Nat) : Int)) (b := (((digs a).length : Nat) : Int)) (r := decide (k < (digs a).length)) rfl rfl (lt_nat (a := k) (b := (digs a).length)) (mv ?_))
 cases c3 : (decide (k < (digs a).length))
 replace c3 : ¬ (k < (digs a).length) := (of_decide_eq_false c3)
 refine oL rfl rfl rfl (OpW.move (v := .int .i64 ((k : Nat) : Int)) rfl ?_)
 refine oL rfl rfl rfl (OpW.move (v := .slice b2 ((digs b).length) c2) rfl ?_)
 refine oL rfl rfl rfl (OpW.lenS Tryd.underlying22 (l := (digs b).length) rfl ?_)
 refine oL rfl rfl rfl (OpW.lss (a := ((k : Nat) : Int)) (b := (((digs b).length : Nat) : Int)) (r := decide (k < (digs b).length)) rfl rfl (lt_nat (a := k) (b := (digs b).length)) ?_)
 refine oC (pF (v := .bool (decide (k < (digs b).length))) rfl rfl (mv ?_))
 cases c4 : (decide (k < (digs b).length))
 replace c4 : ¬ (k < (digs b).length) := (of_decide_eq_false c4)
 refine oL rfl rfl rfl (OpW.move (v := .int .u64 ((c : Nat) : Int)) rfl ?_)
 refine oL rfl rfl rfl (OpW.gtr (a := ((c : Nat) : Int)) (b := ((0 : Nat) : Int)) (r := decide (0 < c)) rfl rfl (lt_nat (a := 0) (b := c)) ?_)
 refine oC (pF (v := .bool (decide (0 < c))) rfl rfl (oN ?_))
 exact ⟨rfl, _, nm rfl⟩
 replace c4 : k < (digs b).length := (of_decide_eq_true c4)
 refine oD rfl rfl rfl rfl (oD rfl rfl rfl rfl (oC (pT (v := .bool true) rfl rfl (oN ?_))))
 exact ⟨rfl, _, nm rfl⟩
 replace c3 : k < (digs a).length := (of_decide_eq_true c3)
 refine oD rfl rfl rfl rfl (oD rfl rfl rfl rfl (oD rfl rfl rfl rfl (oD rfl rfl rfl rfl (oC (pT (v := .bool true) rfl rfl (mv (oD rfl rfl rfl rfl (oD rfl rfl rfl rfl (oC (pT (v := .bool true) rfl rfl (oN ?_)))))))))))
 exact ⟨rfl, _, nm rfl⟩
 rintro ρ3 w2 ⟨rfl, ρ4, rfl⟩
 refine Wp.cond (t := (decide (k < (digs a).length)) || ((decide (k < (digs b).length)) || (decide (0 < c)))) rfl (fun c5 => ?_) (fun c5 => ?_)
 replace c5 : (k < (digs a).length) ∨ ((k < (digs b).length) ∨ (0 < c)) := ((or_t c5).imp (fun h => (of_decide_eq_true h)) (fun h => ((or_t h).imp (fun h => (of_decide_eq_true h)) (fun h => (of_decide_eq_true h)))))
 refine Wp.skip (wS (Wp.block (wS (sr (mv (mv (oC (OpW.lenS Tryd.underlying22 (l := (digs a).length) rfl ?_))))))))
 refine oC (OpW.lss (a := ((k : Nat) : Int)) (b := (((digs a).length : Nat) : Int)) (r := decide (k < (digs a).length)) rfl rfl (lt_nat (a := k) (b := (digs a).length)) (oN (Wp.cut (fun ρ' w' => w1 = w' ∧ ∃ ρb, ρ' = upds ρb [(0, .slice b1 ((digs a).length) c1), (1, .slice b2 ((digs b).length) c2), (5, vOs5), (6, .int .u64 ((c + (digs a).getD k 0 : Nat) : Int)), (7, .int .i64 ((k : Nat) : Int))]) ?_ ?_)))
 refine Wp.cond (t := decide (k < (digs a).length)) rfl (fun c6 => ?_) (fun c6 => ?_)
 replace c6 : k < (digs a).length := (of_decide_eq_true c6)
 refine wR (mv (mv (mv (oC (OpW.indexU (i := ((k : Nat) : Int)) (j := k) Tryd.underlying22 Tryd.sizeOf51 rfl (U.mono pv0 l1) rfl (by omega) (by omega) ?_)))))
 intro b3 o1 a1 e1 z1 qb1 qv1
 have bd1 := Fit.getD (U.mono pv0 l1).1 k
 refine oC (lO (v := .int .u32 (((digs a).getD k 0 : Nat) : Int)) Tryd.isAgg51 rfl (g2.sat _ _ qb1) qv1 ?_)
 refine oC (OpW.convI (a := (((digs a).getD k 0 : Nat) : Int)) (r := (((digs a).getD k 0 : Nat) : Int)) Tryd.underlying51 Tryd.underlying77 rfl (conv_u64 (by omega)) ?_)
 refine oC (OpW.add (a := ((c : Nat) : Int)) (b := (((digs a).getD k 0 : Nat) : Int)) (r := ((c + ((digs a).getD k 0) : Nat) : Int)) rfl rfl (add_u64 (a := c) (b := (digs a).getD k 0) (by omega)) (ma (oN ?_)))
 exact ⟨rfl, _, named ⟨rfl, rfl, rfl, (natv (by omega)), rfl, trivial⟩⟩
 replace c6 : ¬ (k < (digs a).length) := (of_decide_eq_false c6)
 refine Wp.skip ?_
 exact ⟨rfl, _, named ⟨rfl, rfl, rfl, (natv (by rw [getD_ge (by omega)]; rfl)), rfl, trivial⟩⟩
 rintro ρ5 w3 ⟨rfl, ρ6, rfl⟩
 refine wS (sr (mv (mv (oC (OpW.lenS Tryd.underlying22 (l := (digs b).length) rfl ?_)))))
 refine oC (OpW.lss (a := ((k : Nat) : Int)) (b := (((digs b).length : Nat) : Int)) (r := decide (k < (digs b).length)) rfl rfl (lt_nat (a := k) (b := (digs b).length)) (oN (Wp.cut (fun ρ' w' => w1 = w' ∧ ∃ ρb, ρ' = upds ρb [(0, .slice b1 ((digs a).length) c1), (1, .slice b2 ((digs b).length) c2), (5, vOs5), (6, .int .u64 ((c + (digs a).getD k 0 + (digs b).getD k 0 : Nat) : Int)), (7, .int .i64 ((k : Nat) : Int))]) ?_ ?_)))
 refine Wp.cond (t := decide (k < (digs b).length)) rfl (fun c7 => ?_) (fun c7 => ?_)
 replace c7 : k < (digs b).length := (of_decide_eq_true c7)
 refine wR (mv (mv (mv (oC (OpW.indexU (i := ((k : Nat) : Int)) (j := k) Tryd.underlying22 Tryd.sizeOf51 rfl (U.mono pv1 l1) rfl (by omega) (by omega) ?_)))))
 intro b4 o2 a2 e2 z2 qb2 qv2
 have bd2 := Fit.getD (U.mono pv1 l1).1 k
 refine oC (lO (v := .int .u32 (((digs b).getD k 0 : Nat) : Int)) Tryd.isAgg51 rfl (g2.sat _ _ qb2) qv2 ?_)
 refine oC (OpW.convI (a := (((digs b).getD k 0 : Nat) : Int)) (r := (((digs b).getD k 0 : Nat) : Int)) Tryd.underlying51 Tryd.underlying77 rfl (conv_u64 (by omega)) ?_)
 refine oC (OpW.add (a := ((c + (digs a).getD k 0 : Nat) : Int)) (b := (((digs b).getD k 0 : Nat) : Int)) (r := ((c + (digs a).getD k 0 + ((digs b).getD k 0) : Nat) : Int)) rfl rfl (add_u64 (a := c + (digs a).getD k 0) (b := (digs b).getD k 0) (by omega)) (ma (oN ?_)))
 exact ⟨rfl, _, named ⟨rfl, rfl, rfl, (natv (by omega)), rfl, trivial⟩⟩
 replace c7 : ¬ (k < (digs b).length) := (of_decide_eq_false c7)
 refine Wp.skip ?_
 exact ⟨rfl, _, named ⟨rfl, rfl, rfl, (natv (by rw [getD_ge (l := digs b) (by omega)]; rfl)), rfl, trivial⟩⟩
 rintro ρ7 w4 ⟨rfl, ρ8, rfl⟩
 refine sr (oC (OpW.move (v := vOs5) rfl (mv (oC (OpW.convI (a := ((c + (digs a).getD k 0 + (digs b).getD k 0 : Nat) : Int)) (r := (((c + (digs a).getD k 0 + (digs b).getD k 0) % 4294967296 : Nat) : Int)) Tryd.underlying77 Tryd.underlying51 rfl conv_u32 ?_)))))
 refine oC (OpW.buildSliceO (arr := #[.int .u32 (((c + (digs a).getD k 0 + (digs b).getD k 0) % 4294967296 : Nat) : Int)]) g2.sat Tryd.underlying22 Tryd.zeroValue51 Tryd.sizeOf51 rfl rfl ?_)
 intro b5 w5 gr1 n1 lo1 o3
 have ne1 := (OwnL.ne_new hO5 lo1)
 have ow1 := OwnL.gr hO5 gr1
 have lo2 := Nat.le_trans g2.ext.size lo1
 have g4 := g2.trans gr1
 obtain ⟨h2, g3, l2, qb3, fr1⟩ := freeze_ex g4 o3 n1 lo2
 have ow2 := OwnL.freezeOther ow1 l2 fr1 ne1
 have f1 : LR rpU h2 (.slice (some ⟨b5, 0, none⟩) 1 1) [(c + (digs a).getD k 0 + (digs b).getD k 0) % 4294967296] := LR.own' qb3 (css := [[.int .u32 (((c + (digs a).getD k 0 + (digs b).getD k 0) % 4294967296 : Nat) : Int)]]) rfl (Rows.cons ⟨rfl, (Nat.mod_lt _ (by decide))⟩ Rows.nil) rfl (Nat.le_refl _)
 refine oC (OpW.appendL (r := rpU) (lo := w.heap.size) (i := Tryd.t51) (v := vOs5) (x := .slice (some ⟨b5, 0, none⟩) 1 1) (l := out) (m := [(c + (digs a).getD k 0 + (digs b).getD k 0) % 4294967296]) Tryd.underlying22 Tryd.type51 rfl rfl rfl g3.sat g3.ext.size rfl rfl ow2 f1 (by simp only [List.length_cons, List.length_nil]; omega) (show _ * _ ≤ _ by simp only [List.length_cons, List.length_nil, Tryd.t51]; omega) ?_)
 intro vO1 w6 ow3 oo1 hbl1
 have g5 := OwnL.ow ow2 g3 (Nat.le_refl _) oo1
 refine oC (OpW.assign (v := vO1) rfl (oN (fg [(0, .slice b1 ((digs a).length) c1), (1, .slice b2 ((digs b).length) c2), (5, vO1), (6, .int .u64 ((c + (digs a).getD k 0 + (digs b).getD k 0 : Nat) : Int)), (7, .int .i64 ((k : Nat) : Int))] rfl (fun ρ9 => (wR (mv (oC (OpW.shift (a := ((c + (digs a).getD k 0 + (digs b).getD k 0 : Nat) : Int)) (b := ((32 : Nat) : Int)) (r := (((c + (digs a).getD k 0 + (digs b).getD k 0) / 2 ^ 32 : Nat) : Int)) (.inr rfl) rfl rfl (shr_nat (by decide)) (ma (oN (wR (mv (oC (OpW.add (a := ((k : Nat) : Int)) (b := ((1 : Nat) : Int)) (r := ((k + 1 : Nat) : Int)) rfl rfl (add_i64 (a := k) (b := 1) (by omega)) (ma (oN ?_))))))))))))))))
 exact ⟨(k + 1, (c + (digs a).getD k 0 + (digs b).getD k 0) / 2 ^ 32, out ++ [(c + (digs a).getD k 0 + (digs b).getD k 0) % 4294967296], vO1), ⟨_, h2, nm (by exact rfl), g5, (l1.trans l2), (by omega), (by rw [List.length_append, hl]; rfl), (by omega), (plus_step hl hv), (by omega), ow3⟩, (by dsimp only; omega)⟩
 replace c5 : ¬ ((k < (digs a).length) ∨ ((k < (digs b).length) ∨ (0 < c))) := (fun pq => pq.elim (of_decide_eq_false (or_l c5)) (fun pq => pq.elim (of_decide_eq_false (or_l (or_r c5))) (of_decide_eq_false (or_r (or_r c5)))))
 refine Wp.exit (sr (oC (OpW.move (v := vOs5) rfl ?_)))
 obtain ⟨h3, g6, l3, fr2, q1⟩ := OwnL.freeze g2 (Nat.le_refl _) hO5
 obtain ⟨b6, c8, e3, k3⟩ := LR.shape q1
 subst e3
 refine oC (cF Tryd.call76 (rtrim_c (l := out) g6.sat (LU.toU q1) (by omega)) rfl ?_)
 intro r1 h4 w7 gr2 hr1
 obtain ⟨b7, c9, rfl, k4⟩ := N.shape hr1
 refine ma (oN (Wp.ret (fin1_ret rfl (resOf_tmp (v := .slice b7 ((digs (val out)).length) c9) rfl) ?_)))
 have g7 := g6.trans gr2
 refine ⟨h4, g7, ?_⟩
 have hc0 : c = 0 := by omega
 rw [hc0] at hv
 exact N.cast (plus_close (by omega) (by omega) hv) hr1
theorem rminus_c {h : PH} {w : World} {v0 : Value} {a : Nat} {v1 : Value} {b : Nat} (hs : Sat h w) (pv0 : N h v0 a) (pv1 : N h v1 b) (hp0 : sz a ≤ 1073741824) (hp1 : sz b ≤ 1073741824) (hp2 : b ≤ a) :
    Calls Tryd.prog 101 #[v0, v1] w (Ret h w fun h' r => N h' r (a - b)) := by
 obtain ⟨b1, c1, rfl, k1⟩ := N.shape pv0
 obtain ⟨b2, c2, rfl, k2⟩ := N.shape pv1
 have hsz := sz_mono hp2
 unfold sz at hp0 hp1 hsz
 refine calls_ear (vs := [.slice b1 ((digs a).length) c1, .slice b2 ((digs b).length) c2]) Tryd.func101 rfl rfl ?_
 have g1 := Gr.refl hs
 refine sr (ma (oN (sr (ma (oN (sr (ma (oN (wS (sr (ma (oN (Wp.block (Wp.loop (σ := Nat × Nat × List Nat × Value) (fun s (ρ : Env) (w' : World) => match s with | (k, br, out, vOs5) => ∃ ρb h', ρ = upds ρb [(0, .slice b1 ((digs a).length) c1), (1, .slice b2 ((digs b).length) c2), (5, vOs5), (6, .int .u64 ((br : Nat) : Int)), (7, .int .i64 ((k : Nat) : Int))] ∧ Gr h w h' w' ∧ PH.le h h' ∧ (k ≤ (digs a).length) ∧ (out.length = k) ∧ (Fit out) ∧ (br ≤ 1) ∧ (val out + val ((digs b).take k) = val ((digs a).take k) + br * B32 ^ k) ∧ (OwnL rpU w.heap.size h' w' 51 vOs5 out)) (fun s => match s with | (k, br, out, vOs5) => (digs a).length - k) (0, 0, [], .slice none 0 0) ?_ ?_))))))))))))))
 exact ⟨_, h, nm (by exact rfl), g1, PH.le.refl _, (by omega), rfl, (fun _ hx => by cases hx), (by omega), (by simp [val]), (OwnL.nil rpU w.heap.size h w 51)⟩
 rintro ⟨k, br, out, vOs5⟩ ρ1 w1 ⟨ρ2, h1, rfl, g2, l1, hk, hl, hf, hb, hv, hO5⟩
 have bda := (digs_fit a).getD k
 have bdb := (digs_fit b).getD k
 refine wS (sr (mv (mv (oC (OpW.lenS Tryd.underlying22 (l := (digs a).length) rfl ?_)))))
 refine oC (OpW.lss (a := ((k : Nat) : Int)) (b := (((digs a).length : Nat) : Int)) (r := decide (k < (digs a).length)) rfl rfl (lt_nat (a := k) (b := (digs a).length)) (oN (Wp.cond (t := decide (k < (digs a).length)) rfl (fun c3 => ?_) (fun c3 => ?_))))
 replace c3 : k < (digs a).length := (of_decide_eq_true c3)
 refine Wp.skip (wS (Wp.block (sr (mv (ma (oN (wS (wS (fg [(0, .slice b1 ((digs a).length) c1), (1, .slice b2 ((digs b).length) c2), (5, vOs5), (7, .int .i64 ((k : Nat) : Int)), (8, .int .u64 ((br : Nat) : Int))] rfl (fun ρ3 => (wR (mv (mv (oC (OpW.lenS Tryd.underlying22 (l := (digs b).length) rfl ?_)))))))))))))))
 refine oC (OpW.lss (a := ((k : Nat) : Int)) (b := (((digs b).length : Nat) : Int)) (r := decide (k < (digs b).length)) rfl rfl (lt_nat (a := k) (b := (digs b).length)) (oN (Wp.cut (fun ρ' w' => w1 = w' ∧ ∃ ρb, ρ' = upds ρb [(0, .slice b1 ((digs a).length) c1), (1, .slice b2 ((digs b).length) c2), (5, vOs5), (7, .int .i64 ((k : Nat) : Int)), (8, .int .u64 ((br + (digs b).getD k 0 : Nat) : Int))]) ?_ ?_)))
 refine Wp.cond (t := decide (k < (digs b).length)) rfl (fun c4 => ?_) (fun c4 => ?_)
 replace c4 : k < (digs b).length := (of_decide_eq_true c4)
 refine wR (mv (mv (mv (oC (OpW.indexU (i := ((k : Nat) : Int)) (j := k) Tryd.underlying22 Tryd.sizeOf51 rfl (U.mono pv1 l1) rfl (by omega) (by omega) ?_)))))
 intro b3 o1 a1 e1 z1 qb1 qv1
 have bd1 := Fit.getD (U.mono pv1 l1).1 k
 refine oC (lO (v := .int .u32 (((digs b).getD k 0 : Nat) : Int)) Tryd.isAgg51 rfl (g2.sat _ _ qb1) qv1 ?_)
 refine oC (OpW.convI (a := (((digs b).getD k 0 : Nat) : Int)) (r := (((digs b).getD k 0 : Nat) : Int)) Tryd.underlying51 Tryd.underlying77 rfl (conv_u64 (by omega)) ?_)
 refine oC (OpW.add (a := ((br : Nat) : Int)) (b := (((digs b).getD k 0 : Nat) : Int)) (r := ((br + ((digs b).getD k 0) : Nat) : Int)) rfl rfl (add_u64 (a := br) (b := (digs b).getD k 0) (by omega)) (ma (oN ?_)))
 exact ⟨rfl, _, named ⟨rfl, rfl, rfl, rfl, (natv (by omega)), trivial⟩⟩
 replace c4 : ¬ (k < (digs b).length) := (of_decide_eq_false c4)
 refine Wp.skip ?_
 exact ⟨rfl, _, named ⟨rfl, rfl, rfl, rfl, (natv (by rw [getD_ge (l := digs b) (by omega)]; rfl)), trivial⟩⟩
 rintro ρ4 w2 ⟨rfl, ρ5, rfl⟩
 refine sr (mv (mv (oC (OpW.indexU (i := ((k : Nat) : Int)) (j := k) Tryd.underlying22 Tryd.sizeOf51 rfl (U.mono pv0 l1) rfl (by omega) (by omega) ?_))))
 intro b4 o2 a2 e2 z2 qb2 qv2
 have bd2 := Fit.getD (U.mono pv0 l1).1 k
 refine oC (lO (v := .int .u32 (((digs a).getD k 0 : Nat) : Int)) Tryd.isAgg51 rfl (g2.sat _ _ qb2) qv2 ?_)
 refine oC (OpW.convI (a := (((digs a).getD k 0 : Nat) : Int)) (r := (((digs a).getD k 0 : Nat) : Int)) Tryd.underlying51 Tryd.underlying77 rfl (conv_u64 (by omega)) (ma (oN (wS (fg [(0, .slice b1 ((digs a).length) c1), (1, .slice b2 ((digs b).length) c2), (5, vOs5), (7, .int .i64 ((k : Nat) : Int)), (8, .int .u64 ((br + (digs b).getD k 0 : Nat) : Int)), (9, .int .u64 (((digs a).getD k 0 : Nat) : Int))] rfl (fun ρ6 => (wR (ma (oN (wS (sr (mv (mv (oC (OpW.lss (a := (((digs a).getD k 0 : Nat) : Int)) (b := ((br + (digs b).getD k 0 : Nat) : Int)) (r := decide ((digs a).getD k 0 < br + (digs b).getD k 0)) rfl rfl (lt_nat (a := (digs a).getD k 0) (b := br + (digs b).getD k 0)) (oN (Wp.cond (t := decide ((digs a).getD k 0 < br + (digs b).getD k 0)) rfl (fun c5 => ?_) (fun c5 => ?_))))))))))))))))))
 replace c5 : (digs a).getD k 0 < br + (digs b).getD k 0 := (of_decide_eq_true c5)
 refine sr (mv (oC (OpW.add (a := (((digs a).getD k 0 : Nat) : Int)) (b := ((4294967296 : Nat) : Int)) (r := (((digs a).getD k 0 + 4294967296 : Nat) : Int)) rfl rfl (add_u64 (a := (digs a).getD k 0) (b := 4294967296) (by omega)) (ma (oN (fg [(0, .slice b1 ((digs a).length) c1), (1, .slice b2 ((digs b).length) c2), (5, vOs5), (7, .int .i64 ((k : Nat) : Int)), (8, .int .u64 ((br + (digs b).getD k 0 : Nat) : Int)), (9, .int .u64 (((digs a).getD k 0 + 4294967296 : Nat) : Int))] rfl (fun ρ7 => (wR (ma (oN (wR (oC (OpW.move (v := vOs5) rfl (mv (mv (oC (OpW.sub (a := (((digs a).getD k 0 + 4294967296 : Nat) : Int)) (b := ((br + (digs b).getD k 0 : Nat) : Int)) (r := ((((digs a).getD k 0 + 4294967296) - (br + (digs b).getD k 0) : Nat) : Int)) rfl rfl (sub_u64 (a := (digs a).getD k 0 + 4294967296) (b := br + (digs b).getD k 0) (by omega) (by omega)) ?_)))))))))))))))))
 refine oC (OpW.convI (a := ((((digs a).getD k 0 + 4294967296) - (br + (digs b).getD k 0) : Nat) : Int)) (r := ((((digs a).getD k 0 + 4294967296) - (br + (digs b).getD k 0) : Nat) : Int)) Tryd.underlying77 Tryd.underlying51 rfl (conv_u32' (by omega)) ?_)
 refine oC (OpW.buildSliceO (arr := #[.int .u32 ((((digs a).getD k 0 + 4294967296) - (br + (digs b).getD k 0) : Nat) : Int)]) g2.sat Tryd.underlying22 Tryd.zeroValue51 Tryd.sizeOf51 rfl rfl ?_)
 intro b5 w3 gr1 n1 lo1 o3
 have ne1 := (OwnL.ne_new hO5 lo1)
 have ow1 := OwnL.gr hO5 gr1
 have lo2 := Nat.le_trans g2.ext.size lo1
 have g4 := g2.trans gr1
 obtain ⟨h2, g3, l2, qb3, fr1⟩ := freeze_ex g4 o3 n1 lo2
 have ow2 := OwnL.freezeOther ow1 l2 fr1 ne1
 have f1 : LR rpU h2 (.slice (some ⟨b5, 0, none⟩) 1 1) [((digs a).getD k 0 + 4294967296) - (br + (digs b).getD k 0)] := LR.own' qb3 (css := [[.int .u32 ((((digs a).getD k 0 + 4294967296) - (br + (digs b).getD k 0) : Nat) : Int)]]) rfl (Rows.cons ⟨rfl, (by omega)⟩ Rows.nil) rfl (Nat.le_refl _)
 refine oC (OpW.appendL (r := rpU) (lo := w.heap.size) (i := Tryd.t51) (v := vOs5) (x := .slice (some ⟨b5, 0, none⟩) 1 1) (l := out) (m := [((digs a).getD k 0 + 4294967296) - (br + (digs b).getD k 0)]) Tryd.underlying22 Tryd.type51 rfl rfl rfl g3.sat g3.ext.size rfl rfl ow2 f1 (by simp only [List.length_cons, List.length_nil]; omega) (show _ * _ ≤ _ by simp only [List.length_cons, List.length_nil, Tryd.t51]; omega) ?_)
 intro vO1 w4 ow3 oo1 hbl1
 have g5 := OwnL.ow ow2 g3 (Nat.le_refl _) oo1
 refine oC (OpW.assign (v := vO1) rfl (oN (fg [(0, .slice b1 ((digs a).length) c1), (1, .slice b2 ((digs b).length) c2), (5, vO1), (6, .int .u64 ((1 : Nat) : Int)), (7, .int .i64 ((k : Nat) : Int))] rfl (fun ρ8 => (wR (mv (oC (OpW.add (a := ((k : Nat) : Int)) (b := ((1 : Nat) : Int)) (r := ((k + 1 : Nat) : Int)) rfl rfl (add_i64 (a := k) (b := 1) (by omega)) (ma (oN ?_))))))))))
 exact ⟨(k + 1, 1, out ++ [((digs a).getD k 0 + 4294967296) - (br + (digs b).getD k 0)], vO1), ⟨_, h2, nm (by exact rfl), g5, (l1.trans l2), (by omega), (by rw [List.length_append, hl]; rfl), (Fit.snoc hf (by omega)), (by omega), (minus_step1 hl (by omega) (by omega) (by omega) hv (by omega)), ow3⟩, (by dsimp only; omega)⟩
 replace c5 : ¬ ((digs a).getD k 0 < br + (digs b).getD k 0) := (of_decide_eq_false c5)
 refine Wp.skip (wR (oC (OpW.move (v := vOs5) rfl (mv (mv (oC (OpW.sub (a := (((digs a).getD k 0 : Nat) : Int)) (b := ((br + (digs b).getD k 0 : Nat) : Int)) (r := ((((digs a).getD k 0) - (br + (digs b).getD k 0) : Nat) : Int)) rfl rfl (sub_u64 (a := (digs a).getD k 0) (b := br + (digs b).getD k 0) (by omega) (by omega)) ?_)))))))
 refine oC (OpW.convI (a := ((((digs a).getD k 0) - (br + (digs b).getD k 0) : Nat) : Int)) (r := ((((digs a).getD k 0) - (br + (digs b).getD k 0) : Nat) : Int)) Tryd.underlying77 Tryd.underlying51 rfl (conv_u32' (by omega)) ?_)
 refine oC (OpW.buildSliceO (arr := #[.int .u32 ((((digs a).getD k 0) - (br + (digs b).getD k 0) : Nat) : Int)]) g2.sat Tryd.underlying22 Tryd.zeroValue51 Tryd.sizeOf51 rfl rfl ?_)
 intro b6 w5 gr2 n2 lo3 o4
 have ne2 := (OwnL.ne_new hO5 lo3)
 have ow4 := OwnL.gr hO5 gr2
 have lo4 := Nat.le_trans g2.ext.size lo3
 have g7 := g2.trans gr2
 obtain ⟨h3, g6, l3, qb4, fr2⟩ := freeze_ex g7 o4 n2 lo4
 have ow5 := OwnL.freezeOther ow4 l3 fr2 ne2
 have f2 : LR rpU h3 (.slice (some ⟨b6, 0, none⟩) 1 1) [((digs a).getD k 0) - (br + (digs b).getD k 0)] := LR.own' qb4 (css := [[.int .u32 ((((digs a).getD k 0) - (br + (digs b).getD k 0) : Nat) : Int)]]) rfl (Rows.cons ⟨rfl, (by omega)⟩ Rows.nil) rfl (Nat.le_refl _)
 refine oC (OpW.appendL (r := rpU) (lo := w.heap.size) (i := Tryd.t51) (v := vOs5) (x := .slice (some ⟨b6, 0, none⟩) 1 1) (l := out) (m := [((digs a).getD k 0) - (br + (digs b).getD k 0)]) Tryd.underlying22 Tryd.type51 rfl rfl rfl g6.sat g6.ext.size rfl rfl ow5 f2 (by simp only [List.length_cons, List.length_nil]; omega) (show _ * _ ≤ _ by simp only [List.length_cons, List.length_nil, Tryd.t51]; omega) ?_)
 intro vO2 w6 ow6 oo2 hbl2
 have g8 := OwnL.ow ow5 g6 (Nat.le_refl _) oo2
 refine oC (OpW.assign (v := vO2) rfl (oN (fg [(0, .slice b1 ((digs a).length) c1), (1, .slice b2 ((digs b).length) c2), (5, vO2), (6, .int .u64 ((0 : Nat) : Int)), (7, .int .i64 ((k : Nat) : Int))] rfl (fun ρ9 => (wR (mv (oC (OpW.add (a := ((k : Nat) : Int)) (b := ((1 : Nat) : Int)) (r := ((k + 1 : Nat) : Int)) rfl rfl (add_i64 (a := k) (b := 1) (by omega)) (ma (oN ?_))))))))))
 exact ⟨(k + 1, 0, out ++ [(digs a).getD k 0 - (br + (digs b).getD k 0)], vO2), ⟨_, h3, nm (by exact rfl), g8, (l1.trans l3), (by omega), (by rw [List.length_append, hl]; rfl), (Fit.snoc hf (by omega)), (by omega), (minus_step2 hl (by omega) (by omega) (by omega) hv), ow6⟩, (by dsimp only; omega)⟩
 replace c3 : ¬ (k < (digs a).length) := (of_decide_eq_false c3)
 refine Wp.exit (sr (oC (OpW.move (v := vOs5) rfl ?_)))
 obtain ⟨h4, g9, l4, fr3, q1⟩ := OwnL.freeze g2 (Nat.le_refl _) hO5
 obtain ⟨b7, c6, e3, k3⟩ := LR.shape q1
 subst e3
 refine oC (cF Tryd.call76 (rtrim_c (l := out) g9.sat (LU.toU q1) (by omega)) rfl ?_)
 intro r1 h5 w7 gr3 hr1
 obtain ⟨b8, c7, rfl, k4⟩ := N.shape hr1
 refine ma (oN (Wp.ret (fin1_ret rfl (resOf_tmp (v := .slice b8 ((digs (val out)).length) c7) rfl) ?_)))
 have g10 := g9.trans gr3
 refine ⟨h5, g10, ?_⟩
 exact N.cast (minus_close (by omega) hl hf (by omega) hp2 hv) hr1
theorem rhalf_c {h : PH} {w : World} {v0 : Value} {a : Nat} (hs : Sat h w) (pv0 : N h v0 a) (hp0 : sz a ≤ 1073741824) :
    Calls Tryd.prog 128 #[v0] w (Ret h w fun h' r => N h' r (a / 2)) := by
 obtain ⟨b1, c1, rfl, k1⟩ := N.shape pv0
 unfold sz at hp0
 refine calls_ear (vs := [.slice b1 ((digs a).length) c1]) Tryd.func128 rfl rfl ?_
 have g1 := Gr.refl hs
 refine sr (ma (oN (sr (mv (oC (OpW.lenS Tryd.underlying22 (l := (digs a).length) rfl ?_))))))
 refine oC (OpW.makeO (l := (digs a).length) (c := (digs a).length) (i := Tryd.t51) (arr := (ua .u32 (List.replicate ((digs a).length) 0))) g1.sat Tryd.underlying22 Tryd.type51 rfl rfl rfl (Nat.le_refl _) (by simp only [Tryd.t51]; omega) (by omega) (made_ua _ _) ?_)
 intro b2 w1 gr1 n1 lo1 o1
 have lo2 := Nat.le_trans g1.ext.size lo1
 refine ma (oN (sr (ma (oN (wS (sr (mv (oC (OpW.lenS Tryd.underlying22 (l := (digs a).length) rfl ?_)))))))))
 refine oC (OpW.sub (a := (((digs a).length : Nat) : Int)) (b := ((1 : Nat) : Int)) (r := ((((digs a).length : Nat) : Int) - ((1 : Nat) : Int))) rfl rfl (in_i64 (by omega)) (ma (oN (Wp.block ?_))))
 have g2 := g1.trans gr1
 refine Wp.loop (σ := Nat × Nat × List Nat) (fun s (ρ : Env) (w' : World) => match s with | (k, c, out) => ∃ ρb h', ρ = upds ρb [(0, .slice b1 ((digs a).length) c1), (3, .slice (some ⟨b2, 0, none⟩) ((digs a).length) ((digs a).length)), (4, .int .u32 ((c : Nat) : Int)), (5, .int .i64 (((k : Nat) : Int) - 1))] ∧ Gr h w h' w' ∧ PH.le h h' ∧ w'.heap[b2]? = some (.cells (ua .u32 out) 51 (0, 0)) ∧ h' b2 = none ∧ (k ≤ (digs a).length) ∧ (c < 2) ∧ (out.length = (digs a).length) ∧ (Fit out) ∧ (val (out.drop k) * 2 + c = val ((digs a).drop k))) (fun s => match s with | (k, c, out) => k) ((digs a).length, 0, List.replicate ((digs a).length) 0) ?_ ?_
 exact ⟨_, h, nm (by exact rfl), g2, PH.le.refl _, o1, n1, (by omega), (by omega), List.length_replicate, Fit.replicate _, (by rw [List.drop_of_length_le (by simp), List.drop_of_length_le (Nat.le_refl _)]; simp [val])⟩
 rintro ⟨k, c, out⟩ ρ1 w2 ⟨ρ2, h1, rfl, g3, l1, o2, n2, hk, hc, hl, hf, hv⟩
 have bd := (digs_fit a).getD (k - 1)
 have h31 : (2:Nat)^31 = 2147483648 := rfl
 have h21 : (2:Nat)^1 = 2 := rfl
 have hlt := half_lt (x := (digs a).getD (k - 1) 0) (c := c) bd hc
 have hand := and1_lt ((digs a).getD (k - 1) 0)
 refine wS (sr (mv (oC (OpW.geq (a := (((k : Nat) : Int) - 1)) (b := ((0 : Nat) : Int)) (r := decide (((0 : Nat) : Int) ≤ (((k : Nat) : Int) - 1))) rfl rfl rfl (oN (Wp.cond (t := decide (((0 : Nat) : Int) ≤ (((k : Nat) : Int) - 1))) rfl (fun c2 => ?_) (fun c2 => ?_)))))))
 replace c2 : ((0 : Nat) : Int) ≤ (((k : Nat) : Int) - 1) := (of_decide_eq_true c2)
 refine Wp.skip (wS (Wp.block (sr (mv (mv (mv (mv (oC (OpW.indexU (i := (((k : Nat) : Int) - 1)) (j := k - 1) Tryd.underlying22 Tryd.sizeOf51 rfl (U.mono pv0 l1) rfl (by omega) (by omega) ?_)))))))))
 intro b3 o3 a1 e1 z1 qb1 qv1
 have bd1 := Fit.getD (U.mono pv0 l1).1 (k - 1)
 refine oC (lO (v := .int .u32 (((digs a).getD (k - 1) 0 : Nat) : Int)) Tryd.isAgg51 rfl (g3.sat _ _ qb1) qv1 ?_)
 refine oC (OpW.shift (a := (((digs a).getD (k - 1) 0 : Nat) : Int)) (b := ((1 : Nat) : Int)) (r := ((((digs a).getD (k - 1) 0) / 2 ^ 1 : Nat) : Int)) (.inr rfl) rfl rfl (shr_nat (by decide)) (mv (oC (OpW.shift (a := ((c : Nat) : Int)) (b := ((31 : Nat) : Int)) (r := ((c * 2 ^ 31 : Nat) : Int)) (.inl rfl) rfl rfl (shl_nat (by decide) (conv_u32' (by omega))) ?_))))
 refine oC (OpW.bits (a := ((((digs a).getD (k - 1) 0) / 2 ^ 1 : Nat) : Int)) (b := ((c * 2 ^ 31 : Nat) : Int)) (r := (((((digs a).getD (k - 1) 0) / 2 ^ 1) ||| (c * 2 ^ 31) : Nat) : Int)) (.inr (.inl rfl)) rfl rfl (or_u32 (a := ((digs a).getD (k - 1) 0) / 2 ^ 1) (b := c * 2 ^ 31) (by omega) (by omega)) ?_)
 refine oC (iA (i := (((k : Nat) : Int) - 1)) (o := k - 1) Tryd.underlying22 Tryd.sizeOf51 rfl rfl (by omega) (by omega) ?_)
 refine oC (OpW.store1 (v := .int .u32 (((((digs a).getD (k - 1) 0) / 2 ^ 1) ||| (c * 2 ^ 31) : Nat) : Int)) Tryd.sizeOf51 rfl rfl rfl o2 (ua_lt (by omega)) ?_)
 intro w3 p1
 have o4 : w3.heap[b2]? = some (.cells (ua .u32 (out.set (k - 1) ((((digs a).getD (k - 1) 0) / 2 ^ 1) ||| (c * 2 ^ 31)))) 51 (0, 0)) := by rw [p1.at_, ua_set]
 refine oN (fg [(0, .slice b1 ((digs a).length) c1), (3, .slice (some ⟨b2, 0, none⟩) ((digs a).length) ((digs a).length)), (5, .int .i64 (((k : Nat) : Int) - 1))] rfl (fun ρ3 => (wR (mv (mv (oC (OpW.indexU (i := (((k : Nat) : Int) - 1)) (j := k - 1) Tryd.underlying22 Tryd.sizeOf51 rfl (U.mono pv0 l1) rfl (by omega) (by omega) ?_)))))))
 intro b4 o5 a2 e2 z2 qb2 qv2
 have bd2 := Fit.getD (U.mono pv0 l1).1 (k - 1)
 have g4 := g3.put p1 n2 lo2
 refine oC (lO (v := .int .u32 (((digs a).getD (k - 1) 0 : Nat) : Int)) Tryd.isAgg51 rfl (g4.sat _ _ qb2) qv2 ?_)
 refine oC (OpW.bits (a := (((digs a).getD (k - 1) 0 : Nat) : Int)) (b := ((1 : Nat) : Int)) (r := ((((digs a).getD (k - 1) 0) &&& 1 : Nat) : Int)) (.inl rfl) rfl rfl (and_u32 (a := (digs a).getD (k - 1) 0) (b := 1) bd (by decide)) (ma (oN (wR (mv (oC (OpW.sub (a := (((k : Nat) : Int) - 1)) (b := ((1 : Nat) : Int)) (r := ((((k : Nat) : Int) - 1) - ((1 : Nat) : Int))) rfl rfl (in_i64 (by omega)) (ma (oN ?_)))))))))
 exact ⟨(k - 1, (digs a).getD (k - 1) 0 &&& 1, out.set (k - 1) ((digs a).getD (k - 1) 0 / 2 ^ 1 ||| c * 2 ^ 31)), ⟨_, h1, named ⟨(by exact rfl), (by exact rfl), (by exact rfl), (by exact (intv (by omega))), trivial⟩, g4, l1, o4, n2, (by omega), hand, (by rw [List.length_set]; exact hl), (hf.set _ _ hlt), (half_step (by omega) (by omega) (by omega) hc bd hv)⟩, (by dsimp only; omega)⟩
 replace c2 : ¬ (((0 : Nat) : Int) ≤ (((k : Nat) : Int) - 1)) := (of_decide_eq_false c2)
 refine Wp.exit (sr (mv ?_))
 obtain ⟨h2, g5, l2, qb3, fr1⟩ := freeze_ex g3 o2 n2 lo2
 have f1 := U.own (l := out) qb3 hf (cap := (digs a).length) hl (Nat.le_refl _)
 refine oC (cF Tryd.call76 (rtrim_c (l := out) g5.sat f1 (by omega)) rfl ?_)
 intro r1 h3 w4 gr2 hr1
 obtain ⟨b5, c3, rfl, k2⟩ := N.shape hr1
 refine ma (oN (Wp.ret (fin1_ret rfl (resOf_tmp (v := .slice b5 ((digs (val out)).length) c3) rfl) ?_)))
 have g6 := g5.trans gr2
 refine ⟨h3, g6, ?_⟩
 exact N.cast (over_q (by omega) hc hv) hr1
theorem rbits_c {h : PH} {w : World} {v0 : Value} {a : Nat} (hs : Sat h w) (pv0 : N h v0 a) (hp0 : sz a ≤ 1073741824) :
    Calls Tryd.prog 106 #[v0] w (Ret h w fun h' r => r = .int .i64 ((bitlen a : Nat) : Int)) := by
 obtain ⟨b1, c1, rfl, k1⟩ := N.shape pv0
 unfold sz at hp0
 have hz := sz_eq_zero (n := a)
 unfold sz at hz
 refine calls_ear (vs := [.slice b1 ((digs a).length) c1]) Tryd.func106 rfl rfl ?_
 have g1 := Gr.refl hs
 refine sr (ma (oN (sr (mv (oC (cF Tryd.call76 (rtrim_c (l := digs a) g1.sat pv0 (by first | omega | (simp only [List.length_set, List.length_replicate]; omega))) rfl ?_))))))
 intro r1 h1 w1 gr1 hr1
 simp only [frK_rat, bf_frK, val_digs] at hr1
 obtain ⟨b2, c2, rfl, k2⟩ := N.shape hr1
 refine ma (oN (wS (sr (mv (oC (OpW.lenS Tryd.underlying22 (l := (digs a).length) rfl ?_))))))
 refine oC (OpW.eqlI (a := (((digs a).length : Nat) : Int)) (b := ((0 : Nat) : Int)) (r := decide ((digs a).length = 0)) rfl rfl (eq_nat (a := (digs a).length) (b := 0)) (oN (Wp.cond (t := decide ((digs a).length = 0)) rfl (fun c3 => ?_) (fun c3 => ?_))))
 replace c3 : (digs a).length = 0 := (of_decide_eq_true c3)
 refine sr (ma (oN (Wp.ret (fin1_ret rfl (resOf_tmp (v := .int .i64 ((0 : Nat) : Int)) rfl) ?_))))
 have g2 := g1.trans gr1
 refine ⟨h1, g2, ?_⟩
 exact (natv (by rw [hz.1 (by omega), bitlen_zero]))
 replace c3 : ¬ ((digs a).length = 0) := (of_decide_eq_false c3)
 refine Wp.skip (sr (mv (oC (OpW.lenS Tryd.underlying22 (l := (digs a).length) rfl ?_))))
 refine oC (OpW.sub (a := (((digs a).length : Nat) : Int)) (b := ((1 : Nat) : Int)) (r := ((((digs a).length) - 1 : Nat) : Int)) rfl rfl (sub_i64 (a := (digs a).length) (b := 1) (by omega) (by omega)) ?_)
 refine oC (OpW.mul (a := ((32 : Nat) : Int)) (b := ((((digs a).length) - 1 : Nat) : Int)) (r := ((32 * (((digs a).length) - 1) : Nat) : Int)) rfl rfl (mul_i64 (a := 32) (b := ((digs a).length) - 1) (by omega)) (ma (oN (wS (wS (fg [(0, .slice b2 ((digs a).length) c2), (3, .int .i64 ((32 * (((digs a).length) - 1) : Nat) : Int))] rfl (fun ρ1 => (wR (mv (mv (oC (OpW.lenS Tryd.underlying22 (l := (digs a).length) rfl ?_))))))))))))
 refine oC (OpW.sub (a := (((digs a).length : Nat) : Int)) (b := ((1 : Nat) : Int)) (r := ((((digs a).length) - 1 : Nat) : Int)) rfl rfl (sub_i64 (a := (digs a).length) (b := 1) (by omega) (by omega)) ?_)
 refine oC (OpW.indexU (i := ((((digs a).length) - 1 : Nat) : Int)) (j := ((digs a).length) - 1) Tryd.underlying22 Tryd.sizeOf51 rfl hr1 rfl (by omega) (by omega) ?_)
 intro b3 o1 a1 e1 z1 qb1 qv1
 have bd1 := Fit.getD (hr1).1 (((digs a).length) - 1)
 have g3 := g1.trans gr1
 refine oC (lO (v := .int .u32 (((digs a).getD (((digs a).length) - 1) 0 : Nat) : Int)) Tryd.isAgg51 rfl (g3.sat _ _ qb1) qv1 (ma (oN (Wp.block (Wp.loop (σ := Nat × Nat) (fun s (ρ : Env) (w' : World) => match s with | (m, x) => ∃ ρb h', ρ = upds ρb [(3, .int .i64 ((m : Nat) : Int)), (4, .int .u32 ((x : Nat) : Int))] ∧ Gr h w h' w' ∧ PH.le h1 h' ∧ (m + bitlen x = bitlen a) ∧ (x < 4294967296)) (fun s => match s with | (m, x) => x) (32 * ((digs a).length - 1), (digs a).getD ((digs a).length - 1) 0) ?_ ?_)))))
 exact ⟨_, h1, nm (by exact rfl), g3, PH.le.refl _, (bitlen_digs (by omega)).symm, (by omega)⟩
 rintro ⟨m, x⟩ ρ2 w2 ⟨ρ3, h2, rfl, g4, l1, hm, hx⟩
 have hbs := fun h => bits_step (x := x) h
 have hbz := bitlen_sz a
 unfold sz at hbz
 have h21 : (2:Nat)^1 = 2 := rfl
 refine wS (sr (mv (oC (OpW.gtr (a := ((x : Nat) : Int)) (b := ((0 : Nat) : Int)) (r := decide (0 < x)) rfl rfl (lt_nat (a := 0) (b := x)) (oN (Wp.cond (t := decide (0 < x)) rfl (fun c4 => ?_) (fun c4 => ?_)))))))
 replace c4 : 0 < x := (of_decide_eq_true c4)
 refine Wp.skip (wS (Wp.block (wR (mv (oC (OpW.add (a := ((m : Nat) : Int)) (b := ((1 : Nat) : Int)) (r := ((m + 1 : Nat) : Int)) rfl rfl (add_i64 (a := m) (b := 1) (by have := hbs (by omega); omega)) (ma (oN (wR (mv (oC (OpW.shift (a := ((x : Nat) : Int)) (b := ((1 : Nat) : Int)) (r := ((x / 2 ^ 1 : Nat) : Int)) (.inr rfl) rfl rfl (shr_nat (by decide)) (ma (oN ?_))))))))))))))
 exact ⟨(m + 1, x / 2 ^ 1), ⟨_, h2, nm (by exact rfl), g4, l1, (by have := hbs (by omega); omega), (by omega)⟩, (by dsimp only; omega)⟩
 replace c4 : ¬ (0 < x) := (of_decide_eq_false c4)
 refine Wp.exit (sr (mv (ma (oN (Wp.ret (fin1_ret rfl (resOf_tmp (v := .int .i64 ((m : Nat) : Int)) rfl) ?_))))))
 refine ⟨h2, g4, ?_⟩
 exact (natv (bits_end hm (by omega)))
theorem reven_c {h : PH} {w : World} {v0 : Value} {a : Nat} (hs : Sat h w) (pv0 : N h v0 a) (hp0 : sz a ≤ 1073741824) :
    Calls Tryd.prog 127 #[v0] w (Ret h w fun h' r => r = .bool (decide (a % 2 = 0))) := by
 obtain ⟨b1, c1, rfl, k1⟩ := N.shape pv0
 unfold sz at hp0
 have hz := sz_eq_zero (n := a)
 unfold sz at hz
 have hde := digs_even (a := a)
 refine calls_ear (vs := [.slice b1 ((digs a).length) c1]) Tryd.func127 rfl rfl ?_
 have g1 := Gr.refl hs
 refine sr (ma (oN (sr (Ops.cut (fun ρ' w' => w = w' ∧ ∃ ρb, ρ' = upds ρb [(2, .bool ((decide ((digs a).length = 0)) || (decide (((digs a).getD 0 0) % 2 = 0))))]) ?_ ?_))))
 refine mv (oC (OpW.lenS Tryd.underlying22 (l := (digs a).length) rfl ?_))
 refine oC (OpW.eqlI (a := (((digs a).length : Nat) : Int)) (b := ((0 : Nat) : Int)) (r := decide ((digs a).length = 0)) rfl rfl (eq_nat (a := (digs a).length) (b := 0)) (mv ?_))
 cases c2 : (decide ((digs a).length = 0))
 replace c2 : ¬ ((digs a).length = 0) := (of_decide_eq_false c2)
 refine oL rfl rfl rfl (OpW.move (v := .slice b1 ((digs a).length) c1) rfl ?_)
 refine oL rfl rfl rfl (OpW.indexU (i := ((0 : Nat) : Int)) (j := 0) Tryd.underlying22 Tryd.sizeOf51 rfl pv0 rfl (by omega) (by omega) ?_)
 intro b2 o1 a1 e1 z1 qb1 qv1
 have bd1 := Fit.getD (pv0).1 0
 refine oL rfl rfl rfl (lO (v := .int .u32 (((digs a).getD 0 0 : Nat) : Int)) Tryd.isAgg51 rfl (g1.sat _ _ qb1) qv1 ?_)
 refine oL rfl rfl rfl (OpW.rem (a := (((digs a).getD 0 0 : Nat) : Int)) (b := ((2 : Nat) : Int)) (r := ((((digs a).getD 0 0) % 2 : Nat) : Int)) rfl rfl (by decide) rem_nat ?_)
 refine oL rfl rfl rfl (OpW.eqlI (a := ((((digs a).getD 0 0) % 2 : Nat) : Int)) (b := ((0 : Nat) : Int)) (r := decide (((digs a).getD 0 0) % 2 = 0)) rfl rfl (eq_nat (a := ((digs a).getD 0 0) % 2) (b := 0)) ?_)
 refine oC (pF (v := .bool (decide (((digs a).getD 0 0) % 2 = 0))) rfl rfl (ma (oN ?_)))
 exact ⟨rfl, _, nm rfl⟩
 replace c2 : (digs a).length = 0 := (of_decide_eq_true c2)
 refine oD rfl rfl rfl rfl (oD rfl rfl rfl rfl (oD rfl rfl rfl rfl (oD rfl rfl rfl rfl (oD rfl rfl rfl rfl (oC (pT (v := .bool true) rfl rfl (ma (oN ?_))))))))
 exact ⟨rfl, _, nm rfl⟩
 rintro ρ1 w1 ⟨rfl, ρ2, rfl⟩
 refine Wp.ret (fin1_ret rfl (resOf_tmp (v := .bool ((decide ((digs a).length = 0)) || (decide (((digs a).getD 0 0) % 2 = 0)))) rfl) ?_)
 refine ⟨h, g1, ?_⟩
 exact (boolv (by rw [Bool.eq_iff_iff]; simp only [Bool.or_eq_true, decide_eq_true_eq]; constructor <;> intro hh <;> omega))
theorem rone_c {h : PH} {w : World} {v0 : Value} {a : Nat} (hs : Sat h w) (pv0 : N h v0 a) (hp0 : sz a ≤ 1073741824) :
    Calls Tryd.prog 115 #[v0] w (Ret h w fun h' r => r = .bool (decide (a = 1))) := by
 obtain ⟨b1, c1, rfl, k1⟩ := N.shape pv0
 unfold sz at hp0
 refine calls_ear (vs := [.slice b1 ((digs a).length) c1]) Tryd.func115 rfl rfl ?_
 have g1 := Gr.refl hs
 refine sr (ma (oN (sr (Ops.cut (fun ρ' w' => w = w' ∧ ∃ ρb, ρ' = upds ρb [(2, .bool ((decide ((digs a).length = 1)) && (decide ((digs a).getD 0 0 = 1))))]) ?_ ?_))))
 refine mv (oC (OpW.lenS Tryd.underlying22 (l := (digs a).length) rfl ?_))
 refine oC (OpW.eqlI (a := (((digs a).length : Nat) : Int)) (b := ((1 : Nat) : Int)) (r := decide ((digs a).length = 1)) rfl rfl (eq_nat (a := (digs a).length) (b := 1)) (mv ?_))
 cases c2 : (decide ((digs a).length = 1))
 replace c2 : ¬ ((digs a).length = 1) := (of_decide_eq_false c2)
 refine oD rfl rfl rfl rfl (oD rfl rfl rfl rfl (oD rfl rfl rfl rfl (oD rfl rfl rfl rfl (oC (pF (v := .bool false) rfl rfl (ma (oN ?_)))))))
 exact ⟨rfl, _, nm rfl⟩
 replace c2 : (digs a).length = 1 := (of_decide_eq_true c2)
 refine oL rfl rfl rfl (OpW.move (v := .slice b1 ((digs a).length) c1) rfl ?_)
 refine oL rfl rfl rfl (OpW.indexU (i := ((0 : Nat) : Int)) (j := 0) Tryd.underlying22 Tryd.sizeOf51 rfl pv0 rfl (by omega) (by omega) ?_)
 intro b2 o1 a1 e1 z1 qb1 qv1
 have bd1 := Fit.getD (pv0).1 0
 refine oL rfl rfl rfl (lO (v := .int .u32 (((digs a).getD 0 0 : Nat) : Int)) Tryd.isAgg51 rfl (g1.sat _ _ qb1) qv1 ?_)
 refine oL rfl rfl rfl (OpW.eqlI (a := (((digs a).getD 0 0 : Nat) : Int)) (b := ((1 : Nat) : Int)) (r := decide ((digs a).getD 0 0 = 1)) rfl rfl (eq_nat (a := (digs a).getD 0 0) (b := 1)) ?_)
 refine oC (pT (v := .bool (decide ((digs a).getD 0 0 = 1))) rfl rfl (ma (oN ?_)))
 exact ⟨rfl, _, nm rfl⟩
 rintro ρ1 w1 ⟨rfl, ρ2, rfl⟩
 refine Wp.ret (fin1_ret rfl (resOf_tmp (v := .bool ((decide ((digs a).length = 1)) && (decide ((digs a).getD 0 0 = 1)))) rfl) ?_)
 refine ⟨h, g1, ?_⟩
 exact (boolv one_eq)
theorem rnatural_c {h : PH} {w : World} {n : Nat} (hs : Sat h w) (hp0 : n < 18446744073709551616) :
    Calls Tryd.prog 82 #[.int .u64 ((n : Nat) : Int)] w (Ret h w fun h' r => N h' r n) := by
 refine calls_ear (vs := [.int .u64 ((n : Nat) : Int)]) Tryd.func82 rfl rfl ?_
 have g1 := Gr.refl hs
 refine sr (ma (oN (sr (mv (oC (OpW.convI (a := ((n : Nat) : Int)) (r := ((n % 4294967296 : Nat) : Int)) Tryd.underlying77 Tryd.underlying51 rfl conv_u32 (mv (oC (OpW.shift (a := ((n : Nat) : Int)) (b := ((32 : Nat) : Int)) (r := ((n / 2 ^ 32 : Nat) : Int)) (.inr rfl) rfl rfl (shr_nat (by decide)) ?_)))))))))
 refine oC (OpW.convI (a := ((n / 2 ^ 32 : Nat) : Int)) (r := ((n / 2 ^ 32 : Nat) : Int)) Tryd.underlying77 Tryd.underlying51 rfl (conv_u32' (by have : (2:Nat)^32 = 4294967296 := rfl; omega)) ?_)
 refine oC (OpW.buildSliceO (arr := #[.int .u32 ((n % 4294967296 : Nat) : Int), .int .u32 ((n / 2 ^ 32 : Nat) : Int)]) g1.sat Tryd.underlying22 Tryd.zeroValue51 Tryd.sizeOf51 rfl rfl ?_)
 intro b1 w1 gr1 n1 lo1 o1
 have lo2 := Nat.le_trans g1.ext.size lo1
 have g3 := g1.trans gr1
 obtain ⟨h1, g2, l1, qb1, fr1⟩ := freeze_ex g3 o1 n1 lo2
 have f1 := U.own (l := [n % 4294967296, n / 2 ^ 32]) qb1 (small_fit (by omega)) (cap := 2) rfl (Nat.le_refl _)
 refine oC (cF Tryd.call76 (rtrim_c (l := [n % 4294967296, n / 2 ^ 32]) g2.sat f1 (Nat.le_of_ble_eq_true rfl)) rfl ?_)
 intro r1 h2 w2 gr2 hr1
 obtain ⟨b2, c1, rfl, k1⟩ := N.shape hr1
 refine ma (oN (Wp.ret (fin1_ret rfl (resOf_tmp (v := .slice b2 ((digs (val ([n % 4294967296, n / 2 ^ 32]))).length) c1) rfl) ?_)))
 have g4 := g2.trans gr2
 refine ⟨h2, g4, ?_⟩
 exact N.cast (small_val hp0) hr1
theorem rsize_c {h : PH} {w : World} {n : Int} (hs : Sat h w) (hp0 : -9223372036854775808 ≤ n) (hp1 : n ≤ 9223372036854775807) :
    Calls Tryd.prog 83 #[.int .i64 n] w (Ret h w fun h' r => r = .int .u64 ((n.natAbs : Nat) : Int)) := by
 refine calls_ear (vs := [.int .i64 n]) Tryd.func83 rfl rfl ?_
 have g1 := Gr.refl hs
 refine sr (ma (oN (wS (sr (mv (oC (OpW.lss (a := n) (b := ((0 : Nat) : Int)) (r := decide (n < ((0 : Nat) : Int))) rfl rfl rfl (oN (Wp.cond (t := decide (n < ((0 : Nat) : Int))) rfl (fun c1 => ?_) (fun c1 => ?_))))))))))
 replace c1 : n < ((0 : Nat) : Int) := (of_decide_eq_true c1)
 refine sr (mv (oC (OpW.convI (a := n) (r := (n + 18446744073709551616)) Tryd.underlying3 Tryd.underlying77 rfl (u64_neg (by omega) (by omega)) ?_)))
 refine oC (OpW.negI (a := (n + 18446744073709551616)) (r := ((n.natAbs : Nat) : Int)) rfl (u64_neg2 (by omega) (by omega)) (ma (oN (Wp.ret (fin1_ret rfl (resOf_tmp (v := .int .u64 ((n.natAbs : Nat) : Int)) rfl) ?_)))))
 refine ⟨h, g1, ?_⟩
 exact rfl
 replace c1 : ¬ (n < ((0 : Nat) : Int)) := (of_decide_eq_false c1)
 refine Wp.skip (sr (mv (oC (OpW.convI (a := n) (r := ((n.natAbs : Nat) : Int)) Tryd.underlying3 Tryd.underlying77 rfl ((in_u64 (by omega)).trans (by omega)) (ma (oN (Wp.ret (fin1_ret rfl (resOf_tmp (v := .int .u64 ((n.natAbs : Nat) : Int)) rfl) ?_))))))))
 refine ⟨h, g1, ?_⟩
 exact rfl
end Go.Ear
