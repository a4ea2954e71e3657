/- About package frac: K1. -/
import Derived.Test.YtmidncjhlnfojaaDoorNatLaw2
import Derived.Test.YtmidncjhlnfojaaDoorEarShort
import Derived.Test.YtmidncjhlnfojaaDoorProg
set_option linter.all false
namespace Go.Ear
open Go.Proofs
set_option maxRecDepth 20000
set_option linter.unusedVariables false
set_option maxHeartbeats 2000000
theorem mixed : Tryd.prog.follows .mixedOrders = true := by kernel_rfl
theorem cloneN_c {h : PH} {w : World} {v0 : Value} {l : List Nat} (hs : Sat h w) (pv0 : U h v0 l) (hp0 : l.length ≤ 1099511627776) :
    Calls Tryd.prog 114 #[v0] w (Ret h w fun h' r => U h' r l) := by
 obtain ⟨b1, c1, rfl, k1⟩ := U.shape pv0
 refine calls_ear (vs := [.slice b1 l.length c1]) Tryd.func114 rfl rfl ?_
 have g1 := Gr.refl hs
 refine sr (ma (oN (wS (sr (mv (oC (OpW.eqlNil (r := Option.isNone b1) Tryd.underlying64 rfl rfl rfl (oN (Wp.cond (t := Option.isNone b1) rfl (fun c2 => ?_) (fun c2 => ?_))))))))))
 replace c2 : Option.isNone b1 = true := c2
 refine sr (ma (oN (Wp.ret ?_)))
 obtain rfl := U.isNone pv0 c2
 refine fin1_ret rfl (resOf_tmp (v := .slice none 0 0) rfl) ?_
 refine ⟨h, g1, ?_⟩
 exact U.nil _ _ _
 replace c2 : ¬ (Option.isNone b1 = true) := (raw_f c2)
 refine Wp.skip (sr (oC (OpW.buildSliceO (arr := #[]) g1.sat Tryd.underlying64 Tryd.zeroValue51 Tryd.sizeOf51 rfl rfl ?_)))
 intro b2 w1 gr1 n1 lo1 o1
 have lo2 := Nat.le_trans g1.ext.size lo1
 refine mv ?_
 have g2 := g1.trans gr1
 refine oC (OpW.cloneU g2.sat Tryd.underlying64 Tryd.type51 rfl rfl rfl rfl rfl pv0 (by omega) (by simp only [Tryd.t51]; omega) ?_)
 intro r1 h1 w2 gr2 hr1
 obtain ⟨b3, c3, rfl, k2⟩ := U.shape hr1
 refine ma (oN (Wp.ret (fin1_ret rfl (resOf_tmp (v := .slice b3 l.length c3) rfl) ?_)))
 have g3 := g2.trans gr2
 refine ⟨h1, g3, ?_⟩
 exact hr1
theorem cloneU_c {h : PH} {w : World} {v0 : Value} {l : List Nat} (hs : Sat h w) (pv0 : U h v0 l) (hp0 : l.length ≤ 1099511627776) :
    Calls Tryd.prog 124 #[v0] w (Ret h w fun h' r => U h' r l) := by
 obtain ⟨b1, c1, rfl, k1⟩ := U.shape pv0
 refine calls_ear (vs := [.slice b1 l.length c1]) Tryd.func124 rfl rfl ?_
 have g1 := Gr.refl hs
 refine sr (ma (oN (wS (sr (mv (oC (OpW.eqlNil (r := Option.isNone b1) Tryd.underlying22 rfl rfl rfl (oN (Wp.cond (t := Option.isNone b1) rfl (fun c2 => ?_) (fun c2 => ?_))))))))))
 replace c2 : Option.isNone b1 = true := c2
 refine sr (ma (oN (Wp.ret ?_)))
 obtain rfl := U.isNone pv0 c2
 refine fin1_ret rfl (resOf_tmp (v := .slice none 0 0) rfl) ?_
 refine ⟨h, g1, ?_⟩
 exact U.nil _ _ _
 replace c2 : ¬ (Option.isNone b1 = true) := (raw_f c2)
 refine Wp.skip (sr (oC (OpW.buildSliceO (arr := #[]) g1.sat Tryd.underlying22 Tryd.zeroValue51 Tryd.sizeOf51 rfl rfl ?_)))
 intro b2 w1 gr1 n1 lo1 o1
 have lo2 := Nat.le_trans g1.ext.size lo1
 refine mv ?_
 have g2 := g1.trans gr1
 refine oC (OpW.cloneU g2.sat Tryd.underlying22 Tryd.type51 rfl rfl rfl rfl rfl pv0 (by omega) (by simp only [Tryd.t51]; omega) ?_)
 intro r1 h1 w2 gr2 hr1
 obtain ⟨b3, c3, rfl, k2⟩ := U.shape hr1
 refine ma (oN (Wp.ret (fin1_ret rfl (resOf_tmp (v := .slice b3 l.length c3) rfl) ?_)))
 have g3 := g2.trans gr2
 refine ⟨h1, g3, ?_⟩
 exact hr1
theorem trimmed_c {h : PH} {w : World} {v0 : Value} {l : List Nat} (hs : Sat h w) (pv0 : U h v0 l) (hp0 : l.length ≤ 1099511627776) :
    Calls Tryd.prog 103 #[v0] w (Ret h w fun h' r => N h' r (val l)) := by
 obtain ⟨b1, c1, rfl, k1⟩ := U.shape pv0
 refine calls_ear (vs := [.slice b1 l.length c1]) Tryd.func103 rfl rfl ?_
 have g1 := Gr.refl hs
 refine sr (ma (oN (sr (mv (oC (OpW.lenS Tryd.underlying22 (l := l.length) rfl (ma (oN (wS (Wp.block (Wp.loop (σ := Nat) (fun (k : Nat) (ρ : Env) (w' : World) => ∃ ρb h', ρ = upds ρb [(0, .slice b1 l.length c1), (3, .int .i64 ((k : Nat) : Int))] ∧ Gr h w h' w' ∧ PH.le h h' ∧ (k ≤ l.length) ∧ (trim (l.take k) = trim l)) (fun (k : Nat) => k) l.length ?_ ?_)))))))))))
 exact ⟨_, h, nm rfl, g1, PH.le.refl _, (by omega), (by rw [List.take_length])⟩
 rintro k ρ1 w1 ⟨ρ2, h1, rfl, g2, l1, hk, ht⟩
 refine wS (sr (Ops.cut (fun ρ' w' => w1 = w' ∧ ∃ ρb, ρ' = upds ρb [(0, .slice b1 l.length c1), (3, .int .i64 ((k : Nat) : Int)), (15, .bool ((decide (0 < k)) && (decide (l.getD (k - 1) 0 = 0))))]) ?_ ?_))
 refine mv (oC (OpW.gtr (a := ((k : Nat) : Int)) (b := ((0 : Nat) : Int)) (r := decide (0 < k)) rfl rfl (lt_nat (a := 0) (b := k)) (mv ?_)))
 cases c2 : (decide (0 < k))
 replace c2 : ¬ (0 < k) := (of_decide_eq_false c2)
 refine oD rfl rfl rfl rfl (oD rfl rfl rfl rfl (oD rfl rfl rfl rfl (oD rfl rfl rfl rfl (oD rfl rfl rfl rfl (oD rfl rfl rfl rfl (oC (pF (v := .bool false) rfl rfl (oN ?_))))))))
 exact ⟨rfl, _, nm rfl⟩
 replace c2 : 0 < k := (of_decide_eq_true c2)
 refine oL rfl rfl rfl (OpW.move (v := .slice b1 l.length c1) rfl ?_)
 refine oL rfl rfl rfl (OpW.move (v := .int .i64 ((k : Nat) : Int)) rfl ?_)
 refine oL rfl rfl rfl (OpW.sub (a := ((k : Nat) : Int)) (b := ((1 : Nat) : Int)) (r := ((k - 1 : Nat) : Int)) rfl rfl (sub_i64 (a := k) (b := 1) (by omega) (by omega)) ?_)
 refine oL rfl rfl rfl (OpW.indexU (i := ((k - 1 : Nat) : Int)) (j := k - 1) Tryd.underlying22 Tryd.sizeOf51 rfl (U.mono pv0 l1) rfl (by omega) (by omega) ?_)
 intro b2 o1 a1 e1 z1 qb1 qv1
 have bd1 := Fit.getD (U.mono pv0 l1).1 (k - 1)
 refine oL rfl rfl rfl (lO (v := .int .u32 ((l.getD (k - 1) 0 : Nat) : Int)) Tryd.isAgg51 rfl (g2.sat _ _ qb1) qv1 ?_)
 refine oL rfl rfl rfl (OpW.eqlI (a := ((l.getD (k - 1) 0 : Nat) : Int)) (b := ((0 : Nat) : Int)) (r := decide (l.getD (k - 1) 0 = 0)) rfl rfl (eq_nat (a := l.getD (k - 1) 0) (b := 0)) ?_)
 refine oC (pT (v := .bool (decide (l.getD (k - 1) 0 = 0))) rfl rfl (oN ?_))
 exact ⟨rfl, _, nm rfl⟩
 rintro ρ3 w2 ⟨rfl, ρ4, rfl⟩
 refine Wp.cond (t := (decide (0 < k)) && (decide (l.getD (k - 1) 0 = 0))) rfl (fun c3 => ?_) (fun c3 => ?_)
 replace c3 : (0 < k) ∧ (l.getD (k - 1) 0 = 0) := ⟨(of_decide_eq_true (and_l c3)), (of_decide_eq_true (and_r c3))⟩
 refine Wp.skip (Wp.block (wR (mv (oC (OpW.sub (a := ((k : Nat) : Int)) (b := ((1 : Nat) : Int)) (r := ((k - 1 : Nat) : Int)) rfl rfl (sub_i64 (a := k) (b := 1) (by omega) (by omega)) (ma (oN ?_)))))))
 exact ⟨(k - 1), ⟨_, h1, nm rfl, g2, l1, (by omega), (by rw [← ht, ← trim_take_zero (l := l) (k := k - 1) (by omega) (by omega), show k - 1 + 1 = k by omega])⟩, (by omega)⟩
 replace c3 : ¬ ((0 < k) ∧ (l.getD (k - 1) 0 = 0)) := (fun pq => (and_f c3).elim (fun h => (of_decide_eq_false h) pq.1) (fun h => (of_decide_eq_false h) pq.2))
 refine Wp.exit (sr (mv (mv ?_)))
 have f1 := U.take (U.mono pv0 l1) k (by omega)
 refine oC (OpW.sliceTo (m := k) Tryd.underlying22 Tryd.sizeOf51 rfl rfl (by omega) ?_)
 refine oC (cF Tryd.call124 (cloneU_c (l := l.take k) g2.sat f1 (by rw [List.length_take]; omega)) rfl ?_)
 intro r1 h2 w3 gr1 hr1
 obtain ⟨b3, c4, rfl, k2⟩ := U.shape hr1
 refine ma (oN (Wp.ret (fin1_ret rfl (resOf_tmp (v := .slice b3 ((l.take k).length) c4) rfl) ?_)))
 have g3 := g2.trans gr1
 refine ⟨h2, g3, ?_⟩
 exact trimmed_close pv0.1 hk ht c3 hr1
theorem small_c {h : PH} {w : World} {n : Nat} (hs : Sat h w) (hp0 : n < 18446744073709551616) :
    Calls Tryd.prog 86 #[.int .u64 ((n : Nat) : Int)] w (Ret h w fun h' r => N h' r n) := by
 refine calls_ear (vs := [.int .u64 ((n : Nat) : Int)]) Tryd.func86 rfl rfl ?_
 have g1 := Gr.refl hs
 refine sr (ma (oN (sr (mv (oC (OpW.convI (a := ((n : Nat) : Int)) (r := ((n % 4294967296 : Nat) : Int)) Tryd.underlying77 Tryd.underlying51 rfl conv_u32 (mv (oC (OpW.shift (a := ((n : Nat) : Int)) (b := ((32 : Nat) : Int)) (r := ((n / 2 ^ 32 : Nat) : Int)) (.inr rfl) rfl rfl (shr_nat (by decide)) ?_)))))))))
 refine oC (OpW.convI (a := ((n / 2 ^ 32 : Nat) : Int)) (r := ((n / 2 ^ 32 : Nat) : Int)) Tryd.underlying77 Tryd.underlying51 rfl (conv_u32' (by have : (2:Nat)^32 = 4294967296 := rfl; omega)) ?_)
 refine oC (OpW.buildSliceO (arr := #[.int .u32 ((n % 4294967296 : Nat) : Int), .int .u32 ((n / 2 ^ 32 : Nat) : Int)]) g1.sat Tryd.underlying22 Tryd.zeroValue51 Tryd.sizeOf51 rfl rfl ?_)
 intro b1 w1 gr1 n1 lo1 o1
 have lo2 := Nat.le_trans g1.ext.size lo1
 have g3 := g1.trans gr1
 obtain ⟨h1, g2, l1, qb1, fr1⟩ := freeze_ex g3 o1 n1 lo2
 have f1 := U.own (l := [n % 4294967296, n / 2 ^ 32]) qb1 (small_fit (by omega)) (cap := 2) rfl (Nat.le_refl _)
 refine oC (cF Tryd.call103 (trimmed_c (l := [n % 4294967296, n / 2 ^ 32]) g2.sat f1 (Nat.le_of_ble_eq_true rfl)) rfl ?_)
 intro r1 h2 w2 gr2 hr1
 obtain ⟨b2, c1, rfl, k1⟩ := N.shape hr1
 refine ma (oN (Wp.ret (fin1_ret rfl (resOf_tmp (v := .slice b2 ((digs (val ([n % 4294967296, n / 2 ^ 32]))).length) c1) rfl) ?_)))
 have g4 := g2.trans gr2
 refine ⟨h2, g4, ?_⟩
 exact N.cast (small_val hp0) hr1
theorem compare_c {h : PH} {w : World} {v0 : Value} {a : Nat} {v1 : Value} {b : Nat} (hs : Sat h w) (pv0 : N h v0 a) (pv1 : N h v1 b) (hp0 : sz a ≤ 1073741824) (hp1 : sz b ≤ 1073741824) :
    Calls Tryd.prog 85 #[v0, v1] w (Ret h w fun h' r => r = .int .i64 (cmpN a b)) := by
 obtain ⟨b1, c1, rfl, k1⟩ := N.shape pv0
 obtain ⟨b2, c2, rfl, k2⟩ := N.shape pv1
 unfold sz at hp0 hp1
 refine calls_ear (vs := [.slice b1 ((digs a).length) c1, .slice b2 ((digs b).length) c2]) Tryd.func85 rfl rfl ?_
 have g1 := Gr.refl hs
 refine sr (ma (oN (wS (sr (mv (oC (OpW.lenS Tryd.underlying64 (l := (digs a).length) rfl (mv (oC (OpW.lenS Tryd.underlying64 (l := (digs b).length) rfl ?_))))))))))
 refine oC (OpW.neqI (a := (((digs a).length : Nat) : Int)) (b := (((digs b).length : Nat) : Int)) (r := decide ((digs a).length ≠ (digs b).length)) rfl rfl (ne_nat (a := (digs a).length) (b := (digs b).length)) (oN (Wp.cond (t := decide ((digs a).length ≠ (digs b).length)) rfl (fun c3 => ?_) (fun c3 => ?_))))
 replace c3 : (digs a).length ≠ (digs b).length := (of_decide_eq_true c3)
 refine wS (sr (mv (oC (OpW.lenS Tryd.underlying64 (l := (digs a).length) rfl (mv (oC (OpW.lenS Tryd.underlying64 (l := (digs b).length) rfl ?_)))))))
 refine oC (OpW.lss (a := (((digs a).length : Nat) : Int)) (b := (((digs b).length : Nat) : Int)) (r := decide ((digs a).length < (digs b).length)) rfl rfl (lt_nat (a := (digs a).length) (b := (digs b).length)) (oN (Wp.cond (t := decide ((digs a).length < (digs b).length)) rfl (fun c4 => ?_) (fun c4 => ?_))))
 replace c4 : (digs a).length < (digs b).length := (of_decide_eq_true c4)
 refine wS (fg [] rfl (fun ρ1 => (wR (ma (oN (Wp.ret (fin1_ret rfl (resOf_tmp (v := .int .i64 (-1)) rfl) ?_)))))))
 refine ⟨h, g1, ?_⟩
 exact (intv (cmpN_lt (sz_lt (by unfold sz; omega))).symm)
 replace c4 : ¬ ((digs a).length < (digs b).length) := (of_decide_eq_false c4)
 refine Wp.skip (wS (fg [] rfl (fun ρ2 => (wR (ma (oN (Wp.ret (fin1_ret rfl (resOf_tmp (v := .int .i64 ((1 : Nat) : Int)) rfl) ?_))))))))
 refine ⟨h, g1, ?_⟩
 exact (intv (cmpN_gt (sz_lt (by unfold sz; omega))).symm)
 replace c3 : ¬ ((digs a).length ≠ (digs b).length) := (of_decide_eq_false c3)
 have hlen : (digs a).length = (digs b).length := by omega
 refine Wp.skip (wS (sr (mv (oC (OpW.lenS Tryd.underlying64 (l := (digs a).length) rfl ?_)))))
 refine oC (OpW.sub (a := (((digs a).length : Nat) : Int)) (b := ((1 : Nat) : Int)) (r := ((((digs a).length : Nat) : Int) - ((1 : Nat) : Int))) rfl rfl (in_i64 (by omega)) (ma (oN (Wp.block (Wp.loop (σ := Nat) (fun (k : Nat) (ρ : Env) (w' : World) => ∃ ρb h', ρ = upds ρb [(0, .slice b1 ((digs a).length) c1), (1, .slice b2 ((digs b).length) c2), (5, .int .i64 (((k : Nat) : Int) - 1))] ∧ Gr h w h' w' ∧ PH.le h h' ∧ (k ≤ (digs a).length) ∧ ((digs a).drop k = (digs b).drop k)) (fun (k : Nat) => k) ((digs a).length) ?_ ?_)))))
 exact ⟨_, h, nm rfl, g1, PH.le.refl _, (by omega), (by rw [List.drop_length, hlen, List.drop_length])⟩
 rintro k ρ3 w1 ⟨ρ4, h1, rfl, g2, l1, hk, hd⟩
 refine wS (sr (mv (oC (OpW.geq (a := (((k : Nat) : Int) - 1)) (b := ((0 : Nat) : Int)) (r := decide (((0 : Nat) : Int) ≤ (((k : Nat) : Int) - 1))) rfl rfl rfl (oN (Wp.cond (t := decide (((0 : Nat) : Int) ≤ (((k : Nat) : Int) - 1))) rfl (fun c5 => ?_) (fun c5 => ?_)))))))
 replace c5 : ((0 : Nat) : Int) ≤ (((k : Nat) : Int) - 1) := (of_decide_eq_true c5)
 refine Wp.skip (wS (Wp.block (wS ?_)))
 obtain ⟨b3, o1, a1, e5, z1, qs1, qb1, qv1⟩ := U.at (U.mono pv0 l1) (i := k - 1) (by omega)
 have bd1 := Fit.getD (U.mono pv0 l1).1 (k - 1)
 obtain ⟨b4, o2, a2, e11, z2, qs2, qb2, qv2⟩ := U.at (U.mono pv1 l1) (i := k - 1) (by omega)
 have bd2 := Fit.getD (U.mono pv1 l1).1 (k - 1)
 refine Wp.dagL 9 [23, 24, 25, 26, 27, 28, 29, 30, 31] [eqv (.slice b1 ((digs a).length) c1), eqv (.int .i64 (((k : Nat) : Int) - 1)), eqv (.pointer (some ⟨b3, o1 + (k - 1), none⟩)), eqv (.int .u32 (((digs a).getD (k - 1) 0 : Nat) : Int)), eqv (.slice b2 ((digs b).length) c2), eqv (.int .i64 (((k : Nat) : Int) - 1)), eqv (.pointer (some ⟨b4, o2 + (k - 1), none⟩)), eqv (.int .u32 (((digs b).getD (k - 1) 0 : Nat) : Int)), eqv (.bool (decide ((digs a).getD (k - 1) 0 ≠ (digs b).getD (k - 1) 0)))] mixed g2.sat rfl (by decide +kernel) ⟨sQ _, sQ _, sQ _, sQ _, sQ _, sQ _, sQ _, sQ _, sQ _, trivial⟩ ?_ ?_
 intro stab
 refine ⟨?_, ?_, ?_, ?_, ?_, ?_, ?_, ?_, ?_, trivial⟩
 intro ρ5 h2 w2 g3 hdd1 hdo1
 have e1 : ρ5 0 = .slice b1 ((digs a).length) c1 := hdo1 0 rfl
 refine gP (OpW.move (v := .slice b1 ((digs a).length) c1) e1 ?_)
 exact ⟨_, h2, rfl, g3, fun j x _ p => p, rfl⟩
 intro ρ6 h3 w3 g4 hdd2 hdo2
 have e2 : ρ6 5 = .int .i64 (((k : Nat) : Int) - 1) := hdo2 5 rfl
 refine gP (OpW.move (v := .int .i64 (((k : Nat) : Int) - 1)) e2 ?_)
 exact ⟨_, h3, rfl, g4, fun j x _ p => p, rfl⟩
 intro ρ7 h4 w4 g5 hdd3 hdo3
 have e3 : ρ7 23 = .slice b1 ((digs a).length) c1 := hdd3 0 (by decide)
 have e4 : ρ7 24 = .int .i64 (((k : Nat) : Int) - 1) := hdd3 1 (by decide)
 refine gP (iA (b := b3) (off := o1) (l := (digs a).length) (c := c1) (i := (((k : Nat) : Int) - 1)) (o := o1 + (k - 1)) Tryd.underlying64 Tryd.sizeOf51 (e3.trans (congrArg (fun x => Value.slice x ((digs a).length) c1) qs1)) e4 (by omega) (by omega) ?_)
 exact ⟨_, h4, rfl, g5, fun j x _ p => p, rfl⟩
 intro ρ8 h5 w5 g6 hdd4 hdo4
 have e6 : ρ8 25 = .pointer (some ⟨b3, o1 + (k - 1), none⟩) := hdd4 2 (by decide)
 have g7 := g2.trans g6
 refine gP (lO (v := .int .u32 (((digs a).getD (k - 1) 0 : Nat) : Int)) Tryd.isAgg51 e6 (g7.sat _ _ (g6.le _ _ qb1)) qv1 ?_)
 exact ⟨_, h5, rfl, g6, fun j x _ p => p, rfl⟩
 intro ρ9 h6 w6 g8 hdd5 hdo5
 have e7 : ρ9 1 = .slice b2 ((digs b).length) c2 := hdo5 1 rfl
 refine gP (OpW.move (v := .slice b2 ((digs b).length) c2) e7 ?_)
 exact ⟨_, h6, rfl, g8, fun j x _ p => p, rfl⟩
 intro ρ10 h7 w7 g9 hdd6 hdo6
 have e8 : ρ10 5 = .int .i64 (((k : Nat) : Int) - 1) := hdo6 5 rfl
 refine gP (OpW.move (v := .int .i64 (((k : Nat) : Int) - 1)) e8 ?_)
 exact ⟨_, h7, rfl, g9, fun j x _ p => p, rfl⟩
 intro ρ11 h8 w8 g10 hdd7 hdo7
 have e9 : ρ11 27 = .slice b2 ((digs b).length) c2 := hdd7 4 (by decide)
 have e10 : ρ11 28 = .int .i64 (((k : Nat) : Int) - 1) := hdd7 5 (by decide)
 refine gP (iA (b := b4) (off := o2) (l := (digs b).length) (c := c2) (i := (((k : Nat) : Int) - 1)) (o := o2 + (k - 1)) Tryd.underlying64 Tryd.sizeOf51 (e9.trans (congrArg (fun x => Value.slice x ((digs b).length) c2) qs2)) e10 (by omega) (by omega) ?_)
 exact ⟨_, h8, rfl, g10, fun j x _ p => p, rfl⟩
 intro ρ12 h9 w9 g11 hdd8 hdo8
 have e12 : ρ12 29 = .pointer (some ⟨b4, o2 + (k - 1), none⟩) := hdd8 6 (by decide)
 have g12 := g2.trans g11
 refine gP (lO (v := .int .u32 (((digs b).getD (k - 1) 0 : Nat) : Int)) Tryd.isAgg51 e12 (g12.sat _ _ (g11.le _ _ qb2)) qv2 ?_)
 exact ⟨_, h9, rfl, g11, fun j x _ p => p, rfl⟩
 intro ρ13 h10 w10 g13 hdd9 hdo9
 have e13 : ρ13 26 = .int .u32 (((digs a).getD (k - 1) 0 : Nat) : Int) := hdd9 3 (by decide)
 have e14 : ρ13 30 = .int .u32 (((digs b).getD (k - 1) 0 : Nat) : Int) := hdd9 7 (by decide)
 refine gP (OpW.neqI (a := (((digs a).getD (k - 1) 0 : Nat) : Int)) (b := (((digs b).getD (k - 1) 0 : Nat) : Int)) (r := decide ((digs a).getD (k - 1) 0 ≠ (digs b).getD (k - 1) 0)) e13 e14 (ne_nat (a := (digs a).getD (k - 1) 0) (b := (digs b).getD (k - 1) 0)) ?_)
 exact ⟨_, h10, rfl, g13, fun j x _ p => p, rfl⟩
 intro ρ14 h11 w11 g14 hdp1 hdo10
 have e15 : ρ14 0 = .slice b1 ((digs a).length) c1 := hdo10 0 rfl
 have e16 : ρ14 1 = .slice b2 ((digs b).length) c2 := hdo10 1 rfl
 have e17 : ρ14 5 = .int .i64 (((k : Nat) : Int) - 1) := hdo10 5 rfl
 have e18 : ρ14 31 = .bool (decide ((digs a).getD (k - 1) 0 ≠ (digs b).getD (k - 1) 0)) := hdp1 8 rfl
 refine Ops.forget [(0, .slice b1 ((digs a).length) c1), (1, .slice b2 ((digs b).length) c2), (5, .int .i64 (((k : Nat) : Int) - 1)), (31, .bool (decide ((digs a).getD (k - 1) 0 ≠ (digs b).getD (k - 1) 0)))] ⟨e15, e16, e17, e18, trivial⟩ (fun ρ15 => (oN (Wp.cond (t := decide ((digs a).getD (k - 1) 0 ≠ (digs b).getD (k - 1) 0)) rfl (fun c6 => ?_) (fun c6 => ?_))))
 replace c6 : (digs a).getD (k - 1) 0 ≠ (digs b).getD (k - 1) 0 := (of_decide_eq_true c6)
 refine wS (wS ?_)
 have g15 := g2.trans g14
 obtain ⟨b5, o3, a3, e23, z3, qs3, qb3, qv3⟩ := U.at (U.mono pv0 (l1.trans g14.le)) (i := k - 1) (by omega)
 have bd3 := Fit.getD (U.mono pv0 (l1.trans g14.le)).1 (k - 1)
 obtain ⟨b6, o4, a4, e29, z4, qs4, qb4, qv4⟩ := U.at (U.mono pv1 (l1.trans g14.le)) (i := k - 1) (by omega)
 have bd4 := Fit.getD (U.mono pv1 (l1.trans g14.le)).1 (k - 1)
 refine Wp.dagL 9 [32, 33, 34, 35, 36, 37, 38, 39, 40] [eqv (.slice b1 ((digs a).length) c1), eqv (.int .i64 (((k : Nat) : Int) - 1)), eqv (.pointer (some ⟨b5, o3 + (k - 1), none⟩)), eqv (.int .u32 (((digs a).getD (k - 1) 0 : Nat) : Int)), eqv (.slice b2 ((digs b).length) c2), eqv (.int .i64 (((k : Nat) : Int) - 1)), eqv (.pointer (some ⟨b6, o4 + (k - 1), none⟩)), eqv (.int .u32 (((digs b).getD (k - 1) 0 : Nat) : Int)), eqv (.bool (decide ((digs a).getD (k - 1) 0 < (digs b).getD (k - 1) 0)))] mixed g15.sat rfl (by decide +kernel) ⟨sQ _, sQ _, sQ _, sQ _, sQ _, sQ _, sQ _, sQ _, sQ _, trivial⟩ ?_ ?_
 intro stab
 refine ⟨?_, ?_, ?_, ?_, ?_, ?_, ?_, ?_, ?_, trivial⟩
 intro ρ16 h12 w12 g16 hdd10 hdo11
 have e19 : ρ16 0 = .slice b1 ((digs a).length) c1 := hdo11 0 rfl
 refine gP (OpW.move (v := .slice b1 ((digs a).length) c1) e19 ?_)
 exact ⟨_, h12, rfl, g16, fun j x _ p => p, rfl⟩
 intro ρ17 h13 w13 g17 hdd11 hdo12
 have e20 : ρ17 5 = .int .i64 (((k : Nat) : Int) - 1) := hdo12 5 rfl
 refine gP (OpW.move (v := .int .i64 (((k : Nat) : Int) - 1)) e20 ?_)
 exact ⟨_, h13, rfl, g17, fun j x _ p => p, rfl⟩
 intro ρ18 h14 w14 g18 hdd12 hdo13
 have e21 : ρ18 32 = .slice b1 ((digs a).length) c1 := hdd12 0 (by decide)
 have e22 : ρ18 33 = .int .i64 (((k : Nat) : Int) - 1) := hdd12 1 (by decide)
 refine gP (iA (b := b5) (off := o3) (l := (digs a).length) (c := c1) (i := (((k : Nat) : Int) - 1)) (o := o3 + (k - 1)) Tryd.underlying64 Tryd.sizeOf51 (e21.trans (congrArg (fun x => Value.slice x ((digs a).length) c1) qs3)) e22 (by omega) (by omega) ?_)
 exact ⟨_, h14, rfl, g18, fun j x _ p => p, rfl⟩
 intro ρ19 h15 w15 g19 hdd13 hdo14
 have e24 : ρ19 34 = .pointer (some ⟨b5, o3 + (k - 1), none⟩) := hdd13 2 (by decide)
 have g20 := g15.trans g19
 refine gP (lO (v := .int .u32 (((digs a).getD (k - 1) 0 : Nat) : Int)) Tryd.isAgg51 e24 (g20.sat _ _ (g19.le _ _ qb3)) qv3 ?_)
 exact ⟨_, h15, rfl, g19, fun j x _ p => p, rfl⟩
 intro ρ20 h16 w16 g21 hdd14 hdo15
 have e25 : ρ20 1 = .slice b2 ((digs b).length) c2 := hdo15 1 rfl
 refine gP (OpW.move (v := .slice b2 ((digs b).length) c2) e25 ?_)
 exact ⟨_, h16, rfl, g21, fun j x _ p => p, rfl⟩
 intro ρ21 h17 w17 g22 hdd15 hdo16
 have e26 : ρ21 5 = .int .i64 (((k : Nat) : Int) - 1) := hdo16 5 rfl
 refine gP (OpW.move (v := .int .i64 (((k : Nat) : Int) - 1)) e26 ?_)
 exact ⟨_, h17, rfl, g22, fun j x _ p => p, rfl⟩
 intro ρ22 h18 w18 g23 hdd16 hdo17
 have e27 : ρ22 36 = .slice b2 ((digs b).length) c2 := hdd16 4 (by decide)
 have e28 : ρ22 37 = .int .i64 (((k : Nat) : Int) - 1) := hdd16 5 (by decide)
 refine gP (iA (b := b6) (off := o4) (l := (digs b).length) (c := c2) (i := (((k : Nat) : Int) - 1)) (o := o4 + (k - 1)) Tryd.underlying64 Tryd.sizeOf51 (e27.trans (congrArg (fun x => Value.slice x ((digs b).length) c2) qs4)) e28 (by omega) (by omega) ?_)
 exact ⟨_, h18, rfl, g23, fun j x _ p => p, rfl⟩
 intro ρ23 h19 w19 g24 hdd17 hdo18
 have e30 : ρ23 38 = .pointer (some ⟨b6, o4 + (k - 1), none⟩) := hdd17 6 (by decide)
 have g25 := g15.trans g24
 refine gP (lO (v := .int .u32 (((digs b).getD (k - 1) 0 : Nat) : Int)) Tryd.isAgg51 e30 (g25.sat _ _ (g24.le _ _ qb4)) qv4 ?_)
 exact ⟨_, h19, rfl, g24, fun j x _ p => p, rfl⟩
 intro ρ24 h20 w20 g26 hdd18 hdo19
 have e31 : ρ24 35 = .int .u32 (((digs a).getD (k - 1) 0 : Nat) : Int) := hdd18 3 (by decide)
 have e32 : ρ24 39 = .int .u32 (((digs b).getD (k - 1) 0 : Nat) : Int) := hdd18 7 (by decide)
 refine gP (OpW.lss (a := (((digs a).getD (k - 1) 0 : Nat) : Int)) (b := (((digs b).getD (k - 1) 0 : Nat) : Int)) (r := decide ((digs a).getD (k - 1) 0 < (digs b).getD (k - 1) 0)) e31 e32 (lt_nat (a := (digs a).getD (k - 1) 0) (b := (digs b).getD (k - 1) 0)) ?_)
 exact ⟨_, h20, rfl, g26, fun j x _ p => p, rfl⟩
 intro ρ25 h21 w21 g27 hdp2 hdo20
 have e33 : ρ25 40 = .bool (decide ((digs a).getD (k - 1) 0 < (digs b).getD (k - 1) 0)) := hdp2 8 rfl
 refine Ops.forget [(40, .bool (decide ((digs a).getD (k - 1) 0 < (digs b).getD (k - 1) 0)))] ⟨e33, trivial⟩ (fun ρ26 => (oN (Wp.cond (t := decide ((digs a).getD (k - 1) 0 < (digs b).getD (k - 1) 0)) rfl (fun c7 => ?_) (fun c7 => ?_))))
 replace c7 : (digs a).getD (k - 1) 0 < (digs b).getD (k - 1) 0 := (of_decide_eq_true c7)
 refine sr (ma (oN (Wp.ret (fin1_ret rfl (resOf_tmp (v := .int .i64 (-1)) rfl) ?_))))
 have g28 := g15.trans g27
 refine ⟨h21, g28, ?_⟩
 exact (intv (cmpN_lt (cmp_at hlen (by omega) (by omega) hd (by omega))).symm)
 replace c7 : ¬ ((digs a).getD (k - 1) 0 < (digs b).getD (k - 1) 0) := (of_decide_eq_false c7)
 refine Wp.skip (sr (ma (oN (Wp.ret (fin1_ret rfl (resOf_tmp (v := .int .i64 ((1 : Nat) : Int)) rfl) ?_)))))
 have g29 := g15.trans g27
 refine ⟨h21, g29, ?_⟩
 exact (intv (cmpN_gt (cmp_at hlen.symm (by omega) (by omega) hd.symm (by omega))).symm)
 replace c6 : ¬ ((digs a).getD (k - 1) 0 ≠ (digs b).getD (k - 1) 0) := (of_decide_eq_false c6)
 refine Wp.skip (wR (mv (oC (OpW.sub (a := (((k : Nat) : Int) - 1)) (b := ((1 : Nat) : Int)) (r := ((((k : Nat) : Int) - 1) - ((1 : Nat) : Int))) rfl rfl (in_i64 (by omega)) (ma (oN ?_))))))
 have g30 := g2.trans g14
 exact ⟨(k - 1), ⟨_, h11, named ⟨rfl, rfl, (intv (by omega)), trivial⟩, g30, (l1.trans g14.le), (by omega), (drop_eq_succ (by omega) (by omega) (by rw [show k - 1 + 1 = k by omega]; exact hd) (by omega))⟩, (by omega)⟩
 replace c5 : ¬ (((0 : Nat) : Int) ≤ (((k : Nat) : Int) - 1)) := (of_decide_eq_false c5)
 refine Wp.exit (sr (ma (oN (Wp.ret (fin1_ret rfl (resOf_tmp (v := .int .i64 ((0 : Nat) : Int)) rfl) ?_)))))
 refine ⟨h1, g2, ?_⟩
 exact (intv (cmp_end hd (by omega)).symm)
theorem digit_c {h : PH} {w : World} {v0 : Value} {a : Nat} {i : Nat} (hs : Sat h w) (pv0 : N h v0 a) (hp0 : i ≤ 1099511627776) (hp1 : sz a ≤ 1073741824) :
    Calls Tryd.prog 107 #[v0, .int .i64 ((i : Nat) : Int)] w (Ret h w fun h' r => r = .int .u64 (((digs a).getD i 0 : Nat) : Int)) := by
 obtain ⟨b1, c1, rfl, k1⟩ := N.shape pv0
 unfold sz at hp1
 refine calls_ear (vs := [.slice b1 ((digs a).length) c1, .int .i64 ((i : Nat) : Int)]) Tryd.func107 rfl rfl ?_
 have g1 := Gr.refl hs
 refine sr (ma (oN (wS (sr (Ops.cut (fun ρ' w' => w = w' ∧ ∃ ρb, ρ' = upds ρb [(0, .slice b1 ((digs a).length) c1), (1, .int .i64 ((i : Nat) : Int)), (12, .bool ((decide (i < 0)) || (decide ((digs a).length ≤ i))))]) ?_ ?_)))))
 refine mv (oC (OpW.lss (a := ((i : Nat) : Int)) (b := ((0 : Nat) : Int)) (r := decide (i < 0)) rfl rfl (lt_nat (a := i) (b := 0)) (mv ?_)))
 cases c2 : (decide (i < 0))
 replace c2 : ¬ (i < 0) := (of_decide_eq_false c2)
 refine oL rfl rfl rfl (OpW.move (v := .int .i64 ((i : Nat) : Int)) rfl ?_)
 refine oL rfl rfl rfl (OpW.move (v := .slice b1 ((digs a).length) c1) rfl ?_)
 refine oL rfl rfl rfl (OpW.lenS Tryd.underlying64 (l := (digs a).length) rfl ?_)
 refine oL rfl rfl rfl (OpW.geq (a := ((i : Nat) : Int)) (b := (((digs a).length : Nat) : Int)) (r := decide ((digs a).length ≤ i)) rfl rfl (le_nat (a := (digs a).length) (b := i)) ?_)
 refine oC (pF (v := .bool (decide ((digs a).length ≤ i))) rfl rfl (oN ?_))
 exact ⟨rfl, _, nm rfl⟩
 replace c2 : i < 0 := (of_decide_eq_true c2)
 refine oD rfl rfl rfl rfl (oD rfl rfl rfl rfl (oD rfl rfl rfl rfl (oD rfl rfl rfl rfl (oC (pT (v := .bool true) rfl rfl (oN ?_))))))
 exact ⟨rfl, _, nm rfl⟩
 rintro ρ1 w1 ⟨rfl, ρ2, rfl⟩
 refine Wp.cond (t := (decide (i < 0)) || (decide ((digs a).length ≤ i))) rfl (fun c3 => ?_) (fun c3 => ?_)
 replace c3 : (i < 0) ∨ ((digs a).length ≤ i) := ((or_t c3).imp (fun h => (of_decide_eq_true h)) (fun h => (of_decide_eq_true h)))
 refine sr (ma (oN (Wp.ret (fin1_ret rfl (resOf_tmp (v := .int .u64 ((0 : Nat) : Int)) rfl) ?_))))
 refine ⟨h, g1, ?_⟩
 exact (natv (getD_ge (by omega)).symm)
 replace c3 : ¬ ((i < 0) ∨ ((digs a).length ≤ i)) := (fun pq => pq.elim (of_decide_eq_false (or_l c3)) (of_decide_eq_false (or_r c3)))
 refine Wp.skip (sr (mv (mv (oC (OpW.indexU (i := ((i : Nat) : Int)) (j := i) Tryd.underlying64 Tryd.sizeOf51 rfl pv0 rfl (by omega) (by omega) ?_)))))
 intro b2 o1 a1 e1 z1 qb1 qv1
 have bd1 := Fit.getD (pv0).1 i
 refine oC (lO (v := .int .u32 (((digs a).getD i 0 : Nat) : Int)) Tryd.isAgg51 rfl (g1.sat _ _ qb1) qv1 ?_)
 refine oC (OpW.convI (a := (((digs a).getD i 0 : Nat) : Int)) (r := (((digs a).getD i 0 : Nat) : Int)) Tryd.underlying51 Tryd.underlying77 rfl (conv_u64 (by omega)) (ma (oN (Wp.ret (fin1_ret rfl (resOf_tmp (v := .int .u64 (((digs a).getD i 0 : Nat) : Int)) rfl) ?_)))))
 refine ⟨h, g1, ?_⟩
 exact rfl
theorem add_c {h : PH} {w : World} {v0 : Value} {a : Nat} {v1 : Value} {b : Nat} (hs : Sat h w) (pv0 : N h v0 a) (pv1 : N h v1 b) (hp0 : sz a ≤ 1073741824) (hp1 : sz b ≤ 1073741824) :
    Calls Tryd.prog 90 #[v0, v1] w (Ret h w fun h' r => N h' r (a + b)) := by
 obtain ⟨b1, c1, rfl, k1⟩ := N.shape pv0
 obtain ⟨b2, c2, rfl, k2⟩ := N.shape pv1
 unfold sz at hp0 hp1
 refine calls_ear (vs := [.slice b1 ((digs a).length) c1, .slice b2 ((digs b).length) c2]) Tryd.func90 rfl rfl ?_
 have g1 := Gr.refl hs
 refine sr (ma (oN (sr (mv (oC (OpW.lenS Tryd.underlying64 (l := (digs a).length) rfl (mv (oC (OpW.lenS Tryd.underlying64 (l := (digs b).length) rfl ?_)))))))))
 refine oC (OpW.maxI (a := (((digs a).length : Nat) : Int)) (b := (((digs b).length : Nat) : Int)) (r := ((max ((digs a).length) ((digs b).length) : Nat) : Int)) rfl rfl (fun w => max_nat w) ?_)
 refine oC (OpW.add (a := ((max ((digs a).length) ((digs b).length) : Nat) : Int)) (b := ((1 : Nat) : Int)) (r := ((max ((digs a).length) ((digs b).length) + 1 : Nat) : Int)) rfl rfl (add_i64 (a := max ((digs a).length) ((digs b).length)) (b := 1) (by omega)) ?_)
 refine oC (OpW.makeO (l := max ((digs a).length) ((digs b).length) + 1) (c := max ((digs a).length) ((digs b).length) + 1) (i := Tryd.t51) (arr := (ua .u32 (List.replicate (max ((digs a).length) ((digs b).length) + 1) 0))) g1.sat Tryd.underlying22 Tryd.type51 rfl rfl rfl (Nat.le_refl _) (by simp only [Tryd.t51]; omega) (by omega) (made_ua _ _) ?_)
 intro b3 w1 gr1 n1 lo1 o1
 have lo2 := Nat.le_trans g1.ext.size lo1
 refine ma (oN (sr (ma (oN (wS (sr (mv (oC (OpW.lenS Tryd.underlying22 (l := max ((digs a).length) ((digs b).length) + 1) rfl (mv (oN (Wp.block ?_))))))))))))
 have g2 := g1.trans gr1
 refine Wp.loop (σ := Nat × Nat × List Nat) (fun s (ρ : Env) (w' : World) => match s with | (k, c, out) => ∃ ρb h', ρ = upds ρb [(0, .slice b1 ((digs a).length) c1), (1, .slice b2 ((digs b).length) c2), (5, .slice (some ⟨b3, 0, none⟩) (max ((digs a).length) ((digs b).length) + 1) (max ((digs a).length) ((digs b).length) + 1)), (6, .int .u64 ((c : Nat) : Int)), (16, .int .i64 ((max ((digs a).length) ((digs b).length) + 1 : Nat) : Int)), (17, .int .i64 ((k : Nat) : Int))] ∧ Gr h w h' w' ∧ PH.le h h' ∧ w'.heap[b3]? = some (.cells (ua .u32 out) 51 (0, 0)) ∧ h' b3 = none ∧ (k ≤ max (digs a).length (digs b).length + 1) ∧ (out.length = max (digs a).length (digs b).length + 1) ∧ (Fit out) ∧ (c ≤ 1) ∧ (val (out.take k) + c * B32 ^ k = val ((digs a).take k) + val ((digs b).take k))) (fun s => match s with | (k, c, out) => max (digs a).length (digs b).length + 1 - k) (0, 0, List.replicate (max (digs a).length (digs b).length + 1) 0) ?_ ?_
 exact ⟨_, h, nm (by exact rfl), g2, PH.le.refl _, o1, n1, (by omega), List.length_replicate, Fit.replicate _, (by omega), (by simp [val])⟩
 rintro ⟨k, c, out⟩ ρ1 w2 ⟨ρ2, h1, rfl, g3, l1, o2, n2, hk, hl, hf, hc, hv⟩
 have bda := (digs_fit a).getD k
 have bdb := (digs_fit b).getD k
 refine sr (oC (OpW.lss (a := ((k : Nat) : Int)) (b := ((max ((digs a).length) ((digs b).length) + 1 : Nat) : Int)) (r := decide (k < max ((digs a).length) ((digs b).length) + 1)) rfl rfl (lt_nat (a := k) (b := max ((digs a).length) ((digs b).length) + 1)) (oN (wS (Wp.cond (t := decide (k < max ((digs a).length) ((digs b).length) + 1)) rfl (fun c3 => ?_) (fun c3 => ?_))))))
 replace c3 : k < max ((digs a).length) ((digs b).length) + 1 := (of_decide_eq_true c3)
 refine Wp.skip (wS (Wp.block (sr (mv (ma (oN (wS (sr (mv (mv (oC (OpW.lenS Tryd.underlying64 (l := (digs a).length) rfl ?_))))))))))))
 refine oC (OpW.lss (a := ((k : Nat) : Int)) (b := (((digs a).length : Nat) : Int)) (r := decide (k < (digs a).length)) rfl rfl (lt_nat (a := k) (b := (digs a).length)) (oN (Wp.cut (fun ρ' w' => w2 = w' ∧ ∃ ρb, ρ' = upds ρb [(0, .slice b1 ((digs a).length) c1), (1, .slice b2 ((digs b).length) c2), (5, .slice (some ⟨b3, 0, none⟩) (max ((digs a).length) ((digs b).length) + 1) (max ((digs a).length) ((digs b).length) + 1)), (6, .int .u64 ((c + (digs a).getD k 0 : Nat) : Int)), (7, .int .i64 ((k : Nat) : Int)), (16, .int .i64 ((max ((digs a).length) ((digs b).length) + 1 : Nat) : Int)), (17, .int .i64 ((k : Nat) : Int))]) ?_ ?_)))
 refine Wp.cond (t := decide (k < (digs a).length)) rfl (fun c4 => ?_) (fun c4 => ?_)
 replace c4 : k < (digs a).length := (of_decide_eq_true c4)
 refine wR (mv (mv (mv (oC (OpW.indexU (i := ((k : Nat) : Int)) (j := k) Tryd.underlying64 Tryd.sizeOf51 rfl (U.mono pv0 l1) rfl (by omega) (by omega) ?_)))))
 intro b4 o3 a1 e1 z1 qb1 qv1
 have bd1 := Fit.getD (U.mono pv0 l1).1 k
 refine oC (lO (v := .int .u32 (((digs a).getD k 0 : Nat) : Int)) Tryd.isAgg51 rfl (g3.sat _ _ qb1) qv1 ?_)
 refine oC (OpW.convI (a := (((digs a).getD k 0 : Nat) : Int)) (r := (((digs a).getD k 0 : Nat) : Int)) Tryd.underlying51 Tryd.underlying77 rfl (conv_u64 (by omega)) ?_)
 refine oC (OpW.add (a := ((c : Nat) : Int)) (b := (((digs a).getD k 0 : Nat) : Int)) (r := ((c + ((digs a).getD k 0) : Nat) : Int)) rfl rfl (add_u64 (a := c) (b := (digs a).getD k 0) (by omega)) (ma (oN ?_)))
 exact ⟨rfl, _, named ⟨rfl, rfl, rfl, (natv (by omega)), rfl, rfl, rfl, trivial⟩⟩
 replace c4 : ¬ (k < (digs a).length) := (of_decide_eq_false c4)
 refine Wp.skip ?_
 exact ⟨rfl, _, named ⟨rfl, rfl, rfl, (natv (by rw [getD_ge (by omega)]; rfl)), rfl, rfl, rfl, trivial⟩⟩
 rintro ρ3 w3 ⟨rfl, ρ4, rfl⟩
 refine wS (sr (mv (mv (oC (OpW.lenS Tryd.underlying64 (l := (digs b).length) rfl ?_)))))
 refine oC (OpW.lss (a := ((k : Nat) : Int)) (b := (((digs b).length : Nat) : Int)) (r := decide (k < (digs b).length)) rfl rfl (lt_nat (a := k) (b := (digs b).length)) (oN (Wp.cut (fun ρ' w' => w2 = w' ∧ ∃ ρb, ρ' = upds ρb [(0, .slice b1 ((digs a).length) c1), (1, .slice b2 ((digs b).length) c2), (5, .slice (some ⟨b3, 0, none⟩) (max ((digs a).length) ((digs b).length) + 1) (max ((digs a).length) ((digs b).length) + 1)), (6, .int .u64 ((c + (digs a).getD k 0 + (digs b).getD k 0 : Nat) : Int)), (7, .int .i64 ((k : Nat) : Int)), (16, .int .i64 ((max ((digs a).length) ((digs b).length) + 1 : Nat) : Int)), (17, .int .i64 ((k : Nat) : Int))]) ?_ ?_)))
 refine Wp.cond (t := decide (k < (digs b).length)) rfl (fun c5 => ?_) (fun c5 => ?_)
 replace c5 : k < (digs b).length := (of_decide_eq_true c5)
 refine wR (mv (mv (mv (oC (OpW.indexU (i := ((k : Nat) : Int)) (j := k) Tryd.underlying64 Tryd.sizeOf51 rfl (U.mono pv1 l1) rfl (by omega) (by omega) ?_)))))
 intro b5 o4 a2 e2 z2 qb2 qv2
 have bd2 := Fit.getD (U.mono pv1 l1).1 k
 refine oC (lO (v := .int .u32 (((digs b).getD k 0 : Nat) : Int)) Tryd.isAgg51 rfl (g3.sat _ _ qb2) qv2 ?_)
 refine oC (OpW.convI (a := (((digs b).getD k 0 : Nat) : Int)) (r := (((digs b).getD k 0 : Nat) : Int)) Tryd.underlying51 Tryd.underlying77 rfl (conv_u64 (by omega)) ?_)
 refine oC (OpW.add (a := ((c + (digs a).getD k 0 : Nat) : Int)) (b := (((digs b).getD k 0 : Nat) : Int)) (r := ((c + (digs a).getD k 0 + ((digs b).getD k 0) : Nat) : Int)) rfl rfl (add_u64 (a := c + (digs a).getD k 0) (b := (digs b).getD k 0) (by omega)) (ma (oN ?_)))
 exact ⟨rfl, _, named ⟨rfl, rfl, rfl, (natv (by omega)), rfl, rfl, rfl, trivial⟩⟩
 replace c5 : ¬ (k < (digs b).length) := (of_decide_eq_false c5)
 refine Wp.skip ?_
 exact ⟨rfl, _, named ⟨rfl, rfl, rfl, (natv (by rw [getD_ge (l := digs b) (by omega)]; rfl)), rfl, rfl, rfl, trivial⟩⟩
 rintro ρ5 w4 ⟨rfl, ρ6, rfl⟩
 refine sr (mv (mv (mv (oC (OpW.convI (a := ((c + (digs a).getD k 0 + (digs b).getD k 0 : Nat) : Int)) (r := (((c + (digs a).getD k 0 + (digs b).getD k 0) % 4294967296 : Nat) : Int)) Tryd.underlying77 Tryd.underlying51 rfl conv_u32 ?_)))))
 refine oC (iA (i := ((k : Nat) : Int)) (o := k) Tryd.underlying22 Tryd.sizeOf51 rfl rfl (by omega) (by omega) ?_)
 refine oC (OpW.store1 (v := .int .u32 (((c + (digs a).getD k 0 + (digs b).getD k 0) % 4294967296 : Nat) : Int)) Tryd.sizeOf51 rfl rfl rfl o2 (ua_lt (by omega)) ?_)
 intro w5 p1
 have o5 : w5.heap[b3]? = some (.cells (ua .u32 (out.set k ((c + (digs a).getD k 0 + (digs b).getD k 0) % 4294967296))) 51 (0, 0)) := by rw [p1.at_, ua_set]
 refine oN (fg [(0, .slice b1 ((digs a).length) c1), (1, .slice b2 ((digs b).length) c2), (5, .slice (some ⟨b3, 0, none⟩) (max ((digs a).length) ((digs b).length) + 1) (max ((digs a).length) ((digs b).length) + 1)), (6, .int .u64 ((c + (digs a).getD k 0 + (digs b).getD k 0 : Nat) : Int)), (16, .int .i64 ((max ((digs a).length) ((digs b).length) + 1 : Nat) : Int)), (17, .int .i64 ((k : Nat) : Int))] rfl (fun ρ7 => (wR (mv (oC (OpW.shift (a := ((c + (digs a).getD k 0 + (digs b).getD k 0 : Nat) : Int)) (b := ((32 : Nat) : Int)) (r := (((c + (digs a).getD k 0 + (digs b).getD k 0) / 2 ^ 32 : Nat) : Int)) (.inr rfl) rfl rfl (shr_nat (by decide)) (ma (oN (wR (oC (OpW.add (a := ((k : Nat) : Int)) (b := ((1 : Nat) : Int)) (r := ((k + 1 : Nat) : Int)) rfl rfl (add_i64 (a := k) (b := 1) (by omega)) (mv (oN ?_)))))))))))))
 have g4 := g3.put p1 n2 lo2
 exact ⟨(k + 1, (c + (digs a).getD k 0 + (digs b).getD k 0) / 2 ^ 32, out.set k ((c + (digs a).getD k 0 + (digs b).getD k 0) % 4294967296)), ⟨_, h1, nm (by exact rfl), g4, l1, o5, n2, (by omega), (by rw [List.length_set]; exact hl), (hf.set _ _ (Nat.mod_lt _ (by decide))), (by have : (2:Nat)^32 = 4294967296 := rfl; omega), (add_step (by omega) hv)⟩, (by dsimp only; omega)⟩
 replace c3 : ¬ (k < max ((digs a).length) ((digs b).length) + 1) := (of_decide_eq_false c3)
 refine Wp.exit (sr (mv ?_))
 obtain ⟨h2, g5, l2, qb3, fr1⟩ := freeze_ex g3 o2 n2 lo2
 have f1 := U.own (l := out) qb3 hf (cap := max ((digs a).length) ((digs b).length) + 1) hl (Nat.le_refl _)
 refine oC (cF Tryd.call103 (trimmed_c (l := out) g5.sat f1 (by omega)) rfl ?_)
 intro r1 h3 w6 gr2 hr1
 obtain ⟨b6, c6, rfl, k3⟩ := N.shape hr1
 refine ma (oN (Wp.ret (fin1_ret rfl (resOf_tmp (v := .slice b6 ((digs (val out)).length) c6) rfl) ?_)))
 have g6 := g5.trans gr2
 refine ⟨h3, g6, ?_⟩
 exact N.cast (add_close (by omega) hl hv) hr1
theorem mul_c {h : PH} {w : World} {v0 : Value} {a : Nat} {v1 : Value} {b : Nat} (hs : Sat h w) (pv0 : N h v0 a) (pv1 : N h v1 b) (hp0 : sz a ≤ 1073741824) (hp1 : sz b ≤ 1073741824) :
    Calls Tryd.prog 89 #[v0, v1] w (Ret h w fun h' r => N h' r (a * b)) := by
 obtain ⟨b1, c1, rfl, k1⟩ := N.shape pv0
 obtain ⟨b2, c2, rfl, k2⟩ := N.shape pv1
 unfold sz at hp0 hp1
 refine calls_ear (vs := [.slice b1 ((digs a).length) c1, .slice b2 ((digs b).length) c2]) Tryd.func89 rfl rfl ?_
 have g1 := Gr.refl hs
 refine sr (ma (oN (sr (mv (oC (OpW.lenS Tryd.underlying64 (l := (digs a).length) rfl (mv (oC (OpW.lenS Tryd.underlying64 (l := (digs b).length) rfl ?_)))))))))
 refine oC (OpW.add (a := (((digs a).length : Nat) : Int)) (b := (((digs b).length : Nat) : Int)) (r := (((digs a).length + ((digs b).length) : Nat) : Int)) rfl rfl (add_i64 (a := (digs a).length) (b := (digs b).length) (by omega)) ?_)
 refine oC (OpW.makeO (l := (digs a).length + ((digs b).length)) (c := (digs a).length + ((digs b).length)) (i := Tryd.t51) (arr := (ua .u32 (List.replicate ((digs a).length + ((digs b).length)) 0))) g1.sat Tryd.underlying22 Tryd.type51 rfl rfl rfl (Nat.le_refl _) (by simp only [Tryd.t51]; omega) (by omega) (made_ua _ _) ?_)
 intro b3 w1 gr1 n1 lo1 o1
 have lo2 := Nat.le_trans g1.ext.size lo1
 refine ma (oN (wS (sr (mv (oC (OpW.lenS Tryd.underlying64 (l := (digs a).length) rfl (mv (oN (Wp.block ?_)))))))))
 have g2 := g1.trans gr1
 refine Wp.loop (σ := Nat × List Nat) (fun s (ρ : Env) (w' : World) => match s with | (i, out) => ∃ ρb h', ρ = upds ρb [(1, .slice b2 ((digs b).length) c2), (5, .slice (some ⟨b3, 0, none⟩) ((digs a).length + ((digs b).length)) ((digs a).length + ((digs b).length))), (17, .slice b1 ((digs a).length) c1), (18, .int .i64 (((digs a).length : Nat) : Int)), (19, .int .i64 ((i : Nat) : Int))] ∧ Gr h w h' w' ∧ PH.le h h' ∧ w'.heap[b3]? = some (.cells (ua .u32 out) 51 (0, 0)) ∧ h' b3 = none ∧ (i ≤ (digs a).length) ∧ (out.length = (digs a).length + (digs b).length) ∧ (Fit out) ∧ (∀ t, i + (digs b).length ≤ t → out.getD t 0 = 0) ∧ (val out = val ((digs a).take i) * b)) (fun s => match s with | (i, out) => (digs a).length - i) (0, List.replicate ((digs a).length + (digs b).length) 0) ?_ ?_
 exact ⟨_, h, nm (by exact rfl), g2, PH.le.refl _, o1, n1, (by omega), List.length_replicate, Fit.replicate _, (fun t _ => getD_replicate _ t), (by simp [val, val_replicate])⟩
 rintro ⟨i, out⟩ ρ1 w2 ⟨ρ2, h1, rfl, g3, l1, o2, n2, hi, hl, hf, hz, hv⟩
 have bdx := (digs_fit a).getD i
 refine sr (oC (OpW.lss (a := ((i : Nat) : Int)) (b := (((digs a).length : Nat) : Int)) (r := decide (i < (digs a).length)) rfl rfl (lt_nat (a := i) (b := (digs a).length)) (oN (wS (Wp.cond (t := decide (i < (digs a).length)) rfl (fun c3 => ?_) (fun c3 => ?_))))))
 replace c3 : i < (digs a).length := (of_decide_eq_true c3)
 refine Wp.skip (wS (Wp.block (sr (mv (oC (OpW.indexU (i := ((i : Nat) : Int)) (j := i) Tryd.underlying64 Tryd.sizeOf51 rfl (U.mono pv0 l1) rfl (by omega) (by omega) ?_))))))
 intro b4 o3 a1 e1 z1 qb1 qv1
 have bd1 := Fit.getD (U.mono pv0 l1).1 i
 refine oC (lO (v := .int .u32 (((digs a).getD i 0 : Nat) : Int)) Tryd.isAgg51 rfl (g3.sat _ _ qb1) qv1 (ma (ma (oN (wS (fg [(1, .slice b2 ((digs b).length) c2), (5, .slice (some ⟨b3, 0, none⟩) ((digs a).length + ((digs b).length)) ((digs a).length + ((digs b).length))), (6, .int .i64 ((i : Nat) : Int)), (7, .int .u32 (((digs a).getD i 0 : Nat) : Int)), (17, .slice b1 ((digs a).length) c1), (18, .int .i64 (((digs a).length : Nat) : Int)), (19, .int .i64 ((i : Nat) : Int))] rfl (fun ρ3 => (wR (ma (oN (wS (sr (mv (oC (OpW.lenS Tryd.underlying64 (l := (digs b).length) rfl (mv (oN (Wp.block (Wp.loop (σ := Nat × Nat × List Nat) (fun s (ρ : Env) (w' : World) => match s with | (j, c, o) => ∃ ρb h', ρ = upds ρb [(1, .slice b2 ((digs b).length) c2), (5, .slice (some ⟨b3, 0, none⟩) ((digs a).length + ((digs b).length)) ((digs a).length + ((digs b).length))), (6, .int .i64 ((i : Nat) : Int)), (7, .int .u32 (((digs a).getD i 0 : Nat) : Int)), (8, .int .u64 ((c : Nat) : Int)), (17, .slice b1 ((digs a).length) c1), (18, .int .i64 (((digs a).length : Nat) : Int)), (19, .int .i64 ((i : Nat) : Int)), (24, .slice b2 ((digs b).length) c2), (25, .int .i64 (((digs b).length : Nat) : Int)), (26, .int .i64 ((j : Nat) : Int))] ∧ Gr h w h' w' ∧ PH.le h1 h' ∧ w'.heap[b3]? = some (.cells (ua .u32 o) 51 (0, 0)) ∧ h' b3 = none ∧ (j ≤ (digs b).length) ∧ (o.length = (digs a).length + (digs b).length) ∧ (Fit o) ∧ (c < 4294967296) ∧ (∀ t, i + (digs b).length ≤ t → o.getD t 0 = 0) ∧ (val o + c * B32 ^ (i + j) = val ((digs a).take i) * b + (digs a).getD i 0 * val ((digs b).take j) * B32 ^ i)) (fun s => match s with | (j, c, o) => (digs b).length - j) (0, 0, out) ?_ ?_)))))))))))))))))))
 exact ⟨_, h1, nm (by exact rfl), g3, PH.le.refl _, o2, n2, (by omega), hl, hf, (by omega), hz, (by rw [hv]; simp [val])⟩
 rintro ⟨j, c, o⟩ ρ4 w3 ⟨ρ5, h2, rfl, g4, l2, o4, n3, hj, hl2, hf2, hc, hz2, hv2⟩
 have bdy := (digs_fit b).getD j
 have bdo := hf2.getD (i + j)
 have bxy := mul_bd bdx bdy
 refine wS (fg [(1, .slice b2 ((digs b).length) c2), (5, .slice (some ⟨b3, 0, none⟩) ((digs a).length + ((digs b).length)) ((digs a).length + ((digs b).length))), (6, .int .i64 ((i : Nat) : Int)), (7, .int .u32 (((digs a).getD i 0 : Nat) : Int)), (8, .int .u64 ((c : Nat) : Int)), (17, .slice b1 ((digs a).length) c1), (18, .int .i64 (((digs a).length : Nat) : Int)), (19, .int .i64 ((i : Nat) : Int)), (24, .slice b2 ((digs b).length) c2), (25, .int .i64 (((digs b).length : Nat) : Int)), (26, .int .i64 ((j : Nat) : Int))] rfl (fun ρ6 => (wR (oC (OpW.lss (a := ((j : Nat) : Int)) (b := (((digs b).length : Nat) : Int)) (r := decide (j < (digs b).length)) rfl rfl (lt_nat (a := j) (b := (digs b).length)) (oN (wS (Wp.cond (t := decide (j < (digs b).length)) rfl (fun c4 => ?_) (fun c4 => ?_)))))))))
 replace c4 : j < (digs b).length := (of_decide_eq_true c4)
 refine Wp.skip (wS (Wp.block (wS (fg [(1, .slice b2 ((digs b).length) c2), (5, .slice (some ⟨b3, 0, none⟩) ((digs a).length + ((digs b).length)) ((digs a).length + ((digs b).length))), (6, .int .i64 ((i : Nat) : Int)), (7, .int .u32 (((digs a).getD i 0 : Nat) : Int)), (8, .int .u64 ((c : Nat) : Int)), (17, .slice b1 ((digs a).length) c1), (18, .int .i64 (((digs a).length : Nat) : Int)), (19, .int .i64 ((i : Nat) : Int)), (24, .slice b2 ((digs b).length) c2), (25, .int .i64 (((digs b).length : Nat) : Int)), (26, .int .i64 ((j : Nat) : Int))] rfl (fun ρ7 => (wR (mv (oC (OpW.indexU (i := ((j : Nat) : Int)) (j := j) Tryd.underlying64 Tryd.sizeOf51 rfl (U.mono pv1 (l1.trans l2)) rfl (by omega) (by omega) ?_)))))))))
 intro b5 o5 a2 e2 z2 qb2 qv2
 have bd2 := Fit.getD (U.mono pv1 (l1.trans l2)).1 j
 refine oC (lO (v := .int .u32 (((digs b).getD j 0 : Nat) : Int)) Tryd.isAgg51 rfl (g4.sat _ _ qb2) qv2 (ma (ma (oN (wS (fg [(1, .slice b2 ((digs b).length) c2), (5, .slice (some ⟨b3, 0, none⟩) ((digs a).length + ((digs b).length)) ((digs a).length + ((digs b).length))), (6, .int .i64 ((i : Nat) : Int)), (7, .int .u32 (((digs a).getD i 0 : Nat) : Int)), (8, .int .u64 ((c : Nat) : Int)), (9, .int .i64 ((j : Nat) : Int)), (10, .int .u32 (((digs b).getD j 0 : Nat) : Int)), (17, .slice b1 ((digs a).length) c1), (18, .int .i64 (((digs a).length : Nat) : Int)), (19, .int .i64 ((i : Nat) : Int)), (24, .slice b2 ((digs b).length) c2), (25, .int .i64 (((digs b).length : Nat) : Int)), (26, .int .i64 ((j : Nat) : Int))] rfl (fun ρ8 => (wR (mv (mv (oC (OpW.convI (a := (((digs a).getD i 0 : Nat) : Int)) (r := (((digs a).getD i 0 : Nat) : Int)) Tryd.underlying51 Tryd.underlying77 rfl (conv_u64 (by omega)) (mv (oC (OpW.convI (a := (((digs b).getD j 0 : Nat) : Int)) (r := (((digs b).getD j 0 : Nat) : Int)) Tryd.underlying51 Tryd.underlying77 rfl (conv_u64 (by omega)) ?_)))))))))))))))
 refine oC (OpW.mul (a := (((digs a).getD i 0 : Nat) : Int)) (b := (((digs b).getD j 0 : Nat) : Int)) (r := ((((digs a).getD i 0) * ((digs b).getD j 0) : Nat) : Int)) rfl rfl (mul_u64 (a := (digs a).getD i 0) (b := (digs b).getD j 0) (by omega)) (mv (mv (mv (oC (OpW.add (a := ((i : Nat) : Int)) (b := ((j : Nat) : Int)) (r := ((i + j : Nat) : Int)) rfl rfl (add_i64 (a := i) (b := j) (by omega)) ?_))))))
 refine oC (iA (i := ((i + j : Nat) : Int)) (o := i + j) Tryd.underlying22 Tryd.sizeOf51 rfl rfl (by omega) (by omega) ?_)
 refine oC (lO (v := .int .u32 ((o.getD (i + j) 0 : Nat) : Int)) Tryd.isAgg51 rfl o4 (ua_at (by omega)) ?_)
 refine oC (OpW.convI (a := ((o.getD (i + j) 0 : Nat) : Int)) (r := ((o.getD (i + j) 0 : Nat) : Int)) Tryd.underlying51 Tryd.underlying77 rfl (conv_u64 (by omega)) ?_)
 refine oC (OpW.add (a := ((((digs a).getD i 0) * ((digs b).getD j 0) : Nat) : Int)) (b := ((o.getD (i + j) 0 : Nat) : Int)) (r := ((((digs a).getD i 0) * ((digs b).getD j 0) + (o.getD (i + j) 0) : Nat) : Int)) rfl rfl (add_u64 (a := ((digs a).getD i 0) * ((digs b).getD j 0)) (b := o.getD (i + j) 0) (by omega)) ?_)
 refine oC (OpW.add (a := ((c : Nat) : Int)) (b := ((((digs a).getD i 0) * ((digs b).getD j 0) + (o.getD (i + j) 0) : Nat) : Int)) (r := ((c + (((digs a).getD i 0) * ((digs b).getD j 0) + (o.getD (i + j) 0)) : Nat) : Int)) rfl rfl (add_u64 (a := c) (b := ((digs a).getD i 0) * ((digs b).getD j 0) + (o.getD (i + j) 0)) (by omega)) (ma (oN (wS (fg [(1, .slice b2 ((digs b).length) c2), (5, .slice (some ⟨b3, 0, none⟩) ((digs a).length + ((digs b).length)) ((digs a).length + ((digs b).length))), (6, .int .i64 ((i : Nat) : Int)), (7, .int .u32 (((digs a).getD i 0 : Nat) : Int)), (8, .int .u64 ((c + (((digs a).getD i 0) * ((digs b).getD j 0) + (o.getD (i + j) 0)) : Nat) : Int)), (9, .int .i64 ((j : Nat) : Int)), (17, .slice b1 ((digs a).length) c1), (18, .int .i64 (((digs a).length : Nat) : Int)), (19, .int .i64 ((i : Nat) : Int)), (24, .slice b2 ((digs b).length) c2), (25, .int .i64 (((digs b).length : Nat) : Int)), (26, .int .i64 ((j : Nat) : Int))] rfl (fun ρ9 => (wR (mv (mv (mv (oC (OpW.add (a := ((i : Nat) : Int)) (b := ((j : Nat) : Int)) (r := ((i + j : Nat) : Int)) rfl rfl (add_i64 (a := i) (b := j) (by omega)) (mv (oC (OpW.convI (a := ((c + (((digs a).getD i 0) * ((digs b).getD j 0) + (o.getD (i + j) 0)) : Nat) : Int)) (r := (((c + (((digs a).getD i 0) * ((digs b).getD j 0) + (o.getD (i + j) 0))) % 4294967296 : Nat) : Int)) Tryd.underlying77 Tryd.underlying51 rfl conv_u32 ?_)))))))))))))))
 refine oC (iA (i := ((i + j : Nat) : Int)) (o := i + j) Tryd.underlying22 Tryd.sizeOf51 rfl rfl (by omega) (by omega) ?_)
 refine oC (OpW.store1 (v := .int .u32 (((c + (((digs a).getD i 0) * ((digs b).getD j 0) + (o.getD (i + j) 0))) % 4294967296 : Nat) : Int)) Tryd.sizeOf51 rfl rfl rfl o4 (ua_lt (by omega)) ?_)
 intro w4 p1
 have o6 : w4.heap[b3]? = some (.cells (ua .u32 (o.set (i + j) ((c + (((digs a).getD i 0) * ((digs b).getD j 0) + (o.getD (i + j) 0))) % 4294967296))) 51 (0, 0)) := by rw [p1.at_, ua_set]
 refine oN (fg [(1, .slice b2 ((digs b).length) c2), (5, .slice (some ⟨b3, 0, none⟩) ((digs a).length + ((digs b).length)) ((digs a).length + ((digs b).length))), (6, .int .i64 ((i : Nat) : Int)), (7, .int .u32 (((digs a).getD i 0 : Nat) : Int)), (8, .int .u64 ((c + (((digs a).getD i 0) * ((digs b).getD j 0) + (o.getD (i + j) 0)) : Nat) : Int)), (17, .slice b1 ((digs a).length) c1), (18, .int .i64 (((digs a).length : Nat) : Int)), (19, .int .i64 ((i : Nat) : Int)), (24, .slice b2 ((digs b).length) c2), (25, .int .i64 (((digs b).length : Nat) : Int)), (26, .int .i64 ((j : Nat) : Int))] rfl (fun ρ10 => (wR (mv (oC (OpW.shift (a := ((c + (((digs a).getD i 0) * ((digs b).getD j 0) + (o.getD (i + j) 0)) : Nat) : Int)) (b := ((32 : Nat) : Int)) (r := (((c + (((digs a).getD i 0) * ((digs b).getD j 0) + (o.getD (i + j) 0))) / 2 ^ 32 : Nat) : Int)) (.inr rfl) rfl rfl (shr_nat (by decide)) (ma (oN (fg [(1, .slice b2 ((digs b).length) c2), (5, .slice (some ⟨b3, 0, none⟩) ((digs a).length + ((digs b).length)) ((digs a).length + ((digs b).length))), (6, .int .i64 ((i : Nat) : Int)), (7, .int .u32 (((digs a).getD i 0 : Nat) : Int)), (8, .int .u64 (((c + (((digs a).getD i 0) * ((digs b).getD j 0) + (o.getD (i + j) 0))) / 2 ^ 32 : Nat) : Int)), (17, .slice b1 ((digs a).length) c1), (18, .int .i64 (((digs a).length : Nat) : Int)), (19, .int .i64 ((i : Nat) : Int)), (24, .slice b2 ((digs b).length) c2), (25, .int .i64 (((digs b).length : Nat) : Int)), (26, .int .i64 ((j : Nat) : Int))] rfl (fun ρ11 => (wR (oC (OpW.add (a := ((j : Nat) : Int)) (b := ((1 : Nat) : Int)) (r := ((j + 1 : Nat) : Int)) rfl rfl (add_i64 (a := j) (b := 1) (by omega)) (mv (oN ?_)))))))))))))))
 have g5 := g4.put p1 n3 lo2
 exact ⟨(j + 1, (c + ((digs a).getD i 0 * (digs b).getD j 0 + o.getD (i + j) 0)) / 2 ^ 32, o.set (i + j) ((c + ((digs a).getD i 0 * (digs b).getD j 0 + o.getD (i + j) 0)) % 4294967296)), ⟨_, h2, nm (by exact rfl), g5, l2, o6, n3, (by omega), (by rw [List.length_set]; exact hl2), (hf2.set _ _ (Nat.mod_lt _ (by decide))), (by have : (2:Nat)^32 = 4294967296 := rfl; omega), (fun t ht => by rw [getD_set_ne (by omega)]; exact hz2 t ht), (mul_inner (by omega) hv2)⟩, (by dsimp only; omega)⟩
 replace c4 : ¬ (j < (digs b).length) := (of_decide_eq_false c4)
 refine Wp.exit (fg [(1, .slice b2 ((digs b).length) c2), (5, .slice (some ⟨b3, 0, none⟩) ((digs a).length + ((digs b).length)) ((digs a).length + ((digs b).length))), (6, .int .i64 ((i : Nat) : Int)), (8, .int .u64 ((c : Nat) : Int)), (17, .slice b1 ((digs a).length) c1), (18, .int .i64 (((digs a).length : Nat) : Int)), (19, .int .i64 ((i : Nat) : Int))] rfl (fun ρ12 => (wR (mv (mv (mv (oC (OpW.lenS Tryd.underlying64 (l := (digs b).length) rfl ?_))))))))
 refine oC (OpW.add (a := ((i : Nat) : Int)) (b := (((digs b).length : Nat) : Int)) (r := ((i + ((digs b).length) : Nat) : Int)) rfl rfl (add_i64 (a := i) (b := (digs b).length) (by omega)) (mv (oC (OpW.convI (a := ((c : Nat) : Int)) (r := ((c : Nat) : Int)) Tryd.underlying77 Tryd.underlying51 rfl (conv_u32' (by omega)) ?_))))
 refine oC (iA (i := ((i + ((digs b).length) : Nat) : Int)) (o := i + ((digs b).length)) Tryd.underlying22 Tryd.sizeOf51 rfl rfl (by omega) (by omega) ?_)
 refine oC (OpW.store1 (v := .int .u32 ((c : Nat) : Int)) Tryd.sizeOf51 rfl rfl rfl o4 (ua_lt (by omega)) ?_)
 intro w5 p2
 have o7 : w5.heap[b3]? = some (.cells (ua .u32 (o.set (i + ((digs b).length)) c)) 51 (0, 0)) := by rw [p2.at_, ua_set]
 refine oN (fg [(1, .slice b2 ((digs b).length) c2), (5, .slice (some ⟨b3, 0, none⟩) ((digs a).length + ((digs b).length)) ((digs a).length + ((digs b).length))), (17, .slice b1 ((digs a).length) c1), (18, .int .i64 (((digs a).length : Nat) : Int)), (19, .int .i64 ((i : Nat) : Int))] rfl (fun ρ13 => (wR (oC (OpW.add (a := ((i : Nat) : Int)) (b := ((1 : Nat) : Int)) (r := ((i + 1 : Nat) : Int)) rfl rfl (add_i64 (a := i) (b := 1) (by omega)) (mv (oN ?_)))))))
 have g6 := g4.put p2 n3 lo2
 exact ⟨(i + 1, o.set (i + (digs b).length) c), ⟨_, h2, nm (by exact rfl), g6, (l1.trans l2), o7, n3, (by omega), (by rw [List.length_set]; exact hl2), (hf2.set _ _ (by omega)), (fun t ht => by rw [getD_set_ne (by omega)]; exact hz2 t (by omega)), (mul_outer (by omega) (by omega) (hz2 _ (by omega)) hv2)⟩, (by dsimp only; omega)⟩
 replace c3 : ¬ (i < (digs a).length) := (of_decide_eq_false c3)
 refine Wp.exit (sr (mv ?_))
 obtain ⟨h3, g7, l3, qb3, fr1⟩ := freeze_ex g3 o2 n2 lo2
 have f1 := U.own (l := out) qb3 hf (cap := (digs a).length + ((digs b).length)) hl (Nat.le_refl _)
 refine oC (cF Tryd.call103 (trimmed_c (l := out) g7.sat f1 (by omega)) rfl ?_)
 intro r1 h4 w6 gr2 hr1
 obtain ⟨b6, c5, rfl, k3⟩ := N.shape hr1
 refine ma (oN (Wp.ret (fin1_ret rfl (resOf_tmp (v := .slice b6 ((digs (val out)).length) c5) rfl) ?_)))
 have g8 := g7.trans gr2
 refine ⟨h4, g8, ?_⟩
 exact N.cast (by rw [hv, val_take_all (by omega), val_digs]) hr1
theorem over_c {h : PH} {w : World} {v0 : Value} {a : Nat} {d : Nat} (hs : Sat h w) (pv0 : N h v0 a) (hp0 : sz a ≤ 1073741824) (hp1 : d ≠ 0) (hp2 : d < 4294967296) :
    Calls Tryd.prog 117 #[v0, .int .u32 ((d : Nat) : Int)] w (Ret h w fun h' r => ∃ x1 x2, r = .tuple #[x1, x2] ∧ N h' x1 (a / d) ∧ x2 = .int .u32 ((a % d : Nat) : Int)) := by
 obtain ⟨b1, c1, rfl, k1⟩ := N.shape pv0
 unfold sz at hp0
 refine calls_ear (vs := [.slice b1 ((digs a).length) c1, .int .u32 ((d : Nat) : Int)]) Tryd.func117 rfl rfl ?_
 have g1 := Gr.refl hs
 refine sr (ma (ma (oN (sr (mv (oC (OpW.lenS Tryd.underlying64 (l := (digs a).length) rfl ?_)))))))
 refine oC (OpW.makeO (l := (digs a).length) (c := (digs a).length) (i := Tryd.t51) (arr := (ua .u32 (List.replicate ((digs a).length) 0))) g1.sat Tryd.underlying22 Tryd.type51 rfl rfl rfl (Nat.le_refl _) (by simp only [Tryd.t51]; omega) (by omega) (made_ua _ _) ?_)
 intro b2 w1 gr1 n1 lo1 o1
 have lo2 := Nat.le_trans g1.ext.size lo1
 refine ma (oN (sr (ma (oN (wS (sr (mv (oC (OpW.lenS Tryd.underlying64 (l := (digs a).length) rfl ?_)))))))))
 refine oC (OpW.sub (a := (((digs a).length : Nat) : Int)) (b := ((1 : Nat) : Int)) (r := ((((digs a).length : Nat) : Int) - ((1 : Nat) : Int))) rfl rfl (in_i64 (by omega)) (ma (oN (Wp.block ?_))))
 have g2 := g1.trans gr1
 refine Wp.loop (σ := Nat × Nat × List Nat) (fun s (ρ : Env) (w' : World) => match s with | (k, r, out) => ∃ ρb h', ρ = upds ρb [(0, .slice b1 ((digs a).length) c1), (1, .int .u32 ((d : Nat) : Int)), (6, .slice (some ⟨b2, 0, none⟩) ((digs a).length) ((digs a).length)), (7, .int .u64 ((r : Nat) : Int)), (8, .int .i64 (((k : Nat) : Int) - 1))] ∧ Gr h w h' w' ∧ PH.le h h' ∧ w'.heap[b2]? = some (.cells (ua .u32 out) 51 (0, 0)) ∧ h' b2 = none ∧ (k ≤ (digs a).length) ∧ (r < d) ∧ (out.length = (digs a).length) ∧ (Fit out) ∧ (val (out.drop k) * d + r = val ((digs a).drop k))) (fun s => match s with | (k, r, out) => k) ((digs a).length, 0, List.replicate ((digs a).length) 0) ?_ ?_
 exact ⟨_, h, nm (by exact rfl), g2, PH.le.refl _, o1, n1, (by omega), (by omega), List.length_replicate, Fit.replicate _, (by rw [List.drop_of_length_le (by simp), List.drop_of_length_le (Nat.le_refl _)]; simp [val])⟩
 rintro ⟨k, r, out⟩ ρ1 w2 ⟨ρ2, h1, rfl, g3, l1, o2, n2, hk, hr, hl, hf, hv⟩
 have bd := (digs_fit a).getD (k - 1)
 have eo := or_shift r ((digs a).getD (k - 1) 0) bd
 have rb : r * 2 ^ 32 + (digs a).getD (k - 1) 0 < d * 4294967296 := over_bd hr bd
 have rs := sh_bd hr hp2
 have ro := sh_bd2 hr hp2 bd
 refine wS (sr (mv (oC (OpW.geq (a := (((k : Nat) : Int) - 1)) (b := ((0 : Nat) : Int)) (r := decide (((0 : Nat) : Int) ≤ (((k : Nat) : Int) - 1))) rfl rfl rfl (oN (Wp.cond (t := decide (((0 : Nat) : Int) ≤ (((k : Nat) : Int) - 1))) rfl (fun c2 => ?_) (fun c2 => ?_)))))))
 replace c2 : ((0 : Nat) : Int) ≤ (((k : Nat) : Int) - 1) := (of_decide_eq_true c2)
 refine Wp.skip (wS (Wp.block (sr (mv (oC (OpW.shift (a := ((r : Nat) : Int)) (b := ((32 : Nat) : Int)) (r := ((r * 2 ^ 32 : Nat) : Int)) (.inl rfl) rfl rfl (shl_nat (by decide) (conv_u64 (Nat.le_of_lt_succ rs))) (mv (mv (oC (OpW.indexU (i := (((k : Nat) : Int) - 1)) (j := k - 1) Tryd.underlying64 Tryd.sizeOf51 rfl (U.mono pv0 l1) rfl (by omega) (by omega) ?_))))))))))
 intro b3 o3 a1 e1 z1 qb1 qv1
 have bd1 := Fit.getD (U.mono pv0 l1).1 (k - 1)
 refine oC (lO (v := .int .u32 (((digs a).getD (k - 1) 0 : Nat) : Int)) Tryd.isAgg51 rfl (g3.sat _ _ qb1) qv1 ?_)
 refine oC (OpW.convI (a := (((digs a).getD (k - 1) 0 : Nat) : Int)) (r := (((digs a).getD (k - 1) 0 : Nat) : Int)) Tryd.underlying51 Tryd.underlying77 rfl (conv_u64 (by omega)) ?_)
 refine oC (OpW.bits (a := ((r * 2 ^ 32 : Nat) : Int)) (b := (((digs a).getD (k - 1) 0 : Nat) : Int)) (r := (((r * 2 ^ 32) ||| ((digs a).getD (k - 1) 0) : Nat) : Int)) (.inr (.inl rfl)) rfl rfl (or_u64 (a := r * 2 ^ 32) (b := (digs a).getD (k - 1) 0) rs (Nat.lt_trans bd (by decide))) (ma (oN (wS (fg [(0, .slice b1 ((digs a).length) c1), (1, .int .u32 ((d : Nat) : Int)), (6, .slice (some ⟨b2, 0, none⟩) ((digs a).length) ((digs a).length)), (7, .int .u64 (((r * 2 ^ 32) ||| ((digs a).getD (k - 1) 0) : Nat) : Int)), (8, .int .i64 (((k : Nat) : Int) - 1))] rfl (fun ρ3 => (wR (mv (mv (mv (mv (oC (OpW.convI (a := ((d : Nat) : Int)) (r := ((d : Nat) : Int)) Tryd.underlying51 Tryd.underlying77 rfl (conv_u64 (by omega)) ?_)))))))))))))
 refine oC (OpW.quo (a := (((r * 2 ^ 32) ||| ((digs a).getD (k - 1) 0) : Nat) : Int)) (b := ((d : Nat) : Int)) (r := ((((r * 2 ^ 32) ||| ((digs a).getD (k - 1) 0)) / d : Nat) : Int)) rfl rfl (by omega) (quo_u64 (a := (r * 2 ^ 32) ||| ((digs a).getD (k - 1) 0)) (b := d) (Nat.le_of_lt_succ ro)) ?_)
 refine oC (OpW.convI (a := ((((r * 2 ^ 32) ||| ((digs a).getD (k - 1) 0)) / d : Nat) : Int)) (r := ((((r * 2 ^ 32) ||| ((digs a).getD (k - 1) 0)) / d : Nat) : Int)) Tryd.underlying77 Tryd.underlying51 rfl (conv_u32' (by rw [eo]; exact Nat.div_lt_of_lt_mul rb)) ?_)
 refine oC (iA (i := (((k : Nat) : Int) - 1)) (o := k - 1) Tryd.underlying22 Tryd.sizeOf51 rfl rfl (by omega) (by omega) ?_)
 refine oC (OpW.store1 (v := .int .u32 ((((r * 2 ^ 32) ||| ((digs a).getD (k - 1) 0)) / d : Nat) : Int)) Tryd.sizeOf51 rfl rfl rfl o2 (ua_lt (by omega)) ?_)
 intro w3 p1
 have o4 : w3.heap[b2]? = some (.cells (ua .u32 (out.set (k - 1) (((r * 2 ^ 32) ||| ((digs a).getD (k - 1) 0)) / d))) 51 (0, 0)) := by rw [p1.at_, ua_set]
 refine oN (fg [(0, .slice b1 ((digs a).length) c1), (1, .int .u32 ((d : Nat) : Int)), (6, .slice (some ⟨b2, 0, none⟩) ((digs a).length) ((digs a).length)), (7, .int .u64 (((r * 2 ^ 32) ||| ((digs a).getD (k - 1) 0) : Nat) : Int)), (8, .int .i64 (((k : Nat) : Int) - 1))] rfl (fun ρ4 => (wR (mv (mv (oC (OpW.convI (a := ((d : Nat) : Int)) (r := ((d : Nat) : Int)) Tryd.underlying51 Tryd.underlying77 rfl (conv_u64 (by omega)) ?_)))))))
 refine oC (OpW.rem (a := (((r * 2 ^ 32) ||| ((digs a).getD (k - 1) 0) : Nat) : Int)) (b := ((d : Nat) : Int)) (r := ((((r * 2 ^ 32) ||| ((digs a).getD (k - 1) 0)) % d : Nat) : Int)) rfl rfl (by omega) rem_nat (ma (oN (wR (mv (oC (OpW.sub (a := (((k : Nat) : Int) - 1)) (b := ((1 : Nat) : Int)) (r := ((((k : Nat) : Int) - 1) - ((1 : Nat) : Int))) rfl rfl (in_i64 (by omega)) (ma (oN ?_)))))))))
 have g4 := g3.put p1 n2 lo2
 exact ⟨(k - 1, (r * 2 ^ 32 ||| (digs a).getD (k - 1) 0) % d, out.set (k - 1) ((r * 2 ^ 32 ||| (digs a).getD (k - 1) 0) / d)), ⟨_, h1, named ⟨(by exact rfl), (by exact rfl), (by exact rfl), (by exact rfl), (by exact (intv (by omega))), trivial⟩, g4, l1, o4, n2, (by omega), (Nat.mod_lt _ (by omega)), (by rw [List.length_set]; exact hl), (hf.set _ _ (by rw [eo]; exact Nat.div_lt_of_lt_mul rb)), (by rw [eo]; exact over_step (by omega) (by omega) (by omega) hv)⟩, (by dsimp only; omega)⟩
 replace c2 : ¬ (((0 : Nat) : Int) ≤ (((k : Nat) : Int) - 1)) := (of_decide_eq_false c2)
 refine Wp.exit (sr (mv ?_))
 obtain ⟨h2, g5, l2, qb2, fr1⟩ := freeze_ex g3 o2 n2 lo2
 have f1 := U.own (l := out) qb2 hf (cap := (digs a).length) hl (Nat.le_refl _)
 refine oC (cF Tryd.call103 (trimmed_c (l := out) g5.sat f1 (by omega)) rfl ?_)
 intro r1 h3 w4 gr2 hr1
 obtain ⟨b4, c3, rfl, k2⟩ := N.shape hr1
 refine mv (oC (OpW.convI (a := ((r : Nat) : Int)) (r := ((r : Nat) : Int)) Tryd.underlying77 Tryd.underlying51 rfl (conv_u32' (by omega)) (ma (ma (oN (Wp.ret (fin2_ret rfl (resOf_tmp (v := .slice b4 ((digs (val out)).length) c3) rfl) (resOf_tmp (v := .int .u32 ((r : Nat) : Int)) rfl) ?_)))))))
 have g6 := g5.trans gr2
 refine ⟨h3, g6, ?_⟩
 exact ⟨_, _, rfl, N.cast (over_q (by omega) hr hv) hr1, natv (over_r (by omega) hr hv)⟩
theorem cloneNO_c {h : PH} {w : World} {v0 : Value} {l : List Nat} (hs : Sat h w) (pv0 : U h v0 l) (hp0 : l.length ≤ 1099511627776) (hp1 : l ≠ []) :
    Calls Tryd.prog 114 #[v0] w (Ret h w fun h' r => ∃ b c z, r = .slice (some ⟨b, 0, none⟩) l.length c ∧ h b = none ∧ w.heap.size ≤ b ∧ h' b = some (.cells (uaz .u32 l z) 51 (0, 0)) ∧ l.length ≤ c) := by
 obtain ⟨b1, c1, rfl, k1⟩ := U.shape pv0
 refine calls_ear (vs := [.slice b1 l.length c1]) Tryd.func114 rfl rfl ?_
 have g1 := Gr.refl hs
 refine sr (ma (oN (wS (sr (mv (oC (OpW.eqlNil (r := Option.isNone b1) Tryd.underlying64 rfl rfl rfl (oN (Wp.cond (t := Option.isNone b1) rfl (fun c2 => ?_) (fun c2 => ?_))))))))))
 replace c2 : Option.isNone b1 = true := c2
 exact absurd (U.isNone pv0 c2) hp1
 replace c2 : ¬ (Option.isNone b1 = true) := (raw_f c2)
 refine Wp.skip (sr (oC (OpW.buildSliceO (arr := #[]) g1.sat Tryd.underlying64 Tryd.zeroValue51 Tryd.sizeOf51 rfl rfl ?_)))
 intro b2 w1 gr1 n1 lo1 o1
 have lo2 := Nat.le_trans g1.ext.size lo1
 refine mv ?_
 have g2 := g1.trans gr1
 refine oC (OpW.cloneUO g2.sat Tryd.underlying64 Tryd.type51 rfl rfl rfl rfl rfl pv0 hp1 (by omega) (by simp only [Tryd.t51]; omega) ?_)
 intro r1 h1 w2 gr2 hr1
 refine ma (oN (Wp.ret (fin1_ret rfl (resOf_tmp (v := r1) rfl) ?_)))
 have g3 := g2.trans gr2
 refine ⟨h1, g3, ?_⟩
 exact thaw_close g2 hr1
theorem len32_c {h : PH} {w : World} {n : Nat} (hs : Sat h w) (hp0 : n < 4294967296) :
    Calls Tryd.prog 125 #[.int .u32 ((n : Nat) : Int)] w (Ret h w fun h' r => r = .int .i64 ((bitlen n : Nat) : Int)) := by
 refine calls_ear (vs := [.int .u32 ((n : Nat) : Int)]) Tryd.func125 rfl rfl ?_
 have g1 := Gr.refl hs
 refine sr (ma (oN (wS (sr (mv (oC (OpW.geq (a := ((n : Nat) : Int)) (b := ((65536 : Nat) : Int)) (r := decide (65536 ≤ n)) rfl rfl (le_nat (a := 65536) (b := n)) (oN (Wp.cut (fun ρ' w' => w = w' ∧ ∃ ρb, ρ' = upds ρb [(0, .int .u32 ((hi16 n : Nat) : Int)), (2, .int .i64 ((lo16 n : Nat) : Int))]) ?_ ?_)))))))))
 refine Wp.cond (t := decide (65536 ≤ n)) rfl (fun c1 => ?_) (fun c1 => ?_)
 replace c1 : 65536 ≤ n := (of_decide_eq_true c1)
 refine sr (mv (oC (OpW.shift (a := ((n : Nat) : Int)) (b := ((16 : Nat) : Int)) (r := ((n / 2 ^ 16 : Nat) : Int)) (.inr rfl) rfl rfl (shr_nat (by decide)) (ma (oN (wR (ma (oN ?_))))))))
 exact ⟨rfl, _, named ⟨(natv (by rw [hi16, if_pos (by omega)])), (natv (by rw [lo16, if_pos (by omega)])), trivial⟩⟩
 replace c1 : ¬ (65536 ≤ n) := (of_decide_eq_false c1)
 refine Wp.skip ?_
 exact ⟨rfl, _, named ⟨(natv (by rw [hi16, if_neg (by omega)])), (natv (by rw [lo16, if_neg (by omega)])), trivial⟩⟩
 rintro ρ1 w1 ⟨rfl, ρ2, rfl⟩
 refine wS (sr (mv (oC (OpW.geq (a := ((hi16 n : Nat) : Int)) (b := ((256 : Nat) : Int)) (r := decide (256 ≤ hi16 n)) rfl rfl (le_nat (a := 256) (b := hi16 n)) (oN (Wp.cut (fun ρ' w' => w = w' ∧ ∃ ρb, ρ' = upds ρb [(0, .int .u32 ((hi8 (hi16 n) : Nat) : Int)), (2, .int .i64 ((lo16 n + lo8 (hi16 n) : Nat) : Int))]) ?_ ?_))))))
 refine Wp.cond (t := decide (256 ≤ hi16 n)) rfl (fun c2 => ?_) (fun c2 => ?_)
 replace c2 : 256 ≤ hi16 n := (of_decide_eq_true c2)
 refine sr (mv (oC (OpW.shift (a := ((hi16 n : Nat) : Int)) (b := ((8 : Nat) : Int)) (r := (((hi16 n) / 2 ^ 8 : Nat) : Int)) (.inr rfl) rfl rfl (shr_nat (by decide)) (ma (oN (wR (mv (oC (OpW.add (a := ((lo16 n : Nat) : Int)) (b := ((8 : Nat) : Int)) (r := ((lo16 n + 8 : Nat) : Int)) rfl rfl (add_i64 (a := lo16 n) (b := 8) (by have := lo16_le n; omega)) (ma (oN ?_)))))))))))
 exact ⟨rfl, _, named ⟨(natv (by rw [hi8, if_pos (by omega)])), (natv (by rw [lo8, if_pos (by omega)])), trivial⟩⟩
 replace c2 : ¬ (256 ≤ hi16 n) := (of_decide_eq_false c2)
 refine Wp.skip ?_
 exact ⟨rfl, _, named ⟨(natv (by rw [hi8, if_neg (by omega)])), (natv (by rw [lo8, if_neg (by omega)]; rfl)), trivial⟩⟩
 rintro ρ3 w2 ⟨rfl, ρ4, rfl⟩
 refine sr (mv (mv (oC (OpW.convI (a := ((hi8 (hi16 n) : Nat) : Int)) (r := ((hi8 (hi16 n) : Nat) : Int)) Tryd.underlying51 Tryd.underlying5 rfl (conv_u8' (hi_lt hp0)) ?_))))
 refine oC (OpW.indexStr' (s := len8) (i := hi8 (hi16 n)) (v := ((bitlen (hi8 (hi16 n)) : Nat) : Int)) Tryd.underlying9 rfl rfl (len8_at (hi_lt hp0)) ?_)
 refine oC (OpW.convI (a := ((bitlen (hi8 (hi16 n)) : Nat) : Int)) (r := ((bitlen (hi8 (hi16 n)) : Nat) : Int)) Tryd.underlying5 Tryd.underlying3 rfl (conv_i64 (by have := bitlen_le (hi_lt hp0); omega)) ?_)
 refine oC (OpW.add (a := ((lo16 n + lo8 (hi16 n) : Nat) : Int)) (b := ((bitlen (hi8 (hi16 n)) : Nat) : Int)) (r := ((lo16 n + lo8 (hi16 n) + (bitlen (hi8 (hi16 n))) : Nat) : Int)) rfl rfl (add_i64 (a := lo16 n + lo8 (hi16 n)) (b := bitlen (hi8 (hi16 n))) (by have := lo16_le n; have := lo8_le (hi16 n); have := bitlen_le (hi_lt hp0); omega)) (ma (oN (Wp.ret (fin1_ret rfl (resOf_tmp (v := .int .i64 ((lo16 n + lo8 (hi16 n) + (bitlen (hi8 (hi16 n))) : Nat) : Int)) rfl) ?_)))))
 refine ⟨h, g1, ?_⟩
 exact (natv (len32_eq hp0).symm)
theorem lz32_c {h : PH} {w : World} {n : Nat} (hs : Sat h w) (hp0 : n < 4294967296) :
    Calls Tryd.prog 119 #[.int .u32 ((n : Nat) : Int)] w (Ret h w fun h' r => r = .int .i64 ((32 - bitlen n : Nat) : Int)) := by
 refine calls_ear (vs := [.int .u32 ((n : Nat) : Int)]) Tryd.func119 rfl rfl ?_
 have g1 := Gr.refl hs
 refine sr (ma (oN (sr (mv (oC (cF Tryd.call125 (len32_c (n := n) g1.sat  (by omega)) rfl ?_))))))
 intro r1 h1 w1 gr1 hr1
 subst hr1
 refine oC (OpW.sub (a := ((32 : Nat) : Int)) (b := ((bitlen n : Nat) : Int)) (r := ((32 - (bitlen n) : Nat) : Int)) rfl rfl (sub_i64 (a := 32) (b := bitlen n) (bitlen_lt (s := 32) hp0) (by omega)) (ma (oN (Wp.ret (fin1_ret rfl (resOf_tmp (v := .int .i64 ((32 - (bitlen n) : Nat) : Int)) rfl) ?_)))))
 have g2 := g1.trans gr1
 refine ⟨h1, g2, ?_⟩
 exact rfl
theorem size_c {h : PH} {w : World} {v0 : Value} {a : Nat} (hs : Sat h w) (pv0 : N h v0 a) (hp0 : sz a ≤ 1073741824) :
    Calls Tryd.prog 105 #[v0] w (Ret h w fun h' r => r = .int .i64 ((bitlen a : Nat) : Int)) := by
 obtain ⟨b1, c1, rfl, k1⟩ := N.shape pv0
 unfold sz at hp0
 have hz := sz_eq_zero (n := a)
 unfold sz at hz
 refine calls_ear (vs := [.slice b1 ((digs a).length) c1]) Tryd.func105 rfl rfl ?_
 have g1 := Gr.refl hs
 refine sr (ma (oN (wS (sr (mv (oC (OpW.lenS Tryd.underlying64 (l := (digs a).length) rfl ?_)))))))
 refine oC (OpW.eqlI (a := (((digs a).length : Nat) : Int)) (b := ((0 : Nat) : Int)) (r := decide ((digs a).length = 0)) rfl rfl (eq_nat (a := (digs a).length) (b := 0)) (oN (Wp.cond (t := decide ((digs a).length = 0)) rfl (fun c2 => ?_) (fun c2 => ?_))))
 replace c2 : (digs a).length = 0 := (of_decide_eq_true c2)
 refine sr (ma (oN (Wp.ret (fin1_ret rfl (resOf_tmp (v := .int .i64 ((0 : Nat) : Int)) rfl) ?_))))
 refine ⟨h, g1, ?_⟩
 exact (natv (by rw [hz.1 (by omega), bitlen_zero]))
 replace c2 : ¬ ((digs a).length = 0) := (of_decide_eq_false c2)
 refine Wp.skip (sr (mv (oC (OpW.lenS Tryd.underlying64 (l := (digs a).length) rfl ?_))))
 refine oC (OpW.sub (a := (((digs a).length : Nat) : Int)) (b := ((1 : Nat) : Int)) (r := ((((digs a).length) - 1 : Nat) : Int)) rfl rfl (sub_i64 (a := (digs a).length) (b := 1) (by omega) (by omega)) ?_)
 refine oC (OpW.mul (a := ((32 : Nat) : Int)) (b := ((((digs a).length) - 1 : Nat) : Int)) (r := ((32 * (((digs a).length) - 1) : Nat) : Int)) rfl rfl (mul_i64 (a := 32) (b := ((digs a).length) - 1) (by omega)) (mv (mv (oC (OpW.lenS Tryd.underlying64 (l := (digs a).length) rfl ?_)))))
 refine oC (OpW.sub (a := (((digs a).length : Nat) : Int)) (b := ((1 : Nat) : Int)) (r := ((((digs a).length) - 1 : Nat) : Int)) rfl rfl (sub_i64 (a := (digs a).length) (b := 1) (by omega) (by omega)) ?_)
 refine oC (OpW.indexU (i := ((((digs a).length) - 1 : Nat) : Int)) (j := ((digs a).length) - 1) Tryd.underlying64 Tryd.sizeOf51 rfl pv0 rfl (by omega) (by omega) ?_)
 intro b2 o1 a1 e1 z1 qb1 qv1
 have bd1 := Fit.getD (pv0).1 (((digs a).length) - 1)
 refine oC (lO (v := .int .u32 (((digs a).getD (((digs a).length) - 1) 0 : Nat) : Int)) Tryd.isAgg51 rfl (g1.sat _ _ qb1) qv1 ?_)
 refine oC (cF Tryd.call125 (len32_c (n := (digs a).getD (((digs a).length) - 1) 0) g1.sat  (by omega)) rfl ?_)
 intro r1 h1 w1 gr1 hr1
 subst hr1
 refine oC (OpW.add (a := ((32 * (((digs a).length) - 1) : Nat) : Int)) (b := ((bitlen ((digs a).getD (((digs a).length) - 1) 0) : Nat) : Int)) (r := ((32 * (((digs a).length) - 1) + (bitlen ((digs a).getD (((digs a).length) - 1) 0)) : Nat) : Int)) rfl rfl (add_i64 (a := 32 * (((digs a).length) - 1)) (b := bitlen ((digs a).getD (((digs a).length) - 1) 0)) (by have := bitlen_lt (s := 32) bd1; omega)) (ma (oN (Wp.ret (fin1_ret rfl (resOf_tmp (v := .int .i64 ((32 * (((digs a).length) - 1) + (bitlen ((digs a).getD (((digs a).length) - 1) 0)) : Nat) : Int)) rfl) ?_)))))
 have g2 := g1.trans gr1
 refine ⟨h1, g2, ?_⟩
 exact (natv (bitlen_digs (by omega)).symm)
theorem sub1_c {h : PH} {w : World} {v0 : Value} {a : Nat} {v1 : Value} {b : Nat} (hs : Sat h w) (pv0 : N h v0 a) (pv1 : N h v1 b) (hp0 : sz a ≤ 1073741824) (hp1 : sz b ≤ 1073741824) (hp2 : b ≤ a) (hp3 : a ≠ 0) :
    Calls Tryd.prog 122 #[v0, v1] w (Ret h w fun h' r => N h' r (a - b)) := by
 obtain ⟨b1, c1, rfl, k1⟩ := N.shape pv0
 obtain ⟨b2, c2, rfl, k2⟩ := N.shape pv1
 have hsz := sz_mono hp2
 have hpos := sz_pos hp3
 unfold sz at hp0 hp1 hsz hpos
 have hne : digs a ≠ [] := List.length_pos_iff.1 hpos
 refine calls_ear (vs := [.slice b1 ((digs a).length) c1, .slice b2 ((digs b).length) c2]) Tryd.func122 rfl rfl ?_
 have g1 := Gr.refl hs
 refine sr (ma (oN (sr (mv (oC (cF Tryd.call114 (cloneNO_c (l := digs a) g1.sat pv0 (by omega) (by assumption)) rfl ?_))))))
 intro r1 h1 w1 gr1 hr1
 obtain ⟨b3, c3, z1, rfl, n1, lo1, qb1, k3⟩ := hr1
 have gr2 := gr1.thaw
 have o1 := gr1.sat _ _ qb1
 have lo2 := Nat.le_trans g1.ext.size lo1
 refine ma (oN (sr (ma (oN (wS (sr (mv (oC (OpW.lenS Tryd.underlying64 (l := (digs a).length) rfl (mv (oN (Wp.block ?_))))))))))))
 have g2 := g1.trans gr2
 refine Wp.loop (σ := Nat × Nat × List Nat) (fun s (ρ : Env) (w' : World) => match s with | (k, br, out) => ∃ ρb h', ρ = upds ρb [(1, .slice b2 ((digs b).length) c2), (5, .slice (some ⟨b3, 0, none⟩) ((digs a).length) c3), (6, .int .u64 ((br : Nat) : Int)), (13, .int .i64 (((digs a).length : Nat) : Int)), (14, .int .i64 ((k : Nat) : Int))] ∧ Gr h w h' w' ∧ PH.le h h' ∧ w'.heap[b3]? = some (.cells (uaz .u32 out z1) 51 (0, 0)) ∧ h' b3 = none ∧ (k ≤ (digs a).length) ∧ (out.length = (digs a).length) ∧ (Fit out) ∧ (br ≤ 1) ∧ (out.drop k = (digs a).drop k) ∧ (val (out.take k) + val ((digs b).take k) = val ((digs a).take k) + br * B32 ^ k)) (fun s => match s with | (k, br, out) => (digs a).length - k) (0, 0, digs a) ?_ ?_
 exact ⟨_, h, nm (by exact rfl), g2, PH.le.refl _, o1, n1, (by omega), rfl, digs_fit a, (by omega), rfl, (by simp [val])⟩
 rintro ⟨k, br, out⟩ ρ1 w2 ⟨ρ2, h2, rfl, g3, l1, o2, n2, hk, hl, hf, hb, hd, hv⟩
 have bdb := (digs_fit b).getD k
 have bdo := hf.getD k
 refine sr (oC (OpW.lss (a := ((k : Nat) : Int)) (b := (((digs a).length : Nat) : Int)) (r := decide (k < (digs a).length)) rfl rfl (lt_nat (a := k) (b := (digs a).length)) (oN (wS (Wp.cond (t := decide (k < (digs a).length)) rfl (fun c4 => ?_) (fun c4 => ?_))))))
 replace c4 : k < (digs a).length := (of_decide_eq_true c4)
 refine Wp.skip (wS (Wp.block (sr (mv (ma (oN (sr (mv (mv (oC (iA (i := ((k : Nat) : Int)) (o := k) Tryd.underlying64 Tryd.sizeOf51 rfl rfl (by omega) (by omega) ?_)))))))))))
 refine oC (lO (v := .int .u32 ((out.getD k 0 : Nat) : Int)) Tryd.isAgg51 rfl o2 (uaz_at (by omega)) ?_)
 refine oC (OpW.convI (a := ((out.getD k 0 : Nat) : Int)) (r := ((out.getD k 0 : Nat) : Int)) Tryd.underlying51 Tryd.underlying77 rfl (conv_u64 (by omega)) (ma (oN (wS (fg [(1, .slice b2 ((digs b).length) c2), (5, .slice (some ⟨b3, 0, none⟩) ((digs a).length) c3), (6, .int .u64 ((br : Nat) : Int)), (7, .int .i64 ((k : Nat) : Int)), (8, .int .u64 ((out.getD k 0 : Nat) : Int)), (13, .int .i64 (((digs a).length : Nat) : Int)), (14, .int .i64 ((k : Nat) : Int))] rfl (fun ρ3 => (wR (mv (ma (oN (wS (sr (mv (mv (oC (OpW.lenS Tryd.underlying64 (l := (digs b).length) rfl ?_))))))))))))))))
 refine oC (OpW.lss (a := ((k : Nat) : Int)) (b := (((digs b).length : Nat) : Int)) (r := decide (k < (digs b).length)) rfl rfl (lt_nat (a := k) (b := (digs b).length)) (oN (Wp.cut (fun ρ' w' => w2 = w' ∧ ∃ ρb, ρ' = upds ρb [(1, .slice b2 ((digs b).length) c2), (5, .slice (some ⟨b3, 0, none⟩) ((digs a).length) c3), (7, .int .i64 ((k : Nat) : Int)), (8, .int .u64 ((out.getD k 0 : Nat) : Int)), (9, .int .u64 ((br + (digs b).getD k 0 : Nat) : Int)), (13, .int .i64 (((digs a).length : Nat) : Int)), (14, .int .i64 ((k : Nat) : Int))]) ?_ ?_)))
 refine Wp.cond (t := decide (k < (digs b).length)) rfl (fun c5 => ?_) (fun c5 => ?_)
 replace c5 : k < (digs b).length := (of_decide_eq_true c5)
 refine wR (mv (mv (mv (oC (OpW.indexU (i := ((k : Nat) : Int)) (j := k) Tryd.underlying64 Tryd.sizeOf51 rfl (U.mono pv1 l1) rfl (by omega) (by omega) ?_)))))
 intro b4 o3 a1 e1 z2 qb2 qv1
 have bd1 := Fit.getD (U.mono pv1 l1).1 k
 refine oC (lO (v := .int .u32 (((digs b).getD k 0 : Nat) : Int)) Tryd.isAgg51 rfl (g3.sat _ _ qb2) qv1 ?_)
 refine oC (OpW.convI (a := (((digs b).getD k 0 : Nat) : Int)) (r := (((digs b).getD k 0 : Nat) : Int)) Tryd.underlying51 Tryd.underlying77 rfl (conv_u64 (by omega)) ?_)
 refine oC (OpW.add (a := ((br : Nat) : Int)) (b := (((digs b).getD k 0 : Nat) : Int)) (r := ((br + ((digs b).getD k 0) : Nat) : Int)) rfl rfl (add_u64 (a := br) (b := (digs b).getD k 0) (by omega)) (ma (oN ?_)))
 exact ⟨rfl, _, named ⟨rfl, rfl, rfl, rfl, (natv (by omega)), rfl, rfl, trivial⟩⟩
 replace c5 : ¬ (k < (digs b).length) := (of_decide_eq_false c5)
 refine Wp.skip ?_
 exact ⟨rfl, _, named ⟨rfl, rfl, rfl, rfl, (natv (by rw [getD_ge (l := digs b) (by omega)]; rfl)), rfl, rfl, trivial⟩⟩
 rintro ρ4 w3 ⟨rfl, ρ5, rfl⟩
 refine sr (ma (oN (wS (sr (mv (mv (oC (OpW.lss (a := ((out.getD k 0 : Nat) : Int)) (b := ((br + (digs b).getD k 0 : Nat) : Int)) (r := decide (out.getD k 0 < br + (digs b).getD k 0)) rfl rfl (lt_nat (a := out.getD k 0) (b := br + (digs b).getD k 0)) (oN (Wp.cond (t := decide (out.getD k 0 < br + (digs b).getD k 0)) rfl (fun c6 => ?_) (fun c6 => ?_)))))))))))
 replace c6 : out.getD k 0 < br + (digs b).getD k 0 := (of_decide_eq_true c6)
 refine wS (fg [(1, .slice b2 ((digs b).length) c2), (5, .slice (some ⟨b3, 0, none⟩) ((digs a).length) c3), (7, .int .i64 ((k : Nat) : Int)), (8, .int .u64 ((out.getD k 0 : Nat) : Int)), (9, .int .u64 ((br + (digs b).getD k 0 : Nat) : Int)), (13, .int .i64 (((digs a).length : Nat) : Int)), (14, .int .i64 ((k : Nat) : Int))] rfl (fun ρ6 => (wR (mv (oC (OpW.add (a := ((out.getD k 0 : Nat) : Int)) (b := ((4294967296 : Nat) : Int)) (r := ((out.getD k 0 + 4294967296 : Nat) : Int)) rfl rfl (add_u64 (a := out.getD k 0) (b := 4294967296) (by omega)) (ma (oN (wR (ma (oN (fg [(1, .slice b2 ((digs b).length) c2), (5, .slice (some ⟨b3, 0, none⟩) ((digs a).length) c3), (6, .int .u64 ((1 : Nat) : Int)), (7, .int .i64 ((k : Nat) : Int)), (8, .int .u64 ((out.getD k 0 + 4294967296 : Nat) : Int)), (9, .int .u64 ((br + (digs b).getD k 0 : Nat) : Int)), (13, .int .i64 (((digs a).length : Nat) : Int)), (14, .int .i64 ((k : Nat) : Int))] rfl (fun ρ7 => (wR (mv (mv (mv (mv (oC (OpW.sub (a := ((out.getD k 0 + 4294967296 : Nat) : Int)) (b := ((br + (digs b).getD k 0 : Nat) : Int)) (r := (((out.getD k 0 + 4294967296) - (br + (digs b).getD k 0) : Nat) : Int)) rfl rfl (sub_u64 (a := out.getD k 0 + 4294967296) (b := br + (digs b).getD k 0) (by omega) (by omega)) ?_))))))))))))))))))))
 refine oC (OpW.convI (a := (((out.getD k 0 + 4294967296) - (br + (digs b).getD k 0) : Nat) : Int)) (r := (((out.getD k 0 + 4294967296) - (br + (digs b).getD k 0) : Nat) : Int)) Tryd.underlying77 Tryd.underlying51 rfl (conv_u32' (by omega)) ?_)
 refine oC (iA (i := ((k : Nat) : Int)) (o := k) Tryd.underlying64 Tryd.sizeOf51 rfl rfl (by omega) (by omega) ?_)
 refine oC (OpW.store1 (v := .int .u32 (((out.getD k 0 + 4294967296) - (br + (digs b).getD k 0) : Nat) : Int)) Tryd.sizeOf51 rfl rfl rfl o2 (uaz_lt (by omega)) ?_)
 intro w4 p1
 have o4 : w4.heap[b3]? = some (.cells (uaz .u32 (out.set k ((out.getD k 0 + 4294967296) - (br + (digs b).getD k 0))) z1) 51 (0, 0)) := by rw [p1.at_, uaz_set (by omega)]
 refine oN (fg [(1, .slice b2 ((digs b).length) c2), (5, .slice (some ⟨b3, 0, none⟩) ((digs a).length) c3), (6, .int .u64 ((1 : Nat) : Int)), (13, .int .i64 (((digs a).length : Nat) : Int)), (14, .int .i64 ((k : Nat) : Int))] rfl (fun ρ8 => (wR (oC (OpW.add (a := ((k : Nat) : Int)) (b := ((1 : Nat) : Int)) (r := ((k + 1 : Nat) : Int)) rfl rfl (add_i64 (a := k) (b := 1) (by omega)) (mv (oN ?_)))))))
 have g4 := g3.put p1 n2 lo2
 exact ⟨(k + 1, 1, out.set k ((out.getD k 0 + 4294967296) - (br + (digs b).getD k 0))), ⟨_, h2, nm (by exact rfl), g4, l1, o4, n2, (by omega), (by rw [List.length_set]; exact hl), (hf.set _ _ (by omega)), (by omega), (drop_set_succ (by omega) hd), (sub_step1 (by omega) (by omega) (by omega) hd hv)⟩, (by dsimp only; omega)⟩
 replace c6 : ¬ (out.getD k 0 < br + (digs b).getD k 0) := (of_decide_eq_false c6)
 refine Wp.skip (fg [(1, .slice b2 ((digs b).length) c2), (5, .slice (some ⟨b3, 0, none⟩) ((digs a).length) c3), (6, .int .u64 ((0 : Nat) : Int)), (7, .int .i64 ((k : Nat) : Int)), (8, .int .u64 ((out.getD k 0 : Nat) : Int)), (9, .int .u64 ((br + (digs b).getD k 0 : Nat) : Int)), (13, .int .i64 (((digs a).length : Nat) : Int)), (14, .int .i64 ((k : Nat) : Int))] rfl (fun ρ9 => (wR (mv (mv (mv (mv (oC (OpW.sub (a := ((out.getD k 0 : Nat) : Int)) (b := ((br + (digs b).getD k 0 : Nat) : Int)) (r := (((out.getD k 0) - (br + (digs b).getD k 0) : Nat) : Int)) rfl rfl (sub_u64 (a := out.getD k 0) (b := br + (digs b).getD k 0) (by omega) (by omega)) ?_)))))))))
 refine oC (OpW.convI (a := (((out.getD k 0) - (br + (digs b).getD k 0) : Nat) : Int)) (r := (((out.getD k 0) - (br + (digs b).getD k 0) : Nat) : Int)) Tryd.underlying77 Tryd.underlying51 rfl (conv_u32' (by omega)) ?_)
 refine oC (iA (i := ((k : Nat) : Int)) (o := k) Tryd.underlying64 Tryd.sizeOf51 rfl rfl (by omega) (by omega) ?_)
 refine oC (OpW.store1 (v := .int .u32 (((out.getD k 0) - (br + (digs b).getD k 0) : Nat) : Int)) Tryd.sizeOf51 rfl rfl rfl o2 (uaz_lt (by omega)) ?_)
 intro w5 p2
 have o5 : w5.heap[b3]? = some (.cells (uaz .u32 (out.set k ((out.getD k 0) - (br + (digs b).getD k 0))) z1) 51 (0, 0)) := by rw [p2.at_, uaz_set (by omega)]
 refine oN (fg [(1, .slice b2 ((digs b).length) c2), (5, .slice (some ⟨b3, 0, none⟩) ((digs a).length) c3), (6, .int .u64 ((0 : Nat) : Int)), (13, .int .i64 (((digs a).length : Nat) : Int)), (14, .int .i64 ((k : Nat) : Int))] rfl (fun ρ10 => (wR (oC (OpW.add (a := ((k : Nat) : Int)) (b := ((1 : Nat) : Int)) (r := ((k + 1 : Nat) : Int)) rfl rfl (add_i64 (a := k) (b := 1) (by omega)) (mv (oN ?_)))))))
 have g5 := g3.put p2 n2 lo2
 exact ⟨(k + 1, 0, out.set k (out.getD k 0 - (br + (digs b).getD k 0))), ⟨_, h2, nm (by exact rfl), g5, l1, o5, n2, (by omega), (by rw [List.length_set]; exact hl), (hf.set _ _ (by omega)), (by omega), (drop_set_succ (by omega) hd), (sub_step2 (by omega) (by omega) (by omega) hd hv)⟩, (by dsimp only; omega)⟩
 replace c4 : ¬ (k < (digs a).length) := (of_decide_eq_false c4)
 refine Wp.exit (sr (mv ?_))
 obtain ⟨h3, g6, l2, qb3, fr1⟩ := freeze_ex g3 o2 n2 lo2
 have f1 := U.ownz (l := out) qb3 hf (cap := c3) hl (by omega)
 refine oC (cF Tryd.call103 (trimmed_c (l := out) g6.sat f1 (by omega)) rfl ?_)
 intro r2 h4 w6 gr3 hr2
 obtain ⟨b5, c7, rfl, k4⟩ := N.shape hr2
 refine ma (oN (Wp.ret (fin1_ret rfl (resOf_tmp (v := .slice b5 ((digs (val out)).length) c7) rfl) ?_)))
 have g7 := g6.trans gr3
 refine ⟨h4, g7, ?_⟩
 exact N.cast (sub_close (by omega) hl hf (by omega) hp2 hv) hr2
theorem shift_c {h : PH} {w : World} {v0 : Value} {a : Nat} {by_ : Nat} (hs : Sat h w) (pv0 : N h v0 a) (hp0 : sz a ≤ 1073741824) (hp1 : by_ ≤ 32) :
    Calls Tryd.prog 120 #[v0, .int .i64 ((by_ : Nat) : Int)] w (Ret h w fun h' r => N h' r (a * 2 ^ by_)) := by
 obtain ⟨b1, c1, rfl, k1⟩ := N.shape pv0
 unfold sz at hp0
 have hpw := pow_le32 hp1
 refine calls_ear (vs := [.slice b1 ((digs a).length) c1, .int .i64 ((by_ : Nat) : Int)]) Tryd.func120 rfl rfl ?_
 have g1 := Gr.refl hs
 refine sr (ma (oN (sr (mv (oC (OpW.lenS Tryd.underlying64 (l := (digs a).length) rfl ?_))))))
 refine oC (OpW.add (a := (((digs a).length : Nat) : Int)) (b := ((1 : Nat) : Int)) (r := (((digs a).length + 1 : Nat) : Int)) rfl rfl (add_i64 (a := (digs a).length) (b := 1) (by omega)) ?_)
 refine oC (OpW.makeO (l := (digs a).length + 1) (c := (digs a).length + 1) (i := Tryd.t51) (arr := (ua .u32 (List.replicate ((digs a).length + 1) 0))) g1.sat Tryd.underlying22 Tryd.type51 rfl rfl rfl (Nat.le_refl _) (by simp only [Tryd.t51]; omega) (by omega) (made_ua _ _) ?_)
 intro b2 w1 gr1 n1 lo1 o1
 have lo2 := Nat.le_trans g1.ext.size lo1
 refine ma (oN (wS (sr (mv (oC (OpW.lenS Tryd.underlying64 (l := (digs a).length) rfl (mv (oN (Wp.block ?_)))))))))
 have g2 := g1.trans gr1
 refine Wp.loop (σ := Nat × List Nat) (fun s (ρ : Env) (w' : World) => match s with | (i, out) => ∃ ρb h', ρ = upds ρb [(1, .int .i64 ((by_ : Nat) : Int)), (5, .slice (some ⟨b2, 0, none⟩) ((digs a).length + 1) ((digs a).length + 1)), (12, .slice b1 ((digs a).length) c1), (13, .int .i64 (((digs a).length : Nat) : Int)), (14, .int .i64 ((i : Nat) : Int))] ∧ Gr h w h' w' ∧ PH.le h h' ∧ w'.heap[b2]? = some (.cells (ua .u32 out) 51 (0, 0)) ∧ h' b2 = none ∧ (i ≤ (digs a).length) ∧ (out.length = (digs a).length + 1) ∧ (Fit out) ∧ (out.getD i 0 < 2 ^ by_) ∧ (∀ t, i < t → out.getD t 0 = 0) ∧ (val out = val ((digs a).take i) * 2 ^ by_)) (fun s => match s with | (i, out) => (digs a).length - i) (0, List.replicate ((digs a).length + 1) 0) ?_ ?_
 exact ⟨_, h, nm (by exact rfl), g2, PH.le.refl _, o1, n1, (by omega), List.length_replicate, Fit.replicate _, (by rw [getD_replicate]; exact Nat.pow_pos (by decide)), (fun t _ => getD_replicate _ t), (by simp [val, val_replicate])⟩
 rintro ⟨i, out⟩ ρ1 w2 ⟨ρ2, h1, rfl, g3, l1, o2, n2, hi, hl, hf, h0, hz, hv⟩
 have bdx := (digs_fit a).getD i
 have bdo := hf.getD i
 refine sr (oC (OpW.lss (a := ((i : Nat) : Int)) (b := (((digs a).length : Nat) : Int)) (r := decide (i < (digs a).length)) rfl rfl (lt_nat (a := i) (b := (digs a).length)) (oN (wS (Wp.cond (t := decide (i < (digs a).length)) rfl (fun c2 => ?_) (fun c2 => ?_))))))
 replace c2 : i < (digs a).length := (of_decide_eq_true c2)
 refine Wp.skip (wS (Wp.block (sr (mv (oC (OpW.indexU (i := ((i : Nat) : Int)) (j := i) Tryd.underlying64 Tryd.sizeOf51 rfl (U.mono pv0 l1) rfl (by omega) (by omega) ?_))))))
 intro b3 o3 a1 e1 z1 qb1 qv1
 have bd1 := Fit.getD (U.mono pv0 l1).1 i
 refine oC (lO (v := .int .u32 (((digs a).getD i 0 : Nat) : Int)) Tryd.isAgg51 rfl (g3.sat _ _ qb1) qv1 (ma (ma (oN (wS (fg [(1, .int .i64 ((by_ : Nat) : Int)), (5, .slice (some ⟨b2, 0, none⟩) ((digs a).length + 1) ((digs a).length + 1)), (6, .int .i64 ((i : Nat) : Int)), (7, .int .u32 (((digs a).getD i 0 : Nat) : Int)), (12, .slice b1 ((digs a).length) c1), (13, .int .i64 (((digs a).length : Nat) : Int)), (14, .int .i64 ((i : Nat) : Int))] rfl (fun ρ3 => ?_)))))))
 refine Wp.dagL 9 [19, 20, 21, 22, 23, 24, 25, 26, 27] [eqv (.slice (some ⟨b2, 0, none⟩) ((digs a).length + 1) ((digs a).length + 1)), eqv (.int .i64 ((i : Nat) : Int)), eqv (.pointer (some ⟨b2, i, none⟩)), eqv (.int .u32 ((out.getD i 0 : Nat) : Int)), eqv (.int .u32 (((digs a).getD i 0 : Nat) : Int)), eqv (.int .i64 ((by_ : Nat) : Int)), eqv (.int .u32 (((digs a).getD i 0 * 2 ^ by_ % 4294967296 : Nat) : Int)), eqv (.int .u32 (((out.getD i 0) ||| ((digs a).getD i 0 * 2 ^ by_ % 4294967296) : Nat) : Int)), eqv (.pointer (some ⟨b2, i, none⟩))] mixed g3.sat rfl (by decide +kernel) ⟨sQ _, sQ _, sQ _, sQ _, sQ _, sQ _, sQ _, sQ _, sQ _, trivial⟩ ?_ ?_
 intro stab
 refine ⟨?_, ?_, ?_, ?_, ?_, ?_, ?_, ?_, ?_, trivial⟩
 intro ρ4 h2 w3 g4 hdd1 hdo1
 have e2 : ρ4 5 = .slice (some ⟨b2, 0, none⟩) ((digs a).length + 1) ((digs a).length + 1) := hdo1 5 rfl
 refine gP (OpW.move (v := .slice (some ⟨b2, 0, none⟩) ((digs a).length + 1) ((digs a).length + 1)) e2 ?_)
 exact ⟨_, h2, rfl, g4, fun j x _ p => p, rfl⟩
 intro ρ5 h3 w4 g5 hdd2 hdo2
 have e3 : ρ5 6 = .int .i64 ((i : Nat) : Int) := hdo2 6 rfl
 refine gP (OpW.move (v := .int .i64 ((i : Nat) : Int)) e3 ?_)
 exact ⟨_, h3, rfl, g5, fun j x _ p => p, rfl⟩
 intro ρ6 h4 w5 g6 hdd3 hdo3
 have e4 : ρ6 19 = .slice (some ⟨b2, 0, none⟩) ((digs a).length + 1) ((digs a).length + 1) := hdd3 0 (by decide)
 have e5 : ρ6 20 = .int .i64 ((i : Nat) : Int) := hdd3 1 (by decide)
 refine gP (iA (i := ((i : Nat) : Int)) (o := i) Tryd.underlying22 Tryd.sizeOf51 e4 e5 (by omega) (by omega) ?_)
 exact ⟨_, h4, rfl, g6, fun j x _ p => p, rfl⟩
 intro ρ7 h5 w6 g7 hdd4 hdo4
 have e6 : ρ7 21 = .pointer (some ⟨b2, i, none⟩) := hdd4 2 (by decide)
 have o4 := g7.kp ⟨o2, n2⟩
 refine gP (lO (v := .int .u32 ((out.getD i 0 : Nat) : Int)) Tryd.isAgg51 e6 o4.1 (ua_at (by omega)) ?_)
 exact ⟨_, h5, rfl, g7, fun j x _ p => p, rfl⟩
 intro ρ8 h6 w7 g8 hdd5 hdo5
 have e7 : ρ8 7 = .int .u32 (((digs a).getD i 0 : Nat) : Int) := hdo5 7 rfl
 refine gP (OpW.move (v := .int .u32 (((digs a).getD i 0 : Nat) : Int)) e7 ?_)
 exact ⟨_, h6, rfl, g8, fun j x _ p => p, rfl⟩
 intro ρ9 h7 w8 g9 hdd6 hdo6
 have e8 : ρ9 1 = .int .i64 ((by_ : Nat) : Int) := hdo6 1 rfl
 refine gP (OpW.move (v := .int .i64 ((by_ : Nat) : Int)) e8 ?_)
 exact ⟨_, h7, rfl, g9, fun j x _ p => p, rfl⟩
 intro ρ10 h8 w9 g10 hdd7 hdo7
 have e9 : ρ10 23 = .int .u32 (((digs a).getD i 0 : Nat) : Int) := hdd7 4 (by decide)
 have e10 : ρ10 24 = .int .i64 ((by_ : Nat) : Int) := hdd7 5 (by decide)
 refine gP (OpW.shift (a := (((digs a).getD i 0 : Nat) : Int)) (b := ((by_ : Nat) : Int)) (r := (((digs a).getD i 0 * 2 ^ by_ % 4294967296 : Nat) : Int)) (.inl rfl) e9 e10 (shl_nat hp1 conv_u32) ?_)
 exact ⟨_, h8, rfl, g10, fun j x _ p => p, rfl⟩
 intro ρ11 h9 w10 g11 hdd8 hdo8
 have e11 : ρ11 22 = .int .u32 ((out.getD i 0 : Nat) : Int) := hdd8 3 (by decide)
 have e12 : ρ11 25 = .int .u32 (((digs a).getD i 0 * 2 ^ by_ % 4294967296 : Nat) : Int) := hdd8 6 (by decide)
 refine gP (OpW.bits (a := ((out.getD i 0 : Nat) : Int)) (b := (((digs a).getD i 0 * 2 ^ by_ % 4294967296 : Nat) : Int)) (r := (((out.getD i 0) ||| ((digs a).getD i 0 * 2 ^ by_ % 4294967296) : Nat) : Int)) (.inr (.inl rfl)) e11 e12 (or_u32 (a := out.getD i 0) (b := (digs a).getD i 0 * 2 ^ by_ % 4294967296) bdo (Nat.mod_lt _ (by decide))) ?_)
 exact ⟨_, h9, rfl, g11, fun j x _ p => p, rfl⟩
 intro ρ12 h10 w11 g12 hdd9 hdo9
 have e13 : ρ12 19 = .slice (some ⟨b2, 0, none⟩) ((digs a).length + 1) ((digs a).length + 1) := hdd9 0 (by decide)
 have e14 : ρ12 20 = .int .i64 ((i : Nat) : Int) := hdd9 1 (by decide)
 refine gP (iA (i := ((i : Nat) : Int)) (o := i) Tryd.underlying22 Tryd.sizeOf51 e13 e14 (by omega) (by omega) ?_)
 exact ⟨_, h10, rfl, g12, fun j x _ p => p, rfl⟩
 intro ρ13 h11 w12 g13 hdp1 hdo10
 have e15 : ρ13 1 = .int .i64 ((by_ : Nat) : Int) := hdo10 1 rfl
 have e16 : ρ13 5 = .slice (some ⟨b2, 0, none⟩) ((digs a).length + 1) ((digs a).length + 1) := hdo10 5 rfl
 have e17 : ρ13 6 = .int .i64 ((i : Nat) : Int) := hdo10 6 rfl
 have e18 : ρ13 7 = .int .u32 (((digs a).getD i 0 : Nat) : Int) := hdo10 7 rfl
 have e19 : ρ13 12 = .slice b1 ((digs a).length) c1 := hdo10 12 rfl
 have e20 : ρ13 13 = .int .i64 (((digs a).length : Nat) : Int) := hdo10 13 rfl
 have e21 : ρ13 14 = .int .i64 ((i : Nat) : Int) := hdo10 14 rfl
 have e22 : ρ13 26 = .int .u32 (((out.getD i 0) ||| ((digs a).getD i 0 * 2 ^ by_ % 4294967296) : Nat) : Int) := hdp1 7 rfl
 have e23 : ρ13 27 = .pointer (some ⟨b2, i, none⟩) := hdp1 8 rfl
 refine Ops.forget [(1, .int .i64 ((by_ : Nat) : Int)), (5, .slice (some ⟨b2, 0, none⟩) ((digs a).length + 1) ((digs a).length + 1)), (6, .int .i64 ((i : Nat) : Int)), (7, .int .u32 (((digs a).getD i 0 : Nat) : Int)), (12, .slice b1 ((digs a).length) c1), (13, .int .i64 (((digs a).length : Nat) : Int)), (14, .int .i64 ((i : Nat) : Int)), (26, .int .u32 (((out.getD i 0) ||| ((digs a).getD i 0 * 2 ^ by_ % 4294967296) : Nat) : Int)), (27, .pointer (some ⟨b2, i, none⟩))] ⟨e15, e16, e17, e18, e19, e20, e21, e22, e23, trivial⟩ (fun ρ14 => ?_)
 have o5 := g13.kp ⟨o2, n2⟩
 refine oC (OpW.store1 (v := .int .u32 (((out.getD i 0) ||| ((digs a).getD i 0 * 2 ^ by_ % 4294967296) : Nat) : Int)) Tryd.sizeOf51 rfl rfl rfl o5.1 (ua_lt (by omega)) ?_)
 intro w13 p1
 have o6 : w13.heap[b2]? = some (.cells (ua .u32 (out.set i ((out.getD i 0) ||| ((digs a).getD i 0 * 2 ^ by_ % 4294967296)))) 51 (0, 0)) := by rw [p1.at_, ua_set]
 refine oN (wR (mv (mv (oC (OpW.add (a := ((i : Nat) : Int)) (b := ((1 : Nat) : Int)) (r := ((i + 1 : Nat) : Int)) rfl rfl (add_i64 (a := i) (b := 1) (by omega)) (mv (oC (OpW.convI (a := (((digs a).getD i 0 : Nat) : Int)) (r := (((digs a).getD i 0 : Nat) : Int)) Tryd.underlying51 Tryd.underlying77 rfl (conv_u64 (by omega)) (mv (oC (OpW.sub (a := ((32 : Nat) : Int)) (b := ((by_ : Nat) : Int)) (r := ((32 - by_ : Nat) : Int)) rfl rfl (sub_i64 (a := 32) (b := by_) (by omega) (by omega)) ?_)))))))))))
 refine oC (OpW.shift (a := (((digs a).getD i 0 : Nat) : Int)) (b := ((32 - by_ : Nat) : Int)) (r := ((((digs a).getD i 0) / 2 ^ (32 - by_) : Nat) : Int)) (.inr rfl) rfl rfl (shr_nat (Nat.le_trans (Nat.sub_le ..) (by decide))) ?_)
 refine oC (OpW.convI (a := ((((digs a).getD i 0) / 2 ^ (32 - by_) : Nat) : Int)) (r := ((((digs a).getD i 0) / 2 ^ (32 - by_) : Nat) : Int)) Tryd.underlying77 Tryd.underlying51 rfl (conv_u32' (Nat.lt_of_le_of_lt (Nat.div_le_self ..) bdx)) ?_)
 refine oC (iA (i := ((i + 1 : Nat) : Int)) (o := i + 1) Tryd.underlying22 Tryd.sizeOf51 rfl rfl (by omega) (by omega) ?_)
 refine oC (OpW.store1 (v := .int .u32 ((((digs a).getD i 0) / 2 ^ (32 - by_) : Nat) : Int)) Tryd.sizeOf51 rfl rfl rfl o6 (ua_lt (by simp only [List.length_set, List.length_replicate]; omega)) ?_)
 intro w14 p2
 have o7 : w14.heap[b2]? = some (.cells (ua .u32 ((out.set i ((out.getD i 0) ||| ((digs a).getD i 0 * 2 ^ by_ % 4294967296))).set (i + 1) (((digs a).getD i 0) / 2 ^ (32 - by_)))) 51 (0, 0)) := by rw [p2.at_, ua_set]
 refine oN (fg [(1, .int .i64 ((by_ : Nat) : Int)), (5, .slice (some ⟨b2, 0, none⟩) ((digs a).length + 1) ((digs a).length + 1)), (12, .slice b1 ((digs a).length) c1), (13, .int .i64 (((digs a).length : Nat) : Int)), (14, .int .i64 ((i : Nat) : Int))] rfl (fun ρ15 => (wR (oC (OpW.add (a := ((i : Nat) : Int)) (b := ((1 : Nat) : Int)) (r := ((i + 1 : Nat) : Int)) rfl rfl (add_i64 (a := i) (b := 1) (by omega)) (mv (oN ?_)))))))
 have g14 := ((g3.trans g13).put p1 o5.2 lo2).put p2 o5.2 lo2
 exact ⟨(i + 1, (out.set i (out.getD i 0 ||| (digs a).getD i 0 * 2 ^ by_ % 4294967296)).set (i + 1) ((digs a).getD i 0 / 2 ^ (32 - by_))), ⟨_, h11, nm (by exact rfl), g14, (l1.trans g13.le), o7, o5.2, (by omega), (by rw [List.length_set, List.length_set]; exact hl), ((hf.set _ _ (or_shl_lt hp1 h0)).set _ _ (Nat.lt_of_le_of_lt (Nat.div_le_self ..) bdx)), (by rw [getD_set_self (by rw [List.length_set]; omega)]; exact hi_lt32 hp1 bdx), (fun t ht => by rw [getD_set_ne (by omega), getD_set_ne (by omega)]; exact hz t (by omega)), (shift_step (by omega) hp1 h0 (hz _ (by omega)) rfl hv)⟩, (by dsimp only; omega)⟩
 replace c2 : ¬ (i < (digs a).length) := (of_decide_eq_false c2)
 refine Wp.exit (sr (mv ?_))
 obtain ⟨h12, g15, l2, qb2, fr1⟩ := freeze_ex g3 o2 n2 lo2
 have f1 := U.own (l := out) qb2 hf (cap := (digs a).length + 1) hl (Nat.le_refl _)
 refine oC (cF Tryd.call103 (trimmed_c (l := out) g15.sat f1 (by omega)) rfl ?_)
 intro r1 h13 w15 gr2 hr1
 obtain ⟨b4, c3, rfl, k2⟩ := N.shape hr1
 refine ma (oN (Wp.ret (fin1_ret rfl (resOf_tmp (v := .slice b4 ((digs (val out)).length) c3) rfl) ?_)))
 have g16 := g15.trans gr2
 refine ⟨h13, g16, ?_⟩
 exact N.cast (shift_close (by omega) hv) hr1
theorem down_c {h : PH} {w : World} {v0 : Value} {a : Nat} {by_ : Nat} (hs : Sat h w) (pv0 : N h v0 a) (hp0 : sz a ≤ 1073741824) (hp1 : by_ ≤ 32) :
    Calls Tryd.prog 123 #[v0, .int .i64 ((by_ : Nat) : Int)] w (Ret h w fun h' r => N h' r (a / 2 ^ by_)) := by
 obtain ⟨b1, c1, rfl, k1⟩ := N.shape pv0
 have hsz := hp0
 unfold sz at hsz
 have hpw := pow_le32 hp1
 refine calls_ear (vs := [.slice b1 ((digs a).length) c1, .int .i64 ((by_ : Nat) : Int)]) Tryd.func123 rfl rfl ?_
 have g1 := Gr.refl hs
 refine sr (ma (oN (sr (mv (oC (OpW.lenS Tryd.underlying64 (l := (digs a).length) rfl ?_))))))
 refine oC (OpW.makeO (l := (digs a).length) (c := (digs a).length) (i := Tryd.t51) (arr := (ua .u32 (List.replicate ((digs a).length) 0))) g1.sat Tryd.underlying22 Tryd.type51 rfl rfl rfl (Nat.le_refl _) (by simp only [Tryd.t51]; omega) (by omega) (made_ua _ _) ?_)
 intro b2 w1 gr1 n1 lo1 o1
 have lo2 := Nat.le_trans g1.ext.size lo1
 refine ma (oN (wS (sr (mv (oC (OpW.lenS Tryd.underlying64 (l := (digs a).length) rfl (mv (oN (Wp.block ?_)))))))))
 have g2 := g1.trans gr1
 refine Wp.loop (σ := Nat × List Nat) (fun s (ρ : Env) (w' : World) => match s with | (i, out) => ∃ ρb h', ρ = upds ρb [(0, .slice b1 ((digs a).length) c1), (1, .int .i64 ((by_ : Nat) : Int)), (5, .slice (some ⟨b2, 0, none⟩) ((digs a).length) ((digs a).length)), (11, .int .i64 (((digs a).length : Nat) : Int)), (12, .int .i64 ((i : Nat) : Int))] ∧ Gr h w h' w' ∧ PH.le h h' ∧ w'.heap[b2]? = some (.cells (ua .u32 out) 51 (0, 0)) ∧ h' b2 = none ∧ (i ≤ (digs a).length) ∧ (out.length = (digs a).length) ∧ (Fit out) ∧ (val (out.take i) = a / 2 ^ by_ % B32 ^ i)) (fun s => match s with | (i, out) => (digs a).length - i) (0, List.replicate ((digs a).length) 0) ?_ ?_
 exact ⟨_, h, nm (by exact rfl), g2, PH.le.refl _, o1, n1, (by omega), List.length_replicate, Fit.replicate _, (by simp [val, Nat.mod_one])⟩
 rintro ⟨i, out⟩ ρ1 w2 ⟨ρ2, h1, rfl, g3, l1, o2, n2, hi, hl, hf, hv⟩
 have bdx := (digs_fit a).getD i
 have bdy := (digs_fit a).getD (i + 1)
 have h32 : (2:Nat)^32 = 4294967296 := rfl
 have bdd := down_bd (a := a) (i := i) (by_ := by_)
 refine sr (oC (OpW.lss (a := ((i : Nat) : Int)) (b := (((digs a).length : Nat) : Int)) (r := decide (i < (digs a).length)) rfl rfl (lt_nat (a := i) (b := (digs a).length)) (oN (wS (Wp.cond (t := decide (i < (digs a).length)) rfl (fun c2 => ?_) (fun c2 => ?_))))))
 replace c2 : i < (digs a).length := (of_decide_eq_true c2)
 refine Wp.skip (wS (Wp.block (sr (mv (ma (oN (wR (mv (mv (mv (mv (oC (cF Tryd.call107 (digit_c (a := a) (i := i) g3.sat (N.mono pv0 l1) (by omega) (by omega)) rfl ?_)))))))))))))
 intro r1 h2 w3 gr2 hr1
 subst hr1
 refine mv (mv (oC (OpW.add (a := ((i : Nat) : Int)) (b := ((1 : Nat) : Int)) (r := ((i + 1 : Nat) : Int)) rfl rfl (add_i64 (a := i) (b := 1) (by omega)) ?_)))
 have g4 := g3.trans gr2
 refine oC (cF Tryd.call107 (digit_c (a := a) (i := i + 1) g4.sat (N.mono pv0 (l1.trans gr2.le)) (by omega) (by omega)) rfl ?_)
 intro r2 h3 w4 gr3 hr2
 subst hr2
 refine oC (OpW.shift (a := (((digs a).getD (i + 1) 0 : Nat) : Int)) (b := ((32 : Nat) : Int)) (r := ((((digs a).getD (i + 1) 0) * 2 ^ 32 : Nat) : Int)) (.inl rfl) rfl rfl (shl_nat (by decide) (conv_u64 (by omega))) ?_)
 refine oC (OpW.bits (a := (((digs a).getD i 0 : Nat) : Int)) (b := ((((digs a).getD (i + 1) 0) * 2 ^ 32 : Nat) : Int)) (r := ((((digs a).getD i 0) ||| (((digs a).getD (i + 1) 0) * 2 ^ 32) : Nat) : Int)) (.inr (.inl rfl)) rfl rfl (or_u64 (a := (digs a).getD i 0) (b := ((digs a).getD (i + 1) 0) * 2 ^ 32) (Nat.lt_trans bdx (by decide)) (by omega)) (mv (oC (OpW.shift (a := ((((digs a).getD i 0) ||| (((digs a).getD (i + 1) 0) * 2 ^ 32) : Nat) : Int)) (b := ((by_ : Nat) : Int)) (r := (((((digs a).getD i 0) ||| (((digs a).getD (i + 1) 0) * 2 ^ 32)) / 2 ^ by_ : Nat) : Int)) (.inr rfl) rfl rfl (shr_nat (Nat.le_trans hp1 (by decide))) ?_))))
 refine oC (OpW.convI (a := (((((digs a).getD i 0) ||| (((digs a).getD (i + 1) 0) * 2 ^ 32)) / 2 ^ by_ : Nat) : Int)) (r := ((((((digs a).getD i 0) ||| (((digs a).getD (i + 1) 0) * 2 ^ 32)) / 2 ^ by_) % 4294967296 : Nat) : Int)) Tryd.underlying77 Tryd.underlying51 rfl conv_u32 ?_)
 refine oC (iA (i := ((i : Nat) : Int)) (o := i) Tryd.underlying22 Tryd.sizeOf51 rfl rfl (by omega) (by omega) ?_)
 have o3 := gr3.kp (gr2.kp ⟨o2, n2⟩)
 refine oC (OpW.store1 (v := .int .u32 ((((((digs a).getD i 0) ||| (((digs a).getD (i + 1) 0) * 2 ^ 32)) / 2 ^ by_) % 4294967296 : Nat) : Int)) Tryd.sizeOf51 rfl rfl rfl o3.1 (ua_lt (by omega)) ?_)
 intro w5 p1
 have o4 : w5.heap[b2]? = some (.cells (ua .u32 (out.set i (((((digs a).getD i 0) ||| (((digs a).getD (i + 1) 0) * 2 ^ 32)) / 2 ^ by_) % 4294967296))) 51 (0, 0)) := by rw [p1.at_, ua_set]
 refine oN (fg [(0, .slice b1 ((digs a).length) c1), (1, .int .i64 ((by_ : Nat) : Int)), (5, .slice (some ⟨b2, 0, none⟩) ((digs a).length) ((digs a).length)), (11, .int .i64 (((digs a).length : Nat) : Int)), (12, .int .i64 ((i : Nat) : Int))] rfl (fun ρ3 => (wR (oC (OpW.add (a := ((i : Nat) : Int)) (b := ((1 : Nat) : Int)) (r := ((i + 1 : Nat) : Int)) rfl rfl (add_i64 (a := i) (b := 1) (by omega)) (mv (oN ?_)))))))
 have g5 := (g4.trans gr3).put p1 o3.2 lo2
 exact ⟨(i + 1, out.set i (((digs a).getD i 0 ||| (digs a).getD (i + 1) 0 * 2 ^ 32) / 2 ^ by_ % 4294967296)), ⟨_, h3, nm (by exact rfl), g5, ((l1.trans gr2.le).trans gr3.le), o4, o3.2, (by omega), (by rw [List.length_set]; exact hl), (hf.set _ _ (Nat.mod_lt _ (by decide))), (down_step (by omega) hp1 hv)⟩, (by dsimp only; omega)⟩
 replace c2 : ¬ (i < (digs a).length) := (of_decide_eq_false c2)
 refine Wp.exit (sr (mv ?_))
 obtain ⟨h4, g6, l2, qb1, fr1⟩ := freeze_ex g3 o2 n2 lo2
 have f1 := U.own (l := out) qb1 hf (cap := (digs a).length) hl (Nat.le_refl _)
 refine oC (cF Tryd.call103 (trimmed_c (l := out) g6.sat f1 (by omega)) rfl ?_)
 intro r3 h5 w6 gr4 hr3
 obtain ⟨b3, c3, rfl, k2⟩ := N.shape hr3
 refine ma (oN (Wp.ret (fin1_ret rfl (resOf_tmp (v := .slice b3 ((digs (val out)).length) c3) rfl) ?_)))
 have g7 := g6.trans gr4
 refine ⟨h5, g7, ?_⟩
 exact N.cast (down_close (by omega) hl hv) hr3
theorem shifted_c {h : PH} {w : World} {v0 : Value} {a : Nat} {digits : Nat} (hs : Sat h w) (pv0 : N h v0 a) (hp0 : sz a ≤ 1073741824) (hp1 : digits ≤ 1073741824) :
    Calls Tryd.prog 121 #[v0, .int .i64 ((digits : Nat) : Int)] w (Ret h w fun h' r => N h' r (a * B32 ^ digits)) := by
 obtain ⟨b1, c1, rfl, k1⟩ := N.shape pv0
 have hsz := sz_eq_zero (n := a)
 unfold sz at hsz hp0
 refine calls_ear (vs := [.slice b1 ((digs a).length) c1, .int .i64 ((digits : Nat) : Int)]) Tryd.func121 rfl rfl ?_
 have g1 := Gr.refl hs
 refine sr (ma (oN (wS (sr (mv (oC (OpW.lenS Tryd.underlying64 (l := (digs a).length) rfl ?_)))))))
 refine oC (OpW.eqlI (a := (((digs a).length : Nat) : Int)) (b := ((0 : Nat) : Int)) (r := decide ((digs a).length = 0)) rfl rfl (eq_nat (a := (digs a).length) (b := 0)) (oN (Wp.cond (t := decide ((digs a).length = 0)) rfl (fun c2 => ?_) (fun c2 => ?_))))
 replace c2 : (digs a).length = 0 := (of_decide_eq_true c2)
 refine sr (ma (oN (Wp.ret (fin1_ret rfl (resOf_tmp (v := .slice none 0 0) rfl) ?_))))
 refine ⟨h, g1, ?_⟩
 exact N.cast (by rw [hsz.1 (by omega), Nat.zero_mul]) (U.ofDigs (U.nil _ none 0) digs_zero)
 replace c2 : ¬ ((digs a).length = 0) := (of_decide_eq_false c2)
 have hlen0 : (digs a).length ≠ 0 := by omega
 have hne : digs a ≠ [] := fun e => hlen0 (by rw [e]; rfl)
 have hne0 : a ≠ 0 := fun e => hne (by rw [e]; exact digs_zero)
 refine Wp.skip (sr (mv (oC (OpW.makeO (l := digits) (c := digits) (i := Tryd.t51) (arr := (ua .u32 (List.replicate digits 0))) g1.sat Tryd.underlying64 Tryd.type51 rfl rfl rfl (Nat.le_refl _) (by simp only [Tryd.t51]; omega) (by omega) (made_ua _ _) ?_))))
 intro b2 w1 gr1 n1 lo1 o1
 have lo2 := Nat.le_trans g1.ext.size lo1
 refine mv ?_
 have g3 := g1.trans gr1
 obtain ⟨h1, g2, l1, qb1, fr1⟩ := freeze_ex g3 o1 n1 lo2
 have f1 := U.own (l := List.replicate digits 0) qb1 (Fit.replicate _) (cap := digits) List.length_replicate (Nat.le_refl _)
 refine oC (OpW.appendFull g2.sat Tryd.underlying64 Tryd.type51 rfl rfl rfl rfl rfl f1 (U.mono pv0 l1) hne (by rw [List.length_replicate]; omega) (by rw [List.length_replicate]; simp only [Tryd.t51]; omega) ?_)
 intro r1 h2 w2 gr2 hr1
 obtain ⟨b3, c3, rfl, k2⟩ := U.shape hr1
 refine ma (oN (Wp.ret (fin1_ret rfl (resOf_tmp (v := .slice b3 ((List.replicate digits 0 ++ digs a).length) c3) rfl) ?_)))
 have g4 := g2.trans gr2
 refine ⟨h2, g4, ?_⟩
 exact U.ofDigs hr1 (digs_shift hne0)
end Go.Ear
