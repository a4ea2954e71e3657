/- About package frac: XrsameDigits. -/
import Derived.Test.YtmidncjhlnfojaaDoorNatLaw2
import Derived.Test.YtmidncjhlnfojaaDoorEarShort
import Derived.Test.YtmidncjhlnfojaaDoorProg
import Derived.Test.YtmidncjhlnfojaaDoorNatLaw3
import Derived.Test.YtmidncjhlnfojaaDoorEarFrac
import Derived.Test.YtmidncjhlnfojaaDoorEarDec
import Derived.Test.YtmidncjhlnfojaaDoorItoaLay
import Derived.Lib.ItoaMem
import Derived.Test.YtmidncjhlnfojaaDoorEarApi
import Derived.Test.YtmidncjhlnfojaaDoorEarRef2
import Derived.Test.YtmidncjhlnfojaaDoorK1
set_option linter.all false
namespace Go.Ear
open Go.Proofs
set_option maxRecDepth 20000
set_option linter.unusedVariables false
set_option maxHeartbeats 2000000
theorem rsameDigits_c {h : PH} {w : World} {v0 : Value} {a : List Nat} {v1 : Value} {b : List Nat} (hs : Sat h w) (pv0 : U h v0 a) (pv1 : U h v1 b) (hp0 : a.length ≤ 1099511627776) (hp1 : b.length ≤ 1099511627776) :
    Calls Tryd.prog 75 #[v0, v1] w (Ret h w fun h' r => r = .bool (decide (a = b))) := by
 obtain ⟨b1, c1, rfl, k1⟩ := U.shape pv0
 obtain ⟨b2, c2, rfl, k2⟩ := U.shape pv1
 refine calls_ear (vs := [.slice b1 a.length c1, .slice b2 b.length c2]) Tryd.func75 rfl rfl ?_
 have g1 := Gr.refl hs
 refine sr (ma (oN (wS (sr (mv (oC (OpW.lenS Tryd.underlying22 (l := a.length) rfl (mv (oC (OpW.lenS Tryd.underlying22 (l := b.length) rfl ?_))))))))))
 refine oC (OpW.neqI (a := ((a.length : Nat) : Int)) (b := ((b.length : Nat) : Int)) (r := decide (a.length ≠ b.length)) rfl rfl (ne_nat (a := a.length) (b := b.length)) (oN (Wp.cond (t := decide (a.length ≠ b.length)) rfl (fun c3 => ?_) (fun c3 => ?_))))
 replace c3 : a.length ≠ b.length := (of_decide_eq_true c3)
 refine sr (ma (oN (Wp.ret (fin1_ret rfl (resOf_tmp (v := .bool false) rfl) ?_))))
 refine ⟨h, g1, ?_⟩
 exact (boolv (decide_eq_false (fun e => absurd (congrArg List.length e) (by assumption))).symm)
 replace c3 : ¬ (a.length ≠ b.length) := (of_decide_eq_false c3)
 have hlen : a.length = b.length := by omega
 refine Wp.skip (wS (sr (ma (oN (Wp.block (Wp.loop (σ := Nat) (fun (k : Nat) (ρ : Env) (w' : World) => ∃ ρb h', ρ = upds ρb [(0, .slice b1 a.length c1), (1, .slice b2 b.length c2), (5, .int .i64 ((k : Nat) : Int))] ∧ Gr h w h' w' ∧ PH.le h h' ∧ (k ≤ a.length) ∧ (a.take k = b.take k)) (fun (k : Nat) => a.length - k) 0 ?_ ?_))))))
 exact ⟨_, h, nm rfl, g1, PH.le.refl _, (by omega), rfl⟩
 rintro k ρ1 w1 ⟨ρ2, h1, rfl, g2, l1, hk, hd⟩
 refine wS (sr (mv (mv (oC (OpW.lenS Tryd.underlying22 (l := a.length) rfl ?_)))))
 refine oC (OpW.lss (a := ((k : Nat) : Int)) (b := ((a.length : Nat) : Int)) (r := decide (k < a.length)) rfl rfl (lt_nat (a := k) (b := a.length)) (oN (Wp.cond (t := decide (k < a.length)) rfl (fun c4 => ?_) (fun c4 => ?_))))
 replace c4 : k < a.length := (of_decide_eq_true c4)
 refine Wp.skip (wS (Wp.block (wS ?_)))
 obtain ⟨b3, o1, a1, e5, z1, qs1, qb1, qv1⟩ := U.at (U.mono pv0 l1) (i := k) (by omega)
 have bd1 := Fit.getD (U.mono pv0 l1).1 k
 obtain ⟨b4, o2, a2, e11, z2, qs2, qb2, qv2⟩ := U.at (U.mono pv1 l1) (i := k) (by omega)
 have bd2 := Fit.getD (U.mono pv1 l1).1 k
 refine Wp.dagL 9 [17, 18, 19, 20, 21, 22, 23, 24, 25] [eqv (.slice b1 a.length c1), eqv (.int .i64 ((k : Nat) : Int)), eqv (.pointer (some ⟨b3, o1 + k, none⟩)), eqv (.int .u32 ((a.getD k 0 : Nat) : Int)), eqv (.slice b2 b.length c2), eqv (.int .i64 ((k : Nat) : Int)), eqv (.pointer (some ⟨b4, o2 + k, none⟩)), eqv (.int .u32 ((b.getD k 0 : Nat) : Int)), eqv (.bool (decide (a.getD k 0 ≠ b.getD k 0)))] mixed g2.sat rfl (by decide +kernel) ⟨sQ _, sQ _, sQ _, sQ _, sQ _, sQ _, sQ _, sQ _, sQ _, trivial⟩ ?_ ?_
 intro stab
 refine ⟨?_, ?_, ?_, ?_, ?_, ?_, ?_, ?_, ?_, trivial⟩
 intro ρ3 h2 w2 g3 hdd1 hdo1
 have e1 : ρ3 0 = .slice b1 a.length c1 := hdo1 0 rfl
 refine gP (OpW.move (v := .slice b1 a.length c1) e1 ?_)
 exact ⟨_, h2, rfl, g3, fun j x _ p => p, rfl⟩
 intro ρ4 h3 w3 g4 hdd2 hdo2
 have e2 : ρ4 5 = .int .i64 ((k : Nat) : Int) := hdo2 5 rfl
 refine gP (OpW.move (v := .int .i64 ((k : Nat) : Int)) e2 ?_)
 exact ⟨_, h3, rfl, g4, fun j x _ p => p, rfl⟩
 intro ρ5 h4 w4 g5 hdd3 hdo3
 have e3 : ρ5 17 = .slice b1 a.length c1 := hdd3 0 (by decide)
 have e4 : ρ5 18 = .int .i64 ((k : Nat) : Int) := hdd3 1 (by decide)
 refine gP (iA (b := b3) (off := o1) (l := a.length) (c := c1) (i := ((k : Nat) : Int)) (o := o1 + k) Tryd.underlying22 Tryd.sizeOf51 (e3.trans (congrArg (fun x => Value.slice x a.length c1) qs1)) e4 (by omega) (by omega) ?_)
 exact ⟨_, h4, rfl, g5, fun j x _ p => p, rfl⟩
 intro ρ6 h5 w5 g6 hdd4 hdo4
 have e6 : ρ6 19 = .pointer (some ⟨b3, o1 + k, none⟩) := hdd4 2 (by decide)
 have g7 := g2.trans g6
 refine gP (lO (v := .int .u32 ((a.getD k 0 : Nat) : Int)) Tryd.isAgg51 e6 (g7.sat _ _ (g6.le _ _ qb1)) qv1 ?_)
 exact ⟨_, h5, rfl, g6, fun j x _ p => p, rfl⟩
 intro ρ7 h6 w6 g8 hdd5 hdo5
 have e7 : ρ7 1 = .slice b2 b.length c2 := hdo5 1 rfl
 refine gP (OpW.move (v := .slice b2 b.length c2) e7 ?_)
 exact ⟨_, h6, rfl, g8, fun j x _ p => p, rfl⟩
 intro ρ8 h7 w7 g9 hdd6 hdo6
 have e8 : ρ8 5 = .int .i64 ((k : Nat) : Int) := hdo6 5 rfl
 refine gP (OpW.move (v := .int .i64 ((k : Nat) : Int)) e8 ?_)
 exact ⟨_, h7, rfl, g9, fun j x _ p => p, rfl⟩
 intro ρ9 h8 w8 g10 hdd7 hdo7
 have e9 : ρ9 21 = .slice b2 b.length c2 := hdd7 4 (by decide)
 have e10 : ρ9 22 = .int .i64 ((k : Nat) : Int) := hdd7 5 (by decide)
 refine gP (iA (b := b4) (off := o2) (l := b.length) (c := c2) (i := ((k : Nat) : Int)) (o := o2 + k) Tryd.underlying22 Tryd.sizeOf51 (e9.trans (congrArg (fun x => Value.slice x b.length c2) qs2)) e10 (by omega) (by omega) ?_)
 exact ⟨_, h8, rfl, g10, fun j x _ p => p, rfl⟩
 intro ρ10 h9 w9 g11 hdd8 hdo8
 have e12 : ρ10 23 = .pointer (some ⟨b4, o2 + k, none⟩) := hdd8 6 (by decide)
 have g12 := g2.trans g11
 refine gP (lO (v := .int .u32 ((b.getD k 0 : Nat) : Int)) Tryd.isAgg51 e12 (g12.sat _ _ (g11.le _ _ qb2)) qv2 ?_)
 exact ⟨_, h9, rfl, g11, fun j x _ p => p, rfl⟩
 intro ρ11 h10 w10 g13 hdd9 hdo9
 have e13 : ρ11 20 = .int .u32 ((a.getD k 0 : Nat) : Int) := hdd9 3 (by decide)
 have e14 : ρ11 24 = .int .u32 ((b.getD k 0 : Nat) : Int) := hdd9 7 (by decide)
 refine gP (OpW.neqI (a := ((a.getD k 0 : Nat) : Int)) (b := ((b.getD k 0 : Nat) : Int)) (r := decide (a.getD k 0 ≠ b.getD k 0)) e13 e14 (ne_nat (a := a.getD k 0) (b := b.getD k 0)) ?_)
 exact ⟨_, h10, rfl, g13, fun j x _ p => p, rfl⟩
 intro ρ12 h11 w11 g14 hdp1 hdo10
 have e15 : ρ12 0 = .slice b1 a.length c1 := hdo10 0 rfl
 have e16 : ρ12 1 = .slice b2 b.length c2 := hdo10 1 rfl
 have e17 : ρ12 5 = .int .i64 ((k : Nat) : Int) := hdo10 5 rfl
 have e18 : ρ12 25 = .bool (decide (a.getD k 0 ≠ b.getD k 0)) := hdp1 8 rfl
 refine Ops.forget [(0, .slice b1 a.length c1), (1, .slice b2 b.length c2), (5, .int .i64 ((k : Nat) : Int)), (25, .bool (decide (a.getD k 0 ≠ b.getD k 0)))] ⟨e15, e16, e17, e18, trivial⟩ (fun ρ13 => (oN (Wp.cond (t := decide (a.getD k 0 ≠ b.getD k 0)) rfl (fun c5 => ?_) (fun c5 => ?_))))
 replace c5 : a.getD k 0 ≠ b.getD k 0 := (of_decide_eq_true c5)
 refine sr (ma (oN (Wp.ret (fin1_ret rfl (resOf_tmp (v := .bool false) rfl) ?_))))
 have g15 := g2.trans g14
 refine ⟨h11, g15, ?_⟩
 exact (boolv (decide_eq_false (ne_of_getD (by assumption))).symm)
 replace c5 : ¬ (a.getD k 0 ≠ b.getD k 0) := (of_decide_eq_false c5)
 refine Wp.skip (wR (mv (oC (OpW.add (a := ((k : Nat) : Int)) (b := ((1 : Nat) : Int)) (r := ((k + 1 : Nat) : Int)) rfl rfl (add_i64 (a := k) (b := 1) (by omega)) (ma (oN ?_))))))
 have g16 := g2.trans g14
 exact ⟨(k + 1), ⟨_, h11, nm rfl, g16, (l1.trans g14.le), (by omega), (take_eq_succ (by omega) (by omega) hd (by omega))⟩, (by omega)⟩
 replace c4 : ¬ (k < a.length) := (of_decide_eq_false c4)
 refine Wp.exit (sr (ma (oN (Wp.ret (fin1_ret rfl (resOf_tmp (v := .bool true) rfl) ?_)))))
 refine ⟨h1, g2, ?_⟩
 exact (boolv (decide_eq_true (by rw [List.take_of_length_le (by omega), List.take_of_length_le (by omega)] at hd; exact hd)).symm)
end Go.Ear
