/- About package frac: XrBest. -/
import Derived.Test.YtmidncjhlnfojaaDoorNatLaw2
import Derived.Test.YtmidncjhlnfojaaDoorEarShort
import Derived.Test.YtmidncjhlnfojaaDoorProg
import Derived.Test.YtmidncjhlnfojaaDoorNatLaw3
import Derived.Test.YtmidncjhlnfojaaDoorEarFrac
import Derived.Test.YtmidncjhlnfojaaDoorEarDec
import Derived.Test.YtmidncjhlnfojaaDoorItoaLay
import Derived.Lib.ItoaMem
import Derived.Test.YtmidncjhlnfojaaDoorEarApi
import Derived.Test.YtmidncjhlnfojaaDoorEarRef2
import Derived.Test.YtmidncjhlnfojaaDoorK1
import Derived.Test.YtmidncjhlnfojaaDoorX12
set_option linter.all false
namespace Go.Ear
open Go.Proofs
set_option maxRecDepth 20000
set_option linter.unusedVariables false
set_option maxHeartbeats 2000000
theorem rBest_c {h : PH} {w : World} {v0 : Value} {l : List (Fr)} (hs : Sat h w) (pv0 : LR rpF h v0 l) (hp0 : wts l ≤ 60000000) :
    Calls Tryd.prog 65 #[v0] w (Ret h w fun h' r => r = .int .i64 (bestAt l l.length)) := by
 obtain ⟨b1, c1, rfl, k1⟩ := LR.shape pv0
 have hb7 := len_wts l
 refine calls_ear (vs := [.slice b1 l.length c1]) Tryd.func65 rfl rfl ?_
 have g1 := Gr.refl hs
 refine sr (ma (oN (sr (ma (oN (wS (sr (ma (oN (Wp.block (Wp.loop (σ := Nat) (fun (k : Nat) (ρ : Env) (w' : World) => ∃ ρb h', ρ = upds ρb [(0, .slice b1 l.length c1), (3, .int .i64 (bestAt l k)), (4, .int .i64 ((k : Nat) : Int))] ∧ Gr h w h' w' ∧ PH.le h h' ∧ (k ≤ l.length)) (fun (k : Nat) => l.length - k) 0 ?_ ?_)))))))))))
 exact ⟨_, h, named ⟨rfl, (intv (bestAt_zero l).symm), rfl, trivial⟩, g1, PH.le.refl _, (by omega)⟩
 rintro k ρ1 w1 ⟨ρ2, h1, rfl, g2, l1, hk⟩
 have hba := bestAt_bd l k
 have hb2 := bf_getD l k
 have hb8 := bf_getD l (bestAt l k).toNat
 refine wS (sr (mv (mv (oC (OpW.lenS Tryd.underlying50 (l := l.length) rfl ?_)))))
 refine oC (OpW.lss (a := ((k : Nat) : Int)) (b := ((l.length : Nat) : Int)) (r := decide (k < l.length)) rfl rfl (lt_nat (a := k) (b := l.length)) (oN (Wp.cond (t := decide (k < l.length)) rfl (fun c2 => ?_) (fun c2 => ?_))))
 replace c2 : k < l.length := (of_decide_eq_true c2)
 refine Wp.skip (wS (Wp.block (wS ?_)))
 cases c3 : (decide ((bestAt l k) < ((0 : Nat) : Int)))
 have c4 : ¬ ((bestAt l k) < ((0 : Nat) : Int)) := (of_decide_eq_false c3)
 obtain ⟨b2, o1, a1, e11, z1, cs1, qs1, qb1, qv1, qf1, qr1⟩ := LR.at' (LR.mono pv0 l1) fr0 (s := 3) rfl (i := k) (by omega)
 obtain ⟨b3, c5, b4, c6, rfl, k2, k3, u1, u2⟩ := F.open qr1
 have hbq1 : bq (l.getD k fr0).rat ≤ bf (l.getD k fr0) := F.bq qr1
 obtain ⟨b5, o2, a2, e21, z2, cs2, qs2, qb2, qv2, qf2, qr2⟩ := LR.at' (LR.mono pv0 l1) fr0 (s := 3) rfl (i := (bestAt l k).toNat) (by omega)
 obtain ⟨b6, c7, b7, c8, rfl, k4, k5, u3, u4⟩ := F.open qr2
 have hbq2 : bq (l.getD ((bestAt l k).toNat) fr0).rat ≤ bf (l.getD ((bestAt l k).toNat) fr0) := F.bq qr2
 refine Wp.dagL 14 [11, 12, 13, 14, 15, 16, 17, 18, 19, 20, 21, 22, 23, 24] [eqv (.int .i64 (bestAt l k)), eqv (.bool false), eqv (.bool false), eqv (.slice b1 l.length c1), eqv (.int .i64 ((k : Nat) : Int)), eqv (.pointer (some ⟨b2, o1 + k * 3, none⟩)), eqv (.agg #[.bool ((l.getD k fr0).neg), .slice b3 ((l.getD k fr0).n.length) c5, .slice b4 ((l.getD k fr0).d.length) c6]), eqv (.slice b1 l.length c1), eqv (.int .i64 (bestAt l k)), eqv (.pointer (some ⟨b5, o2 + ((bestAt l k).toNat) * 3, none⟩)), eqv (.agg #[.bool ((l.getD ((bestAt l k).toNat) fr0).neg), .slice b6 ((l.getD ((bestAt l k).toNat) fr0).n.length) c7, .slice b7 ((l.getD ((bestAt l k).toNat) fr0).d.length) c8]), eqv (.int .i64 (sgQ ((l.getD k fr0).rat - (l.getD ((bestAt l k).toNat) fr0).rat))), eqv (.bool (decide (((0 : Nat) : Int) < (sgQ ((l.getD k fr0).rat - (l.getD ((bestAt l k).toNat) fr0).rat))))), eqv (.bool (decide (((0 : Nat) : Int) < (sgQ ((l.getD k fr0).rat - (l.getD ((bestAt l k).toNat) fr0).rat)))))] mixed g2.sat rfl (by decide +kernel) ⟨sQ _, sQ _, sQ _, sQ _, sQ _, sQ _, sQ _, sQ _, sQ _, sQ _, sQ _, sQ _, sQ _, sQ _, trivial⟩ ?_ ?_
 intro stab
 refine ⟨?_, ?_, ?_, ?_, ?_, ?_, ?_, ?_, ?_, ?_, ?_, ?_, ?_, ?_, trivial⟩
 intro ρ3 h2 w2 g3 hdd1 hdo1
 have e1 : ρ3 3 = .int .i64 (bestAt l k) := hdo1 3 rfl
 refine gP (OpW.move (v := .int .i64 (bestAt l k)) e1 ?_)
 exact ⟨_, h2, rfl, g3, fun j x _ p => p, rfl⟩
 intro ρ4 h3 w3 g4 hdd2 hdo2
 have e2 : ρ4 11 = .int .i64 (bestAt l k) := hdd2 0 (by decide)
 refine gP (OpW.lss (a := (bestAt l k)) (b := ((0 : Nat) : Int)) (r := false) e2 rfl c3 ?_)
 exact ⟨_, h3, rfl, g4, fun j x _ p => p, rfl⟩
 intro ρ5 h4 w4 g5 hdd3 hdo3
 have e3 : ρ5 12 = .bool false := hdd3 1 (by decide)
 refine gP (OpW.move (v := .bool false) e3 ?_)
 exact ⟨_, h4, rfl, g5, fun j x _ p => p, rfl⟩
 intro ρ6 h5 w5 g6 hdd4 hdo4
 have e4 : ρ6 0 = .slice b1 l.length c1 := hdo4 0 rfl
 have e5 : ρ6 13 = .bool false := hdd4 2 (by decide)
 refine gL (d := 13) (b := false) ?_ ?_ ?_ ?_
 · rfl
 · rfl
 · exact e5
 refine (OpW.move (v := .slice b1 l.length c1) e4 ?_)
 exact ⟨_, h5, rfl, g6, fun j x _ p => p, rfl⟩
 intro ρ7 h6 w6 g7 hdd5 hdo5
 have e6 : ρ7 4 = .int .i64 ((k : Nat) : Int) := hdo5 4 rfl
 have e7 : ρ7 13 = .bool false := hdd5 2 (by decide)
 refine gL (d := 13) (b := false) ?_ ?_ ?_ ?_
 · rfl
 · rfl
 · exact e7
 refine (OpW.move (v := .int .i64 ((k : Nat) : Int)) e6 ?_)
 exact ⟨_, h6, rfl, g7, fun j x _ p => p, rfl⟩
 intro ρ8 h7 w7 g8 hdd6 hdo6
 have e8 : ρ8 13 = .bool false := hdd6 2 (by decide)
 have e9 : ρ8 14 = .slice b1 l.length c1 := hdd6 3 (by decide)
 have e10 : ρ8 15 = .int .i64 ((k : Nat) : Int) := hdd6 4 (by decide)
 refine gL (d := 13) (b := false) ?_ ?_ ?_ ?_
 · rfl
 · rfl
 · exact e8
 refine (iA (b := b2) (off := o1) (l := l.length) (c := c1) (i := ((k : Nat) : Int)) (o := o1 + k * 3) Tryd.underlying50 Tryd.sizeOf24 (e9.trans (congrArg (fun x => Value.slice x l.length c1) qs1)) e10 (by omega) (by omega) ?_)
 exact ⟨_, h7, rfl, g8, fun j x _ p => p, rfl⟩
 intro ρ9 h8 w8 g9 hdd7 hdo7
 have e12 : ρ9 13 = .bool false := hdd7 2 (by decide)
 have e13 : ρ9 16 = .pointer (some ⟨b2, o1 + k * 3, none⟩) := hdd7 5 (by decide)
 refine gL (d := 13) (b := false) ?_ ?_ ?_ ?_
 · rfl
 · rfl
 · exact e12
 have g10 := g2.trans g9
 refine (OpW.loadA (cs := [.bool ((l.getD k fr0).neg), .slice b3 ((l.getD k fr0).n.length) c5, .slice b4 ((l.getD k fr0).d.length) c6]) Tryd.isAgg24 Tryd.sizeOf24 e13 (g10.sat _ _ (g9.le _ _ qb1)) qf1 qv1 ?_)
 exact ⟨_, h8, rfl, g9, fun j x _ p => p, rfl⟩
 intro ρ10 h9 w9 g11 hdd8 hdo8
 have e14 : ρ10 0 = .slice b1 l.length c1 := hdo8 0 rfl
 have e15 : ρ10 13 = .bool false := hdd8 2 (by decide)
 refine gL (d := 13) (b := false) ?_ ?_ ?_ ?_
 · rfl
 · rfl
 · exact e15
 refine (OpW.move (v := .slice b1 l.length c1) e14 ?_)
 exact ⟨_, h9, rfl, g11, fun j x _ p => p, rfl⟩
 intro ρ11 h10 w10 g12 hdd9 hdo9
 have e16 : ρ11 3 = .int .i64 (bestAt l k) := hdo9 3 rfl
 have e17 : ρ11 13 = .bool false := hdd9 2 (by decide)
 refine gL (d := 13) (b := false) ?_ ?_ ?_ ?_
 · rfl
 · rfl
 · exact e17
 refine (OpW.move (v := .int .i64 (bestAt l k)) e16 ?_)
 exact ⟨_, h10, rfl, g12, fun j x _ p => p, rfl⟩
 intro ρ12 h11 w11 g13 hdd10 hdo10
 have e18 : ρ12 13 = .bool false := hdd10 2 (by decide)
 have e19 : ρ12 18 = .slice b1 l.length c1 := hdd10 7 (by decide)
 have e20 : ρ12 19 = .int .i64 (bestAt l k) := hdd10 8 (by decide)
 refine gL (d := 13) (b := false) ?_ ?_ ?_ ?_
 · rfl
 · rfl
 · exact e18
 refine (iA (b := b5) (off := o2) (l := l.length) (c := c1) (i := (bestAt l k)) (o := o2 + ((bestAt l k).toNat) * 3) Tryd.underlying50 Tryd.sizeOf24 (e19.trans (congrArg (fun x => Value.slice x l.length c1) qs2)) e20 (by omega) (by omega) ?_)
 exact ⟨_, h11, rfl, g13, fun j x _ p => p, rfl⟩
 intro ρ13 h12 w12 g14 hdd11 hdo11
 have e22 : ρ13 13 = .bool false := hdd11 2 (by decide)
 have e23 : ρ13 20 = .pointer (some ⟨b5, o2 + ((bestAt l k).toNat) * 3, none⟩) := hdd11 9 (by decide)
 refine gL (d := 13) (b := false) ?_ ?_ ?_ ?_
 · rfl
 · rfl
 · exact e22
 have g15 := g2.trans g14
 refine (OpW.loadA (cs := [.bool ((l.getD ((bestAt l k).toNat) fr0).neg), .slice b6 ((l.getD ((bestAt l k).toNat) fr0).n.length) c7, .slice b7 ((l.getD ((bestAt l k).toNat) fr0).d.length) c8]) Tryd.isAgg24 Tryd.sizeOf24 e23 (g15.sat _ _ (g14.le _ _ qb2)) qf2 qv2 ?_)
 exact ⟨_, h12, rfl, g14, fun j x _ p => p, rfl⟩
 intro ρ14 h13 w13 g16 hdd12 hdo12
 have e24 : ρ14 13 = .bool false := hdd12 2 (by decide)
 have e25 : ρ14 17 = .agg #[.bool ((l.getD k fr0).neg), .slice b3 ((l.getD k fr0).n.length) c5, .slice b4 ((l.getD k fr0).d.length) c6] := hdd12 6 (by decide)
 have e26 : ρ14 21 = .agg #[.bool ((l.getD ((bestAt l k).toNat) fr0).neg), .slice b6 ((l.getD ((bestAt l k).toNat) fr0).n.length) c7, .slice b7 ((l.getD ((bestAt l k).toNat) fr0).d.length) c8] := hdd12 10 (by decide)
 refine gL (d := 13) (b := false) ?_ ?_ ?_ ?_
 · rfl
 · rfl
 · exact e24
 have g17 := g2.trans g16
 refine (cF Tryd.call29 (rCmp_c (a := l.getD k fr0) (b := l.getD ((bestAt l k).toNat) fr0) g17.sat (F.mono qr1 g16.le) (F.mono qr2 g16.le) (by omega)) (cx e25 (cx e26 cxn)) ?_)
 intro r1 h14 w14 gr1 hr1
 exact ⟨r1, h14, rfl, g16.trans gr1, fun j x _ => stab j _ _ _ _ x gr1, hr1⟩
 intro ρ15 h15 w15 g18 hdd13 hdo13
 have e27 : ρ15 13 = .bool false := hdd13 2 (by decide)
 have e28 : ρ15 22 = .int .i64 (sgQ ((l.getD k fr0).rat - (l.getD ((bestAt l k).toNat) fr0).rat)) := hdd13 11 (by decide)
 refine gL (d := 13) (b := false) ?_ ?_ ?_ ?_
 · rfl
 · rfl
 · exact e27
 refine (OpW.gtr (a := (sgQ ((l.getD k fr0).rat - (l.getD ((bestAt l k).toNat) fr0).rat))) (b := ((0 : Nat) : Int)) (r := decide (((0 : Nat) : Int) < (sgQ ((l.getD k fr0).rat - (l.getD ((bestAt l k).toNat) fr0).rat)))) e28 rfl rfl ?_)
 exact ⟨_, h15, rfl, g18, fun j x _ p => p, rfl⟩
 intro ρ16 h16 w16 g19 hdd14 hdo14
 have e29 : ρ16 13 = .bool false := hdd14 2 (by decide)
 have e30 : ρ16 23 = .bool (decide (((0 : Nat) : Int) < (sgQ ((l.getD k fr0).rat - (l.getD ((bestAt l k).toNat) fr0).rat)))) := hdd14 12 (by decide)
 refine gP (pF (v := .bool (decide (((0 : Nat) : Int) < (sgQ ((l.getD k fr0).rat - (l.getD ((bestAt l k).toNat) fr0).rat))))) e29 e30 ?_)
 exact ⟨_, h16, rfl, g19, fun j x _ p => p, rfl⟩
 intro ρ17 h17 w17 g20 hdp1 hdo15
 have e31 : ρ17 0 = .slice b1 l.length c1 := hdo15 0 rfl
 have e32 : ρ17 3 = .int .i64 (bestAt l k) := hdo15 3 rfl
 have e33 : ρ17 4 = .int .i64 ((k : Nat) : Int) := hdo15 4 rfl
 have e34 : ρ17 24 = .bool (decide (((0 : Nat) : Int) < (sgQ ((l.getD k fr0).rat - (l.getD ((bestAt l k).toNat) fr0).rat)))) := hdp1 13 rfl
 refine Ops.forget [(0, .slice b1 l.length c1), (3, .int .i64 (bestAt l k)), (4, .int .i64 ((k : Nat) : Int)), (24, .bool (decide (((0 : Nat) : Int) < (sgQ ((l.getD k fr0).rat - (l.getD ((bestAt l k).toNat) fr0).rat)))))] ⟨e31, e32, e33, e34, trivial⟩ (fun ρ18 => (oN (Wp.cond (t := decide (((0 : Nat) : Int) < (sgQ ((l.getD k fr0).rat - (l.getD ((bestAt l k).toNat) fr0).rat)))) rfl (fun c9 => ?_) (fun c9 => ?_))))
 replace c9 : ((0 : Nat) : Int) < (sgQ ((l.getD k fr0).rat - (l.getD ((bestAt l k).toNat) fr0).rat)) := (of_decide_eq_true c9)
 refine wR (mv (ma (oN (wR (mv (oC (OpW.add (a := ((k : Nat) : Int)) (b := ((1 : Nat) : Int)) (r := ((k + 1 : Nat) : Int)) rfl rfl (add_i64 (a := k) (b := 1) (by omega)) (ma (oN ?_)))))))))
 have g21 := g2.trans g20
 exact ⟨(k + 1), ⟨_, h17, named ⟨rfl, (intv (by first | rw [bestAt_succ, if_pos (.inl (by assumption))] | rw [bestAt_succ, if_pos (.inr (rat_sub_pos.1 (sgQ_pos.1 (by assumption))))] | rw [bestAt_succ, if_neg (by rintro (hx | hx) <;> first | exact absurd hx (by assumption) | exact absurd (sgQ_pos.2 (rat_sub_pos.2 hx)) (by assumption))])), rfl, trivial⟩, g21, (l1.trans g20.le), (by omega)⟩, (by omega)⟩
 replace c9 : ¬ (((0 : Nat) : Int) < (sgQ ((l.getD k fr0).rat - (l.getD ((bestAt l k).toNat) fr0).rat))) := (of_decide_eq_false c9)
 refine Wp.skip (wR (mv (oC (OpW.add (a := ((k : Nat) : Int)) (b := ((1 : Nat) : Int)) (r := ((k + 1 : Nat) : Int)) rfl rfl (add_i64 (a := k) (b := 1) (by omega)) (ma (oN ?_))))))
 have g22 := g2.trans g20
 exact ⟨(k + 1), ⟨_, h17, named ⟨rfl, (intv (by first | rw [bestAt_succ, if_pos (.inl (by assumption))] | rw [bestAt_succ, if_pos (.inr (rat_sub_pos.1 (sgQ_pos.1 (by assumption))))] | rw [bestAt_succ, if_neg (by rintro (hx | hx) <;> first | exact absurd hx (by assumption) | exact absurd (sgQ_pos.2 (rat_sub_pos.2 hx)) (by assumption))])), rfl, trivial⟩, g22, (l1.trans g20.le), (by omega)⟩, (by omega)⟩
 have c10 : (bestAt l k) < ((0 : Nat) : Int) := (of_decide_eq_true c3)
 refine Wp.dagL 14 [11, 12, 13, 14, 15, 16, 17, 18, 19, 20, 21, 22, 23, 24] [eqv (.int .i64 (bestAt l k)), eqv (.bool true), eqv (.bool true), eqv undef, eqv undef, eqv undef, eqv undef, eqv undef, eqv undef, eqv undef, eqv undef, eqv undef, eqv undef, eqv (.bool true)] mixed g2.sat rfl (by decide +kernel) ⟨sQ _, sQ _, sQ _, sQ _, sQ _, sQ _, sQ _, sQ _, sQ _, sQ _, sQ _, sQ _, sQ _, sQ _, trivial⟩ ?_ ?_
 intro stab
 refine ⟨?_, ?_, ?_, ?_, ?_, ?_, ?_, ?_, ?_, ?_, ?_, ?_, ?_, ?_, trivial⟩
 intro ρ19 h18 w18 g23 hdd15 hdo16
 have e35 : ρ19 3 = .int .i64 (bestAt l k) := hdo16 3 rfl
 refine gP (OpW.move (v := .int .i64 (bestAt l k)) e35 ?_)
 exact ⟨_, h18, rfl, g23, fun j x _ p => p, rfl⟩
 intro ρ20 h19 w19 g24 hdd16 hdo17
 have e36 : ρ20 11 = .int .i64 (bestAt l k) := hdd16 0 (by decide)
 refine gP (OpW.lss (a := (bestAt l k)) (b := ((0 : Nat) : Int)) (r := true) e36 rfl c3 ?_)
 exact ⟨_, h19, rfl, g24, fun j x _ p => p, rfl⟩
 intro ρ21 h20 w20 g25 hdd17 hdo18
 have e37 : ρ21 12 = .bool true := hdd17 1 (by decide)
 refine gP (OpW.move (v := .bool true) e37 ?_)
 exact ⟨_, h20, rfl, g25, fun j x _ p => p, rfl⟩
 intro ρ22 h21 w21 g26 hdd18 hdo19
 have e38 : ρ22 13 = .bool true := hdd18 2 (by decide)
 refine OpG.dead (d := 13) (b' := true) ?_ ?_ ?_ ?_ ?_
 · rfl
 · rfl
 · exact e38
 · rfl
 exact ⟨undef, h21, rfl, g26, fun j x _ p => p, rfl⟩
 intro ρ23 h22 w22 g27 hdd19 hdo20
 have e39 : ρ23 13 = .bool true := hdd19 2 (by decide)
 refine OpG.dead (d := 13) (b' := true) ?_ ?_ ?_ ?_ ?_
 · rfl
 · rfl
 · exact e39
 · rfl
 exact ⟨undef, h22, rfl, g27, fun j x _ p => p, rfl⟩
 intro ρ24 h23 w23 g28 hdd20 hdo21
 have e40 : ρ24 13 = .bool true := hdd20 2 (by decide)
 refine OpG.dead (d := 13) (b' := true) ?_ ?_ ?_ ?_ ?_
 · rfl
 · rfl
 · exact e40
 · rfl
 exact ⟨undef, h23, rfl, g28, fun j x _ p => p, rfl⟩
 intro ρ25 h24 w24 g29 hdd21 hdo22
 have e41 : ρ25 13 = .bool true := hdd21 2 (by decide)
 refine OpG.dead (d := 13) (b' := true) ?_ ?_ ?_ ?_ ?_
 · rfl
 · rfl
 · exact e41
 · rfl
 exact ⟨undef, h24, rfl, g29, fun j x _ p => p, rfl⟩
 intro ρ26 h25 w25 g30 hdd22 hdo23
 have e42 : ρ26 13 = .bool true := hdd22 2 (by decide)
 refine OpG.dead (d := 13) (b' := true) ?_ ?_ ?_ ?_ ?_
 · rfl
 · rfl
 · exact e42
 · rfl
 exact ⟨undef, h25, rfl, g30, fun j x _ p => p, rfl⟩
 intro ρ27 h26 w26 g31 hdd23 hdo24
 have e43 : ρ27 13 = .bool true := hdd23 2 (by decide)
 refine OpG.dead (d := 13) (b' := true) ?_ ?_ ?_ ?_ ?_
 · rfl
 · rfl
 · exact e43
 · rfl
 exact ⟨undef, h26, rfl, g31, fun j x _ p => p, rfl⟩
 intro ρ28 h27 w27 g32 hdd24 hdo25
 have e44 : ρ28 13 = .bool true := hdd24 2 (by decide)
 refine OpG.dead (d := 13) (b' := true) ?_ ?_ ?_ ?_ ?_
 · rfl
 · rfl
 · exact e44
 · rfl
 exact ⟨undef, h27, rfl, g32, fun j x _ p => p, rfl⟩
 intro ρ29 h28 w28 g33 hdd25 hdo26
 have e45 : ρ29 13 = .bool true := hdd25 2 (by decide)
 refine OpG.dead (d := 13) (b' := true) ?_ ?_ ?_ ?_ ?_
 · rfl
 · rfl
 · exact e45
 · rfl
 exact ⟨undef, h28, rfl, g33, fun j x _ p => p, rfl⟩
 intro ρ30 h29 w29 g34 hdd26 hdo27
 have e46 : ρ30 13 = .bool true := hdd26 2 (by decide)
 refine OpG.dead (d := 13) (b' := true) ?_ ?_ ?_ ?_ ?_
 · rfl
 · rfl
 · exact e46
 · rfl
 exact ⟨undef, h29, rfl, g34, fun j x _ p => p, rfl⟩
 intro ρ31 h30 w30 g35 hdd27 hdo28
 have e47 : ρ31 13 = .bool true := hdd27 2 (by decide)
 refine OpG.dead (d := 13) (b' := true) ?_ ?_ ?_ ?_ ?_
 · rfl
 · rfl
 · exact e47
 · rfl
 exact ⟨undef, h30, rfl, g35, fun j x _ p => p, rfl⟩
 intro ρ32 h31 w31 g36 hdd28 hdo29
 have e48 : ρ32 13 = .bool true := hdd28 2 (by decide)
 refine gP (pT (v := .bool true) e48 rfl ?_)
 exact ⟨_, h31, rfl, g36, fun j x _ p => p, rfl⟩
 intro ρ33 h32 w32 g37 hdp2 hdo30
 have e49 : ρ33 0 = .slice b1 l.length c1 := hdo30 0 rfl
 have e50 : ρ33 3 = .int .i64 (bestAt l k) := hdo30 3 rfl
 have e51 : ρ33 4 = .int .i64 ((k : Nat) : Int) := hdo30 4 rfl
 have e52 : ρ33 24 = .bool true := hdp2 13 rfl
 refine Ops.forget [(0, .slice b1 l.length c1), (3, .int .i64 (bestAt l k)), (4, .int .i64 ((k : Nat) : Int)), (24, .bool true)] ⟨e49, e50, e51, e52, trivial⟩ (fun ρ34 => (oN (Wp.cond_t rfl (wR (mv (ma (oN (wR (mv (oC (OpW.add (a := ((k : Nat) : Int)) (b := ((1 : Nat) : Int)) (r := ((k + 1 : Nat) : Int)) rfl rfl (add_i64 (a := k) (b := 1) (by omega)) (ma (oN ?_)))))))))))))
 have g38 := g2.trans g37
 exact ⟨(k + 1), ⟨_, h32, named ⟨rfl, (intv (by first | rw [bestAt_succ, if_pos (.inl (by assumption))] | rw [bestAt_succ, if_pos (.inr (rat_sub_pos.1 (sgQ_pos.1 (by assumption))))] | rw [bestAt_succ, if_neg (by rintro (hx | hx) <;> first | exact absurd hx (by assumption) | exact absurd (sgQ_pos.2 (rat_sub_pos.2 hx)) (by assumption))])), rfl, trivial⟩, g38, (l1.trans g37.le), (by omega)⟩, (by omega)⟩
 replace c2 : ¬ (k < l.length) := (of_decide_eq_false c2)
 refine Wp.exit (sr (mv (ma (oN (Wp.ret (fin1_ret rfl (resOf_tmp (v := .int .i64 (bestAt l k)) rfl) ?_))))))
 refine ⟨h1, g2, ?_⟩
 exact (intv (by rw [show k = l.length by omega]))
end Go.Ear
