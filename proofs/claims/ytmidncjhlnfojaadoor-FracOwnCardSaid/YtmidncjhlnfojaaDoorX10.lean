/- About package frac: X10. -/
import Derived.Test.YtmidncjhlnfojaaDoorNatLaw2
import Derived.Test.YtmidncjhlnfojaaDoorEarShort
import Derived.Test.YtmidncjhlnfojaaDoorProg
import Derived.Test.YtmidncjhlnfojaaDoorNatLaw3
import Derived.Test.YtmidncjhlnfojaaDoorEarFrac
import Derived.Test.YtmidncjhlnfojaaDoorEarDec
import Derived.Test.YtmidncjhlnfojaaDoorItoaLay
import Derived.Lib.ItoaMem
import Derived.Test.YtmidncjhlnfojaaDoorEarApi
import Derived.Test.YtmidncjhlnfojaaDoorEarRef2
import Derived.Test.YtmidncjhlnfojaaDoorK1
import Derived.Test.YtmidncjhlnfojaaDoorK10
set_option linter.all false
namespace Go.Ear
open Go.Proofs
set_option maxRecDepth 20000
set_option linter.unusedVariables false
set_option maxHeartbeats 2000000
theorem rtimes_c {h : PH} {w : World} {v0 : Value} {a : Nat} {v1 : Value} {b : Nat} (hs : Sat h w) (pv0 : N h v0 a) (pv1 : N h v1 b) (hp0 : sz a ≤ 1073741824) (hp1 : sz b ≤ 1073741824) :
    Calls Tryd.prog 93 #[v0, v1] w (Ret h w fun h' r => N h' r (a * b)) := by
 obtain ⟨b1, c1, rfl, k1⟩ := N.shape pv0
 obtain ⟨b2, c2, rfl, k2⟩ := N.shape pv1
 unfold sz at hp0 hp1
 refine calls_ear (vs := [.slice b1 ((digs a).length) c1, .slice b2 ((digs b).length) c2]) Tryd.func93 rfl rfl ?_
 have g1 := Gr.refl hs
 refine sr (ma (oN (sr (mv (oC (OpW.lenS Tryd.underlying22 (l := (digs a).length) rfl (mv (oC (OpW.lenS Tryd.underlying22 (l := (digs b).length) rfl ?_)))))))))
 refine oC (OpW.add (a := (((digs a).length : Nat) : Int)) (b := (((digs b).length : Nat) : Int)) (r := (((digs a).length + ((digs b).length) : Nat) : Int)) rfl rfl (add_i64 (a := (digs a).length) (b := (digs b).length) (by omega)) ?_)
 refine oC (OpW.makeO (l := (digs a).length + ((digs b).length)) (c := (digs a).length + ((digs b).length)) (i := Tryd.t51) (arr := (ua .u32 (List.replicate ((digs a).length + ((digs b).length)) 0))) g1.sat Tryd.underlying22 Tryd.type51 rfl rfl rfl (Nat.le_refl _) (show _ * _ ≤ _ by simp only [Tryd.t51]; omega) (by omega) (made_ua _ _) ?_)
 intro b3 w1 gr1 n1 lo1 o1
 have lo2 := Nat.le_trans g1.ext.size lo1
 refine ma (oN (wS (sr (ma (oN (Wp.block ?_))))))
 have g2 := g1.trans gr1
 refine Wp.loop (σ := Nat × List Nat) (fun s (ρ : Env) (w' : World) => match s with | (i, out) => ∃ ρb h', ρ = upds ρb [(0, .slice b1 ((digs a).length) c1), (1, .slice b2 ((digs b).length) c2), (5, .slice (some ⟨b3, 0, none⟩) ((digs a).length + ((digs b).length)) ((digs a).length + ((digs b).length))), (6, .int .i64 ((i : Nat) : Int))] ∧ Gr h w h' w' ∧ PH.le h h' ∧ w'.heap[b3]? = some (.cells (ua .u32 out) 51 (0, 0)) ∧ h' b3 = none ∧ (i ≤ (digs a).length) ∧ (out.length = (digs a).length + (digs b).length) ∧ (Fit out) ∧ (∀ t, i + (digs b).length ≤ t → out.getD t 0 = 0) ∧ (val out = val ((digs a).take i) * b)) (fun s => match s with | (i, out) => (digs a).length - i) (0, List.replicate ((digs a).length + (digs b).length) 0) ?_ ?_
 exact ⟨_, h, nm (by exact rfl), g2, PH.le.refl _, o1, n1, (by omega), List.length_replicate, Fit.replicate _, (fun t _ => getD_replicate _ t), (by simp [val, val_replicate])⟩
 rintro ⟨i, out⟩ ρ1 w2 ⟨ρ2, h1, rfl, g3, l1, o2, n2, hi, hl, hf, hz, hv⟩
 have bdx := (digs_fit a).getD i
 refine wS (sr (mv (mv (oC (OpW.lenS Tryd.underlying22 (l := (digs a).length) rfl ?_)))))
 refine oC (OpW.lss (a := ((i : Nat) : Int)) (b := (((digs a).length : Nat) : Int)) (r := decide (i < (digs a).length)) rfl rfl (lt_nat (a := i) (b := (digs a).length)) (oN (Wp.cond (t := decide (i < (digs a).length)) rfl (fun c3 => ?_) (fun c3 => ?_))))
 replace c3 : i < (digs a).length := (of_decide_eq_true c3)
 refine Wp.skip (wS (Wp.block (sr (ma (oN (wS (sr (ma (oN (Wp.block (Wp.loop (σ := Nat × Nat × List Nat) (fun s (ρ : Env) (w' : World) => match s with | (j, c, o) => ∃ ρb h', ρ = upds ρb [(0, .slice b1 ((digs a).length) c1), (1, .slice b2 ((digs b).length) c2), (5, .slice (some ⟨b3, 0, none⟩) ((digs a).length + ((digs b).length)) ((digs a).length + ((digs b).length))), (6, .int .i64 ((i : Nat) : Int)), (7, .int .u64 ((c : Nat) : Int)), (8, .int .i64 ((j : Nat) : Int))] ∧ Gr h w h' w' ∧ PH.le h1 h' ∧ w'.heap[b3]? = some (.cells (ua .u32 o) 51 (0, 0)) ∧ h' b3 = none ∧ (j ≤ (digs b).length) ∧ (o.length = (digs a).length + (digs b).length) ∧ (Fit o) ∧ (c < 4294967296) ∧ (∀ t, i + (digs b).length ≤ t → o.getD t 0 = 0) ∧ (val o + c * B32 ^ (i + j) = val ((digs a).take i) * b + (digs a).getD i 0 * val ((digs b).take j) * B32 ^ i)) (fun s => match s with | (j, c, o) => (digs b).length - j) (0, 0, out) ?_ ?_)))))))))))
 exact ⟨_, h1, nm (by exact rfl), g3, PH.le.refl _, o2, n2, (by omega), hl, hf, (by omega), hz, (by rw [hv]; simp [val])⟩
 rintro ⟨j, c, o⟩ ρ3 w3 ⟨ρ4, h2, rfl, g4, l2, o3, n3, hj, hl2, hf2, hc, hz2, hv2⟩
 have bdy := (digs_fit b).getD j
 have bdo := hf2.getD (i + j)
 have bxy := mul_bd bdx bdy
 have ecc : c + o.getD (i + j) 0 + (digs a).getD i 0 * (digs b).getD j 0 = c + ((digs a).getD i 0 * (digs b).getD j 0 + o.getD (i + j) 0) := by omega
 refine wS (sr (mv (mv (oC (OpW.lenS Tryd.underlying22 (l := (digs b).length) rfl ?_)))))
 refine oC (OpW.lss (a := ((j : Nat) : Int)) (b := (((digs b).length : Nat) : Int)) (r := decide (j < (digs b).length)) rfl rfl (lt_nat (a := j) (b := (digs b).length)) (oN (Wp.cond (t := decide (j < (digs b).length)) rfl (fun c4 => ?_) (fun c4 => ?_))))
 replace c4 : j < (digs b).length := (of_decide_eq_true c4)
 refine Wp.skip (wS (Wp.block (wS ?_)))
 obtain ⟨b4, o5, a1, e17, z1, qs1, qb1, qv1⟩ := U.at (U.mono pv0 (l1.trans l2)) (i := i) (by omega)
 have bd1 := Fit.getD (U.mono pv0 (l1.trans l2)).1 i
 obtain ⟨b5, o6, a2, e24, z2, qs2, qb2, qv2⟩ := U.at (U.mono pv1 (l1.trans l2)) (i := j) (by omega)
 have bd2 := Fit.getD (U.mono pv1 (l1.trans l2)).1 j
 refine Wp.dagL 22 [27, 28, 29, 30, 31, 32, 33, 34, 35, 36, 37, 38, 39, 40, 41, 42, 43, 44, 45, 46, 47, 7] [eqv (.int .u64 ((c : Nat) : Int)), eqv (.slice (some ⟨b3, 0, none⟩) ((digs a).length + ((digs b).length)) ((digs a).length + ((digs b).length))), eqv (.int .i64 ((i : Nat) : Int)), eqv (.int .i64 ((j : Nat) : Int)), eqv (.int .i64 ((i + j : Nat) : Int)), eqv (.pointer (some ⟨b3, i + j, none⟩)), eqv (.int .u32 ((o.getD (i + j) 0 : Nat) : Int)), eqv (.int .u64 ((o.getD (i + j) 0 : Nat) : Int)), eqv (.int .u64 ((c + (o.getD (i + j) 0) : Nat) : Int)), eqv (.slice b1 ((digs a).length) c1), eqv (.int .i64 ((i : Nat) : Int)), eqv (.pointer (some ⟨b4, o5 + i, none⟩)), eqv (.int .u32 (((digs a).getD i 0 : Nat) : Int)), eqv (.int .u64 (((digs a).getD i 0 : Nat) : Int)), eqv (.slice b2 ((digs b).length) c2), eqv (.int .i64 ((j : Nat) : Int)), eqv (.pointer (some ⟨b5, o6 + j, none⟩)), eqv (.int .u32 (((digs b).getD j 0 : Nat) : Int)), eqv (.int .u64 (((digs b).getD j 0 : Nat) : Int)), eqv (.int .u64 ((((digs a).getD i 0) * ((digs b).getD j 0) : Nat) : Int)), eqv (.int .u64 ((c + (o.getD (i + j) 0) + (((digs a).getD i 0) * ((digs b).getD j 0)) : Nat) : Int)), eqv (.int .u64 ((c + (o.getD (i + j) 0) + (((digs a).getD i 0) * ((digs b).getD j 0)) : Nat) : Int))] mixed g4.sat rfl (by decide +kernel) ⟨sQ _, sQ _, sQ _, sQ _, sQ _, sQ _, sQ _, sQ _, sQ _, sQ _, sQ _, sQ _, sQ _, sQ _, sQ _, sQ _, sQ _, sQ _, sQ _, sQ _, sQ _, sQ _, trivial⟩ ?_ ?_
 intro stab
 refine ⟨?_, ?_, ?_, ?_, ?_, ?_, ?_, ?_, ?_, ?_, ?_, ?_, ?_, ?_, ?_, ?_, ?_, ?_, ?_, ?_, ?_, ?_, trivial⟩
 intro ρ5 h3 w4 g5 hdd1 hdo1
 have e1 : ρ5 7 = .int .u64 ((c : Nat) : Int) := hdo1 7 rfl
 refine gP (OpW.move (v := .int .u64 ((c : Nat) : Int)) e1 ?_)
 exact ⟨_, h3, rfl, g5, fun j x _ p => p, rfl⟩
 intro ρ6 h4 w5 g6 hdd2 hdo2
 have e2 : ρ6 5 = .slice (some ⟨b3, 0, none⟩) ((digs a).length + ((digs b).length)) ((digs a).length + ((digs b).length)) := hdo2 5 rfl
 refine gP (OpW.move (v := .slice (some ⟨b3, 0, none⟩) ((digs a).length + ((digs b).length)) ((digs a).length + ((digs b).length))) e2 ?_)
 exact ⟨_, h4, rfl, g6, fun j x _ p => p, rfl⟩
 intro ρ7 h5 w6 g7 hdd3 hdo3
 have e3 : ρ7 6 = .int .i64 ((i : Nat) : Int) := hdo3 6 rfl
 refine gP (OpW.move (v := .int .i64 ((i : Nat) : Int)) e3 ?_)
 exact ⟨_, h5, rfl, g7, fun j x _ p => p, rfl⟩
 intro ρ8 h6 w7 g8 hdd4 hdo4
 have e4 : ρ8 8 = .int .i64 ((j : Nat) : Int) := hdo4 8 rfl
 refine gP (OpW.move (v := .int .i64 ((j : Nat) : Int)) e4 ?_)
 exact ⟨_, h6, rfl, g8, fun j x _ p => p, rfl⟩
 intro ρ9 h7 w8 g9 hdd5 hdo5
 have e5 : ρ9 29 = .int .i64 ((i : Nat) : Int) := hdd5 2 (by decide)
 have e6 : ρ9 30 = .int .i64 ((j : Nat) : Int) := hdd5 3 (by decide)
 refine gP (OpW.add (a := ((i : Nat) : Int)) (b := ((j : Nat) : Int)) (r := ((i + j : Nat) : Int)) e5 e6 (add_i64 (a := i) (b := j) (by omega)) ?_)
 exact ⟨_, h7, rfl, g9, fun j x _ p => p, rfl⟩
 intro ρ10 h8 w9 g10 hdd6 hdo6
 have e7 : ρ10 28 = .slice (some ⟨b3, 0, none⟩) ((digs a).length + ((digs b).length)) ((digs a).length + ((digs b).length)) := hdd6 1 (by decide)
 have e8 : ρ10 31 = .int .i64 ((i + j : Nat) : Int) := hdd6 4 (by decide)
 refine gP (iA (i := ((i + j : Nat) : Int)) (o := i + j) Tryd.underlying22 Tryd.sizeOf51 e7 e8 (by omega) (by omega) ?_)
 exact ⟨_, h8, rfl, g10, fun j x _ p => p, rfl⟩
 intro ρ11 h9 w10 g11 hdd7 hdo7
 have e9 : ρ11 32 = .pointer (some ⟨b3, i + j, none⟩) := hdd7 5 (by decide)
 have o4 := g11.kp ⟨o3, n3⟩
 refine gP (lO (v := .int .u32 ((o.getD (i + j) 0 : Nat) : Int)) Tryd.isAgg51 e9 o4.1 (ua_at (by omega)) ?_)
 exact ⟨_, h9, rfl, g11, fun j x _ p => p, rfl⟩
 intro ρ12 h10 w11 g12 hdd8 hdo8
 have e10 : ρ12 33 = .int .u32 ((o.getD (i + j) 0 : Nat) : Int) := hdd8 6 (by decide)
 refine gP (OpW.convI (a := ((o.getD (i + j) 0 : Nat) : Int)) (r := ((o.getD (i + j) 0 : Nat) : Int)) Tryd.underlying51 Tryd.underlying77 e10 (conv_u64 (by omega)) ?_)
 exact ⟨_, h10, rfl, g12, fun j x _ p => p, rfl⟩
 intro ρ13 h11 w12 g13 hdd9 hdo9
 have e11 : ρ13 27 = .int .u64 ((c : Nat) : Int) := hdd9 0 (by decide)
 have e12 : ρ13 34 = .int .u64 ((o.getD (i + j) 0 : Nat) : Int) := hdd9 7 (by decide)
 refine gP (OpW.add (a := ((c : Nat) : Int)) (b := ((o.getD (i + j) 0 : Nat) : Int)) (r := ((c + (o.getD (i + j) 0) : Nat) : Int)) e11 e12 (add_u64 (a := c) (b := o.getD (i + j) 0) (by omega)) ?_)
 exact ⟨_, h11, rfl, g13, fun j x _ p => p, rfl⟩
 intro ρ14 h12 w13 g14 hdd10 hdo10
 have e13 : ρ14 0 = .slice b1 ((digs a).length) c1 := hdo10 0 rfl
 refine gP (OpW.move (v := .slice b1 ((digs a).length) c1) e13 ?_)
 exact ⟨_, h12, rfl, g14, fun j x _ p => p, rfl⟩
 intro ρ15 h13 w14 g15 hdd11 hdo11
 have e14 : ρ15 6 = .int .i64 ((i : Nat) : Int) := hdo11 6 rfl
 refine gP (OpW.move (v := .int .i64 ((i : Nat) : Int)) e14 ?_)
 exact ⟨_, h13, rfl, g15, fun j x _ p => p, rfl⟩
 intro ρ16 h14 w15 g16 hdd12 hdo12
 have e15 : ρ16 36 = .slice b1 ((digs a).length) c1 := hdd12 9 (by decide)
 have e16 : ρ16 37 = .int .i64 ((i : Nat) : Int) := hdd12 10 (by decide)
 refine gP (iA (b := b4) (off := o5) (l := (digs a).length) (c := c1) (i := ((i : Nat) : Int)) (o := o5 + i) Tryd.underlying22 Tryd.sizeOf51 (e15.trans (congrArg (fun x => Value.slice x ((digs a).length) c1) qs1)) e16 (by omega) (by omega) ?_)
 exact ⟨_, h14, rfl, g16, fun j x _ p => p, rfl⟩
 intro ρ17 h15 w16 g17 hdd13 hdo13
 have e18 : ρ17 38 = .pointer (some ⟨b4, o5 + i, none⟩) := hdd13 11 (by decide)
 have g18 := g4.trans g17
 refine gP (lO (v := .int .u32 (((digs a).getD i 0 : Nat) : Int)) Tryd.isAgg51 e18 (g18.sat _ _ (g17.le _ _ qb1)) qv1 ?_)
 exact ⟨_, h15, rfl, g17, fun j x _ p => p, rfl⟩
 intro ρ18 h16 w17 g19 hdd14 hdo14
 have e19 : ρ18 39 = .int .u32 (((digs a).getD i 0 : Nat) : Int) := hdd14 12 (by decide)
 refine gP (OpW.convI (a := (((digs a).getD i 0 : Nat) : Int)) (r := (((digs a).getD i 0 : Nat) : Int)) Tryd.underlying51 Tryd.underlying77 e19 (conv_u64 (by omega)) ?_)
 exact ⟨_, h16, rfl, g19, fun j x _ p => p, rfl⟩
 intro ρ19 h17 w18 g20 hdd15 hdo15
 have e20 : ρ19 1 = .slice b2 ((digs b).length) c2 := hdo15 1 rfl
 refine gP (OpW.move (v := .slice b2 ((digs b).length) c2) e20 ?_)
 exact ⟨_, h17, rfl, g20, fun j x _ p => p, rfl⟩
 intro ρ20 h18 w19 g21 hdd16 hdo16
 have e21 : ρ20 8 = .int .i64 ((j : Nat) : Int) := hdo16 8 rfl
 refine gP (OpW.move (v := .int .i64 ((j : Nat) : Int)) e21 ?_)
 exact ⟨_, h18, rfl, g21, fun j x _ p => p, rfl⟩
 intro ρ21 h19 w20 g22 hdd17 hdo17
 have e22 : ρ21 41 = .slice b2 ((digs b).length) c2 := hdd17 14 (by decide)
 have e23 : ρ21 42 = .int .i64 ((j : Nat) : Int) := hdd17 15 (by decide)
 refine gP (iA (b := b5) (off := o6) (l := (digs b).length) (c := c2) (i := ((j : Nat) : Int)) (o := o6 + j) Tryd.underlying22 Tryd.sizeOf51 (e22.trans (congrArg (fun x => Value.slice x ((digs b).length) c2) qs2)) e23 (by omega) (by omega) ?_)
 exact ⟨_, h19, rfl, g22, fun j x _ p => p, rfl⟩
 intro ρ22 h20 w21 g23 hdd18 hdo18
 have e25 : ρ22 43 = .pointer (some ⟨b5, o6 + j, none⟩) := hdd18 16 (by decide)
 have g24 := g4.trans g23
 refine gP (lO (v := .int .u32 (((digs b).getD j 0 : Nat) : Int)) Tryd.isAgg51 e25 (g24.sat _ _ (g23.le _ _ qb2)) qv2 ?_)
 exact ⟨_, h20, rfl, g23, fun j x _ p => p, rfl⟩
 intro ρ23 h21 w22 g25 hdd19 hdo19
 have e26 : ρ23 44 = .int .u32 (((digs b).getD j 0 : Nat) : Int) := hdd19 17 (by decide)
 refine gP (OpW.convI (a := (((digs b).getD j 0 : Nat) : Int)) (r := (((digs b).getD j 0 : Nat) : Int)) Tryd.underlying51 Tryd.underlying77 e26 (conv_u64 (by omega)) ?_)
 exact ⟨_, h21, rfl, g25, fun j x _ p => p, rfl⟩
 intro ρ24 h22 w23 g26 hdd20 hdo20
 have e27 : ρ24 40 = .int .u64 (((digs a).getD i 0 : Nat) : Int) := hdd20 13 (by decide)
 have e28 : ρ24 45 = .int .u64 (((digs b).getD j 0 : Nat) : Int) := hdd20 18 (by decide)
 refine gP (OpW.mul (a := (((digs a).getD i 0 : Nat) : Int)) (b := (((digs b).getD j 0 : Nat) : Int)) (r := ((((digs a).getD i 0) * ((digs b).getD j 0) : Nat) : Int)) e27 e28 (mul_u64 (a := (digs a).getD i 0) (b := (digs b).getD j 0) (by omega)) ?_)
 exact ⟨_, h22, rfl, g26, fun j x _ p => p, rfl⟩
 intro ρ25 h23 w24 g27 hdd21 hdo21
 have e29 : ρ25 35 = .int .u64 ((c + (o.getD (i + j) 0) : Nat) : Int) := hdd21 8 (by decide)
 have e30 : ρ25 46 = .int .u64 ((((digs a).getD i 0) * ((digs b).getD j 0) : Nat) : Int) := hdd21 19 (by decide)
 refine gP (OpW.add (a := ((c + (o.getD (i + j) 0) : Nat) : Int)) (b := ((((digs a).getD i 0) * ((digs b).getD j 0) : Nat) : Int)) (r := ((c + (o.getD (i + j) 0) + (((digs a).getD i 0) * ((digs b).getD j 0)) : Nat) : Int)) e29 e30 (add_u64 (a := c + (o.getD (i + j) 0)) (b := ((digs a).getD i 0) * ((digs b).getD j 0)) (by omega)) ?_)
 exact ⟨_, h23, rfl, g27, fun j x _ p => p, rfl⟩
 intro ρ26 h24 w25 g28 hdd22 hdo22
 have e31 : ρ26 47 = .int .u64 ((c + (o.getD (i + j) 0) + (((digs a).getD i 0) * ((digs b).getD j 0)) : Nat) : Int) := hdd22 20 (by decide)
 refine gP (OpW.assign (v := .int .u64 ((c + (o.getD (i + j) 0) + (((digs a).getD i 0) * ((digs b).getD j 0)) : Nat) : Int)) e31 ?_)
 exact ⟨_, h24, rfl, g28, fun j x _ p => p, rfl⟩
 intro ρ27 h25 w26 g29 hdp1 hdo23
 have e32 : ρ27 0 = .slice b1 ((digs a).length) c1 := hdo23 0 rfl
 have e33 : ρ27 1 = .slice b2 ((digs b).length) c2 := hdo23 1 rfl
 have e34 : ρ27 5 = .slice (some ⟨b3, 0, none⟩) ((digs a).length + ((digs b).length)) ((digs a).length + ((digs b).length)) := hdo23 5 rfl
 have e35 : ρ27 6 = .int .i64 ((i : Nat) : Int) := hdo23 6 rfl
 have e36 : ρ27 7 = .int .u64 ((c + (o.getD (i + j) 0) + (((digs a).getD i 0) * ((digs b).getD j 0)) : Nat) : Int) := hdp1 21 rfl
 have e37 : ρ27 8 = .int .i64 ((j : Nat) : Int) := hdo23 8 rfl
 refine Ops.forget [(0, .slice b1 ((digs a).length) c1), (1, .slice b2 ((digs b).length) c2), (5, .slice (some ⟨b3, 0, none⟩) ((digs a).length + ((digs b).length)) ((digs a).length + ((digs b).length))), (6, .int .i64 ((i : Nat) : Int)), (7, .int .u64 ((c + (o.getD (i + j) 0) + (((digs a).getD i 0) * ((digs b).getD j 0)) : Nat) : Int)), (8, .int .i64 ((j : Nat) : Int))] ⟨e32, e33, e34, e35, e36, e37, trivial⟩ (fun ρ28 => (oN (sr (mv (mv (mv (oC (OpW.add (a := ((i : Nat) : Int)) (b := ((j : Nat) : Int)) (r := ((i + j : Nat) : Int)) rfl rfl (add_i64 (a := i) (b := j) (by omega)) (mv (oC (OpW.convI (a := ((c + (o.getD (i + j) 0) + (((digs a).getD i 0) * ((digs b).getD j 0)) : Nat) : Int)) (r := (((c + (o.getD (i + j) 0) + (((digs a).getD i 0) * ((digs b).getD j 0))) % 4294967296 : Nat) : Int)) Tryd.underlying77 Tryd.underlying51 rfl conv_u32 ?_)))))))))))
 refine oC (iA (i := ((i + j : Nat) : Int)) (o := i + j) Tryd.underlying22 Tryd.sizeOf51 rfl rfl (by omega) (by omega) ?_)
 have o7 := g29.kp ⟨o3, n3⟩
 refine oC (OpW.store1 (v := .int .u32 (((c + (o.getD (i + j) 0) + (((digs a).getD i 0) * ((digs b).getD j 0))) % 4294967296 : Nat) : Int)) Tryd.sizeOf51 rfl rfl rfl o7.1 (ua_lt (by omega)) ?_)
 intro w27 p1
 have o8 : w27.heap[b3]? = some (.cells (ua .u32 (o.set (i + j) ((c + (o.getD (i + j) 0) + (((digs a).getD i 0) * ((digs b).getD j 0))) % 4294967296))) 51 (0, 0)) := by rw [p1.at_, ua_set]
 refine oN (fg [(0, .slice b1 ((digs a).length) c1), (1, .slice b2 ((digs b).length) c2), (5, .slice (some ⟨b3, 0, none⟩) ((digs a).length + ((digs b).length)) ((digs a).length + ((digs b).length))), (6, .int .i64 ((i : Nat) : Int)), (7, .int .u64 ((c + (o.getD (i + j) 0) + (((digs a).getD i 0) * ((digs b).getD j 0)) : Nat) : Int)), (8, .int .i64 ((j : Nat) : Int))] rfl (fun ρ29 => (wR (mv (oC (OpW.shift (a := ((c + (o.getD (i + j) 0) + (((digs a).getD i 0) * ((digs b).getD j 0)) : Nat) : Int)) (b := ((32 : Nat) : Int)) (r := (((c + (o.getD (i + j) 0) + (((digs a).getD i 0) * ((digs b).getD j 0))) / 2 ^ 32 : Nat) : Int)) (.inr rfl) rfl rfl (shr_nat (by decide)) (ma (oN (wR (mv (oC (OpW.add (a := ((j : Nat) : Int)) (b := ((1 : Nat) : Int)) (r := ((j + 1 : Nat) : Int)) rfl rfl (add_i64 (a := j) (b := 1) (by omega)) (ma (oN ?_))))))))))))))
 have g30 := (g4.trans g29).put p1 o7.2 lo2
 exact ⟨(j + 1, (c + ((digs a).getD i 0 * (digs b).getD j 0 + o.getD (i + j) 0)) / 2 ^ 32, o.set (i + j) ((c + ((digs a).getD i 0 * (digs b).getD j 0 + o.getD (i + j) 0)) % 4294967296)), ⟨_, h25, named ⟨(by exact rfl), (by exact rfl), (by exact rfl), (by exact rfl), (by exact (natv (by rw [ecc]))), (by exact rfl), trivial⟩, g30, (l2.trans g29.le), (by rw [← ecc]; exact o8), o7.2, (by omega), (by rw [List.length_set]; exact hl2), (hf2.set _ _ (Nat.mod_lt _ (by decide))), (by have : (2:Nat)^32 = 4294967296 := rfl; omega), (fun t ht => by rw [getD_set_ne (by omega)]; exact hz2 t ht), (mul_inner (by omega) hv2)⟩, (by dsimp only; omega)⟩
 replace c4 : ¬ (j < (digs b).length) := (of_decide_eq_false c4)
 refine Wp.exit (wR (mv (mv (mv (oC (OpW.lenS Tryd.underlying22 (l := (digs b).length) rfl ?_))))))
 refine oC (OpW.add (a := ((i : Nat) : Int)) (b := (((digs b).length : Nat) : Int)) (r := ((i + ((digs b).length) : Nat) : Int)) rfl rfl (add_i64 (a := i) (b := (digs b).length) (by omega)) (mv (oC (OpW.convI (a := ((c : Nat) : Int)) (r := ((c : Nat) : Int)) Tryd.underlying77 Tryd.underlying51 rfl (conv_u32' (by omega)) ?_))))
 refine oC (iA (i := ((i + ((digs b).length) : Nat) : Int)) (o := i + ((digs b).length)) Tryd.underlying22 Tryd.sizeOf51 rfl rfl (by omega) (by omega) ?_)
 refine oC (OpW.store1 (v := .int .u32 ((c : Nat) : Int)) Tryd.sizeOf51 rfl rfl rfl o3 (ua_lt (by omega)) ?_)
 intro w28 p2
 have o9 : w28.heap[b3]? = some (.cells (ua .u32 (o.set (i + ((digs b).length)) c)) 51 (0, 0)) := by rw [p2.at_, ua_set]
 refine oN (fg [(0, .slice b1 ((digs a).length) c1), (1, .slice b2 ((digs b).length) c2), (5, .slice (some ⟨b3, 0, none⟩) ((digs a).length + ((digs b).length)) ((digs a).length + ((digs b).length))), (6, .int .i64 ((i : Nat) : Int))] rfl (fun ρ30 => (wR (mv (oC (OpW.add (a := ((i : Nat) : Int)) (b := ((1 : Nat) : Int)) (r := ((i + 1 : Nat) : Int)) rfl rfl (add_i64 (a := i) (b := 1) (by omega)) (ma (oN ?_))))))))
 have g31 := g4.put p2 n3 lo2
 exact ⟨(i + 1, o.set (i + (digs b).length) c), ⟨_, h2, nm (by exact rfl), g31, (l1.trans l2), o9, n3, (by omega), (by rw [List.length_set]; exact hl2), (hf2.set _ _ (by omega)), (fun t ht => by rw [getD_set_ne (by omega)]; exact hz2 t (by omega)), (mul_outer (by omega) (by omega) (hz2 _ (by omega)) hv2)⟩, (by dsimp only; omega)⟩
 replace c3 : ¬ (i < (digs a).length) := (of_decide_eq_false c3)
 refine Wp.exit (sr (mv ?_))
 obtain ⟨h26, g32, l3, qb3, fr1⟩ := freeze_ex g3 o2 n2 lo2
 have f1 := U.own (l := out) qb3 hf (cap := (digs a).length + ((digs b).length)) hl (Nat.le_refl _)
 refine oC (cF Tryd.call76 (rtrim_c (l := out) g32.sat f1 (by omega)) rfl ?_)
 intro r1 h27 w29 gr2 hr1
 obtain ⟨b6, c5, rfl, k3⟩ := N.shape hr1
 refine ma (oN (Wp.ret (fin1_ret rfl (resOf_tmp (v := .slice b6 ((digs (val out)).length) c5) rfl) ?_)))
 have g33 := g32.trans gr2
 refine ⟨h27, g33, ?_⟩
 exact N.cast (by rw [hv, val_take_all (by omega), val_digs]) hr1
theorem rlow_c {h : PH} {w : World} {v0 : Value} {f : Fr} (hs : Sat h w) (pv0 : F h v0 f) (hp0 : f.d.length ≤ 1073741824) :
    Calls Tryd.prog 94 #[v0] w (Ret h w fun h' r => N h' r (lowF f)) := by
 obtain ⟨b1, c1, b2, c2, rfl, k1, k2, u1, u2⟩ := F.shape pv0
 have hbq1 := F.bq pv0
 have hz := len_zero (n := val f.d)
 refine calls_ear (vs := [.agg #[.bool f.neg, .slice b1 f.n.length c1, .slice b2 f.d.length c2]]) Tryd.func94 rfl rfl ?_
 have g1 := Gr.refl hs
 refine sr (oC (OpW.boxK (v := .agg #[.bool f.neg, .slice b1 f.n.length c1, .slice b2 f.d.length c2]) (arr := #[.bool f.neg, .slice b1 f.n.length c1, .slice b2 f.d.length c2]) g1.sat rfl rfl ?_))
 intro b3 h1 w1 gr1 qb1
 refine ma (oN (sr (oC (fA (o := 2) Tryd.underlying24 rfl Tryd.sizeOf22 (by decide) rfl rfl ?_))))
 have g2 := g1.trans gr1
 refine oC (lO (v := .slice b2 f.d.length c2) Tryd.isAgg22 rfl (g2.sat _ _ qb1) rfl ?_)
 refine oC (cF Tryd.call76 (rtrim_c (l := f.d) g2.sat (U.mono u2 gr1.le) (by first | omega | (simp only [List.length_set, List.length_replicate]; omega))) rfl ?_)
 intro r1 h2 w2 gr2 hr1
 obtain ⟨b4, c3, rfl, k3⟩ := N.shape hr1
 refine ma (oN (wS (sr (mv (oC (OpW.lenS Tryd.underlying22 (l := (digs (val f.d)).length) rfl ?_))))))
 refine oC (OpW.eqlI (a := (((digs (val f.d)).length : Nat) : Int)) (b := ((0 : Nat) : Int)) (r := decide ((digs (val f.d)).length = 0)) rfl rfl (eq_nat (a := (digs (val f.d)).length) (b := 0)) (oN (Wp.cond (t := decide ((digs (val f.d)).length = 0)) rfl (fun c4 => ?_) (fun c4 => ?_))))
 replace c4 : (digs (val f.d)).length = 0 := (of_decide_eq_true c4)
 refine sr ?_
 have g3 := g2.trans gr2
 refine oC (OpW.buildSliceO (arr := #[.int .u32 ((1 : Nat) : Int)]) g3.sat Tryd.underlying22 Tryd.zeroValue51 Tryd.sizeOf51 rfl rfl ?_)
 intro b5 w3 gr3 n1 lo1 o1
 have lo2 := Nat.le_trans g3.ext.size lo1
 refine ma (oN (Wp.ret ?_))
 have g5 := g3.trans gr3
 obtain ⟨h3, g4, l1, qb2, fr1⟩ := freeze_ex g5 o1 n1 lo2
 have f1 := U.own (l := [1]) qb2 (fun x hx => by simp at hx; omega) (cap := 1) rfl (Nat.le_refl _)
 refine fin1_ret rfl (resOf_tmp (v := .slice (some ⟨b5, 0, none⟩) 1 1) rfl) ?_
 refine ⟨h3, g4, ?_⟩
 exact N.cast (by unfold lowF; rw [if_pos (by omega)]) (U.ofDigs f1 digs_lit1)
 replace c4 : ¬ ((digs (val f.d)).length = 0) := (of_decide_eq_false c4)
 refine Wp.skip (sr (mv (ma (oN (Wp.ret (fin1_ret rfl (resOf_tmp (v := .slice b4 ((digs (val f.d)).length) c3) rfl) ?_))))))
 have g6 := g2.trans gr2
 refine ⟨h2, g6, ?_⟩
 exact (N.cast (by unfold lowF; rw [if_neg (by omega)]) hr1)
end Go.Ear
