/- About package frac: K11. -/
import Derived.Test.YtmidncjhlnfojaaDoorNatLaw2
import Derived.Test.YtmidncjhlnfojaaDoorEarShort
import Derived.Test.YtmidncjhlnfojaaDoorProg
import Derived.Test.YtmidncjhlnfojaaDoorNatLaw3
import Derived.Test.YtmidncjhlnfojaaDoorEarFrac
import Derived.Test.YtmidncjhlnfojaaDoorEarDec
import Derived.Test.YtmidncjhlnfojaaDoorItoaLay
import Derived.Lib.ItoaMem
import Derived.Test.YtmidncjhlnfojaaDoorEarApi
import Derived.Test.YtmidncjhlnfojaaDoorEarRef2
import Derived.Test.YtmidncjhlnfojaaDoorK1
import Derived.Test.YtmidncjhlnfojaaDoorK10
set_option linter.all false
namespace Go.Ear
open Go.Proofs
set_option maxRecDepth 20000
set_option linter.unusedVariables false
set_option maxHeartbeats 2000000
theorem rdivide_c {h : PH} {w : World} {v0 : Value} {a : Nat} {v1 : Value} {b : Nat} (hs : Sat h w) (pv0 : N h v0 a) (pv1 : N h v1 b) (hp0 : sz a ≤ 536870912) (hp1 : sz b ≤ 536870912) (hp2 : b ≠ 0) :
    Calls Tryd.prog 108 #[v0, v1] w (Ret h w fun h' r => ∃ x1 x2, r = .tuple #[x1, x2] ∧ N h' x1 (a / b) ∧ N h' x2 (a % b)) := by
 obtain ⟨b1, c1, rfl, k1⟩ := N.shape pv0
 obtain ⟨b2, c2, rfl, k2⟩ := N.shape pv1
 have hsa := hp0
 have hsb := hp1
 have hpos := sz_pos hp2
 unfold sz at hsa hsb hpos
 have hbz0 := bitlen_sz a
 unfold sz at hbz0
 refine calls_ear (vs := [.slice b1 ((digs a).length) c1, .slice b2 ((digs b).length) c2]) Tryd.func108 rfl rfl ?_
 have g1 := Gr.refl hs
 refine sr (ma (ma (oN (sr (mv (oC (cF Tryd.call76 (rtrim_c (l := digs a) g1.sat pv0 (by first | omega | (simp only [List.length_set, List.length_replicate]; omega))) rfl ?_)))))))
 intro r1 h1 w1 gr1 hr1
 simp only [frK_rat, bf_frK, val_digs] at hr1
 obtain ⟨b3, c3, rfl, k3⟩ := N.shape hr1
 refine mv ?_
 have g2 := g1.trans gr1
 refine oC (cF Tryd.call76 (rtrim_c (l := digs b) g2.sat (U.mono pv1 gr1.le) (by first | omega | (simp only [List.length_set, List.length_replicate]; omega))) rfl ?_)
 intro r2 h2 w2 gr2 hr2
 simp only [frK_rat, bf_frK, val_digs] at hr2
 obtain ⟨b4, c4, rfl, k4⟩ := N.shape hr2
 refine ma (ma (oN (sr (mv (oC (OpW.lenS Tryd.underlying22 (l := (digs a).length) rfl ?_))))))
 have g3 := g2.trans gr2
 refine oC (OpW.makeO (l := (digs a).length) (c := (digs a).length) (i := Tryd.t51) (arr := (ua .u32 (List.replicate ((digs a).length) 0))) g3.sat Tryd.underlying22 Tryd.type51 rfl rfl rfl (Nat.le_refl _) (by simp only [Tryd.t51]; omega) (by omega) (made_ua _ _) ?_)
 intro b5 w3 gr3 n1 lo1 o1
 have lo2 := Nat.le_trans g3.ext.size lo1
 refine ma (oN (wS (wS (fg [(0, .slice b3 ((digs a).length) c3), (1, .slice b4 ((digs b).length) c4), (6, .slice (some ⟨b5, 0, none⟩) ((digs a).length) ((digs a).length))] rfl (fun ρ1 => (wR (mv (oC (OpW.lenS Tryd.underlying22 (l := (digs b).length) rfl ?_)))))))))
 refine oC (OpW.eqlI (a := (((digs b).length : Nat) : Int)) (b := ((1 : Nat) : Int)) (r := decide ((digs b).length = 1)) rfl rfl (eq_nat (a := (digs b).length) (b := 1)) (oN (Wp.cond (t := decide ((digs b).length = 1)) rfl (fun c5 => ?_) (fun c5 => ?_))))
 replace c5 : (digs b).length = 1 := (of_decide_eq_true c5)
 have hd0 := digs_one (b := b) (by omega)
 have hdl := (digs_fit b).getD 0
 refine sr (ma (oN (wS (sr (mv (oC (OpW.lenS Tryd.underlying22 (l := (digs a).length) rfl ?_)))))))
 refine oC (OpW.sub (a := (((digs a).length : Nat) : Int)) (b := ((1 : Nat) : Int)) (r := ((((digs a).length : Nat) : Int) - ((1 : Nat) : Int))) rfl rfl (in_i64 (by omega)) (ma (oN (Wp.block ?_))))
 have g4 := g3.trans gr3
 refine Wp.loop (σ := Nat × Nat × List Nat) (fun s (ρ : Env) (w' : World) => match s with | (k, r, out) => ∃ ρb h', ρ = upds ρb [(0, .slice b3 ((digs a).length) c3), (1, .slice b4 ((digs b).length) c4), (6, .slice (some ⟨b5, 0, none⟩) ((digs a).length) ((digs a).length)), (7, .int .u64 ((r : Nat) : Int)), (8, .int .i64 (((k : Nat) : Int) - 1))] ∧ Gr h w h' w' ∧ PH.le h2 h' ∧ w'.heap[b5]? = some (.cells (ua .u32 out) 51 (0, 0)) ∧ h' b5 = none ∧ (k ≤ (digs a).length) ∧ (r < ((digs b).getD 0 0)) ∧ (out.length = (digs a).length) ∧ (Fit out) ∧ (val (out.drop k) * ((digs b).getD 0 0) + r = val ((digs a).drop k))) (fun s => match s with | (k, r, out) => k) ((digs a).length, 0, List.replicate ((digs a).length) 0) ?_ ?_
 exact ⟨_, h2, nm (by exact rfl), g4, PH.le.refl _, o1, n1, (by omega), (by omega), List.length_replicate, Fit.replicate _, (by rw [List.drop_of_length_le (by simp), List.drop_of_length_le (Nat.le_refl _)]; simp [val])⟩
 rintro ⟨k, r, out⟩ ρ2 w4 ⟨ρ3, h3, rfl, g5, l1, o2, n2, hk, hr, hl, hf, hv⟩
 have bd := (digs_fit a).getD (k - 1)
 have eo := or_shift r ((digs a).getD (k - 1) 0) bd
 have rb : r * 2 ^ 32 + (digs a).getD (k - 1) 0 < ((digs b).getD 0 0) * 4294967296 := over_bd hr bd
 have rs := sh_bd hr hdl
 have ro := sh_bd2 hr hdl bd
 refine wS (sr (mv (oC (OpW.geq (a := (((k : Nat) : Int) - 1)) (b := ((0 : Nat) : Int)) (r := decide (((0 : Nat) : Int) ≤ (((k : Nat) : Int) - 1))) rfl rfl rfl (oN (Wp.cond (t := decide (((0 : Nat) : Int) ≤ (((k : Nat) : Int) - 1))) rfl (fun c6 => ?_) (fun c6 => ?_)))))))
 replace c6 : ((0 : Nat) : Int) ≤ (((k : Nat) : Int) - 1) := (of_decide_eq_true c6)
 refine Wp.skip (wS (Wp.block (sr (mv (oC (OpW.shift (a := ((r : Nat) : Int)) (b := ((32 : Nat) : Int)) (r := ((r * 2 ^ 32 : Nat) : Int)) (.inl rfl) rfl rfl (shl_nat (by decide) (conv_u64 (Nat.le_of_lt_succ rs))) (mv (oC (OpW.move (v := .int .i64 ((k - 1 : Nat) : Int)) (intv (by omega)) ?_)))))))))
 refine oC (OpW.indexU (i := ((k - 1 : Nat) : Int)) (j := k - 1) Tryd.underlying22 Tryd.sizeOf51 rfl (U.mono hr1 (gr2.le.trans l1)) rfl (by omega) (by omega) ?_)
 intro b6 o3 a1 e1 z1 qb1 qv1
 have bd1 := Fit.getD (U.mono hr1 (gr2.le.trans l1)).1 (k - 1)
 refine oC (lO (v := .int .u32 (((digs a).getD (k - 1) 0 : Nat) : Int)) Tryd.isAgg51 rfl (g5.sat _ _ qb1) qv1 ?_)
 refine oC (OpW.convI (a := (((digs a).getD (k - 1) 0 : Nat) : Int)) (r := (((digs a).getD (k - 1) 0 : Nat) : Int)) Tryd.underlying51 Tryd.underlying77 rfl (conv_u64 (by omega)) ?_)
 refine oC (OpW.bits (a := ((r * 2 ^ 32 : Nat) : Int)) (b := (((digs a).getD (k - 1) 0 : Nat) : Int)) (r := (((r * 2 ^ 32) ||| ((digs a).getD (k - 1) 0) : Nat) : Int)) (.inr (.inl rfl)) rfl rfl (or_u64 (a := r * 2 ^ 32) (b := (digs a).getD (k - 1) 0) rs (Nat.lt_trans bd (by decide))) (ma (oN (wS (fg [(0, .slice b3 ((digs a).length) c3), (1, .slice b4 ((digs b).length) c4), (6, .slice (some ⟨b5, 0, none⟩) ((digs a).length) ((digs a).length)), (7, .int .u64 (((r * 2 ^ 32) ||| ((digs a).getD (k - 1) 0) : Nat) : Int)), (8, .int .i64 (((k : Nat) : Int) - 1))] rfl (fun ρ4 => (wR (mv (oC (OpW.move (v := .int .i64 ((k - 1 : Nat) : Int)) (intv (by omega)) (mv (mv (oC (OpW.indexU (i := ((0 : Nat) : Int)) (j := 0) Tryd.underlying22 Tryd.sizeOf51 rfl (U.mono hr2 l1) rfl (by omega) (by omega) ?_))))))))))))))
 intro b7 o4 a2 e2 z2 qb2 qv2
 have bd2 := Fit.getD (U.mono hr2 l1).1 0
 refine oC (lO (v := .int .u32 (((digs b).getD 0 0 : Nat) : Int)) Tryd.isAgg51 rfl (g5.sat _ _ qb2) qv2 ?_)
 refine oC (OpW.convI (a := (((digs b).getD 0 0 : Nat) : Int)) (r := (((digs b).getD 0 0 : Nat) : Int)) Tryd.underlying51 Tryd.underlying77 rfl (conv_u64 (by omega)) ?_)
 refine oC (OpW.quo (a := (((r * 2 ^ 32) ||| ((digs a).getD (k - 1) 0) : Nat) : Int)) (b := (((digs b).getD 0 0 : Nat) : Int)) (r := ((((r * 2 ^ 32) ||| ((digs a).getD (k - 1) 0)) / ((digs b).getD 0 0) : Nat) : Int)) rfl rfl (by omega) (quo_u64 (a := (r * 2 ^ 32) ||| ((digs a).getD (k - 1) 0)) (b := (digs b).getD 0 0) (Nat.le_of_lt_succ ro)) ?_)
 refine oC (OpW.convI (a := ((((r * 2 ^ 32) ||| ((digs a).getD (k - 1) 0)) / ((digs b).getD 0 0) : Nat) : Int)) (r := ((((r * 2 ^ 32) ||| ((digs a).getD (k - 1) 0)) / ((digs b).getD 0 0) : Nat) : Int)) Tryd.underlying77 Tryd.underlying51 rfl (conv_u32' (by rw [eo]; exact Nat.div_lt_of_lt_mul rb)) ?_)
 refine oC (iA (i := ((k - 1 : Nat) : Int)) (o := k - 1) Tryd.underlying22 Tryd.sizeOf51 rfl rfl (by omega) (by omega) ?_)
 refine oC (OpW.store1 (v := .int .u32 ((((r * 2 ^ 32) ||| ((digs a).getD (k - 1) 0)) / ((digs b).getD 0 0) : Nat) : Int)) Tryd.sizeOf51 rfl rfl rfl o2 (ua_lt (by omega)) ?_)
 intro w5 p1
 have o5 : w5.heap[b5]? = some (.cells (ua .u32 (out.set (k - 1) (((r * 2 ^ 32) ||| ((digs a).getD (k - 1) 0)) / ((digs b).getD 0 0)))) 51 (0, 0)) := by rw [p1.at_, ua_set]
 refine oN (fg [(0, .slice b3 ((digs a).length) c3), (1, .slice b4 ((digs b).length) c4), (6, .slice (some ⟨b5, 0, none⟩) ((digs a).length) ((digs a).length)), (7, .int .u64 (((r * 2 ^ 32) ||| ((digs a).getD (k - 1) 0) : Nat) : Int)), (8, .int .i64 (((k : Nat) : Int) - 1))] rfl (fun ρ5 => (wR (mv (mv (oC (OpW.indexU (i := ((0 : Nat) : Int)) (j := 0) Tryd.underlying22 Tryd.sizeOf51 rfl (U.mono hr2 l1) rfl (by omega) (by omega) ?_)))))))
 intro b8 o6 a3 e3 z3 qb3 qv3
 have bd3 := Fit.getD (U.mono hr2 l1).1 0
 have g6 := g5.put p1 n2 lo2
 refine oC (lO (v := .int .u32 (((digs b).getD 0 0 : Nat) : Int)) Tryd.isAgg51 rfl (g6.sat _ _ qb3) qv3 ?_)
 refine oC (OpW.convI (a := (((digs b).getD 0 0 : Nat) : Int)) (r := (((digs b).getD 0 0 : Nat) : Int)) Tryd.underlying51 Tryd.underlying77 rfl (conv_u64 (by omega)) ?_)
 refine oC (OpW.rem (a := (((r * 2 ^ 32) ||| ((digs a).getD (k - 1) 0) : Nat) : Int)) (b := (((digs b).getD 0 0 : Nat) : Int)) (r := ((((r * 2 ^ 32) ||| ((digs a).getD (k - 1) 0)) % ((digs b).getD 0 0) : Nat) : Int)) rfl rfl (by omega) rem_nat (ma (oN (fg [(0, .slice b3 ((digs a).length) c3), (1, .slice b4 ((digs b).length) c4), (6, .slice (some ⟨b5, 0, none⟩) ((digs a).length) ((digs a).length)), (7, .int .u64 ((((r * 2 ^ 32) ||| ((digs a).getD (k - 1) 0)) % ((digs b).getD 0 0) : Nat) : Int)), (8, .int .i64 (((k : Nat) : Int) - 1))] rfl (fun ρ6 => (wR (mv (oC (OpW.sub (a := (((k : Nat) : Int) - 1)) (b := ((1 : Nat) : Int)) (r := ((((k : Nat) : Int) - 1) - ((1 : Nat) : Int))) rfl rfl (in_i64 (by omega)) (ma (oN ?_)))))))))))
 exact ⟨(k - 1, (r * 2 ^ 32 ||| (digs a).getD (k - 1) 0) % ((digs b).getD 0 0), out.set (k - 1) ((r * 2 ^ 32 ||| (digs a).getD (k - 1) 0) / ((digs b).getD 0 0))), ⟨_, h3, named ⟨(by exact rfl), (by exact rfl), (by exact rfl), (by exact rfl), (by exact (intv (by omega))), trivial⟩, g6, l1, o5, n2, (by omega), (Nat.mod_lt _ (by omega)), (by rw [List.length_set]; exact hl), (hf.set _ _ (by rw [eo]; exact Nat.div_lt_of_lt_mul rb)), (by rw [eo]; exact over_step (by omega) (by omega) (by omega) hv)⟩, (by dsimp only; omega)⟩
 replace c6 : ¬ (((0 : Nat) : Int) ≤ (((k : Nat) : Int) - 1)) := (of_decide_eq_false c6)
 refine Wp.exit (sr (mv ?_))
 obtain ⟨h4, g7, l2, qb4, fr1⟩ := freeze_ex g5 o2 n2 lo2
 have f1 := U.own (l := out) qb4 hf (cap := (digs a).length) hl (Nat.le_refl _)
 refine oC (cF Tryd.call76 (rtrim_c (l := out) g7.sat f1 (by omega)) rfl ?_)
 intro r3 h5 w6 gr4 hr3
 obtain ⟨b9, c7, rfl, k5⟩ := N.shape hr3
 refine mv (oC (OpW.convI (a := ((r : Nat) : Int)) (r := ((r : Nat) : Int)) Tryd.underlying77 Tryd.underlying51 rfl (conv_u32' (by omega)) ?_))
 have g8 := g7.trans gr4
 refine oC (OpW.buildSliceO (arr := #[.int .u32 ((r : Nat) : Int)]) g8.sat Tryd.underlying22 Tryd.zeroValue51 Tryd.sizeOf51 rfl rfl ?_)
 intro b10 w7 gr5 n3 lo3 o7
 have lo4 := Nat.le_trans g8.ext.size lo3
 have g10 := g8.trans gr5
 obtain ⟨h6, g9, l3, qb5, fr2⟩ := freeze_ex g10 o7 n3 lo4
 have f2 := U.own (l := [r]) qb5 (fun x hx => by simp at hx; omega) (cap := 1) rfl (Nat.le_refl _)
 refine oC (cF Tryd.call76 (rtrim_c (l := [r]) g9.sat f2 (Nat.le_of_ble_eq_true rfl)) rfl ?_)
 intro r4 h7 w8 gr6 hr4
 obtain ⟨b11, c8, rfl, k6⟩ := N.shape hr4
 refine ma (ma (oN (Wp.ret (fin2_ret rfl (resOf_tmp (v := .slice b9 ((digs (val out)).length) c7) rfl) (resOf_tmp (v := .slice b11 ((digs (val ([r]))).length) c8) rfl) ?_))))
 have g11 := g9.trans gr6
 refine ⟨h7, g11, ?_⟩
 exact ⟨_, _, rfl, N.cast ((over_q (by omega) hr hv).trans (by rw [hd0])) (N.mono hr3 (l3.trans gr6.le)), N.cast ((val_one r).trans ((over_r (by omega) hr hv).trans (by rw [hd0]))) hr4⟩
 replace c5 : ¬ ((digs b).length = 1) := (of_decide_eq_false c5)
 refine Wp.skip (sr (ma (oN (wS (sr (mv ?_))))))
 have g12 := g3.trans gr3
 refine oC (cF Tryd.call106 (rbits_c (a := a) g12.sat (N.mono hr1 gr2.le) (by omega)) rfl ?_)
 intro r5 h8 w9 gr7 hr5
 subst hr5
 refine oC (OpW.sub (a := ((bitlen a : Nat) : Int)) (b := ((1 : Nat) : Int)) (r := (((bitlen a : Nat) : Int) - ((1 : Nat) : Int))) rfl rfl (in_i64 (by omega)) (ma (oN (Wp.block ?_))))
 have g13 := g12.trans gr7
 have o8 := gr7.kp ⟨o1, n1⟩
 refine Wp.loop (σ := Nat × List Nat × Option Addr × Nat) (fun s (ρ : Env) (w' : World) => match s with | (k, out, bS9, cS9) => ∃ ρb h', ρ = upds ρb [(0, .slice b3 ((digs a).length) c3), (1, .slice b4 ((digs b).length) c4), (6, .slice (some ⟨b5, 0, none⟩) ((digs a).length) ((digs a).length)), (9, .slice bS9 ((digs (a / 2 ^ k % b)).length) cS9), (10, .int .i64 (((k : Nat) : Int) - 1))] ∧ Gr h w h' w' ∧ PH.le h8 h' ∧ w'.heap[b5]? = some (.cells (ua .u32 out) 51 (0, 0)) ∧ h' b5 = none ∧ (k ≤ bitlen a) ∧ (out.length = (digs a).length) ∧ (Fit out) ∧ (val out = 2 ^ k * (a / 2 ^ k / b)) ∧ (N h' (.slice bS9 ((digs (a / 2 ^ k % b)).length) cS9) (a / 2 ^ k % b))) (fun s => match s with | (k, out, bS9, cS9) => k) (bitlen a, List.replicate ((digs a).length) 0, none, 0) ?_ ?_
 exact ⟨_, h8, named ⟨(by exact rfl), (by exact rfl), (by exact rfl), (by exact (nilN (by rw [Nat.div_eq_of_lt (lt_bitlen a), Nat.zero_mod]))), (by exact (intv (by omega))), trivial⟩, g13, PH.le.refl _, o8.1, o8.2, (by omega), List.length_replicate, Fit.replicate _, (by rw [val_replicate, Nat.div_eq_of_lt (lt_bitlen a)]; simp), (Nnil' (by rw [Nat.div_eq_of_lt (lt_bitlen a), Nat.zero_mod]))⟩
 rintro ⟨k, out, bS9, cS9⟩ ρ7 w10 ⟨ρ8, h9, rfl, g14, l4, o9, n4, hk, hl, hf, hv, hS9⟩
 have hbz := bitlen_sz a
 unfold sz at hbz
 have hml := Nat.mod_lt (a / 2 ^ k) (Nat.pos_of_ne_zero hp2)
 have hs1 := sz_mono (Nat.le_of_lt hml)
 have hs2 := sz_add (a / 2 ^ k % b) (a / 2 ^ k % b)
 have hs3 := sz_add (a / 2 ^ k % b + a / 2 ^ k % b) 1
 have h1 := sz_one
 have bd := (digs_fit a).getD ((k - 1) / 32)
 have bdo := hf.getD ((k - 1) / 32)
 have hsh := one_shl_lt (k - 1)
 have hbit := bit_at a (k - 1)
 refine wS (sr (mv (oC (OpW.geq (a := (((k : Nat) : Int) - 1)) (b := ((0 : Nat) : Int)) (r := decide (((0 : Nat) : Int) ≤ (((k : Nat) : Int) - 1))) rfl rfl rfl (oN (Wp.cond (t := decide (((0 : Nat) : Int) ≤ (((k : Nat) : Int) - 1))) rfl (fun c9 => ?_) (fun c9 => ?_)))))))
 replace c9 : ((0 : Nat) : Int) ≤ (((k : Nat) : Int) - 1) := (of_decide_eq_true c9)
 refine Wp.skip (wS (Wp.block (sr (mv (mv (oC (cF Tryd.call96 (rplus_c (a := a / 2 ^ k % b) (b := a / 2 ^ k % b) g14.sat hS9 hS9 (by omega) (by omega)) rfl ?_)))))))
 intro r6 h10 w11 gr8 hr6
 obtain ⟨b12, c10, rfl, k7⟩ := N.shape hr6
 refine ma (oN (wS (wS (fg [(0, .slice b3 ((digs a).length) c3), (1, .slice b4 ((digs b).length) c4), (6, .slice (some ⟨b5, 0, none⟩) ((digs a).length) ((digs a).length)), (9, .slice b12 ((digs ((a / 2 ^ k % b) + (a / 2 ^ k % b))).length) c10), (10, .int .i64 (((k : Nat) : Int) - 1))] rfl (fun ρ9 => (wR (mv (oC (OpW.move (v := .int .i64 ((k - 1 : Nat) : Int)) (intv (by omega)) ?_)))))))))
 refine oC (OpW.quo (a := ((k - 1 : Nat) : Int)) (b := ((32 : Nat) : Int)) (r := (((k - 1) / 32 : Nat) : Int)) rfl rfl (by omega) (quo_i64 (a := k - 1) (b := 32) (by omega)) ?_)
 refine oC (OpW.indexU (i := (((k - 1) / 32 : Nat) : Int)) (j := (k - 1) / 32) Tryd.underlying22 Tryd.sizeOf51 rfl (U.mono hr1 (((gr2.le.trans gr7.le).trans l4).trans gr8.le)) rfl (by omega) (by omega) ?_)
 intro b13 o10 a4 e4 z4 qb6 qv4
 have bd4 := Fit.getD (U.mono hr1 (((gr2.le.trans gr7.le).trans l4).trans gr8.le)).1 ((k - 1) / 32)
 have g15 := g14.trans gr8
 refine oC (lO (v := .int .u32 (((digs a).getD ((k - 1) / 32) 0 : Nat) : Int)) Tryd.isAgg51 rfl (g15.sat _ _ qb6) qv4 ?_)
 refine oC (OpW.move (v := .int .i64 ((k - 1 : Nat) : Int)) (intv (by omega)) ?_)
 refine oC (OpW.rem (a := ((k - 1 : Nat) : Int)) (b := ((32 : Nat) : Int)) (r := (((k - 1) % 32 : Nat) : Int)) rfl rfl (by omega) rem_nat ?_)
 refine oC (OpW.shift (a := (((digs a).getD ((k - 1) / 32) 0 : Nat) : Int)) (b := (((k - 1) % 32 : Nat) : Int)) (r := ((((digs a).getD ((k - 1) / 32) 0) / 2 ^ ((k - 1) % 32) : Nat) : Int)) (.inr rfl) rfl rfl (shr_nat (mod32_le _)) ?_)
 refine oC (OpW.bits (a := ((((digs a).getD ((k - 1) / 32) 0) / 2 ^ ((k - 1) % 32) : Nat) : Int)) (b := ((1 : Nat) : Int)) (r := (((((digs a).getD ((k - 1) / 32) 0) / 2 ^ ((k - 1) % 32)) &&& 1 : Nat) : Int)) (.inl rfl) rfl rfl (and_u32 (a := ((digs a).getD ((k - 1) / 32) 0) / 2 ^ ((k - 1) % 32)) (b := 1) (Nat.lt_of_le_of_lt (Nat.div_le_self ..) bd) (by decide)) ?_)
 refine oC (OpW.eqlI (a := (((((digs a).getD ((k - 1) / 32) 0) / 2 ^ ((k - 1) % 32)) &&& 1 : Nat) : Int)) (b := ((1 : Nat) : Int)) (r := decide ((((digs a).getD ((k - 1) / 32) 0) / 2 ^ ((k - 1) % 32)) &&& 1 = 1)) rfl rfl (eq_nat (a := (((digs a).getD ((k - 1) / 32) 0) / 2 ^ ((k - 1) % 32)) &&& 1) (b := 1)) (oN (Wp.cond (t := decide ((((digs a).getD ((k - 1) / 32) 0) / 2 ^ ((k - 1) % 32)) &&& 1 = 1)) rfl (fun c11 => ?_) (fun c11 => ?_))))
 replace c11 : (((digs a).getD ((k - 1) / 32) 0) / 2 ^ ((k - 1) % 32)) &&& 1 = 1 := (of_decide_eq_true c11)
 have hbt : a / 2 ^ (k - 1) % 2 = 1 := by rw [← hbit]; exact c11
 refine fg [(0, .slice b3 ((digs a).length) c3), (1, .slice b4 ((digs b).length) c4), (6, .slice (some ⟨b5, 0, none⟩) ((digs a).length) ((digs a).length)), (9, .slice b12 ((digs ((a / 2 ^ k % b) + (a / 2 ^ k % b))).length) c10), (10, .int .i64 (((k : Nat) : Int) - 1))] rfl (fun ρ10 => (wR (mv ?_)))
 have o12 := gr8.kp ⟨o9, n4⟩
 have lt1 := blk_lt o12.1
 refine oC (OpW.buildSliceO (arr := #[.int .u32 ((1 : Nat) : Int)]) g15.sat Tryd.underlying22 Tryd.zeroValue51 Tryd.sizeOf51 rfl rfl ?_)
 intro b14 w12 gr9 n5 lo5 o11
 have lo6 := Nat.le_trans g15.ext.size lo5
 have ne1 : b5 ≠ b14 := Nat.ne_of_lt (Nat.lt_of_lt_of_le lt1 lo5)
 have g17 := g15.trans gr9
 obtain ⟨h11, g16, l5, qb7, fr3⟩ := freeze_ex g17 o11 n5 lo6
 have f3 := U.own (l := [1]) qb7 (fun x hx => by simp at hx; omega) (cap := 1) rfl (Nat.le_refl _)
 refine oC (cF Tryd.call96 (rplus_c (a := (a / 2 ^ k % b) + (a / 2 ^ k % b)) (b := 1) g16.sat (N.mono hr6 l5) (U.ofDigs f3 digs_lit1) (by omega) (by omega)) rfl ?_)
 intro r7 h12 w13 gr10 hr7
 obtain ⟨b15, c12, rfl, k8⟩ := N.shape hr7
 refine ma (oN (sr (mv (mv ?_))))
 have g18 := g16.trans gr10
 refine oC (cF Tryd.call100 (rorder_c (a := ((a / 2 ^ k % b) + (a / 2 ^ k % b)) + 1) (b := b) g18.sat hr7 (N.mono hr2 ((((gr7.le.trans l4).trans gr8.le).trans l5).trans gr10.le)) (by omega) (by omega)) rfl ?_)
 intro r8 h13 w14 gr11 hr8
 subst hr8
 refine oC (OpW.geq (a := (cmpN (((a / 2 ^ k % b) + (a / 2 ^ k % b)) + 1) b)) (b := ((0 : Nat) : Int)) (r := decide (((0 : Nat) : Int) ≤ (cmpN (((a / 2 ^ k % b) + (a / 2 ^ k % b)) + 1) b))) rfl rfl rfl (oN (Wp.cond (t := decide (((0 : Nat) : Int) ≤ (cmpN (((a / 2 ^ k % b) + (a / 2 ^ k % b)) + 1) b))) rfl (fun c13 => ?_) (fun c13 => ?_))))
 replace c13 : ((0 : Nat) : Int) ≤ (cmpN (((a / 2 ^ k % b) + (a / 2 ^ k % b)) + 1) b) := (of_decide_eq_true c13)
 have hge := cmpN_nonneg c13
 refine wS (fg [(0, .slice b3 ((digs a).length) c3), (1, .slice b4 ((digs b).length) c4), (6, .slice (some ⟨b5, 0, none⟩) ((digs a).length) ((digs a).length)), (9, .slice b15 ((digs (((a / 2 ^ k % b) + (a / 2 ^ k % b)) + 1)).length) c12), (10, .int .i64 (((k : Nat) : Int) - 1))] rfl (fun ρ11 => (wR (mv (mv ?_)))))
 have g19 := g18.trans gr11
 refine oC (cF Tryd.call101 (rminus_c (a := ((a / 2 ^ k % b) + (a / 2 ^ k % b)) + 1) (b := b) g19.sat (N.mono hr7 gr11.le) (N.mono hr2 (((((gr7.le.trans l4).trans gr8.le).trans l5).trans gr10.le).trans gr11.le)) (by omega) (by omega) (by omega)) rfl ?_)
 intro r9 h14 w15 gr12 hr9
 obtain ⟨b16, c14, rfl, k9⟩ := N.shape hr9
 refine ma (oN ?_)
 have g20 := g19.trans gr12
 refine Wp.dagL 13 [88, 89, 90, 91, 92, 93, 94, 95, 96, 97, 98, 99, 100] [eqv (.slice (some ⟨b5, 0, none⟩) ((digs a).length) ((digs a).length)), eqv (.int .i64 ((k - 1 : Nat) : Int)), eqv (.int .i64 (((k - 1) / 32 : Nat) : Int)), eqv (.slice (some ⟨b5, 0, none⟩) ((digs a).length) ((digs a).length)), eqv (.int .i64 ((k - 1 : Nat) : Int)), eqv (.int .i64 (((k - 1) / 32 : Nat) : Int)), eqv (.pointer (some ⟨b5, (k - 1) / 32, none⟩)), eqv (.int .u32 ((out.getD ((k - 1) / 32) 0 : Nat) : Int)), eqv (.int .i64 ((k - 1 : Nat) : Int)), eqv (.int .i64 (((k - 1) % 32 : Nat) : Int)), eqv (.int .u32 ((1 * 2 ^ ((k - 1) % 32) : Nat) : Int)), eqv (.int .u32 (((out.getD ((k - 1) / 32) 0) ||| (1 * 2 ^ ((k - 1) % 32)) : Nat) : Int)), eqv (.pointer (some ⟨b5, (k - 1) / 32, none⟩))] mixed g20.sat rfl (by decide +kernel) ⟨sQ _, sQ _, sQ _, sQ _, sQ _, sQ _, sQ _, sQ _, sQ _, sQ _, sQ _, sQ _, sQ _, trivial⟩ ?_ ?_
 intro stab
 refine ⟨?_, ?_, ?_, ?_, ?_, ?_, ?_, ?_, ?_, ?_, ?_, ?_, ?_, trivial⟩
 intro ρ12 h15 w16 g21 hdd1 hdo1
 have e5 : ρ12 6 = .slice (some ⟨b5, 0, none⟩) ((digs a).length) ((digs a).length) := hdo1 6 rfl
 refine gP (OpW.move (v := .slice (some ⟨b5, 0, none⟩) ((digs a).length) ((digs a).length)) e5 ?_)
 exact ⟨_, h15, rfl, g21, fun j x _ p => p, rfl⟩
 intro ρ13 h16 w17 g22 hdd2 hdo2
 have e6 : ρ13 10 = .int .i64 (((k : Nat) : Int) - 1) := hdo2 10 rfl
 refine gP (OpW.move (v := .int .i64 ((k - 1 : Nat) : Int)) (e6.trans (intv (by omega))) ?_)
 exact ⟨_, h16, rfl, g22, fun j x _ p => p, rfl⟩
 intro ρ14 h17 w18 g23 hdd3 hdo3
 have e7 : ρ14 89 = .int .i64 ((k - 1 : Nat) : Int) := hdd3 1 (by decide)
 refine gP (OpW.quo (a := ((k - 1 : Nat) : Int)) (b := ((32 : Nat) : Int)) (r := (((k - 1) / 32 : Nat) : Int)) e7 rfl (by omega) (quo_i64 (a := k - 1) (b := 32) (by omega)) ?_)
 exact ⟨_, h17, rfl, g23, fun j x _ p => p, rfl⟩
 intro ρ15 h18 w19 g24 hdd4 hdo4
 have e8 : ρ15 6 = .slice (some ⟨b5, 0, none⟩) ((digs a).length) ((digs a).length) := hdo4 6 rfl
 refine gP (OpW.move (v := .slice (some ⟨b5, 0, none⟩) ((digs a).length) ((digs a).length)) e8 ?_)
 exact ⟨_, h18, rfl, g24, fun j x _ p => p, rfl⟩
 intro ρ16 h19 w20 g25 hdd5 hdo5
 have e9 : ρ16 10 = .int .i64 (((k : Nat) : Int) - 1) := hdo5 10 rfl
 refine gP (OpW.move (v := .int .i64 ((k - 1 : Nat) : Int)) (e9.trans (intv (by omega))) ?_)
 exact ⟨_, h19, rfl, g25, fun j x _ p => p, rfl⟩
 intro ρ17 h20 w21 g26 hdd6 hdo6
 have e10 : ρ17 92 = .int .i64 ((k - 1 : Nat) : Int) := hdd6 4 (by decide)
 refine gP (OpW.quo (a := ((k - 1 : Nat) : Int)) (b := ((32 : Nat) : Int)) (r := (((k - 1) / 32 : Nat) : Int)) e10 rfl (by omega) (quo_i64 (a := k - 1) (b := 32) (by omega)) ?_)
 exact ⟨_, h20, rfl, g26, fun j x _ p => p, rfl⟩
 intro ρ18 h21 w22 g27 hdd7 hdo7
 have e11 : ρ18 91 = .slice (some ⟨b5, 0, none⟩) ((digs a).length) ((digs a).length) := hdd7 3 (by decide)
 have e12 : ρ18 93 = .int .i64 (((k - 1) / 32 : Nat) : Int) := hdd7 5 (by decide)
 refine gP (iA (i := (((k - 1) / 32 : Nat) : Int)) (o := (k - 1) / 32) Tryd.underlying22 Tryd.sizeOf51 e11 e12 (by omega) (by omega) ?_)
 exact ⟨_, h21, rfl, g27, fun j x _ p => p, rfl⟩
 intro ρ19 h22 w23 g28 hdd8 hdo8
 have e13 : ρ19 94 = .pointer (some ⟨b5, (k - 1) / 32, none⟩) := hdd8 6 (by decide)
 have o13 := g28.kp (gr12.kp (gr11.kp (gr10.kp (oz fr3 ne1 (gr9.kp o12)))))
 refine gP (lO (v := .int .u32 ((out.getD ((k - 1) / 32) 0 : Nat) : Int)) Tryd.isAgg51 e13 o13.1 (ua_at (by omega)) ?_)
 exact ⟨_, h22, rfl, g28, fun j x _ p => p, rfl⟩
 intro ρ20 h23 w24 g29 hdd9 hdo9
 have e14 : ρ20 10 = .int .i64 (((k : Nat) : Int) - 1) := hdo9 10 rfl
 refine gP (OpW.move (v := .int .i64 ((k - 1 : Nat) : Int)) (e14.trans (intv (by omega))) ?_)
 exact ⟨_, h23, rfl, g29, fun j x _ p => p, rfl⟩
 intro ρ21 h24 w25 g30 hdd10 hdo10
 have e15 : ρ21 96 = .int .i64 ((k - 1 : Nat) : Int) := hdd10 8 (by decide)
 refine gP (OpW.rem (a := ((k - 1 : Nat) : Int)) (b := ((32 : Nat) : Int)) (r := (((k - 1) % 32 : Nat) : Int)) e15 rfl (by omega) rem_nat ?_)
 exact ⟨_, h24, rfl, g30, fun j x _ p => p, rfl⟩
 intro ρ22 h25 w26 g31 hdd11 hdo11
 have e16 : ρ22 97 = .int .i64 (((k - 1) % 32 : Nat) : Int) := hdd11 9 (by decide)
 refine gP (OpW.shift (a := ((1 : Nat) : Int)) (b := (((k - 1) % 32 : Nat) : Int)) (r := ((1 * 2 ^ ((k - 1) % 32) : Nat) : Int)) (.inl rfl) rfl e16 (shl_nat (mod32_le _) (conv_u32' hsh)) ?_)
 exact ⟨_, h25, rfl, g31, fun j x _ p => p, rfl⟩
 intro ρ23 h26 w27 g32 hdd12 hdo12
 have e17 : ρ23 95 = .int .u32 ((out.getD ((k - 1) / 32) 0 : Nat) : Int) := hdd12 7 (by decide)
 have e18 : ρ23 98 = .int .u32 ((1 * 2 ^ ((k - 1) % 32) : Nat) : Int) := hdd12 10 (by decide)
 refine gP (OpW.bits (a := ((out.getD ((k - 1) / 32) 0 : Nat) : Int)) (b := ((1 * 2 ^ ((k - 1) % 32) : Nat) : Int)) (r := (((out.getD ((k - 1) / 32) 0) ||| (1 * 2 ^ ((k - 1) % 32)) : Nat) : Int)) (.inr (.inl rfl)) e17 e18 (or_u32 (a := out.getD ((k - 1) / 32) 0) (b := 1 * 2 ^ ((k - 1) % 32)) (by omega) hsh) ?_)
 exact ⟨_, h26, rfl, g32, fun j x _ p => p, rfl⟩
 intro ρ24 h27 w28 g33 hdd13 hdo13
 have e19 : ρ24 88 = .slice (some ⟨b5, 0, none⟩) ((digs a).length) ((digs a).length) := hdd13 0 (by decide)
 have e20 : ρ24 90 = .int .i64 (((k - 1) / 32 : Nat) : Int) := hdd13 2 (by decide)
 refine gP (iA (i := (((k - 1) / 32 : Nat) : Int)) (o := (k - 1) / 32) Tryd.underlying22 Tryd.sizeOf51 e19 e20 (by omega) (by omega) ?_)
 exact ⟨_, h27, rfl, g33, fun j x _ p => p, rfl⟩
 intro ρ25 h28 w29 g34 hdp1 hdo14
 have e21 : ρ25 0 = .slice b3 ((digs a).length) c3 := hdo14 0 rfl
 have e22 : ρ25 1 = .slice b4 ((digs b).length) c4 := hdo14 1 rfl
 have e23 : ρ25 6 = .slice (some ⟨b5, 0, none⟩) ((digs a).length) ((digs a).length) := hdo14 6 rfl
 have e24 : ρ25 9 = .slice b16 ((digs ((((a / 2 ^ k % b) + (a / 2 ^ k % b)) + 1) - b)).length) c14 := hdo14 9 rfl
 have e25 : ρ25 10 = .int .i64 (((k : Nat) : Int) - 1) := hdo14 10 rfl
 have e26 : ρ25 99 = .int .u32 (((out.getD ((k - 1) / 32) 0) ||| (1 * 2 ^ ((k - 1) % 32)) : Nat) : Int) := hdp1 11 rfl
 have e27 : ρ25 100 = .pointer (some ⟨b5, (k - 1) / 32, none⟩) := hdp1 12 rfl
 refine Ops.forget [(0, .slice b3 ((digs a).length) c3), (1, .slice b4 ((digs b).length) c4), (6, .slice (some ⟨b5, 0, none⟩) ((digs a).length) ((digs a).length)), (9, .slice b16 ((digs ((((a / 2 ^ k % b) + (a / 2 ^ k % b)) + 1) - b)).length) c14), (10, .int .i64 (((k : Nat) : Int) - 1)), (99, .int .u32 (((out.getD ((k - 1) / 32) 0) ||| (1 * 2 ^ ((k - 1) % 32)) : Nat) : Int)), (100, .pointer (some ⟨b5, (k - 1) / 32, none⟩))] ⟨e21, e22, e23, e24, e25, e26, e27, trivial⟩ (fun ρ26 => ?_)
 have o14 := g34.kp (gr12.kp (gr11.kp (gr10.kp (oz fr3 ne1 (gr9.kp o12)))))
 refine oC (OpW.store1 (v := .int .u32 (((out.getD ((k - 1) / 32) 0) ||| (1 * 2 ^ ((k - 1) % 32)) : Nat) : Int)) Tryd.sizeOf51 rfl rfl rfl o14.1 (ua_lt (by omega)) ?_)
 intro w30 p2
 have o15 : w30.heap[b5]? = some (.cells (ua .u32 (out.set ((k - 1) / 32) ((out.getD ((k - 1) / 32) 0) ||| (1 * 2 ^ ((k - 1) % 32))))) 51 (0, 0)) := by rw [p2.at_, ua_set]
 refine oN (wR (mv (oC (OpW.sub (a := (((k : Nat) : Int) - 1)) (b := ((1 : Nat) : Int)) (r := ((((k : Nat) : Int) - 1) - ((1 : Nat) : Int))) rfl rfl (in_i64 (by omega)) (ma (oN ?_))))))
 have g35 := (g20.trans g34).put p2 o14.2 lo2
 exact ⟨(k - 1, out.set ((k - 1) / 32) (out.getD ((k - 1) / 32) 0 ||| 1 * 2 ^ ((k - 1) % 32)), b16, c14), ⟨_, h28, named ⟨(by exact rfl), (by exact rfl), (by exact rfl), (by exact (congrArg (fun t => Value.slice b16 (digs t).length c14) (div_t1 (by omega) hp2 hbt hge))), (by exact (intv (by omega))), trivial⟩, g35, ((((((l4.trans gr8.le).trans l5).trans gr10.le).trans gr11.le).trans gr12.le).trans g34.le), o15, o14.2, (by omega), (by rw [List.length_set]; exact hl), (hf.set _ _ (Nat.or_lt_two_pow (n := 32) bdo hsh)), (divv_t1 (by omega) hp2 hbt hge hl hf (by omega) hv), (N.recast (div_t1 (by omega) hp2 hbt hge) (N.mono hr9 g34.le))⟩, (by dsimp only; omega)⟩
 replace c13 : ¬ (((0 : Nat) : Int) ≤ (cmpN (((a / 2 ^ k % b) + (a / 2 ^ k % b)) + 1) b)) := (of_decide_eq_false c13)
 have hge := cmpN_nneg c13
 refine Wp.skip (fg [(0, .slice b3 ((digs a).length) c3), (1, .slice b4 ((digs b).length) c4), (6, .slice (some ⟨b5, 0, none⟩) ((digs a).length) ((digs a).length)), (9, .slice b15 ((digs (((a / 2 ^ k % b) + (a / 2 ^ k % b)) + 1)).length) c12), (10, .int .i64 (((k : Nat) : Int) - 1))] rfl (fun ρ27 => (wR (mv (oC (OpW.sub (a := (((k : Nat) : Int) - 1)) (b := ((1 : Nat) : Int)) (r := ((((k : Nat) : Int) - 1) - ((1 : Nat) : Int))) rfl rfl (in_i64 (by omega)) (ma (oN ?_))))))))
 have g36 := g18.trans gr11
 have o16 := gr11.kp (gr10.kp (oz fr3 ne1 (gr9.kp o12)))
 exact ⟨(k - 1, out, b15, c12), ⟨_, h13, named ⟨(by exact rfl), (by exact rfl), (by exact rfl), (by exact (congrArg (fun t => Value.slice b15 (digs t).length c12) (div_f1 (by omega) hp2 hbt hge))), (by exact (intv (by omega))), trivial⟩, g36, ((((l4.trans gr8.le).trans l5).trans gr10.le).trans gr11.le), o16.1, o16.2, (by omega), (by omega), (by omega), (divv_f1 (by omega) hp2 hbt hge hv), (N.recast (div_f1 (by omega) hp2 hbt hge) (N.mono hr7 gr11.le))⟩, (by dsimp only; omega)⟩
 replace c11 : ¬ ((((digs a).getD ((k - 1) / 32) 0) / 2 ^ ((k - 1) % 32)) &&& 1 = 1) := (of_decide_eq_false c11)
 have hbt : a / 2 ^ (k - 1) % 2 = 0 := by have hx := c11; rw [hbit] at hx; omega
 refine Wp.skip (wS (fg [(0, .slice b3 ((digs a).length) c3), (1, .slice b4 ((digs b).length) c4), (6, .slice (some ⟨b5, 0, none⟩) ((digs a).length) ((digs a).length)), (9, .slice b12 ((digs ((a / 2 ^ k % b) + (a / 2 ^ k % b))).length) c10), (10, .int .i64 (((k : Nat) : Int) - 1))] rfl (fun ρ28 => (wR (mv (mv (oC (cF Tryd.call100 (rorder_c (a := (a / 2 ^ k % b) + (a / 2 ^ k % b)) (b := b) g15.sat hr6 (N.mono hr2 ((gr7.le.trans l4).trans gr8.le)) (by omega) (by omega)) rfl ?_))))))))
 intro r10 h29 w31 gr13 hr10
 subst hr10
 refine oC (OpW.geq (a := (cmpN ((a / 2 ^ k % b) + (a / 2 ^ k % b)) b)) (b := ((0 : Nat) : Int)) (r := decide (((0 : Nat) : Int) ≤ (cmpN ((a / 2 ^ k % b) + (a / 2 ^ k % b)) b))) rfl rfl rfl (oN (Wp.cond (t := decide (((0 : Nat) : Int) ≤ (cmpN ((a / 2 ^ k % b) + (a / 2 ^ k % b)) b))) rfl (fun c15 => ?_) (fun c15 => ?_))))
 replace c15 : ((0 : Nat) : Int) ≤ (cmpN ((a / 2 ^ k % b) + (a / 2 ^ k % b)) b) := (of_decide_eq_true c15)
 have hge := cmpN_nonneg c15
 refine sr (mv (mv ?_))
 have g37 := g15.trans gr13
 refine oC (cF Tryd.call101 (rminus_c (a := (a / 2 ^ k % b) + (a / 2 ^ k % b)) (b := b) g37.sat (N.mono hr6 gr13.le) (N.mono hr2 (((gr7.le.trans l4).trans gr8.le).trans gr13.le)) (by omega) (by omega) (by omega)) rfl ?_)
 intro r11 h30 w32 gr14 hr11
 obtain ⟨b17, c16, rfl, k10⟩ := N.shape hr11
 refine ma (oN (fg [(0, .slice b3 ((digs a).length) c3), (1, .slice b4 ((digs b).length) c4), (6, .slice (some ⟨b5, 0, none⟩) ((digs a).length) ((digs a).length)), (9, .slice b17 ((digs (((a / 2 ^ k % b) + (a / 2 ^ k % b)) - b)).length) c16), (10, .int .i64 (((k : Nat) : Int) - 1))] rfl (fun ρ29 => ?_)))
 have g38 := g37.trans gr14
 refine Wp.dagL 13 [88, 89, 90, 91, 92, 93, 94, 95, 96, 97, 98, 99, 100] [eqv (.slice (some ⟨b5, 0, none⟩) ((digs a).length) ((digs a).length)), eqv (.int .i64 ((k - 1 : Nat) : Int)), eqv (.int .i64 (((k - 1) / 32 : Nat) : Int)), eqv (.slice (some ⟨b5, 0, none⟩) ((digs a).length) ((digs a).length)), eqv (.int .i64 ((k - 1 : Nat) : Int)), eqv (.int .i64 (((k - 1) / 32 : Nat) : Int)), eqv (.pointer (some ⟨b5, (k - 1) / 32, none⟩)), eqv (.int .u32 ((out.getD ((k - 1) / 32) 0 : Nat) : Int)), eqv (.int .i64 ((k - 1 : Nat) : Int)), eqv (.int .i64 (((k - 1) % 32 : Nat) : Int)), eqv (.int .u32 ((1 * 2 ^ ((k - 1) % 32) : Nat) : Int)), eqv (.int .u32 (((out.getD ((k - 1) / 32) 0) ||| (1 * 2 ^ ((k - 1) % 32)) : Nat) : Int)), eqv (.pointer (some ⟨b5, (k - 1) / 32, none⟩))] mixed g38.sat rfl (by decide +kernel) ⟨sQ _, sQ _, sQ _, sQ _, sQ _, sQ _, sQ _, sQ _, sQ _, sQ _, sQ _, sQ _, sQ _, trivial⟩ ?_ ?_
 intro stab
 refine ⟨?_, ?_, ?_, ?_, ?_, ?_, ?_, ?_, ?_, ?_, ?_, ?_, ?_, trivial⟩
 intro ρ30 h31 w33 g39 hdd14 hdo15
 have e28 : ρ30 6 = .slice (some ⟨b5, 0, none⟩) ((digs a).length) ((digs a).length) := hdo15 6 rfl
 refine gP (OpW.move (v := .slice (some ⟨b5, 0, none⟩) ((digs a).length) ((digs a).length)) e28 ?_)
 exact ⟨_, h31, rfl, g39, fun j x _ p => p, rfl⟩
 intro ρ31 h32 w34 g40 hdd15 hdo16
 have e29 : ρ31 10 = .int .i64 (((k : Nat) : Int) - 1) := hdo16 10 rfl
 refine gP (OpW.move (v := .int .i64 ((k - 1 : Nat) : Int)) (e29.trans (intv (by omega))) ?_)
 exact ⟨_, h32, rfl, g40, fun j x _ p => p, rfl⟩
 intro ρ32 h33 w35 g41 hdd16 hdo17
 have e30 : ρ32 89 = .int .i64 ((k - 1 : Nat) : Int) := hdd16 1 (by decide)
 refine gP (OpW.quo (a := ((k - 1 : Nat) : Int)) (b := ((32 : Nat) : Int)) (r := (((k - 1) / 32 : Nat) : Int)) e30 rfl (by omega) (quo_i64 (a := k - 1) (b := 32) (by omega)) ?_)
 exact ⟨_, h33, rfl, g41, fun j x _ p => p, rfl⟩
 intro ρ33 h34 w36 g42 hdd17 hdo18
 have e31 : ρ33 6 = .slice (some ⟨b5, 0, none⟩) ((digs a).length) ((digs a).length) := hdo18 6 rfl
 refine gP (OpW.move (v := .slice (some ⟨b5, 0, none⟩) ((digs a).length) ((digs a).length)) e31 ?_)
 exact ⟨_, h34, rfl, g42, fun j x _ p => p, rfl⟩
 intro ρ34 h35 w37 g43 hdd18 hdo19
 have e32 : ρ34 10 = .int .i64 (((k : Nat) : Int) - 1) := hdo19 10 rfl
 refine gP (OpW.move (v := .int .i64 ((k - 1 : Nat) : Int)) (e32.trans (intv (by omega))) ?_)
 exact ⟨_, h35, rfl, g43, fun j x _ p => p, rfl⟩
 intro ρ35 h36 w38 g44 hdd19 hdo20
 have e33 : ρ35 92 = .int .i64 ((k - 1 : Nat) : Int) := hdd19 4 (by decide)
 refine gP (OpW.quo (a := ((k - 1 : Nat) : Int)) (b := ((32 : Nat) : Int)) (r := (((k - 1) / 32 : Nat) : Int)) e33 rfl (by omega) (quo_i64 (a := k - 1) (b := 32) (by omega)) ?_)
 exact ⟨_, h36, rfl, g44, fun j x _ p => p, rfl⟩
 intro ρ36 h37 w39 g45 hdd20 hdo21
 have e34 : ρ36 91 = .slice (some ⟨b5, 0, none⟩) ((digs a).length) ((digs a).length) := hdd20 3 (by decide)
 have e35 : ρ36 93 = .int .i64 (((k - 1) / 32 : Nat) : Int) := hdd20 5 (by decide)
 refine gP (iA (i := (((k - 1) / 32 : Nat) : Int)) (o := (k - 1) / 32) Tryd.underlying22 Tryd.sizeOf51 e34 e35 (by omega) (by omega) ?_)
 exact ⟨_, h37, rfl, g45, fun j x _ p => p, rfl⟩
 intro ρ37 h38 w40 g46 hdd21 hdo22
 have e36 : ρ37 94 = .pointer (some ⟨b5, (k - 1) / 32, none⟩) := hdd21 6 (by decide)
 have o17 := g46.kp (gr14.kp (gr13.kp (gr8.kp ⟨o9, n4⟩)))
 refine gP (lO (v := .int .u32 ((out.getD ((k - 1) / 32) 0 : Nat) : Int)) Tryd.isAgg51 e36 o17.1 (ua_at (by omega)) ?_)
 exact ⟨_, h38, rfl, g46, fun j x _ p => p, rfl⟩
 intro ρ38 h39 w41 g47 hdd22 hdo23
 have e37 : ρ38 10 = .int .i64 (((k : Nat) : Int) - 1) := hdo23 10 rfl
 refine gP (OpW.move (v := .int .i64 ((k - 1 : Nat) : Int)) (e37.trans (intv (by omega))) ?_)
 exact ⟨_, h39, rfl, g47, fun j x _ p => p, rfl⟩
 intro ρ39 h40 w42 g48 hdd23 hdo24
 have e38 : ρ39 96 = .int .i64 ((k - 1 : Nat) : Int) := hdd23 8 (by decide)
 refine gP (OpW.rem (a := ((k - 1 : Nat) : Int)) (b := ((32 : Nat) : Int)) (r := (((k - 1) % 32 : Nat) : Int)) e38 rfl (by omega) rem_nat ?_)
 exact ⟨_, h40, rfl, g48, fun j x _ p => p, rfl⟩
 intro ρ40 h41 w43 g49 hdd24 hdo25
 have e39 : ρ40 97 = .int .i64 (((k - 1) % 32 : Nat) : Int) := hdd24 9 (by decide)
 refine gP (OpW.shift (a := ((1 : Nat) : Int)) (b := (((k - 1) % 32 : Nat) : Int)) (r := ((1 * 2 ^ ((k - 1) % 32) : Nat) : Int)) (.inl rfl) rfl e39 (shl_nat (mod32_le _) (conv_u32' hsh)) ?_)
 exact ⟨_, h41, rfl, g49, fun j x _ p => p, rfl⟩
 intro ρ41 h42 w44 g50 hdd25 hdo26
 have e40 : ρ41 95 = .int .u32 ((out.getD ((k - 1) / 32) 0 : Nat) : Int) := hdd25 7 (by decide)
 have e41 : ρ41 98 = .int .u32 ((1 * 2 ^ ((k - 1) % 32) : Nat) : Int) := hdd25 10 (by decide)
 refine gP (OpW.bits (a := ((out.getD ((k - 1) / 32) 0 : Nat) : Int)) (b := ((1 * 2 ^ ((k - 1) % 32) : Nat) : Int)) (r := (((out.getD ((k - 1) / 32) 0) ||| (1 * 2 ^ ((k - 1) % 32)) : Nat) : Int)) (.inr (.inl rfl)) e40 e41 (or_u32 (a := out.getD ((k - 1) / 32) 0) (b := 1 * 2 ^ ((k - 1) % 32)) (by omega) hsh) ?_)
 exact ⟨_, h42, rfl, g50, fun j x _ p => p, rfl⟩
 intro ρ42 h43 w45 g51 hdd26 hdo27
 have e42 : ρ42 88 = .slice (some ⟨b5, 0, none⟩) ((digs a).length) ((digs a).length) := hdd26 0 (by decide)
 have e43 : ρ42 90 = .int .i64 (((k - 1) / 32 : Nat) : Int) := hdd26 2 (by decide)
 refine gP (iA (i := (((k - 1) / 32 : Nat) : Int)) (o := (k - 1) / 32) Tryd.underlying22 Tryd.sizeOf51 e42 e43 (by omega) (by omega) ?_)
 exact ⟨_, h43, rfl, g51, fun j x _ p => p, rfl⟩
 intro ρ43 h44 w46 g52 hdp2 hdo28
 have e44 : ρ43 0 = .slice b3 ((digs a).length) c3 := hdo28 0 rfl
 have e45 : ρ43 1 = .slice b4 ((digs b).length) c4 := hdo28 1 rfl
 have e46 : ρ43 6 = .slice (some ⟨b5, 0, none⟩) ((digs a).length) ((digs a).length) := hdo28 6 rfl
 have e47 : ρ43 9 = .slice b17 ((digs (((a / 2 ^ k % b) + (a / 2 ^ k % b)) - b)).length) c16 := hdo28 9 rfl
 have e48 : ρ43 10 = .int .i64 (((k : Nat) : Int) - 1) := hdo28 10 rfl
 have e49 : ρ43 99 = .int .u32 (((out.getD ((k - 1) / 32) 0) ||| (1 * 2 ^ ((k - 1) % 32)) : Nat) : Int) := hdp2 11 rfl
 have e50 : ρ43 100 = .pointer (some ⟨b5, (k - 1) / 32, none⟩) := hdp2 12 rfl
 refine Ops.forget [(0, .slice b3 ((digs a).length) c3), (1, .slice b4 ((digs b).length) c4), (6, .slice (some ⟨b5, 0, none⟩) ((digs a).length) ((digs a).length)), (9, .slice b17 ((digs (((a / 2 ^ k % b) + (a / 2 ^ k % b)) - b)).length) c16), (10, .int .i64 (((k : Nat) : Int) - 1)), (99, .int .u32 (((out.getD ((k - 1) / 32) 0) ||| (1 * 2 ^ ((k - 1) % 32)) : Nat) : Int)), (100, .pointer (some ⟨b5, (k - 1) / 32, none⟩))] ⟨e44, e45, e46, e47, e48, e49, e50, trivial⟩ (fun ρ44 => ?_)
 have o18 := g52.kp (gr14.kp (gr13.kp (gr8.kp ⟨o9, n4⟩)))
 refine oC (OpW.store1 (v := .int .u32 (((out.getD ((k - 1) / 32) 0) ||| (1 * 2 ^ ((k - 1) % 32)) : Nat) : Int)) Tryd.sizeOf51 rfl rfl rfl o18.1 (ua_lt (by omega)) ?_)
 intro w47 p3
 have o19 : w47.heap[b5]? = some (.cells (ua .u32 (out.set ((k - 1) / 32) ((out.getD ((k - 1) / 32) 0) ||| (1 * 2 ^ ((k - 1) % 32))))) 51 (0, 0)) := by rw [p3.at_, ua_set]
 refine oN (wR (mv (oC (OpW.sub (a := (((k : Nat) : Int) - 1)) (b := ((1 : Nat) : Int)) (r := ((((k : Nat) : Int) - 1) - ((1 : Nat) : Int))) rfl rfl (in_i64 (by omega)) (ma (oN ?_))))))
 have g53 := (g38.trans g52).put p3 o18.2 lo2
 exact ⟨(k - 1, out.set ((k - 1) / 32) (out.getD ((k - 1) / 32) 0 ||| 1 * 2 ^ ((k - 1) % 32)), b17, c16), ⟨_, h44, named ⟨(by exact rfl), (by exact rfl), (by exact rfl), (by exact (congrArg (fun t => Value.slice b17 (digs t).length c16) (div_t0 (by omega) hp2 hbt hge))), (by exact (intv (by omega))), trivial⟩, g53, ((((l4.trans gr8.le).trans gr13.le).trans gr14.le).trans g52.le), o19, o18.2, (by omega), (by rw [List.length_set]; exact hl), (hf.set _ _ (Nat.or_lt_two_pow (n := 32) bdo hsh)), (divv_t0 (by omega) hp2 hbt hge hl hf (by omega) hv), (N.recast (div_t0 (by omega) hp2 hbt hge) (N.mono hr11 g52.le))⟩, (by dsimp only; omega)⟩
 replace c15 : ¬ (((0 : Nat) : Int) ≤ (cmpN ((a / 2 ^ k % b) + (a / 2 ^ k % b)) b)) := (of_decide_eq_false c15)
 have hge := cmpN_nneg c15
 refine Wp.skip (wR (mv (oC (OpW.sub (a := (((k : Nat) : Int) - 1)) (b := ((1 : Nat) : Int)) (r := ((((k : Nat) : Int) - 1) - ((1 : Nat) : Int))) rfl rfl (in_i64 (by omega)) (ma (oN ?_))))))
 have g54 := g15.trans gr13
 have o20 := gr13.kp (gr8.kp ⟨o9, n4⟩)
 exact ⟨(k - 1, out, b12, c10), ⟨_, h29, named ⟨(by exact rfl), (by exact rfl), (by exact rfl), (by exact (congrArg (fun t => Value.slice b12 (digs t).length c10) (div_f0 (by omega) hp2 hbt hge))), (by exact (intv (by omega))), trivial⟩, g54, ((l4.trans gr8.le).trans gr13.le), o20.1, o20.2, (by omega), (by omega), (by omega), (divv_f0 (by omega) hp2 hbt hge hv), (N.recast (div_f0 (by omega) hp2 hbt hge) (N.mono hr6 gr13.le))⟩, (by dsimp only; omega)⟩
 replace c9 : ¬ (((0 : Nat) : Int) ≤ (((k : Nat) : Int) - 1)) := (of_decide_eq_false c9)
 refine Wp.exit (sr (mv ?_))
 obtain ⟨h45, g55, l6, qb8, fr4⟩ := freeze_ex g14 o9 n4 lo2
 have f4 := U.own (l := out) qb8 hf (cap := (digs a).length) hl (Nat.le_refl _)
 refine oC (cF Tryd.call76 (rtrim_c (l := out) g55.sat f4 (by omega)) rfl ?_)
 intro r12 h46 w48 gr15 hr12
 obtain ⟨b18, c17, rfl, k11⟩ := N.shape hr12
 refine mv (ma (ma (oN (Wp.ret (fin2_ret rfl (resOf_tmp (v := .slice b18 ((digs (val out)).length) c17) rfl) (resOf_tmp (v := .slice bS9 ((digs (a / 2 ^ k % b)).length) cS9) rfl) ?_)))))
 have g56 := g55.trans gr15
 refine ⟨h46, g56, ?_⟩
 have hk0 : k = 0 := by omega
 exact ⟨_, _, rfl, N.cast (by rw [hv, hk0]; simp) hr12, N.cast (by rw [hk0]; simp) (N.mono hS9 (l6.trans gr15.le))⟩
theorem rgcd_c {h : PH} {w : World} {v0 : Value} {a : Nat} {v1 : Value} {b : Nat} (hs : Sat h w) (pv0 : N h v0 a) (pv1 : N h v1 b) (hp0 : sz a ≤ 536870912) (hp1 : sz b ≤ 536870912) (hp2 : a ≠ 0) (hp3 : b ≠ 0) :
    Calls Tryd.prog 116 #[v0, v1] w (Ret h w fun h' r => N h' r (Nat.gcd a b)) := by
 obtain ⟨b1, c1, rfl, k1⟩ := N.shape pv0
 obtain ⟨b2, c2, rfl, k2⟩ := N.shape pv1
 have hsab := sz_add a b
 refine calls_ear (vs := [.slice b1 ((digs a).length) c1, .slice b2 ((digs b).length) c2]) Tryd.func116 rfl rfl ?_
 have g1 := Gr.refl hs
 refine sr (ma (oN (sr (ma (oN (wS (Wp.block (Wp.loop (σ := Nat × Nat × Nat × Option Addr × Nat × Option Addr × Nat) (fun s (ρ : Env) (w' : World) => match s with | (t, x, y, bS0, cS0, bS1, cS1) => ∃ ρb h', ρ = upds ρb [(0, .slice bS0 ((digs x).length) cS0), (1, .slice bS1 ((digs y).length) cS1), (5, .int .i64 ((t : Nat) : Int))] ∧ Gr h w h' w' ∧ PH.le h h' ∧ (x ≠ 0) ∧ (y ≠ 0) ∧ (x ≤ a) ∧ (y ≤ b) ∧ (2 ^ t * Nat.gcd x y = Nat.gcd a b) ∧ (N h' (.slice bS0 ((digs x).length) cS0) x) ∧ (N h' (.slice bS1 ((digs y).length) cS1) y)) (fun s => match s with | (t, x, y, bS0, cS0, bS1, cS1) => x) (0, a, b, b1, c1, b2, c2) ?_ ?_))))))))
 exact ⟨_, h, nm (by exact rfl), g1, PH.le.refl _, (by omega), (by omega), (by omega), (by omega), (by simp), pv0, pv1⟩
 rintro ⟨t, x, y, bS0, cS0, bS1, cS1⟩ ρ1 w1 ⟨ρ2, h1, rfl, g2, l1, hx, hy, hxa, hyb, hg, hS0, hS1⟩
 have hsx := sz_mono hxa
 have hsy := sz_mono hyb
 have hta := pow_bound hp2 hg
 refine wS (sr (mv (oC (cF Tryd.call127 (reven_c (a := x) g2.sat hS0 (by omega)) rfl ?_))))
 intro r1 h2 w2 gr1 hr1
 subst hr1
 refine mv ?_
 cases c3 : (decide (x % 2 = 0))
 replace c3 : ¬ (x % 2 = 0) := (of_decide_eq_false c3)
 refine oD rfl rfl rfl rfl (oD rfl rfl rfl rfl (oC (pF (v := .bool false) rfl rfl (oN (Wp.cond_f rfl ?_)))))
 have hod : Nat.gcd x y % 2 = 1 := gcd_odd hy (by omega)
 refine Wp.exit (wS (Wp.block ?_))
 have g3 := g2.trans gr1
 refine Wp.loop (σ := Nat × Nat × Option Addr × Nat × Option Addr × Nat) (fun s (ρ : Env) (w' : World) => match s with | (x2, y2, bS0, cS0, bS1, cS1) => ∃ ρb h', ρ = upds ρb [(0, .slice bS0 ((digs x2).length) cS0), (1, .slice bS1 ((digs y2).length) cS1), (5, .int .i64 ((t : Nat) : Int))] ∧ Gr h w h' w' ∧ PH.le h2 h' ∧ (x2 ≠ 0) ∧ (x2 ≤ a + b) ∧ (y2 ≤ a + b) ∧ (Nat.gcd x2 y2 = Nat.gcd x y) ∧ (N h' (.slice bS0 ((digs x2).length) cS0) x2) ∧ (N h' (.slice bS1 ((digs y2).length) cS1) y2)) (fun s => match s with | (x2, y2, bS0, cS0, bS1, cS1) => x2 + y2) (x, y, bS0, cS0, bS1, cS1) ?_ ?_
 exact ⟨_, h2, nm (by exact rfl), g3, PH.le.refl _, (by omega), (by omega), (by omega), rfl, (N.mono hS0 gr1.le), (N.mono hS1 gr1.le)⟩
 rintro ⟨x2, y2, bS0, cS0, bS1, cS1⟩ ρ3 w3 ⟨ρ4, h3, rfl, g4, l2, hx2, hxa2, hyb2, hg2, hS0, hS1⟩
 have hsx2 := sz_mono hxa2
 have hsy2 := sz_mono hyb2
 have hyz := sz_eq_zero (n := y2)
 unfold sz at hyz
 refine wS (sr (mv (oC (OpW.lenS Tryd.underlying22 (l := (digs y2).length) rfl ?_))))
 refine oC (OpW.gtr (a := (((digs y2).length : Nat) : Int)) (b := ((0 : Nat) : Int)) (r := decide (0 < (digs y2).length)) rfl rfl (lt_nat (a := 0) (b := (digs y2).length)) (oN (Wp.cond (t := decide (0 < (digs y2).length)) rfl (fun c4 => ?_) (fun c4 => ?_))))
 replace c4 : 0 < (digs y2).length := (of_decide_eq_true c4)
 refine Wp.skip (Wp.block (wS (Wp.block (Wp.loop (σ := Nat × Option Addr × Nat) (fun s (ρ : Env) (w' : World) => match s with | (x3, bS0, cS0) => ∃ ρb h', ρ = upds ρb [(0, .slice bS0 ((digs x3).length) cS0), (1, .slice bS1 ((digs y2).length) cS1), (5, .int .i64 ((t : Nat) : Int))] ∧ Gr h w h' w' ∧ PH.le h3 h' ∧ (x3 ≠ 0) ∧ (x3 ≤ x2) ∧ (Nat.gcd x3 y2 = Nat.gcd x y) ∧ (N h' (.slice bS0 ((digs x3).length) cS0) x3)) (fun s => match s with | (x3, bS0, cS0) => x3) (x2, bS0, cS0) ?_ ?_))))
 exact ⟨_, h3, nm rfl, g4, PH.le.refl _, (by omega), (by omega), hg2, hS0⟩
 rintro ⟨x3, bS0, cS0⟩ ρ5 w4 ⟨ρ6, h4, rfl, g5, l3, hx3, hx32, hg3, hS0⟩
 have hsx3 := sz_mono hx32
 refine wS (sr (mv (oC (cF Tryd.call127 (reven_c (a := x3) g5.sat hS0 (by omega)) rfl ?_))))
 intro r2 h5 w5 gr2 hr2
 subst hr2
 refine oN (Wp.cond (t := decide (x3 % 2 = 0)) rfl (fun c5 => ?_) (fun c5 => ?_))
 replace c5 : x3 % 2 = 0 := (of_decide_eq_true c5)
 have hev3 := c5
 refine Wp.skip (Wp.block (wR (mv ?_)))
 have g6 := g5.trans gr2
 refine oC (cF Tryd.call128 (rhalf_c (a := x3) g6.sat (N.mono hS0 gr2.le) (by omega)) rfl ?_)
 intro r3 h6 w6 gr3 hr3
 obtain ⟨b3, c6, rfl, k3⟩ := N.shape hr3
 refine ma (oN ?_)
 have g7 := g6.trans gr3
 exact ⟨(x3 / 2, b3, c6), ⟨_, h6, nm rfl, g7, ((l3.trans gr2.le).trans gr3.le), (by omega), (by omega), (gcd_half_l hod hev3 hg3), hr3⟩, (by dsimp only; omega)⟩
 replace c5 : ¬ (x3 % 2 = 0) := (of_decide_eq_false c5)
 refine Wp.exit (wS (Wp.block ?_))
 have g8 := g5.trans gr2
 refine Wp.loop (σ := Nat × Option Addr × Nat) (fun s (ρ : Env) (w' : World) => match s with | (y3, bS1, cS1) => ∃ ρb h', ρ = upds ρb [(0, .slice bS0 ((digs x3).length) cS0), (1, .slice bS1 ((digs y3).length) cS1), (5, .int .i64 ((t : Nat) : Int))] ∧ Gr h w h' w' ∧ PH.le h5 h' ∧ (y3 ≠ 0) ∧ (y3 ≤ y2) ∧ (Nat.gcd x3 y3 = Nat.gcd x y) ∧ (N h' (.slice bS1 ((digs y3).length) cS1) y3)) (fun s => match s with | (y3, bS1, cS1) => y3) (y2, bS1, cS1) ?_ ?_
 exact ⟨_, h5, nm rfl, g8, PH.le.refl _, (by omega), (by omega), hg3, (N.mono hS1 (l3.trans gr2.le))⟩
 rintro ⟨y3, bS1, cS1⟩ ρ7 w7 ⟨ρ8, h7, rfl, g9, l4, hy3, hy32, hg4, hS1⟩
 have hsy3 := sz_mono hy32
 refine wS (sr (mv (oC (cF Tryd.call127 (reven_c (a := y3) g9.sat hS1 (by omega)) rfl ?_))))
 intro r4 h8 w8 gr4 hr4
 subst hr4
 refine oN (Wp.cond (t := decide (y3 % 2 = 0)) rfl (fun c7 => ?_) (fun c7 => ?_))
 replace c7 : y3 % 2 = 0 := (of_decide_eq_true c7)
 have hev4 := c7
 refine Wp.skip (Wp.block (wR (mv ?_)))
 have g10 := g9.trans gr4
 refine oC (cF Tryd.call128 (rhalf_c (a := y3) g10.sat (N.mono hS1 gr4.le) (by omega)) rfl ?_)
 intro r5 h9 w9 gr5 hr5
 obtain ⟨b4, c8, rfl, k4⟩ := N.shape hr5
 refine ma (oN ?_)
 have g11 := g10.trans gr5
 exact ⟨(y3 / 2, b4, c8), ⟨_, h9, nm rfl, g11, ((l4.trans gr4.le).trans gr5.le), (by omega), (by omega), (gcd_half_r hod hev4 hg4), hr5⟩, (by dsimp only; omega)⟩
 replace c7 : ¬ (y3 % 2 = 0) := (of_decide_eq_false c7)
 refine Wp.exit (wS (sr (mv (mv ?_))))
 have g12 := g9.trans gr4
 refine oC (cF Tryd.call100 (rorder_c (a := x3) (b := y3) g12.sat (N.mono hS0 ((gr2.le.trans l4).trans gr4.le)) (N.mono hS1 gr4.le) (by omega) (by omega)) rfl ?_)
 intro r6 h10 w10 gr6 hr6
 subst hr6
 refine oC (OpW.gtr (a := (cmpN x3 y3)) (b := ((0 : Nat) : Int)) (r := decide (((0 : Nat) : Int) < (cmpN x3 y3))) rfl rfl rfl (oN (Wp.cond (t := decide (((0 : Nat) : Int) < (cmpN x3 y3))) rfl (fun c9 => ?_) (fun c9 => ?_))))
 replace c9 : ((0 : Nat) : Int) < (cmpN x3 y3) := (of_decide_eq_true c9)
 have hgt := cmpN_pos.1 c9
 refine wR (mv (mv (ma (ma (oN (fg [(0, .slice bS1 ((digs y3).length) cS1), (1, .slice bS0 ((digs x3).length) cS0), (5, .int .i64 ((t : Nat) : Int))] rfl (fun ρ9 => (wR (mv (mv ?_))))))))))
 have g13 := g12.trans gr6
 refine oC (cF Tryd.call101 (rminus_c (a := x3) (b := y3) g13.sat (N.mono hS0 (((gr2.le.trans l4).trans gr4.le).trans gr6.le)) (N.mono hS1 (gr4.le.trans gr6.le)) (by omega) (by omega) (by omega)) rfl ?_)
 intro r7 h11 w11 gr7 hr7
 obtain ⟨b5, c10, rfl, k5⟩ := N.shape hr7
 refine ma (oN ?_)
 have g14 := g13.trans gr7
 exact ⟨(y3, x3 - y3, bS1, cS1, b5, c10), ⟨_, h11, nm (by exact rfl), g14, ((((((l2.trans l3).trans gr2.le).trans l4).trans gr4.le).trans gr6.le).trans gr7.le), (by omega), (by omega), (by omega), (gcd_swap_sub (cmpN_pos.1 (by assumption)) hg4), (N.mono hS1 ((gr4.le.trans gr6.le).trans gr7.le)), hr7⟩, (by dsimp only; omega)⟩
 replace c9 : ¬ (((0 : Nat) : Int) < (cmpN x3 y3)) := (of_decide_eq_false c9)
 have hgt := not_gt_of c9
 refine Wp.skip (wR (mv (mv ?_)))
 have g15 := g12.trans gr6
 refine oC (cF Tryd.call101 (rminus_c (a := y3) (b := x3) g15.sat (N.mono hS1 (gr4.le.trans gr6.le)) (N.mono hS0 (((gr2.le.trans l4).trans gr4.le).trans gr6.le)) (by omega) (by omega) (by omega)) rfl ?_)
 intro r8 h12 w12 gr8 hr8
 obtain ⟨b6, c11, rfl, k6⟩ := N.shape hr8
 refine ma (oN ?_)
 have g16 := g15.trans gr8
 exact ⟨(x3, y3 - x3, bS0, cS0, b6, c11), ⟨_, h12, nm (by exact rfl), g16, ((((((l2.trans l3).trans gr2.le).trans l4).trans gr4.le).trans gr6.le).trans gr8.le), (by omega), (by omega), (by omega), (gcd_sub (not_gt_of (by assumption)) hg4), (N.mono hS0 ((((gr2.le.trans l4).trans gr4.le).trans gr6.le).trans gr8.le)), hr8⟩, (by have := not_gt_of (by assumption); dsimp only; omega)⟩
 replace c4 : ¬ (0 < (digs y2).length) := (of_decide_eq_false c4)
 have hy0 : y2 = 0 := by omega
 have hg5 : x2 = Nat.gcd x y := by rw [← hg2, hy0, Nat.gcd_zero_right]
 refine Wp.exit (wS (sr (ma (oN (Wp.block (Wp.loop (σ := Nat × Option Addr × Nat) (fun s (ρ : Env) (w' : World) => match s with | (i, bS0, cS0) => ∃ ρb h', ρ = upds ρb [(0, .slice bS0 ((digs (x2 * 2 ^ i)).length) cS0), (5, .int .i64 ((t : Nat) : Int)), (6, .int .i64 ((i : Nat) : Int))] ∧ Gr h w h' w' ∧ PH.le h3 h' ∧ (i ≤ t) ∧ (N h' (.slice bS0 ((digs (x2 * 2 ^ i)).length) cS0) (x2 * 2 ^ i))) (fun s => match s with | (i, bS0, cS0) => t - i) (0, bS0, cS0) ?_ ?_))))))
 exact ⟨_, h3, named ⟨(congrArg (fun t => Value.slice bS0 (digs t).length cS0) (show x2 = _ from (by simp))), rfl, rfl, trivial⟩, g4, PH.le.refl _, (by omega), (N.recast (m := x2) (by simp) hS0)⟩
 rintro ⟨i, bS0, cS0⟩ ρ10 w13 ⟨ρ11, h13, rfl, g17, l5, hi, hS0⟩
 have hle : x2 * 2 ^ i ≤ a := by
   have h1 : x2 * 2 ^ i ≤ x2 * 2 ^ t := Nat.mul_le_mul_left _ (Nat.pow_le_pow_right (by decide) hi)
   have h2 := Nat.gcd_le_left b (Nat.pos_of_ne_zero hp2)
   rw [← hg, Nat.mul_comm, ← hg5] at h2
   omega
 have hsl := sz_mono hle
 refine wS (sr (mv (mv (oC (OpW.lss (a := ((i : Nat) : Int)) (b := ((t : Nat) : Int)) (r := decide (i < t)) rfl rfl (lt_nat (a := i) (b := t)) (oN (Wp.cond (t := decide (i < t)) rfl (fun c12 => ?_) (fun c12 => ?_))))))))
 replace c12 : i < t := (of_decide_eq_true c12)
 refine Wp.skip (wS (Wp.block (wR (mv (mv (oC (cF Tryd.call96 (rplus_c (a := x2 * 2 ^ i) (b := x2 * 2 ^ i) g17.sat hS0 hS0 (by omega) (by omega)) rfl ?_)))))))
 intro r9 h14 w14 gr9 hr9
 obtain ⟨b7, c13, rfl, k7⟩ := N.shape hr9
 refine ma (oN (wR (mv (oC (OpW.add (a := ((i : Nat) : Int)) (b := ((1 : Nat) : Int)) (r := ((i + 1 : Nat) : Int)) rfl rfl (add_i64 (a := i) (b := 1) (by omega)) (ma (oN ?_)))))))
 have g18 := g17.trans gr9
 exact ⟨(i + 1, b7, c13), ⟨_, h14, named ⟨(congrArg (fun t => Value.slice b7 (digs t).length c13) (dbl_pow x2 i)), rfl, rfl, trivial⟩, g18, (l5.trans gr9.le), (by omega), (N.recast (dbl_pow x2 i) hr9)⟩, (by dsimp only; omega)⟩
 replace c12 : ¬ (i < t) := (of_decide_eq_false c12)
 refine Wp.exit (sr (mv (ma (oN (Wp.ret (fin1_ret rfl (resOf_tmp (v := .slice bS0 ((digs (x2 * 2 ^ i)).length) cS0) rfl) ?_))))))
 refine ⟨h13, g17, ?_⟩
 exact N.cast (by rw [← hg, ← hg5, show i = t by omega, Nat.mul_comm]) hS0
 replace c3 : x % 2 = 0 := (of_decide_eq_true c3)
 refine oL rfl rfl rfl (OpW.move (v := .slice bS1 ((digs y).length) cS1) rfl ?_)
 have g19 := g2.trans gr1
 refine oL rfl rfl rfl (cF Tryd.call127 (reven_c (a := y) g19.sat (N.mono hS1 gr1.le) (by omega)) rfl ?_)
 intro r10 h15 w15 gr10 hr10
 subst hr10
 refine oC (pT (v := .bool (decide (y % 2 = 0))) rfl rfl (oN (Wp.cond (t := decide (y % 2 = 0)) rfl (fun c14 => ?_) (fun c14 => ?_))))
 replace c14 : y % 2 = 0 := (of_decide_eq_true c14)
 have hev : x % 2 = 0 ∧ y % 2 = 0 := ⟨by omega, by omega⟩
 refine Wp.skip (Wp.block (sr (mv ?_)))
 have g20 := g19.trans gr10
 refine oC (cF Tryd.call128 (rhalf_c (a := x) g20.sat (N.mono hS0 (gr1.le.trans gr10.le)) (by omega)) rfl ?_)
 intro r11 h16 w16 gr11 hr11
 obtain ⟨b8, c15, rfl, k8⟩ := N.shape hr11
 refine mv ?_
 have g21 := g20.trans gr11
 refine oC (cF Tryd.call128 (rhalf_c (a := y) g21.sat (N.mono hS1 ((gr1.le.trans gr10.le).trans gr11.le)) (by omega)) rfl ?_)
 intro r12 h17 w17 gr12 hr12
 obtain ⟨b9, c16, rfl, k9⟩ := N.shape hr12
 refine ma (ma (oN (fg [(0, .slice b8 ((digs (x / 2)).length) c15), (1, .slice b9 ((digs (y / 2)).length) c16), (5, .int .i64 ((t : Nat) : Int))] rfl (fun ρ12 => (wR (mv (oC (OpW.add (a := ((t : Nat) : Int)) (b := ((1 : Nat) : Int)) (r := ((t + 1 : Nat) : Int)) rfl rfl (add_i64 (a := t) (b := 1) (by omega)) (ma (oN ?_))))))))))
 have g22 := g21.trans gr12
 exact ⟨(t + 1, x / 2, y / 2, b8, c15, b9, c16), ⟨_, h17, nm (by exact rfl), g22, ((((l1.trans gr1.le).trans gr10.le).trans gr11.le).trans gr12.le), (by omega), (by omega), (by omega), (by omega), (gcd_both hev.1 hev.2 hg), (N.mono hr11 gr12.le), hr12⟩, (by dsimp only; omega)⟩
 replace c14 : ¬ (y % 2 = 0) := (of_decide_eq_false c14)
 have hod : Nat.gcd x y % 2 = 1 := gcd_odd hy (by omega)
 refine Wp.exit (wS (Wp.block ?_))
 have g23 := g19.trans gr10
 refine Wp.loop (σ := Nat × Nat × Option Addr × Nat × Option Addr × Nat) (fun s (ρ : Env) (w' : World) => match s with | (x2, y2, bS0, cS0, bS1, cS1) => ∃ ρb h', ρ = upds ρb [(0, .slice bS0 ((digs x2).length) cS0), (1, .slice bS1 ((digs y2).length) cS1), (5, .int .i64 ((t : Nat) : Int))] ∧ Gr h w h' w' ∧ PH.le h15 h' ∧ (x2 ≠ 0) ∧ (x2 ≤ a + b) ∧ (y2 ≤ a + b) ∧ (Nat.gcd x2 y2 = Nat.gcd x y) ∧ (N h' (.slice bS0 ((digs x2).length) cS0) x2) ∧ (N h' (.slice bS1 ((digs y2).length) cS1) y2)) (fun s => match s with | (x2, y2, bS0, cS0, bS1, cS1) => x2 + y2) (x, y, bS0, cS0, bS1, cS1) ?_ ?_
 exact ⟨_, h15, nm (by exact rfl), g23, PH.le.refl _, (by omega), (by omega), (by omega), rfl, (N.mono hS0 (gr1.le.trans gr10.le)), (N.mono hS1 (gr1.le.trans gr10.le))⟩
 rintro ⟨x2, y2, bS0, cS0, bS1, cS1⟩ ρ13 w18 ⟨ρ14, h18, rfl, g24, l6, hx2, hxa2, hyb2, hg2, hS0, hS1⟩
 have hsx2 := sz_mono hxa2
 have hsy2 := sz_mono hyb2
 have hyz := sz_eq_zero (n := y2)
 unfold sz at hyz
 refine wS (sr (mv (oC (OpW.lenS Tryd.underlying22 (l := (digs y2).length) rfl ?_))))
 refine oC (OpW.gtr (a := (((digs y2).length : Nat) : Int)) (b := ((0 : Nat) : Int)) (r := decide (0 < (digs y2).length)) rfl rfl (lt_nat (a := 0) (b := (digs y2).length)) (oN (Wp.cond (t := decide (0 < (digs y2).length)) rfl (fun c17 => ?_) (fun c17 => ?_))))
 replace c17 : 0 < (digs y2).length := (of_decide_eq_true c17)
 refine Wp.skip (Wp.block (wS (Wp.block (Wp.loop (σ := Nat × Option Addr × Nat) (fun s (ρ : Env) (w' : World) => match s with | (x3, bS0, cS0) => ∃ ρb h', ρ = upds ρb [(0, .slice bS0 ((digs x3).length) cS0), (1, .slice bS1 ((digs y2).length) cS1), (5, .int .i64 ((t : Nat) : Int))] ∧ Gr h w h' w' ∧ PH.le h18 h' ∧ (x3 ≠ 0) ∧ (x3 ≤ x2) ∧ (Nat.gcd x3 y2 = Nat.gcd x y) ∧ (N h' (.slice bS0 ((digs x3).length) cS0) x3)) (fun s => match s with | (x3, bS0, cS0) => x3) (x2, bS0, cS0) ?_ ?_))))
 exact ⟨_, h18, nm rfl, g24, PH.le.refl _, (by omega), (by omega), hg2, hS0⟩
 rintro ⟨x3, bS0, cS0⟩ ρ15 w19 ⟨ρ16, h19, rfl, g25, l7, hx3, hx32, hg3, hS0⟩
 have hsx3 := sz_mono hx32
 refine wS (sr (mv (oC (cF Tryd.call127 (reven_c (a := x3) g25.sat hS0 (by omega)) rfl ?_))))
 intro r13 h20 w20 gr13 hr13
 subst hr13
 refine oN (Wp.cond (t := decide (x3 % 2 = 0)) rfl (fun c18 => ?_) (fun c18 => ?_))
 replace c18 : x3 % 2 = 0 := (of_decide_eq_true c18)
 have hev3 := c18
 refine Wp.skip (Wp.block (wR (mv ?_)))
 have g26 := g25.trans gr13
 refine oC (cF Tryd.call128 (rhalf_c (a := x3) g26.sat (N.mono hS0 gr13.le) (by omega)) rfl ?_)
 intro r14 h21 w21 gr14 hr14
 obtain ⟨b10, c19, rfl, k10⟩ := N.shape hr14
 refine ma (oN ?_)
 have g27 := g26.trans gr14
 exact ⟨(x3 / 2, b10, c19), ⟨_, h21, nm rfl, g27, ((l7.trans gr13.le).trans gr14.le), (by omega), (by omega), (gcd_half_l hod hev3 hg3), hr14⟩, (by dsimp only; omega)⟩
 replace c18 : ¬ (x3 % 2 = 0) := (of_decide_eq_false c18)
 refine Wp.exit (wS (Wp.block ?_))
 have g28 := g25.trans gr13
 refine Wp.loop (σ := Nat × Option Addr × Nat) (fun s (ρ : Env) (w' : World) => match s with | (y3, bS1, cS1) => ∃ ρb h', ρ = upds ρb [(0, .slice bS0 ((digs x3).length) cS0), (1, .slice bS1 ((digs y3).length) cS1), (5, .int .i64 ((t : Nat) : Int))] ∧ Gr h w h' w' ∧ PH.le h20 h' ∧ (y3 ≠ 0) ∧ (y3 ≤ y2) ∧ (Nat.gcd x3 y3 = Nat.gcd x y) ∧ (N h' (.slice bS1 ((digs y3).length) cS1) y3)) (fun s => match s with | (y3, bS1, cS1) => y3) (y2, bS1, cS1) ?_ ?_
 exact ⟨_, h20, nm rfl, g28, PH.le.refl _, (by omega), (by omega), hg3, (N.mono hS1 (l7.trans gr13.le))⟩
 rintro ⟨y3, bS1, cS1⟩ ρ17 w22 ⟨ρ18, h22, rfl, g29, l8, hy3, hy32, hg4, hS1⟩
 have hsy3 := sz_mono hy32
 refine wS (sr (mv (oC (cF Tryd.call127 (reven_c (a := y3) g29.sat hS1 (by omega)) rfl ?_))))
 intro r15 h23 w23 gr15 hr15
 subst hr15
 refine oN (Wp.cond (t := decide (y3 % 2 = 0)) rfl (fun c20 => ?_) (fun c20 => ?_))
 replace c20 : y3 % 2 = 0 := (of_decide_eq_true c20)
 have hev4 := c20
 refine Wp.skip (Wp.block (wR (mv ?_)))
 have g30 := g29.trans gr15
 refine oC (cF Tryd.call128 (rhalf_c (a := y3) g30.sat (N.mono hS1 gr15.le) (by omega)) rfl ?_)
 intro r16 h24 w24 gr16 hr16
 obtain ⟨b11, c21, rfl, k11⟩ := N.shape hr16
 refine ma (oN ?_)
 have g31 := g30.trans gr16
 exact ⟨(y3 / 2, b11, c21), ⟨_, h24, nm rfl, g31, ((l8.trans gr15.le).trans gr16.le), (by omega), (by omega), (gcd_half_r hod hev4 hg4), hr16⟩, (by dsimp only; omega)⟩
 replace c20 : ¬ (y3 % 2 = 0) := (of_decide_eq_false c20)
 refine Wp.exit (wS (sr (mv (mv ?_))))
 have g32 := g29.trans gr15
 refine oC (cF Tryd.call100 (rorder_c (a := x3) (b := y3) g32.sat (N.mono hS0 ((gr13.le.trans l8).trans gr15.le)) (N.mono hS1 gr15.le) (by omega) (by omega)) rfl ?_)
 intro r17 h25 w25 gr17 hr17
 subst hr17
 refine oC (OpW.gtr (a := (cmpN x3 y3)) (b := ((0 : Nat) : Int)) (r := decide (((0 : Nat) : Int) < (cmpN x3 y3))) rfl rfl rfl (oN (Wp.cond (t := decide (((0 : Nat) : Int) < (cmpN x3 y3))) rfl (fun c22 => ?_) (fun c22 => ?_))))
 replace c22 : ((0 : Nat) : Int) < (cmpN x3 y3) := (of_decide_eq_true c22)
 have hgt := cmpN_pos.1 c22
 refine wR (mv (mv (ma (ma (oN (fg [(0, .slice bS1 ((digs y3).length) cS1), (1, .slice bS0 ((digs x3).length) cS0), (5, .int .i64 ((t : Nat) : Int))] rfl (fun ρ19 => (wR (mv (mv ?_))))))))))
 have g33 := g32.trans gr17
 refine oC (cF Tryd.call101 (rminus_c (a := x3) (b := y3) g33.sat (N.mono hS0 (((gr13.le.trans l8).trans gr15.le).trans gr17.le)) (N.mono hS1 (gr15.le.trans gr17.le)) (by omega) (by omega) (by omega)) rfl ?_)
 intro r18 h26 w26 gr18 hr18
 obtain ⟨b12, c23, rfl, k12⟩ := N.shape hr18
 refine ma (oN ?_)
 have g34 := g33.trans gr18
 exact ⟨(y3, x3 - y3, bS1, cS1, b12, c23), ⟨_, h26, nm (by exact rfl), g34, ((((((l6.trans l7).trans gr13.le).trans l8).trans gr15.le).trans gr17.le).trans gr18.le), (by omega), (by omega), (by omega), (gcd_swap_sub (cmpN_pos.1 (by assumption)) hg4), (N.mono hS1 ((gr15.le.trans gr17.le).trans gr18.le)), hr18⟩, (by dsimp only; omega)⟩
 replace c22 : ¬ (((0 : Nat) : Int) < (cmpN x3 y3)) := (of_decide_eq_false c22)
 have hgt := not_gt_of c22
 refine Wp.skip (wR (mv (mv ?_)))
 have g35 := g32.trans gr17
 refine oC (cF Tryd.call101 (rminus_c (a := y3) (b := x3) g35.sat (N.mono hS1 (gr15.le.trans gr17.le)) (N.mono hS0 (((gr13.le.trans l8).trans gr15.le).trans gr17.le)) (by omega) (by omega) (by omega)) rfl ?_)
 intro r19 h27 w27 gr19 hr19
 obtain ⟨b13, c24, rfl, k13⟩ := N.shape hr19
 refine ma (oN ?_)
 have g36 := g35.trans gr19
 exact ⟨(x3, y3 - x3, bS0, cS0, b13, c24), ⟨_, h27, nm (by exact rfl), g36, ((((((l6.trans l7).trans gr13.le).trans l8).trans gr15.le).trans gr17.le).trans gr19.le), (by omega), (by omega), (by omega), (gcd_sub (not_gt_of (by assumption)) hg4), (N.mono hS0 ((((gr13.le.trans l8).trans gr15.le).trans gr17.le).trans gr19.le)), hr19⟩, (by have := not_gt_of (by assumption); dsimp only; omega)⟩
 replace c17 : ¬ (0 < (digs y2).length) := (of_decide_eq_false c17)
 have hy0 : y2 = 0 := by omega
 have hg5 : x2 = Nat.gcd x y := by rw [← hg2, hy0, Nat.gcd_zero_right]
 refine Wp.exit (wS (sr (ma (oN (Wp.block (Wp.loop (σ := Nat × Option Addr × Nat) (fun s (ρ : Env) (w' : World) => match s with | (i, bS0, cS0) => ∃ ρb h', ρ = upds ρb [(0, .slice bS0 ((digs (x2 * 2 ^ i)).length) cS0), (5, .int .i64 ((t : Nat) : Int)), (6, .int .i64 ((i : Nat) : Int))] ∧ Gr h w h' w' ∧ PH.le h18 h' ∧ (i ≤ t) ∧ (N h' (.slice bS0 ((digs (x2 * 2 ^ i)).length) cS0) (x2 * 2 ^ i))) (fun s => match s with | (i, bS0, cS0) => t - i) (0, bS0, cS0) ?_ ?_))))))
 exact ⟨_, h18, named ⟨(congrArg (fun t => Value.slice bS0 (digs t).length cS0) (show x2 = _ from (by simp))), rfl, rfl, trivial⟩, g24, PH.le.refl _, (by omega), (N.recast (m := x2) (by simp) hS0)⟩
 rintro ⟨i, bS0, cS0⟩ ρ20 w28 ⟨ρ21, h28, rfl, g37, l9, hi, hS0⟩
 have hle : x2 * 2 ^ i ≤ a := by
   have h1 : x2 * 2 ^ i ≤ x2 * 2 ^ t := Nat.mul_le_mul_left _ (Nat.pow_le_pow_right (by decide) hi)
   have h2 := Nat.gcd_le_left b (Nat.pos_of_ne_zero hp2)
   rw [← hg, Nat.mul_comm, ← hg5] at h2
   omega
 have hsl := sz_mono hle
 refine wS (sr (mv (mv (oC (OpW.lss (a := ((i : Nat) : Int)) (b := ((t : Nat) : Int)) (r := decide (i < t)) rfl rfl (lt_nat (a := i) (b := t)) (oN (Wp.cond (t := decide (i < t)) rfl (fun c25 => ?_) (fun c25 => ?_))))))))
 replace c25 : i < t := (of_decide_eq_true c25)
 refine Wp.skip (wS (Wp.block (wR (mv (mv (oC (cF Tryd.call96 (rplus_c (a := x2 * 2 ^ i) (b := x2 * 2 ^ i) g37.sat hS0 hS0 (by omega) (by omega)) rfl ?_)))))))
 intro r20 h29 w29 gr20 hr20
 obtain ⟨b14, c26, rfl, k14⟩ := N.shape hr20
 refine ma (oN (wR (mv (oC (OpW.add (a := ((i : Nat) : Int)) (b := ((1 : Nat) : Int)) (r := ((i + 1 : Nat) : Int)) rfl rfl (add_i64 (a := i) (b := 1) (by omega)) (ma (oN ?_)))))))
 have g38 := g37.trans gr20
 exact ⟨(i + 1, b14, c26), ⟨_, h29, named ⟨(congrArg (fun t => Value.slice b14 (digs t).length c26) (dbl_pow x2 i)), rfl, rfl, trivial⟩, g38, (l9.trans gr20.le), (by omega), (N.recast (dbl_pow x2 i) hr20)⟩, (by dsimp only; omega)⟩
 replace c25 : ¬ (i < t) := (of_decide_eq_false c25)
 refine Wp.exit (sr (mv (ma (oN (Wp.ret (fin1_ret rfl (resOf_tmp (v := .slice bS0 ((digs (x2 * 2 ^ i)).length) cS0) rfl) ?_))))))
 refine ⟨h28, g37, ?_⟩
 exact N.cast (by rw [← hg, ← hg5, show i = t by omega, Nat.mul_comm]) hS0
end Go.Ear
