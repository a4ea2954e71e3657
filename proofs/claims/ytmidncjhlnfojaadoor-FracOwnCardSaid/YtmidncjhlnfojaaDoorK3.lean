/- About package frac: K3. -/
import Derived.Test.YtmidncjhlnfojaaDoorNatLaw2
import Derived.Test.YtmidncjhlnfojaaDoorEarShort
import Derived.Test.YtmidncjhlnfojaaDoorProg
import Derived.Test.YtmidncjhlnfojaaDoorNatLaw3
import Derived.Test.YtmidncjhlnfojaaDoorK1
import Derived.Test.YtmidncjhlnfojaaDoorK2
set_option linter.all false
namespace Go.Ear
open Go.Proofs
set_option maxRecDepth 20000
set_option linter.unusedVariables false
set_option maxHeartbeats 2000000
theorem div_c {h : PH} {w : World} {v0 : Value} {a : Nat} {v1 : Value} {b : Nat} (hs : Sat h w) (pv0 : N h v0 a) (pv1 : N h v1 b) (hp0 : sz a ≤ 536870912) (hp1 : sz b ≤ 536870912) (hp2 : b ≠ 0) :
    Calls Tryd.prog 92 #[v0, v1] w (Ret h w fun h' r => ∃ x1 x2, r = .tuple #[x1, x2] ∧ N h' x1 (a / b) ∧ N h' x2 (a % b)) := by
 obtain ⟨b1, c1, rfl, k1⟩ := N.shape pv0
 obtain ⟨b2, c2, rfl, k2⟩ := N.shape pv1
 have hsa := hp0
 have hsb := hp1
 have hpos := sz_pos hp2
 unfold sz at hsa hsb hpos
 refine calls_ear (vs := [.slice b1 ((digs a).length) c1, .slice b2 ((digs b).length) c2]) Tryd.func92 rfl rfl ?_
 have g1 := Gr.refl hs
 refine sr (ma (ma (oN (Wp.scope (wS (sr (mv (mv (oC (cF Tryd.call85 (compare_c (a := a) (b := b) g1.sat pv0 pv1 (by omega) (by omega)) rfl ?_))))))))))
 intro r1 h1 w1 gr1 hr1
 subst hr1
 refine oC (OpW.lss (a := (cmpN a b)) (b := ((0 : Nat) : Int)) (r := decide ((cmpN a b) < ((0 : Nat) : Int))) rfl rfl rfl (oN (Wp.cond (t := decide ((cmpN a b) < ((0 : Nat) : Int))) rfl (fun c3 => ?_) (fun c3 => ?_))))
 replace c3 : (cmpN a b) < ((0 : Nat) : Int) := (of_decide_eq_true c3)
 refine sr (mv ?_)
 have g2 := g1.trans gr1
 refine oC (cF Tryd.call114 (cloneN_c (l := digs a) g2.sat (U.mono pv0 gr1.le) (by omega)) rfl ?_)
 intro r2 h2 w2 gr2 hr2
 obtain ⟨b3, c4, rfl, k3⟩ := U.shape hr2
 refine ma (ma (oN (Wp.ret (fin2_ret rfl (resOf_tmp (v := .slice none 0 0) rfl) (resOf_tmp (v := .slice b3 ((digs a).length) c4) rfl) ?_))))
 have g3 := g2.trans gr2
 refine ⟨h2, g3, ?_⟩
 exact ⟨_, _, rfl, U.ofDigs (U.nil _ none 0) (by rw [Nat.div_eq_of_lt (cmpN_neg.1 (by omega))]; exact digs_zero), N.cast (Nat.mod_eq_of_lt (cmpN_neg.1 (by omega))).symm hr2⟩
 replace c3 : ¬ ((cmpN a b) < ((0 : Nat) : Int)) := (of_decide_eq_false c3)
 have hba : b ≤ a := by have := cmpN_neg (a := a) (b := b); omega
 refine Wp.skip (wS (sr (mv (oC (OpW.lenS Tryd.underlying64 (l := (digs b).length) rfl ?_)))))
 refine oC (OpW.eqlI (a := (((digs b).length : Nat) : Int)) (b := ((1 : Nat) : Int)) (r := decide ((digs b).length = 1)) rfl rfl (eq_nat (a := (digs b).length) (b := 1)) (oN (Wp.cond (t := decide ((digs b).length = 1)) rfl (fun c5 => ?_) (fun c5 => ?_))))
 replace c5 : (digs b).length = 1 := (of_decide_eq_true c5)
 have hd0 := digs_one (b := b) (by omega)
 refine sr (mv (mv (oC (OpW.indexU (i := ((0 : Nat) : Int)) (j := 0) Tryd.underlying64 Tryd.sizeOf51 rfl (U.mono pv1 gr1.le) rfl (by omega) (by omega) ?_))))
 intro b4 o1 a1 e1 z1 qb1 qv1
 have bd1 := Fit.getD (U.mono pv1 gr1.le).1 0
 have g4 := g1.trans gr1
 refine oC (lO (v := .int .u32 (((digs b).getD 0 0 : Nat) : Int)) Tryd.isAgg51 rfl (g4.sat _ _ qb1) qv1 ?_)
 refine oC (cF Tryd.call117 (over_c (a := a) (d := (digs b).getD 0 0) g4.sat (N.mono pv0 gr1.le) (by omega) (by omega) (by omega)) rfl ?_)
 intro r3 h3 w3 gr3 hr3
 obtain ⟨r4, r5, rfl, hr4, hr5⟩ := hr3
 obtain ⟨b5, c6, rfl, k4⟩ := N.shape hr4
 subst hr5
 refine mv (oC (OpW.extract (v := .slice b5 ((digs (a / ((digs b).getD 0 0))).length) c6) rfl rfl ?_))
 refine oC (OpW.extract (v := .int .u32 ((a % ((digs b).getD 0 0) : Nat) : Int)) rfl rfl (ma (ma (oN (wS (fg [(6, .slice b5 ((digs (a / ((digs b).getD 0 0))).length) c6), (7, .int .u32 ((a % ((digs b).getD 0 0) : Nat) : Int))] rfl (fun ρ1 => (wR ?_))))))))
 have hml := Nat.mod_lt a (show 0 < (digs b).getD 0 0 by omega)
 refine mv (mv (oC (OpW.convI (a := ((a % ((digs b).getD 0 0) : Nat) : Int)) (r := ((a % ((digs b).getD 0 0) : Nat) : Int)) Tryd.underlying51 Tryd.underlying77 rfl (conv_u64 (by omega)) ?_)))
 have g5 := g4.trans gr3
 refine oC (cF Tryd.call86 (small_c (n := a % ((digs b).getD 0 0)) g5.sat  (by omega)) rfl ?_)
 intro r6 h4 w4 gr4 hr6
 obtain ⟨b6, c7, rfl, k5⟩ := N.shape hr6
 refine ma (ma (oN (Wp.ret (fin2_ret rfl (resOf_tmp (v := .slice b5 ((digs (a / ((digs b).getD 0 0))).length) c6) rfl) (resOf_tmp (v := .slice b6 ((digs (a % ((digs b).getD 0 0))).length) c7) rfl) ?_))))
 have g6 := g5.trans gr4
 refine ⟨h4, g6, ?_⟩
 exact ⟨_, _, rfl, (N.cast (by rw [hd0]) (N.mono hr4 gr4.le)), (N.cast (by rw [hd0]) hr6)⟩
 replace c5 : ¬ ((digs b).length = 1) := (of_decide_eq_false c5)
 have hv0 : (b * 2 ^ (32 - bitlen ((digs b).getD ((digs b).length - 1) 0))) ≠ 0 := Nat.mul_ne_zero hp2 (Nat.pos_iff_ne_zero.1 (Nat.pow_pos (by decide)))
 have hsv : sz (b * 2 ^ (32 - bitlen ((digs b).getD ((digs b).length - 1) 0))) ≤ sz b + 2 := sz_shift (by omega)
 have hsu : sz (a * 2 ^ (32 - bitlen ((digs b).getD ((digs b).length - 1) 0))) ≤ sz a + 2 := sz_shift (by omega)
 have hsv' : (digs (b * 2 ^ (32 - bitlen ((digs b).getD ((digs b).length - 1) 0)))).length ≤ sz b + 2 := hsv
 have hsu' : (digs (a * 2 ^ (32 - bitlen ((digs b).getD ((digs b).length - 1) 0)))).length ≤ sz a + 2 := hsu
 have hvu : (digs (b * 2 ^ (32 - bitlen ((digs b).getD ((digs b).length - 1) 0)))).length ≤ (digs (a * 2 ^ (32 - bitlen ((digs b).getD ((digs b).length - 1) 0)))).length := sz_mono (Nat.mul_le_mul_right _ hba)
 have hini := div_lt0 hv0 hvu
 have hsve : sz (b * 2 ^ (32 - bitlen ((digs b).getD ((digs b).length - 1) 0))) = (digs (b * 2 ^ (32 - bitlen ((digs b).getD ((digs b).length - 1) 0)))).length := rfl
 have hvp : 0 < (digs (b * 2 ^ (32 - bitlen ((digs b).getD ((digs b).length - 1) 0)))).length := sz_pos hv0
 have hvt : (digs (b * 2 ^ (32 - bitlen ((digs b).getD ((digs b).length - 1) 0)))).getD ((digs (b * 2 ^ (32 - bitlen ((digs b).getD ((digs b).length - 1) 0)))).length - 1) 0 ≠ 0 := digs_top hv0
 refine Wp.skip (sr (mv (mv (oC (OpW.lenS Tryd.underlying64 (l := (digs b).length) rfl ?_)))))
 refine oC (OpW.sub (a := (((digs b).length : Nat) : Int)) (b := ((1 : Nat) : Int)) (r := ((((digs b).length) - 1 : Nat) : Int)) rfl rfl (sub_i64 (a := (digs b).length) (b := 1) (by omega) (by omega)) ?_)
 refine oC (OpW.indexU (i := ((((digs b).length) - 1 : Nat) : Int)) (j := ((digs b).length) - 1) Tryd.underlying64 Tryd.sizeOf51 rfl (U.mono pv1 gr1.le) rfl (by omega) (by omega) ?_)
 intro b7 o2 a2 e2 z2 qb2 qv2
 have bd2 := Fit.getD (U.mono pv1 gr1.le).1 (((digs b).length) - 1)
 have g7 := g1.trans gr1
 refine oC (lO (v := .int .u32 (((digs b).getD (((digs b).length) - 1) 0 : Nat) : Int)) Tryd.isAgg51 rfl (g7.sat _ _ qb2) qv2 ?_)
 refine oC (cF Tryd.call119 (lz32_c (n := (digs b).getD (((digs b).length) - 1) 0) g7.sat  (by omega)) rfl ?_)
 intro r7 h5 w5 gr5 hr7
 subst hr7
 refine ma (oN (wS (fg [(0, .slice b1 ((digs a).length) c1), (1, .slice b2 ((digs b).length) c2), (8, .int .i64 ((32 - bitlen ((digs b).getD (((digs b).length) - 1) 0) : Nat) : Int))] rfl (fun ρ2 => (wR (mv (mv ?_)))))))
 have g8 := g7.trans gr5
 refine oC (cF Tryd.call120 (shift_c (a := a) (by_ := 32 - bitlen ((digs b).getD (((digs b).length) - 1) 0)) g8.sat (N.mono pv0 (gr1.le.trans gr5.le)) (by omega) (by omega)) rfl ?_)
 intro r8 h6 w6 gr6 hr8
 obtain ⟨b8, c8, rfl, k6⟩ := N.shape hr8
 refine mv (mv ?_)
 have g9 := g8.trans gr6
 refine oC (cF Tryd.call120 (shift_c (a := b) (by_ := 32 - bitlen ((digs b).getD (((digs b).length) - 1) 0)) g9.sat (N.mono pv1 ((gr1.le.trans gr5.le).trans gr6.le)) (by omega) (by omega)) rfl ?_)
 intro r9 h7 w7 gr7 hr9
 obtain ⟨b9, c9, rfl, k7⟩ := N.shape hr9
 refine ma (ma (oN (wS (fg [(8, .int .i64 ((32 - bitlen ((digs b).getD (((digs b).length) - 1) 0) : Nat) : Int)), (9, .slice b8 ((digs (a * 2 ^ (32 - bitlen ((digs b).getD (((digs b).length) - 1) 0)))).length) c8), (10, .slice b9 ((digs (b * 2 ^ (32 - bitlen ((digs b).getD (((digs b).length) - 1) 0)))).length) c9)] rfl (fun ρ3 => (wR (mv (oC (OpW.lenS Tryd.underlying64 (l := (digs (b * 2 ^ (32 - bitlen ((digs b).getD (((digs b).length) - 1) 0)))).length) rfl (ma (oN (sr (mv (oC (OpW.lenS Tryd.underlying64 (l := (digs (a * 2 ^ (32 - bitlen ((digs b).getD (((digs b).length) - 1) 0)))).length) rfl (mv (oC (OpW.sub (a := (((digs (a * 2 ^ (32 - bitlen ((digs b).getD (((digs b).length) - 1) 0)))).length : Nat) : Int)) (b := (((digs (b * 2 ^ (32 - bitlen ((digs b).getD (((digs b).length) - 1) 0)))).length : Nat) : Int)) (r := ((((digs (a * 2 ^ (32 - bitlen ((digs b).getD (((digs b).length) - 1) 0)))).length) - ((digs (b * 2 ^ (32 - bitlen ((digs b).getD (((digs b).length) - 1) 0)))).length) : Nat) : Int)) rfl rfl (sub_i64 (a := (digs (a * 2 ^ (32 - bitlen ((digs b).getD (((digs b).length) - 1) 0)))).length) (b := (digs (b * 2 ^ (32 - bitlen ((digs b).getD (((digs b).length) - 1) 0)))).length) (by omega) (by omega)) ?_))))))))))))))))))
 refine oC (OpW.add (a := ((((digs (a * 2 ^ (32 - bitlen ((digs b).getD (((digs b).length) - 1) 0)))).length) - ((digs (b * 2 ^ (32 - bitlen ((digs b).getD (((digs b).length) - 1) 0)))).length) : Nat) : Int)) (b := ((1 : Nat) : Int)) (r := ((((digs (a * 2 ^ (32 - bitlen ((digs b).getD (((digs b).length) - 1) 0)))).length) - ((digs (b * 2 ^ (32 - bitlen ((digs b).getD (((digs b).length) - 1) 0)))).length) + 1 : Nat) : Int)) rfl rfl (add_i64 (a := ((digs (a * 2 ^ (32 - bitlen ((digs b).getD (((digs b).length) - 1) 0)))).length) - ((digs (b * 2 ^ (32 - bitlen ((digs b).getD (((digs b).length) - 1) 0)))).length)) (b := 1) (by omega)) ?_)
 have g10 := g9.trans gr7
 refine oC (OpW.makeO (l := ((digs (a * 2 ^ (32 - bitlen ((digs b).getD (((digs b).length) - 1) 0)))).length) - ((digs (b * 2 ^ (32 - bitlen ((digs b).getD (((digs b).length) - 1) 0)))).length) + 1) (c := ((digs (a * 2 ^ (32 - bitlen ((digs b).getD (((digs b).length) - 1) 0)))).length) - ((digs (b * 2 ^ (32 - bitlen ((digs b).getD (((digs b).length) - 1) 0)))).length) + 1) (i := Tryd.t51) (arr := (ua .u32 (List.replicate (((digs (a * 2 ^ (32 - bitlen ((digs b).getD (((digs b).length) - 1) 0)))).length) - ((digs (b * 2 ^ (32 - bitlen ((digs b).getD (((digs b).length) - 1) 0)))).length) + 1) 0))) g10.sat Tryd.underlying22 Tryd.type51 rfl rfl rfl (Nat.le_refl _) (by simp only [Tryd.t51]; omega) (by omega) (made_ua _ _) ?_)
 intro b10 w8 gr8 n1 lo1 o3
 have lo2 := Nat.le_trans g10.ext.size lo1
 refine ma (oN (wS (fg [(8, .int .i64 ((32 - bitlen ((digs b).getD (((digs b).length) - 1) 0) : Nat) : Int)), (9, .slice b8 ((digs (a * 2 ^ (32 - bitlen ((digs b).getD (((digs b).length) - 1) 0)))).length) c8), (10, .slice b9 ((digs (b * 2 ^ (32 - bitlen ((digs b).getD (((digs b).length) - 1) 0)))).length) c9), (11, .int .i64 (((digs (b * 2 ^ (32 - bitlen ((digs b).getD (((digs b).length) - 1) 0)))).length : Nat) : Int)), (12, .slice (some ⟨b10, 0, none⟩) (((digs (a * 2 ^ (32 - bitlen ((digs b).getD (((digs b).length) - 1) 0)))).length) - ((digs (b * 2 ^ (32 - bitlen ((digs b).getD (((digs b).length) - 1) 0)))).length) + 1) (((digs (a * 2 ^ (32 - bitlen ((digs b).getD (((digs b).length) - 1) 0)))).length) - ((digs (b * 2 ^ (32 - bitlen ((digs b).getD (((digs b).length) - 1) 0)))).length) + 1))] rfl (fun ρ4 => (wR (mv ?_))))))
 have g11 := g10.trans gr8
 refine oC (cF Tryd.call114 (cloneN_c (l := digs (a * 2 ^ (32 - bitlen ((digs b).getD (((digs b).length) - 1) 0)))) g11.sat (U.mono hr8 gr7.le) (by omega)) rfl ?_)
 intro r10 h8 w9 gr9 hr10
 obtain ⟨b11, c10, rfl, k8⟩ := U.shape hr10
 refine ma (oN (wS (Wp.label (wS (sr (mv (oC (OpW.lenS Tryd.underlying22 (l := ((digs (a * 2 ^ (32 - bitlen ((digs b).getD (((digs b).length) - 1) 0)))).length) - ((digs (b * 2 ^ (32 - bitlen ((digs b).getD (((digs b).length) - 1) 0)))).length) + 1) rfl ?_))))))))
 refine oC (OpW.sub (a := ((((digs (a * 2 ^ (32 - bitlen ((digs b).getD (((digs b).length) - 1) 0)))).length) - ((digs (b * 2 ^ (32 - bitlen ((digs b).getD (((digs b).length) - 1) 0)))).length) + 1 : Nat) : Int)) (b := ((1 : Nat) : Int)) (r := (((((digs (a * 2 ^ (32 - bitlen ((digs b).getD (((digs b).length) - 1) 0)))).length) - ((digs (b * 2 ^ (32 - bitlen ((digs b).getD (((digs b).length) - 1) 0)))).length) + 1 : Nat) : Int) - ((1 : Nat) : Int))) rfl rfl (in_i64 (by omega)) (ma (oN (Wp.block ?_))))
 have g12 := g11.trans gr9
 have o4 := gr9.kp ⟨o3, n1⟩
 refine Wp.loop (σ := Nat × Nat × List Nat × Option Addr × Nat) (fun s (ρ : Env) (w' : World) => match s with | (k, r, q, bS13, cS13) => ∃ ρb h', ρ = upds ρb [(8, .int .i64 ((32 - bitlen ((digs b).getD (((digs b).length) - 1) 0) : Nat) : Int)), (10, .slice b9 ((digs (b * 2 ^ (32 - bitlen ((digs b).getD (((digs b).length) - 1) 0)))).length) c9), (11, .int .i64 (((digs (b * 2 ^ (32 - bitlen ((digs b).getD (((digs b).length) - 1) 0)))).length : Nat) : Int)), (12, .slice (some ⟨b10, 0, none⟩) (((digs (a * 2 ^ (32 - bitlen ((digs b).getD (((digs b).length) - 1) 0)))).length) - ((digs (b * 2 ^ (32 - bitlen ((digs b).getD (((digs b).length) - 1) 0)))).length) + 1) (((digs (a * 2 ^ (32 - bitlen ((digs b).getD (((digs b).length) - 1) 0)))).length) - ((digs (b * 2 ^ (32 - bitlen ((digs b).getD (((digs b).length) - 1) 0)))).length) + 1)), (13, .slice bS13 ((digs r).length) cS13), (14, .int .i64 (((k : Nat) : Int) - 1))] ∧ Gr h w h' w' ∧ PH.le h8 h' ∧ w'.heap[b10]? = some (.cells (ua .u32 q) 51 (0, 0)) ∧ h' b10 = none ∧ (k ≤ (digs (a * 2 ^ (32 - bitlen ((digs b).getD ((digs b).length - 1) 0)))).length - (digs (b * 2 ^ (32 - bitlen ((digs b).getD ((digs b).length - 1) 0)))).length + 1) ∧ (q.length = (digs (a * 2 ^ (32 - bitlen ((digs b).getD ((digs b).length - 1) 0)))).length - (digs (b * 2 ^ (32 - bitlen ((digs b).getD ((digs b).length - 1) 0)))).length + 1) ∧ (Fit q) ∧ (∀ t, t < k → q.getD t 0 = 0) ∧ (r < (b * 2 ^ (32 - bitlen ((digs b).getD ((digs b).length - 1) 0))) * B32 ^ k) ∧ ((a * 2 ^ (32 - bitlen ((digs b).getD ((digs b).length - 1) 0))) = val q * (b * 2 ^ (32 - bitlen ((digs b).getD ((digs b).length - 1) 0))) + r) ∧ (N h' (.slice bS13 ((digs r).length) cS13) r)) (fun s => match s with | (k, r, q, bS13, cS13) => k) ((digs (a * 2 ^ (32 - bitlen ((digs b).getD ((digs b).length - 1) 0)))).length - (digs (b * 2 ^ (32 - bitlen ((digs b).getD ((digs b).length - 1) 0)))).length + 1, (a * 2 ^ (32 - bitlen ((digs b).getD ((digs b).length - 1) 0))), List.replicate ((digs (a * 2 ^ (32 - bitlen ((digs b).getD ((digs b).length - 1) 0)))).length - (digs (b * 2 ^ (32 - bitlen ((digs b).getD ((digs b).length - 1) 0)))).length + 1) 0, b11, c10) ?_ ?_
 exact ⟨_, h8, nm (by exact rfl), g12, PH.le.refl _, o4.1, o4.2, (by omega), List.length_replicate, Fit.replicate _, (fun t _ => getD_replicate _ t), hini, (by rw [val_replicate]; simp), hr10⟩
 rintro ⟨k, r, q, bS13, cS13⟩ ρ5 w10 ⟨ρ6, h9, rfl, g13, l1, o5, n2, hk, hl, hf, hz, hr, hu, hS13⟩
 have hru : r ≤ (a * 2 ^ (32 - bitlen ((digs b).getD ((digs b).length - 1) 0))) := by rw [hu]; exact Nat.le_add_left ..
 have hsr := sz_mono hru
 have bdT := Fit.getD (digs_fit r) (k - 1 + (digs (b * 2 ^ (32 - bitlen ((digs b).getD ((digs b).length - 1) 0)))).length)
 have bdW := Fit.getD (digs_fit r) (k - 1 + (digs (b * 2 ^ (32 - bitlen ((digs b).getD ((digs b).length - 1) 0)))).length - 1)
 have htl := top_lt bdT bdW
 have h32 : (2:Nat)^32 = 4294967296 := rfl
 refine wS (sr (mv (oC (OpW.geq (a := (((k : Nat) : Int) - 1)) (b := ((0 : Nat) : Int)) (r := decide (((0 : Nat) : Int) ≤ (((k : Nat) : Int) - 1))) rfl rfl rfl (oN (Wp.cond (t := decide (((0 : Nat) : Int) ≤ (((k : Nat) : Int) - 1))) rfl (fun c11 => ?_) (fun c11 => ?_)))))))
 replace c11 : ((0 : Nat) : Int) ≤ (((k : Nat) : Int) - 1) := (of_decide_eq_true c11)
 refine Wp.skip (wS (Wp.block (sr (mv (oC (OpW.move (v := .int .i64 ((k - 1 : Nat) : Int)) (intv (by omega)) (mv (oC (OpW.add (a := ((k - 1 : Nat) : Int)) (b := (((digs (b * 2 ^ (32 - bitlen ((digs b).getD (((digs b).length) - 1) 0)))).length : Nat) : Int)) (r := ((k - 1 + ((digs (b * 2 ^ (32 - bitlen ((digs b).getD (((digs b).length) - 1) 0)))).length) : Nat) : Int)) rfl rfl (add_i64 (a := k - 1) (b := (digs (b * 2 ^ (32 - bitlen ((digs b).getD (((digs b).length) - 1) 0)))).length) (by omega)) ?_)))))))))
 refine oC (cF Tryd.call107 (digit_c (a := r) (i := k - 1 + ((digs (b * 2 ^ (32 - bitlen ((digs b).getD (((digs b).length) - 1) 0)))).length)) g13.sat hS13 (by omega) (by omega)) rfl ?_)
 intro r11 h10 w11 gr10 hr11
 subst hr11
 refine oC (OpW.shift (a := (((digs r).getD (k - 1 + ((digs (b * 2 ^ (32 - bitlen ((digs b).getD (((digs b).length) - 1) 0)))).length)) 0 : Nat) : Int)) (b := ((32 : Nat) : Int)) (r := ((((digs r).getD (k - 1 + ((digs (b * 2 ^ (32 - bitlen ((digs b).getD (((digs b).length) - 1) 0)))).length)) 0) * 2 ^ 32 : Nat) : Int)) (.inl rfl) rfl rfl (shl_nat (by decide) (conv_u64 (by omega))) (mv (oC (OpW.move (v := .int .i64 ((k - 1 : Nat) : Int)) (intv (by omega)) (mv (oC (OpW.add (a := ((k - 1 : Nat) : Int)) (b := (((digs (b * 2 ^ (32 - bitlen ((digs b).getD (((digs b).length) - 1) 0)))).length : Nat) : Int)) (r := ((k - 1 + ((digs (b * 2 ^ (32 - bitlen ((digs b).getD (((digs b).length) - 1) 0)))).length) : Nat) : Int)) rfl rfl (add_i64 (a := k - 1) (b := (digs (b * 2 ^ (32 - bitlen ((digs b).getD (((digs b).length) - 1) 0)))).length) (by omega)) ?_)))))))
 refine oC (OpW.sub (a := ((k - 1 + ((digs (b * 2 ^ (32 - bitlen ((digs b).getD (((digs b).length) - 1) 0)))).length) : Nat) : Int)) (b := ((1 : Nat) : Int)) (r := (((k - 1 + ((digs (b * 2 ^ (32 - bitlen ((digs b).getD (((digs b).length) - 1) 0)))).length)) - 1 : Nat) : Int)) rfl rfl (sub_i64 (a := k - 1 + ((digs (b * 2 ^ (32 - bitlen ((digs b).getD (((digs b).length) - 1) 0)))).length)) (b := 1) (by omega) (by omega)) ?_)
 have g14 := g13.trans gr10
 refine oC (cF Tryd.call107 (digit_c (a := r) (i := (k - 1 + ((digs (b * 2 ^ (32 - bitlen ((digs b).getD (((digs b).length) - 1) 0)))).length)) - 1) g14.sat (N.mono hS13 gr10.le) (by omega) (by omega)) rfl ?_)
 intro r12 h11 w12 gr11 hr12
 subst hr12
 refine oC (OpW.bits (a := ((((digs r).getD (k - 1 + ((digs (b * 2 ^ (32 - bitlen ((digs b).getD (((digs b).length) - 1) 0)))).length)) 0) * 2 ^ 32 : Nat) : Int)) (b := (((digs r).getD ((k - 1 + ((digs (b * 2 ^ (32 - bitlen ((digs b).getD (((digs b).length) - 1) 0)))).length)) - 1) 0 : Nat) : Int)) (r := (((((digs r).getD (k - 1 + ((digs (b * 2 ^ (32 - bitlen ((digs b).getD (((digs b).length) - 1) 0)))).length)) 0) * 2 ^ 32) ||| ((digs r).getD ((k - 1 + ((digs (b * 2 ^ (32 - bitlen ((digs b).getD (((digs b).length) - 1) 0)))).length)) - 1) 0) : Nat) : Int)) (.inr (.inl rfl)) rfl rfl (or_u64 (a := ((digs r).getD (k - 1 + ((digs (b * 2 ^ (32 - bitlen ((digs b).getD (((digs b).length) - 1) 0)))).length)) 0) * 2 ^ 32) (b := (digs r).getD ((k - 1 + ((digs (b * 2 ^ (32 - bitlen ((digs b).getD (((digs b).length) - 1) 0)))).length)) - 1) 0) (by omega) (by omega)) (ma (oN (wS (fg [(8, .int .i64 ((32 - bitlen ((digs b).getD (((digs b).length) - 1) 0) : Nat) : Int)), (10, .slice b9 ((digs (b * 2 ^ (32 - bitlen ((digs b).getD (((digs b).length) - 1) 0)))).length) c9), (11, .int .i64 (((digs (b * 2 ^ (32 - bitlen ((digs b).getD (((digs b).length) - 1) 0)))).length : Nat) : Int)), (12, .slice (some ⟨b10, 0, none⟩) (((digs (a * 2 ^ (32 - bitlen ((digs b).getD (((digs b).length) - 1) 0)))).length) - ((digs (b * 2 ^ (32 - bitlen ((digs b).getD (((digs b).length) - 1) 0)))).length) + 1) (((digs (a * 2 ^ (32 - bitlen ((digs b).getD (((digs b).length) - 1) 0)))).length) - ((digs (b * 2 ^ (32 - bitlen ((digs b).getD (((digs b).length) - 1) 0)))).length) + 1)), (13, .slice bS13 ((digs r).length) cS13), (14, .int .i64 (((k : Nat) : Int) - 1)), (15, .int .u64 (((((digs r).getD (k - 1 + ((digs (b * 2 ^ (32 - bitlen ((digs b).getD (((digs b).length) - 1) 0)))).length)) 0) * 2 ^ 32) ||| ((digs r).getD ((k - 1 + ((digs (b * 2 ^ (32 - bitlen ((digs b).getD (((digs b).length) - 1) 0)))).length)) - 1) 0) : Nat) : Int))] rfl (fun ρ7 => (wR (mv (mv (mv (oC (OpW.sub (a := (((digs (b * 2 ^ (32 - bitlen ((digs b).getD (((digs b).length) - 1) 0)))).length : Nat) : Int)) (b := ((1 : Nat) : Int)) (r := ((((digs (b * 2 ^ (32 - bitlen ((digs b).getD (((digs b).length) - 1) 0)))).length) - 1 : Nat) : Int)) rfl rfl (sub_i64 (a := (digs (b * 2 ^ (32 - bitlen ((digs b).getD (((digs b).length) - 1) 0)))).length) (b := 1) (by omega) (by omega)) ?_))))))))))))
 refine oC (OpW.indexU (i := ((((digs (b * 2 ^ (32 - bitlen ((digs b).getD (((digs b).length) - 1) 0)))).length) - 1 : Nat) : Int)) (j := ((digs (b * 2 ^ (32 - bitlen ((digs b).getD (((digs b).length) - 1) 0)))).length) - 1) Tryd.underlying64 Tryd.sizeOf51 rfl (U.mono hr9 (((gr9.le.trans l1).trans gr10.le).trans gr11.le)) rfl (by omega) (by omega) ?_)
 intro b12 o6 a3 e3 z3 qb3 qv3
 have bd3 := Fit.getD (U.mono hr9 (((gr9.le.trans l1).trans gr10.le).trans gr11.le)).1 (((digs (b * 2 ^ (32 - bitlen ((digs b).getD (((digs b).length) - 1) 0)))).length) - 1)
 have g15 := g14.trans gr11
 refine oC (lO (v := .int .u32 (((digs (b * 2 ^ (32 - bitlen ((digs b).getD (((digs b).length) - 1) 0)))).getD (((digs (b * 2 ^ (32 - bitlen ((digs b).getD (((digs b).length) - 1) 0)))).length) - 1) 0 : Nat) : Int)) Tryd.isAgg51 rfl (g15.sat _ _ qb3) qv3 ?_)
 refine oC (OpW.convI (a := (((digs (b * 2 ^ (32 - bitlen ((digs b).getD (((digs b).length) - 1) 0)))).getD (((digs (b * 2 ^ (32 - bitlen ((digs b).getD (((digs b).length) - 1) 0)))).length) - 1) 0 : Nat) : Int)) (r := (((digs (b * 2 ^ (32 - bitlen ((digs b).getD (((digs b).length) - 1) 0)))).getD (((digs (b * 2 ^ (32 - bitlen ((digs b).getD (((digs b).length) - 1) 0)))).length) - 1) 0 : Nat) : Int)) Tryd.underlying51 Tryd.underlying77 rfl (conv_u64 (by omega)) ?_)
 refine oC (OpW.quo (a := (((((digs r).getD (k - 1 + ((digs (b * 2 ^ (32 - bitlen ((digs b).getD (((digs b).length) - 1) 0)))).length)) 0) * 2 ^ 32) ||| ((digs r).getD ((k - 1 + ((digs (b * 2 ^ (32 - bitlen ((digs b).getD (((digs b).length) - 1) 0)))).length)) - 1) 0) : Nat) : Int)) (b := (((digs (b * 2 ^ (32 - bitlen ((digs b).getD (((digs b).length) - 1) 0)))).getD (((digs (b * 2 ^ (32 - bitlen ((digs b).getD (((digs b).length) - 1) 0)))).length) - 1) 0 : Nat) : Int)) (r := ((((((digs r).getD (k - 1 + ((digs (b * 2 ^ (32 - bitlen ((digs b).getD (((digs b).length) - 1) 0)))).length)) 0) * 2 ^ 32) ||| ((digs r).getD ((k - 1 + ((digs (b * 2 ^ (32 - bitlen ((digs b).getD (((digs b).length) - 1) 0)))).length)) - 1) 0)) / ((digs (b * 2 ^ (32 - bitlen ((digs b).getD (((digs b).length) - 1) 0)))).getD (((digs (b * 2 ^ (32 - bitlen ((digs b).getD (((digs b).length) - 1) 0)))).length) - 1) 0) : Nat) : Int)) rfl rfl (by omega) (quo_u64 (a := (((digs r).getD (k - 1 + ((digs (b * 2 ^ (32 - bitlen ((digs b).getD (((digs b).length) - 1) 0)))).length)) 0) * 2 ^ 32) ||| ((digs r).getD ((k - 1 + ((digs (b * 2 ^ (32 - bitlen ((digs b).getD (((digs b).length) - 1) 0)))).length)) - 1) 0)) (b := (digs (b * 2 ^ (32 - bitlen ((digs b).getD (((digs b).length) - 1) 0)))).getD (((digs (b * 2 ^ (32 - bitlen ((digs b).getD (((digs b).length) - 1) 0)))).length) - 1) 0) (by omega)) ?_)
 refine oC (OpW.minI (a := ((((((digs r).getD (k - 1 + ((digs (b * 2 ^ (32 - bitlen ((digs b).getD (((digs b).length) - 1) 0)))).length)) 0) * 2 ^ 32) ||| ((digs r).getD ((k - 1 + ((digs (b * 2 ^ (32 - bitlen ((digs b).getD (((digs b).length) - 1) 0)))).length)) - 1) 0)) / ((digs (b * 2 ^ (32 - bitlen ((digs b).getD (((digs b).length) - 1) 0)))).getD (((digs (b * 2 ^ (32 - bitlen ((digs b).getD (((digs b).length) - 1) 0)))).length) - 1) 0) : Nat) : Int)) (b := ((4294967295 : Nat) : Int)) (r := ((min (((((digs r).getD (k - 1 + ((digs (b * 2 ^ (32 - bitlen ((digs b).getD (((digs b).length) - 1) 0)))).length)) 0) * 2 ^ 32) ||| ((digs r).getD ((k - 1 + ((digs (b * 2 ^ (32 - bitlen ((digs b).getD (((digs b).length) - 1) 0)))).length)) - 1) 0)) / ((digs (b * 2 ^ (32 - bitlen ((digs b).getD (((digs b).length) - 1) 0)))).getD (((digs (b * 2 ^ (32 - bitlen ((digs b).getD (((digs b).length) - 1) 0)))).length) - 1) 0)) 4294967295 : Nat) : Int)) rfl rfl (fun w => min_nat w) (ma (oN (Wp.block ?_))))
 have o7 := gr11.kp (gr10.kp ⟨o5, n2⟩)
 refine Wp.loop (σ := Nat) (fun (g : Nat) (ρ : Env) (w' : World) => ∃ ρb h', ρ = upds ρb [(8, .int .i64 ((32 - bitlen ((digs b).getD (((digs b).length) - 1) 0) : Nat) : Int)), (10, .slice b9 ((digs (b * 2 ^ (32 - bitlen ((digs b).getD (((digs b).length) - 1) 0)))).length) c9), (11, .int .i64 (((digs (b * 2 ^ (32 - bitlen ((digs b).getD (((digs b).length) - 1) 0)))).length : Nat) : Int)), (12, .slice (some ⟨b10, 0, none⟩) (((digs (a * 2 ^ (32 - bitlen ((digs b).getD (((digs b).length) - 1) 0)))).length) - ((digs (b * 2 ^ (32 - bitlen ((digs b).getD (((digs b).length) - 1) 0)))).length) + 1) (((digs (a * 2 ^ (32 - bitlen ((digs b).getD (((digs b).length) - 1) 0)))).length) - ((digs (b * 2 ^ (32 - bitlen ((digs b).getD (((digs b).length) - 1) 0)))).length) + 1)), (13, .slice bS13 ((digs r).length) cS13), (14, .int .i64 (((k : Nat) : Int) - 1)), (16, .int .u64 ((g : Nat) : Int))] ∧ Gr h w h' w' ∧ PH.le h11 h' ∧ w'.heap[b10]? = some (.cells (ua .u32 q) 51 (0, 0)) ∧ h' b10 = none ∧ (g ≤ 4294967295) ∧ (r < (g + 1) * ((b * 2 ^ (32 - bitlen ((digs b).getD ((digs b).length - 1) 0))) * B32 ^ (k - 1)))) (fun (g : Nat) => g) (min (((digs r).getD (k - 1 + (digs (b * 2 ^ (32 - bitlen ((digs b).getD ((digs b).length - 1) 0)))).length) 0 * 2 ^ 32 ||| (digs r).getD (k - 1 + (digs (b * 2 ^ (32 - bitlen ((digs b).getD ((digs b).length - 1) 0)))).length - 1) 0) / (digs (b * 2 ^ (32 - bitlen ((digs b).getD ((digs b).length - 1) 0)))).getD ((digs (b * 2 ^ (32 - bitlen ((digs b).getD ((digs b).length - 1) 0)))).length - 1) 0) 4294967295) ?_ ?_
 exact ⟨_, h11, nm rfl, g15, PH.le.refl _, o7.1, o7.2, (Nat.min_le_right ..), (div_guess hv0 (by rw [show k - 1 + 1 = k by omega]; exact hr))⟩
 rintro g ρ8 w13 ⟨ρ9, h12, rfl, g16, l2, o8, n3, hg1, hg2⟩
 have hsg := sz_small (n := g) (by omega)
 have hsp := sz_mul (b * 2 ^ (32 - bitlen ((digs b).getD ((digs b).length - 1) 0))) g
 have hsq := sz_shifted (a := (b * 2 ^ (32 - bitlen ((digs b).getD ((digs b).length - 1) 0))) * g) (k := k - 1)
 refine wS (sr (mv (oC (OpW.gtr (a := ((g : Nat) : Int)) (b := ((0 : Nat) : Int)) (r := decide (0 < g)) rfl rfl (lt_nat (a := 0) (b := g)) (oN (Wp.cond (t := decide (0 < g)) rfl (fun c12 => ?_) (fun c12 => ?_)))))))
 replace c12 : 0 < g := (of_decide_eq_true c12)
 refine Wp.skip (wS (Wp.block (sr (mv (mv (oC (cF Tryd.call86 (small_c (n := g) g16.sat  (by omega)) rfl ?_)))))))
 intro r13 h13 w14 gr12 hr13
 obtain ⟨b13, c13, rfl, k9⟩ := N.shape hr13
 have g17 := g16.trans gr12
 refine oC (cF Tryd.call89 (mul_c (a := b * 2 ^ (32 - bitlen ((digs b).getD (((digs b).length) - 1) 0))) (b := g) g17.sat (N.mono hr9 (((((gr9.le.trans l1).trans gr10.le).trans gr11.le).trans l2).trans gr12.le)) hr13 (by omega) (by omega)) rfl ?_)
 intro r14 h14 w15 gr13 hr14
 obtain ⟨b14, c14, rfl, k10⟩ := N.shape hr14
 refine oC (OpW.move (v := .int .i64 ((k - 1 : Nat) : Int)) (intv (by omega)) ?_)
 have g18 := g17.trans gr13
 refine oC (cF Tryd.call121 (shifted_c (a := (b * 2 ^ (32 - bitlen ((digs b).getD (((digs b).length) - 1) 0))) * g) (digits := k - 1) g18.sat hr14 (by omega) (by omega)) rfl ?_)
 intro r15 h15 w16 gr14 hr15
 obtain ⟨b15, c15, rfl, k11⟩ := N.shape hr15
 refine ma (oN (wS (wS (fg [(8, .int .i64 ((32 - bitlen ((digs b).getD (((digs b).length) - 1) 0) : Nat) : Int)), (10, .slice b9 ((digs (b * 2 ^ (32 - bitlen ((digs b).getD (((digs b).length) - 1) 0)))).length) c9), (11, .int .i64 (((digs (b * 2 ^ (32 - bitlen ((digs b).getD (((digs b).length) - 1) 0)))).length : Nat) : Int)), (12, .slice (some ⟨b10, 0, none⟩) (((digs (a * 2 ^ (32 - bitlen ((digs b).getD (((digs b).length) - 1) 0)))).length) - ((digs (b * 2 ^ (32 - bitlen ((digs b).getD (((digs b).length) - 1) 0)))).length) + 1) (((digs (a * 2 ^ (32 - bitlen ((digs b).getD (((digs b).length) - 1) 0)))).length) - ((digs (b * 2 ^ (32 - bitlen ((digs b).getD (((digs b).length) - 1) 0)))).length) + 1)), (13, .slice bS13 ((digs r).length) cS13), (14, .int .i64 (((k : Nat) : Int) - 1)), (16, .int .u64 ((g : Nat) : Int)), (17, .slice b15 ((digs (((b * 2 ^ (32 - bitlen ((digs b).getD (((digs b).length) - 1) 0))) * g) * B32 ^ (k - 1))).length) c15)] rfl (fun ρ10 => (wR (mv (mv ?_))))))))
 have g19 := g18.trans gr14
 refine oC (cF Tryd.call85 (compare_c (a := ((b * 2 ^ (32 - bitlen ((digs b).getD (((digs b).length) - 1) 0))) * g) * B32 ^ (k - 1)) (b := r) g19.sat hr15 (N.mono hS13 (((((gr10.le.trans gr11.le).trans l2).trans gr12.le).trans gr13.le).trans gr14.le)) (by omega) (by omega)) rfl ?_)
 intro r16 h16 w17 gr15 hr16
 subst hr16
 refine oC (OpW.gtr (a := (cmpN (((b * 2 ^ (32 - bitlen ((digs b).getD (((digs b).length) - 1) 0))) * g) * B32 ^ (k - 1)) r)) (b := ((0 : Nat) : Int)) (r := decide (((0 : Nat) : Int) < (cmpN (((b * 2 ^ (32 - bitlen ((digs b).getD (((digs b).length) - 1) 0))) * g) * B32 ^ (k - 1)) r))) rfl rfl rfl (oN (Wp.cond (t := decide (((0 : Nat) : Int) < (cmpN (((b * 2 ^ (32 - bitlen ((digs b).getD (((digs b).length) - 1) 0))) * g) * B32 ^ (k - 1)) r))) rfl (fun c16 => ?_) (fun c16 => ?_))))
 replace c16 : ((0 : Nat) : Int) < (cmpN (((b * 2 ^ (32 - bitlen ((digs b).getD (((digs b).length) - 1) 0))) * g) * B32 ^ (k - 1)) r) := (of_decide_eq_true c16)
 refine Wp.exit (fg [(8, .int .i64 ((32 - bitlen ((digs b).getD (((digs b).length) - 1) 0) : Nat) : Int)), (10, .slice b9 ((digs (b * 2 ^ (32 - bitlen ((digs b).getD (((digs b).length) - 1) 0)))).length) c9), (11, .int .i64 (((digs (b * 2 ^ (32 - bitlen ((digs b).getD (((digs b).length) - 1) 0)))).length : Nat) : Int)), (12, .slice (some ⟨b10, 0, none⟩) (((digs (a * 2 ^ (32 - bitlen ((digs b).getD (((digs b).length) - 1) 0)))).length) - ((digs (b * 2 ^ (32 - bitlen ((digs b).getD (((digs b).length) - 1) 0)))).length) + 1) (((digs (a * 2 ^ (32 - bitlen ((digs b).getD (((digs b).length) - 1) 0)))).length) - ((digs (b * 2 ^ (32 - bitlen ((digs b).getD (((digs b).length) - 1) 0)))).length) + 1)), (13, .slice bS13 ((digs r).length) cS13), (14, .int .i64 (((k : Nat) : Int) - 1)), (16, .int .u64 ((g : Nat) : Int))] rfl (fun ρ11 => (wR (mv (oC (OpW.sub (a := ((g : Nat) : Int)) (b := ((1 : Nat) : Int)) (r := ((g - 1 : Nat) : Int)) rfl rfl (sub_u64 (a := g) (b := 1) (by omega) (by omega)) (ma (oN ?_))))))))
 have g20 := g19.trans gr15
 have o9 := gr15.kp (gr14.kp (gr13.kp (gr12.kp ⟨o8, n3⟩)))
 exact ⟨(g - 1), ⟨_, h16, nm rfl, g20, ((((l2.trans gr12.le).trans gr13.le).trans gr14.le).trans gr15.le), o9.1, o9.2, (by omega), (div_dec (by omega) (cmpN_pos.1 (by omega)))⟩, (by omega)⟩
 replace c16 : ¬ (((0 : Nat) : Int) < (cmpN (((b * 2 ^ (32 - bitlen ((digs b).getD (((digs b).length) - 1) 0))) * g) * B32 ^ (k - 1)) r)) := (of_decide_eq_false c16)
 have hle : (b * 2 ^ (32 - bitlen ((digs b).getD ((digs b).length - 1) 0))) * g * B32 ^ (k - 1) ≤ r := by have := cmpN_pos (a := (b * 2 ^ (32 - bitlen ((digs b).getD ((digs b).length - 1) 0))) * g * B32 ^ (k - 1)) (b := r); omega
 refine Wp.skip (wS (fg [(8, .int .i64 ((32 - bitlen ((digs b).getD (((digs b).length) - 1) 0) : Nat) : Int)), (10, .slice b9 ((digs (b * 2 ^ (32 - bitlen ((digs b).getD (((digs b).length) - 1) 0)))).length) c9), (11, .int .i64 (((digs (b * 2 ^ (32 - bitlen ((digs b).getD (((digs b).length) - 1) 0)))).length : Nat) : Int)), (12, .slice (some ⟨b10, 0, none⟩) (((digs (a * 2 ^ (32 - bitlen ((digs b).getD (((digs b).length) - 1) 0)))).length) - ((digs (b * 2 ^ (32 - bitlen ((digs b).getD (((digs b).length) - 1) 0)))).length) + 1) (((digs (a * 2 ^ (32 - bitlen ((digs b).getD (((digs b).length) - 1) 0)))).length) - ((digs (b * 2 ^ (32 - bitlen ((digs b).getD (((digs b).length) - 1) 0)))).length) + 1)), (13, .slice bS13 ((digs r).length) cS13), (14, .int .i64 (((k : Nat) : Int) - 1)), (16, .int .u64 ((g : Nat) : Int)), (17, .slice b15 ((digs (((b * 2 ^ (32 - bitlen ((digs b).getD (((digs b).length) - 1) 0))) * g) * B32 ^ (k - 1))).length) c15)] rfl (fun ρ12 => (wR (mv (mv ?_))))))
 have g21 := g19.trans gr15
 refine oC (cF Tryd.call122 (sub_c (a := r) (b := ((b * 2 ^ (32 - bitlen ((digs b).getD (((digs b).length) - 1) 0))) * g) * B32 ^ (k - 1)) g21.sat (N.mono hS13 ((((((gr10.le.trans gr11.le).trans l2).trans gr12.le).trans gr13.le).trans gr14.le).trans gr15.le)) (N.mono hr15 gr15.le) (by omega) (by omega) (by omega)) rfl ?_)
 intro r17 h17 w18 gr16 hr17
 obtain ⟨b16, c17, rfl, k12⟩ := N.shape hr17
 refine ma (oN (wS (fg [(8, .int .i64 ((32 - bitlen ((digs b).getD (((digs b).length) - 1) 0) : Nat) : Int)), (10, .slice b9 ((digs (b * 2 ^ (32 - bitlen ((digs b).getD (((digs b).length) - 1) 0)))).length) c9), (11, .int .i64 (((digs (b * 2 ^ (32 - bitlen ((digs b).getD (((digs b).length) - 1) 0)))).length : Nat) : Int)), (12, .slice (some ⟨b10, 0, none⟩) (((digs (a * 2 ^ (32 - bitlen ((digs b).getD (((digs b).length) - 1) 0)))).length) - ((digs (b * 2 ^ (32 - bitlen ((digs b).getD (((digs b).length) - 1) 0)))).length) + 1) (((digs (a * 2 ^ (32 - bitlen ((digs b).getD (((digs b).length) - 1) 0)))).length) - ((digs (b * 2 ^ (32 - bitlen ((digs b).getD (((digs b).length) - 1) 0)))).length) + 1)), (13, .slice b16 ((digs (r - (((b * 2 ^ (32 - bitlen ((digs b).getD (((digs b).length) - 1) 0))) * g) * B32 ^ (k - 1)))).length) c17), (14, .int .i64 (((k : Nat) : Int) - 1)), (16, .int .u64 ((g : Nat) : Int))] rfl (fun ρ13 => (wR (mv (oC (OpW.move (v := .int .i64 ((k - 1 : Nat) : Int)) (intv (by omega)) (mv (oC (OpW.convI (a := ((g : Nat) : Int)) (r := ((g : Nat) : Int)) Tryd.underlying77 Tryd.underlying51 rfl (conv_u32' (by omega)) ?_)))))))))))
 refine oC (iA (i := ((k - 1 : Nat) : Int)) (o := k - 1) Tryd.underlying22 Tryd.sizeOf51 rfl rfl (by omega) (by omega) ?_)
 have o10 := gr16.kp (gr15.kp (gr14.kp (gr13.kp (gr12.kp ⟨o8, n3⟩))))
 refine oC (OpW.store1 (v := .int .u32 ((g : Nat) : Int)) Tryd.sizeOf51 rfl rfl rfl o10.1 (ua_lt (by omega)) ?_)
 intro w19 p1
 have o11 : w19.heap[b10]? = some (.cells (ua .u32 (q.set (k - 1) g)) 51 (0, 0)) := by rw [p1.at_, ua_set]
 refine oN (Wp.exit (fg [(8, .int .i64 ((32 - bitlen ((digs b).getD (((digs b).length) - 1) 0) : Nat) : Int)), (10, .slice b9 ((digs (b * 2 ^ (32 - bitlen ((digs b).getD (((digs b).length) - 1) 0)))).length) c9), (11, .int .i64 (((digs (b * 2 ^ (32 - bitlen ((digs b).getD (((digs b).length) - 1) 0)))).length : Nat) : Int)), (12, .slice (some ⟨b10, 0, none⟩) (((digs (a * 2 ^ (32 - bitlen ((digs b).getD (((digs b).length) - 1) 0)))).length) - ((digs (b * 2 ^ (32 - bitlen ((digs b).getD (((digs b).length) - 1) 0)))).length) + 1) (((digs (a * 2 ^ (32 - bitlen ((digs b).getD (((digs b).length) - 1) 0)))).length) - ((digs (b * 2 ^ (32 - bitlen ((digs b).getD (((digs b).length) - 1) 0)))).length) + 1)), (13, .slice b16 ((digs (r - (((b * 2 ^ (32 - bitlen ((digs b).getD (((digs b).length) - 1) 0))) * g) * B32 ^ (k - 1)))).length) c17), (14, .int .i64 (((k : Nat) : Int) - 1))] rfl (fun ρ14 => (wR (mv (oC (OpW.sub (a := (((k : Nat) : Int) - 1)) (b := ((1 : Nat) : Int)) (r := (((k : Nat) : Int) - 1 - 1)) rfl rfl ((in_i64 (by omega)).trans (by omega)) (ma (oN ?_)))))))))
 have g22 := (g21.trans gr16).put p1 o10.2 lo2
 exact ⟨(k - 1, r - (b * 2 ^ (32 - bitlen ((digs b).getD ((digs b).length - 1) 0))) * g * B32 ^ (k - 1), q.set (k - 1) g, b16, c17), ⟨_, h17, named ⟨(by exact rfl), (by exact rfl), (by exact rfl), (by exact rfl), (by exact rfl), (by exact (intv (by omega))), trivial⟩, g22, ((((((((l1.trans gr10.le).trans gr11.le).trans l2).trans gr12.le).trans gr13.le).trans gr14.le).trans gr15.le).trans gr16.le), o11, o10.2, (by omega), (by rw [List.length_set]; exact hl), (hf.set _ _ (by omega)), (fun t ht => by rw [getD_set_ne (by omega)]; exact hz t (by omega)), (div_next hg2 hle), (div_set (by omega) (hz _ (by omega)) hu hle), hr17⟩, (by dsimp only; omega)⟩
 replace c12 : ¬ (0 < g) := (of_decide_eq_false c12)
 have hg0 : g = 0 := by omega
 refine Wp.exit (wR (mv (oC (OpW.sub (a := (((k : Nat) : Int) - 1)) (b := ((1 : Nat) : Int)) (r := (((k : Nat) : Int) - 1 - 1)) rfl rfl ((in_i64 (by omega)).trans (by omega)) (ma (oN ?_))))))
 exact ⟨(k - 1, r, q, bS13, cS13), ⟨_, h12, named ⟨(by exact rfl), (by exact rfl), (by exact rfl), (by exact rfl), (by exact rfl), (by exact (intv (by omega))), trivial⟩, g16, (((l1.trans gr10.le).trans gr11.le).trans l2), o8, n3, (by omega), (by omega), (by omega), (fun t ht => hz t (by omega)), (by rw [hg0, Nat.zero_add, Nat.one_mul] at hg2; exact hg2), (by omega), (N.mono hS13 ((gr10.le.trans gr11.le).trans l2))⟩, (by dsimp only; omega)⟩
 replace c11 : ¬ (((0 : Nat) : Int) ≤ (((k : Nat) : Int) - 1)) := (of_decide_eq_false c11)
 have hk0 : k = 0 := by omega
 have hrv : r < (b * 2 ^ (32 - bitlen ((digs b).getD ((digs b).length - 1) 0))) := by rw [hk0, Nat.pow_zero, Nat.mul_one] at hr; exact hr
 have hq := div_q hp2 hu hrv
 refine Wp.exit (sr (mv ?_))
 obtain ⟨h18, g23, l3, qb4, fr1⟩ := freeze_ex g13 o5 n2 lo2
 have f1 := U.own (l := q) qb4 hf (cap := ((digs (a * 2 ^ (32 - bitlen ((digs b).getD (((digs b).length) - 1) 0)))).length) - ((digs (b * 2 ^ (32 - bitlen ((digs b).getD (((digs b).length) - 1) 0)))).length) + 1) hl (Nat.le_refl _)
 refine oC (cF Tryd.call103 (trimmed_c (l := q) g23.sat f1 (by omega)) rfl ?_)
 intro r18 h19 w20 gr17 hr18
 obtain ⟨b17, c18, rfl, k13⟩ := N.shape hr18
 refine mv (mv ?_)
 have g24 := g23.trans gr17
 refine oC (cF Tryd.call123 (down_c (a := r) (by_ := 32 - bitlen ((digs b).getD (((digs b).length) - 1) 0)) g24.sat (N.mono hS13 (l3.trans gr17.le)) (by omega) (by omega)) rfl ?_)
 intro r19 h20 w21 gr18 hr19
 obtain ⟨b18, c19, rfl, k14⟩ := N.shape hr19
 refine ma (ma (oN (Wp.ret (fin2_ret rfl (resOf_tmp (v := .slice b17 ((digs (val q)).length) c18) rfl) (resOf_tmp (v := .slice b18 ((digs (r / 2 ^ (32 - bitlen ((digs b).getD (((digs b).length) - 1) 0)))).length) c19) rfl) ?_))))
 have g25 := g24.trans gr18
 refine ⟨h20, g25, ?_⟩
 exact ⟨_, _, rfl, (N.cast hq.1 (N.mono hr18 gr18.le)), (N.cast hq.2 hr19)⟩
theorem gcd_c {h : PH} {w : World} {v0 : Value} {a : Nat} {v1 : Value} {b : Nat} (hs : Sat h w) (pv0 : N h v0 a) (pv1 : N h v1 b) (hp0 : sz a ≤ 536870912) (hp1 : sz b ≤ 536870912) :
    Calls Tryd.prog 104 #[v0, v1] w (Ret h w fun h' r => N h' r (Nat.gcd a b)) := by
 obtain ⟨b1, c1, rfl, k1⟩ := N.shape pv0
 obtain ⟨b2, c2, rfl, k2⟩ := N.shape pv1
 refine calls_ear (vs := [.slice b1 ((digs a).length) c1, .slice b2 ((digs b).length) c2]) Tryd.func104 rfl rfl ?_
 have g1 := Gr.refl hs
 refine sr (ma (oN (wS (Wp.block (Wp.loop (σ := Nat × Nat × Option Addr × Nat × Option Addr × Nat) (fun s (ρ : Env) (w' : World) => match s with | (x, y, bS0, cS0, bS1, cS1) => ∃ ρb h', ρ = upds ρb [(0, .slice bS0 ((digs x).length) cS0), (1, .slice bS1 ((digs y).length) cS1)] ∧ Gr h w h' w' ∧ PH.le h h' ∧ (sz x ≤ 536870912) ∧ (sz y ≤ 536870912) ∧ (Nat.gcd x y = Nat.gcd a b) ∧ (N h' (.slice bS0 ((digs x).length) cS0) x) ∧ (N h' (.slice bS1 ((digs y).length) cS1) y)) (fun s => match s with | (x, y, bS0, cS0, bS1, cS1) => y) (a, b, b1, c1, b2, c2) ?_ ?_)))))
 exact ⟨_, h, nm (by exact rfl), g1, PH.le.refl _, (by omega), (by omega), rfl, pv0, pv1⟩
 rintro ⟨x, y, bS0, cS0, bS1, cS1⟩ ρ1 w1 ⟨ρ2, h1, rfl, g2, l1, hx, hy, hg, hS0, hS1⟩
 have hyz := sz_eq_zero (n := y)
 unfold sz at hyz
 refine wS (sr (mv (oC (OpW.lenS Tryd.underlying64 (l := (digs y).length) rfl ?_))))
 refine oC (OpW.gtr (a := (((digs y).length : Nat) : Int)) (b := ((0 : Nat) : Int)) (r := decide (0 < (digs y).length)) rfl rfl (lt_nat (a := 0) (b := (digs y).length)) (oN (Wp.cond (t := decide (0 < (digs y).length)) rfl (fun c3 => ?_) (fun c3 => ?_))))
 replace c3 : 0 < (digs y).length := (of_decide_eq_true c3)
 have hy0 : y ≠ 0 := by omega
 have hml := Nat.mod_lt x (Nat.pos_of_ne_zero hy0)
 refine Wp.skip (Wp.block (sr (mv (mv (oC (cF Tryd.call92 (div_c (a := x) (b := y) g2.sat hS0 hS1 (by omega) (by omega) (by omega)) rfl ?_))))))
 intro r1 h2 w2 gr1 hr1
 obtain ⟨r2, r3, rfl, hr2, hr3⟩ := hr1
 obtain ⟨b3, c4, rfl, k3⟩ := N.shape hr2
 obtain ⟨b4, c5, rfl, k4⟩ := N.shape hr3
 refine mv (oC (OpW.extract (v := .slice b3 ((digs (x / y)).length) c4) rfl rfl ?_))
 refine oC (OpW.extract (v := .slice b4 ((digs (x % y)).length) c5) rfl rfl (ma (ma (oN (fg [(1, .slice bS1 ((digs y).length) cS1), (6, .slice b4 ((digs (x % y)).length) c5)] rfl (fun ρ3 => (wR (mv (mv (ma (ma (oN ?_))))))))))))
 have g3 := g2.trans gr1
 exact ⟨(y, x % y, bS1, cS1, b4, c5), ⟨_, h2, nm (by exact rfl), g3, (l1.trans gr1.le), (by omega), (Nat.le_trans (sz_mono (Nat.le_of_lt hml)) hy), (by rw [Nat.gcd_comm, ← Nat.gcd_rec, Nat.gcd_comm]; exact hg), (N.mono hS1 gr1.le), hr3⟩, hml⟩
 replace c3 : ¬ (0 < (digs y).length) := (of_decide_eq_false c3)
 refine Wp.exit (sr (mv (ma (oN (Wp.ret (fin1_ret rfl (resOf_tmp (v := .slice bS0 ((digs x).length) cS0) rfl) ?_))))))
 refine ⟨h1, g2, ?_⟩
 exact N.cast (by rw [← hg, hyz.1 (by omega), Nat.gcd_zero_right]) hS0
end Go.Ear
