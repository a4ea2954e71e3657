/- About package frac: K2. -/
import Derived.Test.YtmidncjhlnfojaaDoorNatLaw2
import Derived.Test.YtmidncjhlnfojaaDoorEarShort
import Derived.Test.YtmidncjhlnfojaaDoorProg
import Derived.Test.YtmidncjhlnfojaaDoorNatLaw3
import Derived.Test.YtmidncjhlnfojaaDoorK1
set_option linter.all false
namespace Go.Ear
open Go.Proofs
set_option maxRecDepth 20000
set_option linter.unusedVariables false
set_option maxHeartbeats 2000000
theorem sub0_c {h : PH} {w : World} {v0 : Value} {a : Nat} {v1 : Value} {b : Nat} (hs : Sat h w) (pv0 : N h v0 a) (pv1 : N h v1 b) (hp0 : a = 0) (hp1 : b = 0) :
    Calls Tryd.prog 122 #[v0, v1] w (Ret h w fun h' r => N h' r (a - b)) := by
 obtain ⟨b1, c1, rfl, k1⟩ := N.shape pv0
 obtain ⟨b2, c2, rfl, k2⟩ := N.shape pv1
 have hd0 : (digs a).length = 0 := by rw [hp0, digs_zero]; rfl
 refine calls_ear (vs := [.slice b1 ((digs a).length) c1, .slice b2 ((digs b).length) c2]) Tryd.func122 rfl rfl ?_
 have g1 := Gr.refl hs
 refine sr (ma (oN (sr (mv (oC (cF Tryd.call114 (cloneN_c (l := digs a) g1.sat pv0 (by omega)) rfl ?_))))))
 intro r1 h1 w1 gr1 hr1
 obtain ⟨b3, c3, rfl, k3⟩ := U.shape hr1
 refine ma (oN (sr (ma (oN (wS (sr (mv (oC (OpW.lenS Tryd.underlying64 (l := (digs a).length) rfl (mv (oN (Wp.block ?_))))))))))))
 have g2 := g1.trans gr1
 refine Wp.loop (σ := Nat) (fun (k : Nat) (ρ : Env) (w' : World) => ∃ ρb h', ρ = upds ρb [(1, .slice b2 ((digs b).length) c2), (5, .slice b3 ((digs a).length) c3), (6, .int .u64 ((0 : Nat) : Int)), (13, .int .i64 (((digs a).length : Nat) : Int)), (14, .int .i64 ((k : Nat) : Int))] ∧ Gr h w h' w' ∧ PH.le h1 h' ∧ (k = 0)) (fun (k : Nat) => 1) 0 ?_ ?_
 exact ⟨_, h1, nm rfl, g2, PH.le.refl _, (by omega)⟩
 rintro k ρ1 w2 ⟨ρ2, h2, rfl, g3, l1, hk⟩
 refine sr (oC (OpW.lss (a := ((k : Nat) : Int)) (b := (((digs a).length : Nat) : Int)) (r := decide (k < (digs a).length)) rfl rfl (lt_nat (a := k) (b := (digs a).length)) (oN (wS (Wp.cond (t := decide (k < (digs a).length)) rfl (fun c4 => ?_) (fun c4 => ?_))))))
 replace c4 : k < (digs a).length := (of_decide_eq_true c4)
 omega
 replace c4 : ¬ (k < (digs a).length) := (of_decide_eq_false c4)
 refine Wp.exit (sr (mv (oC (cF Tryd.call103 (trimmed_c (l := (digs a)) g3.sat (U.mono hr1 l1) (by omega)) rfl ?_))))
 intro r2 h3 w3 gr2 hr2
 obtain ⟨b4, c5, rfl, k4⟩ := N.shape hr2
 refine ma (oN (Wp.ret (fin1_ret rfl (resOf_tmp (v := .slice b4 ((digs (val (digs a))).length) c5) rfl) ?_)))
 have g4 := g3.trans gr2
 refine ⟨h3, g4, ?_⟩
 exact N.cast (by rw [val_digs, hp0, hp1]) hr2
theorem sub_c {h : PH} {w : World} {v0 : Value} {a : Nat} {v1 : Value} {b : Nat} (hs : Sat h w) (pv0 : N h v0 a) (pv1 : N h v1 b) (hp0 : sz a ≤ 1073741824) (hp1 : sz b ≤ 1073741824) (hp2 : b ≤ a) :
    Calls Tryd.prog 122 #[v0, v1] w (Ret h w fun h' r => N h' r (a - b)) := by
  by_cases ha : a = 0
  · exact sub0_c hs pv0 pv1 ha (by omega)
  · exact sub1_c hs pv0 pv1 hp0 hp1 hp2 ha
theorem power_c {h : PH} {w : World} {v0 : Value} {a : Nat} {n : Nat} (hs : Sat h w) (pv0 : N h v0 a) (hp0 : n ≤ 1000000000000) (hp1 : n * sz a + 1 ≤ 1073741824) :
    Calls Tryd.prog 73 #[v0, .int .i64 ((n : Nat) : Int)] w (Ret h w fun h' r => N h' r (a ^ n)) := by
 obtain ⟨b1, c1, rfl, k1⟩ := N.shape pv0
 refine calls_ear (vs := [.slice b1 ((digs a).length) c1, .int .i64 ((n : Nat) : Int)]) Tryd.func73 rfl rfl ?_
 have g1 := Gr.refl hs
 refine sr (ma (oN (sr (oC (cF Tryd.call86 (small_c (n := 1) g1.sat  (by omega)) rfl ?_)))))
 intro r1 h1 w1 gr1 hr1
 obtain ⟨b2, c2, rfl, k2⟩ := N.shape hr1
 refine ma (oN (wS (Wp.block ?_)))
 have g2 := g1.trans gr1
 refine Wp.loop (σ := Nat × Option Addr × Nat × Option Addr × Nat) (fun s (ρ : Env) (w' : World) => match s with | (j, bS0, cS0, bS5, cS5) => ∃ ρb h', ρ = upds ρb [(0, .slice bS0 ((digs (a ^ 2 ^ j)).length) cS0), (1, .int .i64 ((n / 2 ^ j : Nat) : Int)), (5, .slice bS5 ((digs (a ^ (n % 2 ^ j))).length) cS5)] ∧ Gr h w h' w' ∧ PH.le h1 h' ∧ (N h' (.slice bS0 ((digs (a ^ 2 ^ j)).length) cS0) (a ^ 2 ^ j)) ∧ (N h' (.slice bS5 ((digs (a ^ (n % 2 ^ j))).length) cS5) (a ^ (n % 2 ^ j)))) (fun s => match s with | (j, bS0, cS0, bS5, cS5) => n / 2 ^ j) (0, b1, c1, b2, c2) ?_ ?_
 exact ⟨_, h1, named ⟨(congrArg (fun t => Value.slice b1 (digs t).length c1) (show a = _ from (by simp))), (natv (by simp)), (congrArg (fun t => Value.slice b2 (digs t).length c2) (show 1 = _ from (by simp [Nat.mod_one]))), trivial⟩, g2, PH.le.refl _, (N.recast (m := a) (by simp) (N.mono pv0 gr1.le)), (N.recast (m := 1) (by simp [Nat.mod_one]) hr1)⟩
 rintro ⟨j, bS0, cS0, bS5, cS5⟩ ρ1 w2 ⟨ρ2, h2, rfl, g3, l1, hS0, hS5⟩
 have hle : n / 2 ^ j ≤ n := Nat.div_le_self ..
 have hbits := pow_bits n j
 have hsh : n / 2 ^ j / 2 ^ 1 = n / 2 ^ (j + 1) := by rw [Nat.div_div_eq_div_mul, ← Nat.pow_add]
 have hpt := sz_part (j := j) hp1
 refine wS (sr (mv (oC (OpW.gtr (a := ((n / 2 ^ j : Nat) : Int)) (b := ((0 : Nat) : Int)) (r := decide (0 < n / 2 ^ j)) rfl rfl (lt_nat (a := 0) (b := n / 2 ^ j)) (oN (Wp.cond (t := decide (0 < n / 2 ^ j)) rfl (fun c3 => ?_) (fun c3 => ?_)))))))
 replace c3 : 0 < n / 2 ^ j := (of_decide_eq_true c3)
 have hsq := sz_sq (a := a) (n := n) (j := j) (by omega) hp1
 refine Wp.skip (wS (Wp.block (wS (sr (mv (oC (OpW.bits (a := ((n / 2 ^ j : Nat) : Int)) (b := ((1 : Nat) : Int)) (r := (((n / 2 ^ j) &&& 1 : Nat) : Int)) (.inl rfl) rfl rfl (and_i64 (a := n / 2 ^ j) (b := 1) (by omega) (by omega)) ?_)))))))
 refine oC (OpW.eqlI (a := (((n / 2 ^ j) &&& 1 : Nat) : Int)) (b := ((1 : Nat) : Int)) (r := decide ((n / 2 ^ j) &&& 1 = 1)) rfl rfl (eq_nat (a := (n / 2 ^ j) &&& 1) (b := 1)) (oN (Wp.cond (t := decide ((n / 2 ^ j) &&& 1 = 1)) rfl (fun c4 => ?_) (fun c4 => ?_))))
 replace c4 : (n / 2 ^ j) &&& 1 = 1 := (of_decide_eq_true c4)
 refine wR (mv (mv (oC (cF Tryd.call89 (mul_c (a := a ^ (n % 2 ^ j)) (b := a ^ 2 ^ j) g3.sat hS5 hS0 (by omega) (by omega)) rfl ?_))))
 intro r2 h3 w3 gr2 hr2
 obtain ⟨b3, c5, rfl, k3⟩ := N.shape hr2
 refine ma (oN (fg [(0, .slice bS0 ((digs (a ^ 2 ^ j)).length) cS0), (1, .int .i64 ((n / 2 ^ j : Nat) : Int)), (5, .slice b3 ((digs ((a ^ (n % 2 ^ j)) * (a ^ 2 ^ j))).length) c5)] rfl (fun ρ3 => (wR (mv (mv ?_))))))
 have g4 := g3.trans gr2
 refine oC (cF Tryd.call89 (mul_c (a := a ^ 2 ^ j) (b := a ^ 2 ^ j) g4.sat (N.mono hS0 gr2.le) (N.mono hS0 gr2.le) (by omega) (by omega)) rfl ?_)
 intro r3 h4 w4 gr3 hr3
 obtain ⟨b4, c6, rfl, k4⟩ := N.shape hr3
 refine ma (oN (wR (mv (oC (OpW.shift (a := ((n / 2 ^ j : Nat) : Int)) (b := ((1 : Nat) : Int)) (r := (((n / 2 ^ j) / 2 ^ 1 : Nat) : Int)) (.inr rfl) rfl rfl (shr_nat (by decide)) (ma (oN ?_)))))))
 have g5 := g4.trans gr3
 exact ⟨(j + 1, b4, c6, b3, c5), ⟨_, h4, named ⟨(congrArg (fun t => Value.slice b4 (digs t).length c6) (pow_sq a j)), (natv hsh), (congrArg (fun t => Value.slice b3 (digs t).length c5) (pow_step1 (by rw [← and_one']; assumption))), trivial⟩, g5, ((l1.trans gr2.le).trans gr3.le), (N.recast (pow_sq a j) hr3), (N.recast (pow_step1 (by rw [← and_one']; assumption)) (N.mono hr2 gr3.le))⟩, (by dsimp only; omega)⟩
 replace c4 : ¬ ((n / 2 ^ j) &&& 1 = 1) := (of_decide_eq_false c4)
 refine Wp.skip (wR (mv (mv (oC (cF Tryd.call89 (mul_c (a := a ^ 2 ^ j) (b := a ^ 2 ^ j) g3.sat hS0 hS0 (by omega) (by omega)) rfl ?_)))))
 intro r4 h5 w5 gr4 hr4
 obtain ⟨b5, c7, rfl, k5⟩ := N.shape hr4
 refine ma (oN (fg [(0, .slice b5 ((digs ((a ^ 2 ^ j) * (a ^ 2 ^ j))).length) c7), (1, .int .i64 ((n / 2 ^ j : Nat) : Int)), (5, .slice bS5 ((digs (a ^ (n % 2 ^ j))).length) cS5)] rfl (fun ρ4 => (wR (mv (oC (OpW.shift (a := ((n / 2 ^ j : Nat) : Int)) (b := ((1 : Nat) : Int)) (r := (((n / 2 ^ j) / 2 ^ 1 : Nat) : Int)) (.inr rfl) rfl rfl (shr_nat (by decide)) (ma (oN ?_)))))))))
 have g6 := g3.trans gr4
 exact ⟨(j + 1, b5, c7, bS5, cS5), ⟨_, h5, named ⟨(congrArg (fun t => Value.slice b5 (digs t).length c7) (pow_sq a j)), (natv hsh), (congrArg (fun t => Value.slice bS5 (digs t).length cS5) (pow_step0 (by rw [← and_one']; assumption))), trivial⟩, g6, (l1.trans gr4.le), (N.recast (pow_sq a j) hr4), (N.recast (pow_step0 (by rw [← and_one']; assumption)) (N.mono hS5 gr4.le))⟩, (by dsimp only; omega)⟩
 replace c3 : ¬ (0 < n / 2 ^ j) := (of_decide_eq_false c3)
 refine Wp.exit (sr (mv (ma (oN (Wp.ret (fin1_ret rfl (resOf_tmp (v := .slice bS5 ((digs (a ^ (n % 2 ^ j))).length) cS5) rfl) ?_))))))
 refine ⟨h2, g3, ?_⟩
 exact N.cast (pow_done (by omega)) hS5
end Go.Ear
