/- LawModelTrains: a part of the proofs about package model: how the program's functions run, and what they compute, for every input. -/
import Derived.Test.YtpmndikbfalfoaaGreatT16
set_option linter.all false
set_option linter.unusedVariables false
set_option maxRecDepth 20000
set_option maxHeartbeats 16000000
set_option synthInstance.maxSize 1000
namespace Go.E3
open Go Go.Ear Go.Proofs
theorem heardN_allT {m : Md} {data : List (List Int)} {s f n : Nat} (h : heardN m data s f n = true) : data.length ≤ n ∧ smallB m s = true ∧ checkE [m] data = 0 ∧ ∀ o ∈ data, o.length ≤ f := by
  unfold heardN at h
  simp only [Bool.and_eq_true, decide_eq_true_eq, List.all_eq_true] at h
  exact ⟨h.1.1.1, h.1.1.2, h.1.2, h.2⟩
theorem modelTrains_c {m : Md} {rounds d : Int} {data : List (List Int)} (up : UpK m) (ur : -9223372036854775808 ≤ rounds ∧ rounds ≤ 9223372036854775807) (ud' : -9223372036854775808 ≤ d ∧ d ≤ 9223372036854775807) (ud : data.length ≤ 1048576 ∧ (∀ o ∈ data, o.length ≤ 1048576) ∧ ∀ o ∈ data, I64s o) : Ct Tryz.prog 14 [mv m, iv rounds, iv d, lv (rL rI) data] True (bv true) := by
  refine (ctI Tryz.call14 Tryz.func14 Tryz.ntmps14 rfl Tryz.results14 rfl [] fun h0 w0 _ => ?_)
  have ft := up.t
  have hb := up.b
  have hw := up.w
  have hdl := ud.1
  repeat first | refine nx ?_ | intro _
  refine gIf (fun c => ?_) fun c => ?_
  · repeat first | refine nx ?_ | intro _
    trivial
  have c2 : heardN m data 2 4 3 = true ∧ ¬ (2 < rounds ∧ rounds ≤ 20) := by
    simp only [not_or, Classical.not_not, Bool.not_eq_true] at c
    exact ⟨by simpa using c.1, c.2⟩
  clear c
  obtain ⟨hh, hr⟩ := c2
  obtain ⟨hd3, hsm, hE, hf4⟩ := heardN_allT hh
  have g := Good.of ft hsm hE
  have hv := g.v
  have rm : RwM 2600000 m := RwM.of hv g.l (g.mB (K := 2600000))
  have hlen := valid_len hv
  have h40 := g.s40
  have hmc : MdC m := ⟨g.mB (K := 60000000), by omega, by omega⟩
  have hz : MdC md0 := ⟨⟨Nat.zero_le _, (fun r hr => by cases hr), Nat.zero_le _, (fun r hr => by cases hr)⟩, Nat.zero_le _, Nat.zero_le _⟩
  by_cases hout : rounds < 0 ∨ 20 < rounds ∨ d < 0
  · have f1 : ((data.length ≤ 1048576 ∧ ∀ o ∈ data, o.length ≤ 1048576) ∧ MdB 10000000 m ∧ checkE [m] data = 0 ∧ RwM 2600000 m) ∧ (-9223372036854775808 ≤ d ∧ d ≤ 9223372036854775807) ∧ (0 ≤ rounds → rounds ≤ 20 → 0 ≤ d → ∀ k, k < rounds.toNat → Rnd (trS m d data k) d data) := ⟨⟨⟨ud.1, ud.2.1⟩, hw, hE, rm⟩, ud', fun a b c => absurd hout (by omega)⟩
    have e1 : trR m rounds d data = md0 := if_pos hout
    have e2 : trE rounds d = 2 := if_pos hout
    repeat first | refine nx ?_ | intro _
    rw [e1, e2]
    refine gIf (fun c3 => ?_) fun c3 => ?_
    · repeat first | refine nx ?_ | intro _
      rw [show sameM md0 ⟨[], [], [], []⟩ = true from sameM_refl md0]; rfl
    · exact absurd (by rcases hout with c | c | c <;> omega) c3
  · have hin : 0 ≤ rounds ∧ rounds ≤ 2 ∧ 0 ≤ d := by omega
    obtain ⟨n, rfl⟩ : ∃ n : Nat, rounds = (n : Int) := ⟨rounds.toNat, by omega⟩
    have hn2 : n ≤ 2 := by omega
    obtain ⟨t1, t2⟩ := trains_ok g hE hf4 hd3 hin.2.2 ud'.2
    have f1 : ((data.length ≤ 1048576 ∧ ∀ o ∈ data, o.length ≤ 1048576) ∧ MdB 10000000 m ∧ checkE [m] data = 0 ∧ RwM 2600000 m) ∧ (-9223372036854775808 ≤ d ∧ d ≤ 9223372036854775807) ∧ (0 ≤ (n : Int) → (n : Int) ≤ 20 → 0 ≤ d → ∀ k, k < (n : Int).toNat → Rnd (trS m d data k) d data) := ⟨⟨⟨ud.1, ud.2.1⟩, hw, hE, rm⟩, ud', fun _ _ _ k hk => (t1 k (by omega)).1⟩
    have f2 : (validM m = true ∧ MdC m ∧ n ≤ 20) ∧ (0 ≤ d ∧ d ≤ 9223372036854775807) ∧ ∀ k, k < n → RRnd (trS m d data k) d data := ⟨⟨hv, hmc, by omega⟩, ⟨hin.2.2, ud'.2⟩, fun k hk => (t1 k (by omega)).2⟩
    have e1 : trR m (n : Int) d data = trS m d data n := by unfold trR; rw [if_neg hout]; rfl
    have e2 : trE (n : Int) d = 0 := if_neg hout
    obtain ⟨a, b, c, W, R, hrec, hR⟩ := t2 n hn2
    have hM := hrec.R
    have hMl := hM.l
    have hMn := hM.n
    have hcM : MdC (trS m d data n) := ⟨(hM.weak (show R ≤ 60000000 by omega)).mdb, by omega, by omega⟩
    repeat first | refine nx ?_ | intro _
    rw [e1, e2]
    refine gIf (fun c3 => ?_) fun c3 => ?_
    · exact absurd hout (by rcases c3 with (c | c) | c <;> omega)
    · repeat first | refine nx ?_ | intro _
      rw [sameM_refl]; rfl
end Go.E3
