/- LawModelBuilds: a part of the proofs about package model: how the program's functions run, and what they compute, for every input. -/
import Derived.Test.YtpmndikbfalfoaaGreatJ3
import Derived.Test.YtpmndikbfalfoaaGreatP10
import Derived.Test.YtpmndikbfalfoaaGreatG3
set_option linter.all false
set_option linter.unusedVariables false
set_option maxRecDepth 20000
set_option maxHeartbeats 16000000
set_option synthInstance.maxSize 1000
namespace Go.E3
open Go Go.Ear Go.Proofs
theorem UpK.cB {m : Md} (u : UpK m) : MdC m := ⟨u.w.weak (by decide), by have := u.b.r; omega⟩
theorem upK0 : UpK md0 := ⟨⟨by decide, by decide⟩, ⟨by decide, (fun r hr => by cases hr), by decide, (fun r hr => by cases hr)⟩, inferInstance⟩
theorem vK_C {n k : Nat} {S : List Rat} {M : List (List Rat)} {E : List Rat} {Y : List (List Rat)} (v : VK n k S M E Y) {W : Nat} (hn : n ≤ 64) (hk : k ≤ 70) (w : MdW W (Go.Ear.mdK S M E Y)) (hW : W ≤ 1000) : MdC (Go.Ear.mdK S M E Y) := by
  have b := v.B (K := 80000) hn hk w (by omega)
  refine ⟨b.weak (by decide), ?_⟩
  have h2 := v.l.2.1; have h4 := v.l.2.2.2
  show (M.map (·.map frK)).length ≤ _ ∧ (Y.map (·.map frK)).length ≤ _
  rw [List.length_map, List.length_map]; omega
instance joinR_ft2 {ms : List Md} : FtM (joinR ms) := by
  unfold joinR; split
  · exact inferInstanceAs (FtM (Go.Ear.mdK _ _ _ _))
  · exact inferInstanceAs (FtM ⟨[], [], [], []⟩)
instance leftMd_ft {a b : Nat} : FtM (leftMd a b) := inferInstanceAs (FtM (Go.Ear.mdK _ _ _ _))
theorem sL_self (a : List Fr) : sameL a a = true := all2_refl sameF_self
theorem sR_self (a : List (List Fr)) : sameR a a = true := all2_refl sL_self
theorem sM_self (m : Md) : sameM m m = true := by unfold sameM; rw [sL_self, sR_self, sL_self, sR_self]; rfl
theorem modelBuilds_c {s k : Int} {ws : List Fr} {ms : List Md} (us : -9223372036854775808 ≤ s ∧ s ≤ 9223372036854775807) (uk : -9223372036854775808 ≤ k ∧ k ≤ 9223372036854775807) (uw : wts ws ≤ 1048576 ∧ FtS ws) (ul : ms.length ≤ 1048576 ∧ ∀ m ∈ ms, UpK m) : Ct Tryz.prog 12 [iv s, iv k, lv rF ws, lv rM ms] True (bv true) := by
  refine (ctI Tryz.call12 Tryz.func12 Tryz.ntmps12 rfl Tryz.results12 rfl [] fun h0 w0 _ => ?_)
  haveI := uw.2
  haveI : FtX ms := ⟨fun m hm => (ul.2 m hm).t⟩
  have hlw := len_wts ws
  have hww := uw.1
  have hll := ul.1
  have hup : ∀ x, UpK (ms.getD x md0) := mdAt_or ul.2 upK0
  repeat first | refine nx ?_ | intro _
  refine gJ [] (fun c => ?_) (fun c => ?_) ?_
  · have hE : leftE s k = 2 := if_pos (by omega)
    have hR : leftR s k = md0 := if_neg (by rw [hE]; decide)
    have g3 : MdC md0 := ⟨⟨by decide, (fun r hr => by cases hr), by decide, (fun r hr => by cases hr)⟩, by decide⟩
    have g3' : MdC ⟨[], [], [], []⟩ := g3
    rw [hE, hR]
    repeat first | refine nx ?_ | intro _
    refine gIf (fun c => absurd c (by decide +kernel)) fun c => ?_
    repeat first | refine nx ?_ | intro _
    exact gM
  · obtain ⟨n, rfl⟩ : ∃ n : Nat, s = n := ⟨s.toNat, by omega⟩
    obtain ⟨q, rfl⟩ : ∃ q : Nat, k = q := ⟨k.toNat, by omega⟩
    have hn : 1 ≤ n ∧ n ≤ 40 ∧ 1 ≤ q ∧ q ≤ 64 := by omega
    have hE : leftE (n : Int) (q : Int) = 0 := if_neg (by omega)
    have hR : leftR (n : Int) (q : Int) = leftMd n q := by unfold leftR; rw [if_pos hE]; rfl
    have vL := left_VK hn.1 hn.2.2.1
    have wL : MdW 100 (leftMd n q) := left_W (by omega)
    have cL : MdC (leftMd n q) := vK_C vL (by omega) (by omega) wL (by decide)
    have bL : MdB 10000000 (leftMd n q) := vL.B (by omega) (by omega) wL (by decide)
    have eL : checkE [leftMd n q] [] = 0 := (checkE_one0 (vL.long hn.2.1 hn.2.2.2)).2 vL.valid
    rw [hE, hR]
    clear c hE hR us uk
    repeat first | refine nx ?_ | intro _
    refine gIf (fun c => absurd c (by simp [eL, sM_self])) fun c => ?_
    repeat first | refine nx ?_ | intro _
    exact gM
  have hbw : Blk ⟨ws, [], [], []⟩ := ⟨by show ws.length + 0 + 0 + 0 ≤ _; omega, by show 0 + 0 ≤ 1048576; omega⟩
  repeat first | refine nx ?_ | intro _
  refine gIf (fun c => ?_) fun c => ?_
  · repeat first | refine nx ?_ | intro _
    trivial
  have c1 : ms.length ≤ 3 := by have : ¬ 3 < ms.length := fun e => c (.inl (.inl e)); omega
  have c2 : ws.length ≤ 6 := by have : ¬ 6 < ws.length := fun e => c (.inl (.inr e)); omega
  have c3 : plainM ⟨ws, [], [], []⟩ = true := Classical.not_not.1 fun e => c (.inr e)
  clear c hbw
  have hwb := (plain_bf c3).1
  dsimp only at hwb
  repeat first | refine nx ?_ | intro _
  refine gLp (fun i : Nat => [(12, iv i), (11, bv (fineB ms i))]) (fun _ => []) (fun i => i ≤ ms.length ∧ ∀ x, x < i → smallB (ms.getD x md0) 6 = true ∧ longM (ms.getD x md0) = false) (fun i => ms.length - i) 0 ⟨Nat.zero_le _, fun x hx => by omega⟩ (fun i ⟨hi, hx⟩ => ?_) (h1 := by rw [fineB_zero]; (repeat' (first | refine And.intro ?_ ?_ | trivial | rfl | omega)))
  repeat first | refine nx ?_ | intro _
  refine gIf (fun c => ?_) fun c => ?_
  · have hu := hup i
    have hub := hu.b
    have huw := hu.w
    have hur := hub.r
    repeat first | refine nx ?_ | intro _
    refine gIf (fun c4 => ?_) fun c4 => ?_
    · repeat first | refine nx ?_ | intro _
      trivial
    have c4 : smallB (ms.getD i md0) 6 = true := Classical.not_not.1 c4
    have f0 : MdB 10000000 (ms.getD i md0) ∧ (ms.getD i md0).say.length ≤ 1048576 ∧ (ms.getD i md0).move.length ≤ 1048576 := ⟨huw, by omega, by omega⟩
    have f9 : 0 < ms.length := by omega
    repeat first | refine nx ?_ | intro _
    refine gIf (fun c5 => ?_) fun c5 => ?_
    · repeat first | refine nx ?_ | intro _
      trivial
    repeat first | refine nx ?_ | intro _
    rw [fineB_succ]
    refine gBk (i + 1) ⟨by omega, fun x h => ?_⟩ (by omega)
    rcases Nat.lt_or_ge x i with e | e
    · exact hx x e
    · have : x = i := by omega
      subst this
      exact ⟨c4, Bool.eq_false_iff.2 c5⟩
  have ei : i = ms.length := by omega
  subst ei
  have hlong : ∀ x, x < ms.length → longM (ms.getD x md0) = false := fun x h => (hx x h).2
  have f1 : ms.length ≤ 1000 ∧ ∀ m ∈ ms, MdB 10000000 m := ⟨by omega, fun m hm => (ul.2 m hm).w⟩
  have f2 : ms.length ≤ 1000 ∧ (∀ m ∈ ms, MdB 10000000 m) ∧ wts ws ≤ 10000000 ∧ ws.length ≤ 1048576 := ⟨f1.1, f1.2, by omega, by omega⟩
  clear hi c
  have g3 : MdC md0 := ⟨⟨by decide, (fun r hr => by cases hr), by decide, (fun r hr => by cases hr)⟩, by decide⟩
  have g3' : MdC ⟨[], [], [], []⟩ := g3
  repeat first | refine nx ?_ | intro _
  by_cases hf : fineB ms ms.length = true
  · obtain ⟨so, hB⟩ := fine_side hlong hf
    have hS := begin_some hB
    have hok := checkE_MsOk (begin_chk hB) f1.1 f1.2
    have hL0 := so.l
    have hs6 : ∀ x, sz4 ms x ≤ 6 := fun x => by
      by_cases e : x < ms.length
      · have := (hx x e).1
        unfold smallB at this
        simp only [Bool.and_eq_true, decide_eq_true_eq] at this
        unfold sz4; omega
      · unfold sz4; rw [List.getD_eq_getElem?_getD, List.getElem?_eq_none (by omega)]; exact Nat.zero_le _
    have ho18 : offN ms ms.length ≤ 18 := by
      have key : ∀ L, offN ms L ≤ 6 * L := fun L => by
        induction L with
        | zero => exact Nat.le_refl _
        | succ L ih => have := hs6 L; show offN ms L + sz4 ms L ≤ _; omega
      have := key ms.length; omega
    have hk64 : symb (ms.getD 0 md0) ≤ 64 := by
      have h1 := hlong 0 hL0
      have h2 := valid_len (so.v 0 hL0)
      unfold longM at h1
      simp only [Bool.or_eq_false_iff, decide_eq_false_iff_not, Bool.and_eq_false_iff] at h1
      rcases h1.2 with h | h <;> omega
    have hW : ∀ x, MdW 2 (ms.getD x md0) := fun x => by
      by_cases e : x < ms.length
      · have := (hx x e).1
        unfold smallB at this
        simp only [Bool.and_eq_true, decide_eq_true_eq] at this
        exact plain_W (hup x).t this.2
      · rw [List.getD_eq_getElem?_getD, List.getElem?_eq_none (by omega)]
        exact MdW.of (by decide) (fun f hf => by cases hf) (fun r hr => by cases hr) (fun f hf => by cases hf) (fun r hr => by cases hr)
    have hJ : joinE ms = 0 := join_ok hB (by omega)
    have hJm : joinR ms = Go.Ear.mdK (joinS ms) (joinM (offN ms ms.length) ms) (joinF ms) (bsY ms ms.length) := by
      unfold joinR; rw [if_pos hJ]; unfold joinMd; rw [← hS.2]
    have vJ := join_VK so
    have wJ : MdW 4 (Go.Ear.mdK (joinS ms) (joinM (offN ms ms.length) ms) (joinF ms) (bsY ms ms.length)) := mdK_W (joinS_bq hW) (joinM_bq hW _) (joinF_bq hW) (bsY_bq hW)
    have cJ : MdC (Go.Ear.mdK (joinS ms) (joinM (offN ms ms.length) ms) (joinF ms) (bsY ms ms.length)) := vK_C vJ (by omega) (by omega) wJ (by decide)
    have bJ : MdB 10000000 (Go.Ear.mdK (joinS ms) (joinM (offN ms ms.length) ms) (joinF ms) (bsY ms ms.length)) := vJ.B (by omega) (by omega) wJ (by decide)
    have eJ : checkE [Go.Ear.mdK (joinS ms) (joinM (offN ms ms.length) ms) (joinF ms) (bsY ms ms.length)] [] = 0 := (checkE_one0 (vJ.long (by omega) hk64)).2 vJ.valid
    have f3 : MsOk ms ∧ (∀ m ∈ ms, MdB 10000000 m) ∧ 0 < ms.length := ⟨hok, f1.2, hL0⟩
    rw [hf, hJ, hJm]
    repeat first | refine nx ?_ | intro _
    refine gIf (fun c => absurd c (by simp [eJ, sM_self])) fun c => ?_
    clear c f3 eJ bJ cJ wJ vJ hJm hJ
    repeat first | refine nx ?_ | intro _
    by_cases hm : ws.length = ms.length ∧ distF ws = true
    · have hX : mixE ws ms = 0 := mix_ok hB hm.1 hm.2 (by omega)
      have hXm : mixR ws ms = Go.Ear.mdK (mixS ws ms ms.length) (bsM (offN ms ms.length) ms ms.length) (bsE ms ms.length) (bsY ms ms.length) := by
        unfold mixR; rw [if_pos hX]; unfold mixMd; rw [← hS.2]
      have vX := mix_VK so hm.1 hm.2
      have hw2 : ∀ x, bq (ws.getD x fr0).rat ≤ 2 := fun x => Nat.le_trans (FtS.bqg (l := ws) inferInstance x) (hwb x)
      have wX : MdW 4 (Go.Ear.mdK (mixS ws ms ms.length) (bsM (offN ms ms.length) ms ms.length) (bsE ms ms.length) (bsY ms ms.length)) := mdK_W (mixS_bq hW hw2) (bsM_bq hW _) (bsE_bq hW) (bsY_bq hW)
      have cX : MdC (Go.Ear.mdK (mixS ws ms ms.length) (bsM (offN ms ms.length) ms ms.length) (bsE ms ms.length) (bsY ms ms.length)) := vK_C vX (by omega) (by omega) wX (by decide)
      have bX : MdB 10000000 (Go.Ear.mdK (mixS ws ms ms.length) (bsM (offN ms ms.length) ms ms.length) (bsE ms ms.length) (bsY ms ms.length)) := vX.B (by omega) (by omega) wX (by decide)
      have eX : checkE [Go.Ear.mdK (mixS ws ms ms.length) (bsM (offN ms ms.length) ms ms.length) (bsE ms ms.length) (bsY ms ms.length)] [] = 0 := (checkE_one0 (vX.long (by omega) hk64)).2 vX.valid
      have f4 : MsOk ms ∧ (∀ m ∈ ms, MdB 10000000 m) ∧ ws.length = ms.length ∧ wts ws ≤ 10000000 := ⟨hok, f1.2, hm.1, by omega⟩
      rw [decide_eq_true hm.1, hm.2, hX, hXm]
      repeat first | refine nx ?_ | intro _
      rw [eX, sM_self]; rfl
    · have hX : mixE ws ms = 2 := mix_arg hB (by
        by_cases e : ws.length = ms.length
        · exact .inr fun d => hm ⟨e, d⟩
        · exact .inl e)
      have hXm : mixR ws ms = md0 := mixR_none (by rw [hX]; decide)
      have hb : (true && decide (ws.length = ms.length) && distF ws) = false := by
        rw [Bool.true_and, ← Bool.not_eq_true, Bool.and_eq_true, decide_eq_true_eq]; exact hm
      rw [hb, hX, hXm]
      repeat first | refine nx ?_ | intro _
      rw [show sameM md0 ⟨[], [], [], []⟩ = true from sM_self md0]; rfl
  · have hB := fine_not hlong hf
    have hJ : joinE ms = 2 := by rw [join_err (by rw [hB]; decide), hB]
    have hM : mixE ws ms = 2 := by rw [mix_err (by rw [hB]; decide), hB]
    have hJm : joinR ms = md0 := joinR_none (by rw [hJ]; decide)
    have hMm : mixR ws ms = md0 := mixR_none (by rw [hM]; decide)
    rw [Bool.eq_false_iff.2 hf, hJ, hM, hJm, hMm]
    repeat first | refine nx ?_ | intro _
    refine gIf (fun c => absurd c (by simp)) fun c => ?_
    repeat first | refine nx ?_ | intro _
    rw [show sameM md0 ⟨[], [], [], []⟩ = true from sM_self md0]; rfl
end Go.E3
