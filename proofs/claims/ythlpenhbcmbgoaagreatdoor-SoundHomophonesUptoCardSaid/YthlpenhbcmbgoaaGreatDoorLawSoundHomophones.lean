/- LawSoundHomophones: a part of the proofs about what is clipped and stored: how the program's functions run, and what they compute, for every input. -/
import Derived.Test.YthlpenhbcmbgoaaGreatDoorA38
set_option linter.all false
set_option linter.unusedVariables false
set_option maxRecDepth 20000
set_option maxHeartbeats 4000000
set_option synthInstance.maxSize 1000
namespace Go.E3
open Go Go.Ear Go.Proofs
theorem hmL_two {l : List En} {ks : List (List Int)} {k : Nat} (h : k < (hmL l ks).length) : 2 ≤ ((hmL l ks).getD k []).length := by
  have := getD_in ([] : List ByteArray) h
  unfold hmL at this
  rw [List.mem_filter] at this
  have := of_decide_eq_true this.2
  exact this
theorem hmL_ls {l : List En} {ks : List (List Int)} (k : Nat) : ((hmL l ks).getD k []).length ≤ l.length := by
  by_cases h : k < (hmL l ks).length
  · have := getD_in ([] : List ByteArray) h
    unfold hmL at this
    rw [List.mem_filter] at this
    obtain ⟨q, _, h2⟩ := List.mem_map.1 this.1
    show ((List.filter (fun w => decide (1 < w.length)) (List.map (wsP l) ks)).getD k []).length ≤ _
    rw [← h2]; exact wsP_len _ _
  · rw [List.getD_eq_getElem?_getD, List.getElem?_eq_none (by omega)]; exact Nat.zero_le _
theorem soundHomophones_c {l : List En} {B : List Res} [hg : HG B] (u : UpE l) : CtB Tryz.prog 9 [lxv l] B True (bv true) := by
  refine (ctB Tryz.call9 Tryz.func9 Tryz.ntmps9 rfl Tryz.results9 rfl [] fun h0 w0 _ => ?_)
  have hlen := u.1
  repeat first | refine nx ?_ | intro _
  refine gIf (fun c => ?_) fun c => ?_
  · repeat first | refine nx ?_ | intro _
    trivial
  · have c := Classical.not_not.1 c
    obtain ⟨hlx, hb⟩ := fit_lx c u
    have hl2 : l.length ≤ 2000 := hlx.1
    repeat first | refine nx ?_ | intro _
    unfold hoL
    cases hv : valB l with
    | false =>
      simp only [hv, Bool.false_eq_true, if_false]
      repeat first | refine nx ?_ | intro _
      refine gIf (fun c2 => ?_) fun c2 => absurd c2 (by simp)
      repeat first | refine nx ?_ | intro _
      rfl
    | true =>
      simp only [if_true]
      obtain ⟨v1, v2⟩ := val_ent hv
      have hpl : l.length ≤ 2000 ∧ ∀ e ∈ l, e.ph.length ≤ 100 := ⟨by omega, fun e he => by have := (phB_gd (v2 e he).1).2; omega⟩
      repeat first | refine nx ?_ | intro _
      refine gIf (fun c2 => absurd hv (by simpa using c2)) fun c2 => ?_
      have hK : (hmL l (dstI (phsL l))).length ≤ 2000 := by
        have h0 := hmL_len l (dstI (phsL l))
        have h1 := dstI_len (phsL l)
        have h2 : (phsL l).length = l.length := List.length_map _
        omega
      repeat first | refine nx ?_ | intro _
      refine gIf (fun c3 => absurd c3 (by simp)) fun c3 => ?_
      repeat first | refine nx ?_ | intro _
      refine gLp (fun k : Nat => [(6, iv k)]) (fun _ => []) (fun k => k ≤ (hmL l (dstI (phsL l))).length) (fun k => (hmL l (dstI (phsL l))).length - k) 0 (Nat.zero_le _) (fun k hk => ?_)
      have hkl := hmL_ls (l := l) (ks := dstI (phsL l)) k
      repeat first | refine nx ?_ | intro _
      refine gIf (fun c => ?_) fun c => ?_
      · have h2 := hmL_two c
        have ho := ordS_to.self ((hmL l (dstI (phsL l))).getD k [])
        repeat first | refine gDs 18 18 (by rfl) (by kernel_rfl) ?_ | refine nx ?_ | intro _
        refine gIf (fun c4 => absurd c4 (by rw [ho]; simp; omega)) fun c4 => ?_
        repeat first | refine nx ?_ | intro _
        exact gBk (k + 1) (by omega) (by omega)
      · repeat first | refine nx ?_ | intro _
        trivial
end Go.E3
