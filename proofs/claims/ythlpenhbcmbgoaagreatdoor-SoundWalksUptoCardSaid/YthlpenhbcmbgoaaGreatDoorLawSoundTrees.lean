/- LawSoundTrees: a part of the proofs about what is clipped and stored: how the program's functions run, and what they compute, for every input. -/
import Derived.Test.YthlpenhbcmbgoaaGreatDoorA50
set_option linter.all false
set_option linter.unusedVariables false
set_option maxRecDepth 20000
set_option maxHeartbeats 4000000
set_option synthInstance.maxSize 1000
namespace Go.E3
open Go Go.Ear Go.Proofs
theorem trL_at {l : List En} (h : ∀ e ∈ l, EnS e) (k : Nat) : (((trL l).getD k nd0).ends_.length ≤ l.length ∧ bf ((trL l).getD k nd0).f ≤ 1000) ∧ Fit ((trL l).getD k nd0).f.n ∧ Fit ((trL l).getD k nd0).f.d := by
  by_cases hk : k < (trL l).length
  · obtain ⟨p, _, e⟩ := List.mem_map.1 (getD_in nd0 hk)
    have e : trN l (begS l) p = (trL l).getD k nd0 := e
    rw [← e]
    obtain ⟨h1, h2⟩ := bsN_ok h p l.length
    exact ⟨⟨enN_len l p l.length, h2⟩, h1⟩
  · rw [List.getD_eq_getElem?_getD, List.getElem?_eq_none (by omega)]
    exact ⟨⟨Nat.zero_le _, by show bf fr0 ≤ 1000; decide⟩, (inferInstance : FtF fr0).h⟩
theorem trL_len {l : List En} : (trL l).length = (begS l).length := List.length_map ..
theorem soundTrees_c {l : List En} {B : List Res} [hg : HG B] (u : UpE l) : CtB Tryz.prog 10 [lxv l] B True (bv true) := by
  refine (ctB Tryz.call10 Tryz.func10 Tryz.ntmps10 rfl Tryz.results10 rfl [] fun h0 w0 _ => ?_)
  have hlen := u.1
  repeat first | refine nx ?_ | intro _
  refine gIf (fun c => ?_) fun c => ?_
  · repeat first | refine nx ?_ | intro _
    trivial
  · have c := Classical.not_not.1 c
    obtain ⟨hlx, hb⟩ := fit_lx c u
    repeat first | refine nx ?_ | intro _
    refine gIf (fun c2 => ?_) fun c2 => ?_
    · have hv : ¬ valB l = true := by simpa using c2
      rw [if_neg hv, if_neg hv]
      repeat first | refine nx ?_ | intro _
      rfl
    · have hv : valB l = true := by simpa using c2
      rw [if_pos hv, if_pos hv]
      obtain ⟨v1, v2⟩ := val_ent hv
      have hph : ∀ e ∈ l, e.ph.length ≤ 100 := fun e he => by have := (phB_gd (v2 e he).1).2; omega
      have hsd : LxS l ∧ ∀ e ∈ l, e.ph.length ≤ 100 := ⟨hlx, hph⟩
      have hs1 := (begS_ok hlx.1 hph).1.1
      rw [← trL_len] at hs1
      have hat := trL_at hlx.2
      repeat first | refine nx ?_ | intro _
      refine gIf (fun c3 => absurd c3 (by simp)) fun c3 => ?_
      repeat first | refine nx ?_ | intro _
      refine gLp (fun k : Nat => [(6, iv k)]) (fun _ => []) (fun k => k ≤ (trL l).length) (fun k => (trL l).length - k) 0 (Nat.zero_le _) (fun k hk => ?_)
      obtain ⟨⟨a1, a2⟩, a3⟩ := hat k
      haveI : FtF ((trL l).getD k nd0).f := ⟨a3⟩
      repeat first | refine nx ?_ | intro _
      refine gIf (fun c4 => ?_) fun c4 => ?_
      · have ho := ordI_to.self ((trL l).getD k nd0).ends_
        have hsm : sameF ((trL l).getD k nd0).f ((trL l).getD k nd0).f = true := sameF_iff.2 rfl
        repeat first | refine gDs 52 52 (by rfl) (by kernel_rfl) ?_ | refine nx ?_ | intro _
        refine gIf (fun c5 => ?_) fun c5 => ?_
        · exfalso
          rw [ho, hsm] at c5
          simp at c5
        · repeat first | refine nx ?_ | intro _
          exact gBk (k + 1) (by omega) (by omega)
      · repeat first | refine nx ?_ | intro _
        trivial
end Go.E3
