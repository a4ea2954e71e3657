/- LawSoundLexicons: a part of the proofs about what is clipped and stored: how the program's functions run, and what they compute, for every input. -/
import Derived.Test.YthlpenhbcmbgoaaGreatDoorA30
set_option linter.all false
set_option linter.unusedVariables false
set_option maxRecDepth 20000
set_option maxHeartbeats 4000000
set_option synthInstance.maxSize 1000
namespace Go.E3
open Go Go.Ear Go.Proofs
theorem soundLexicons_c {l : List En} {B : List Res} [hg : HG B] (u : UpE l) : CtB Tryz.prog 7 [lxv l] B True (bv true) := by
  refine (ctB Tryz.call7 Tryz.func7 Tryz.ntmps7 rfl Tryz.results7 rfl [] fun h0 w0 _ => ?_)
  have hlen := u.1
  repeat first | refine nx ?_ | intro _
  refine gIf (fun c => ?_) fun c => ?_
  · repeat first | refine nx ?_ | intro _
    trivial
  · have c := Classical.not_not.1 c
    obtain ⟨hlx, hb⟩ := fit_lx c u
    repeat first | refine nx ?_ | intro _
    refine gIf (fun c1 => absurd c1 (by simp)) fun c1 => ?_
    cases hv : valB l with
    | false =>
      simp only [hv, Bool.false_eq_true, if_false]
      repeat first | refine nx ?_ | intro _
      refine gIf (fun c2 => ?_) fun c2 => absurd c2 (by rw [hv]; simp)
      repeat first | refine nx ?_ | intro _
      rfl
    | true =>
      simp only [if_true]
      have hwl : (wdsT l l.length).length ≤ 1099511627776 := Nat.le_trans (wdsT_len l l.length) (by omega)
      repeat first | refine nx ?_ | intro _
      refine gIf (fun c2 => absurd hv (by simpa using c2)) fun c2 => ?_
      repeat first | refine nx ?_ | intro _
      rw [ordS_to.self]
      rfl
end Go.E3
