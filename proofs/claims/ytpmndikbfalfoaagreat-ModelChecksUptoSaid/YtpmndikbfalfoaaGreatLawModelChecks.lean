/- LawModelChecks: a part of the proofs about package model: how the program's functions run, and what they compute, for every input. -/
import Derived.Test.YtpmndikbfalfoaaGreatH10
set_option linter.all false
set_option linter.unusedVariables false
set_option maxRecDepth 20000
set_option maxHeartbeats 8000000
set_option synthInstance.maxSize 1000
namespace Go.E3
open Go Go.Ear Go.Proofs
theorem UpK.c {m : Md} (u : UpK m) : MdC m := ⟨u.w.weak (by decide), by have := u.b.r; omega⟩
theorem UpK.cc {m : Md} (u : UpK m) : MdC (copyM m) := by
  obtain ⟨f1, f2, f3, f4⟩ := u.t.h
  have hw := u.w
  have hr := u.b.r
  refine ⟨⟨?_, ?_, ?_, ?_⟩, ?_⟩
  · exact Nat.le_trans (wts_copy f1.bq) (Nat.le_trans hw.start (by decide))
  · exact wts_copyR (fun l hl => (f2.h l hl).bq) fun l hl => Nat.le_trans (hw.move l hl) (by decide)
  · exact Nat.le_trans (wts_copy f3.bq) (Nat.le_trans hw.fin (by decide))
  · exact wts_copyR (fun l hl => (f4.h l hl).bq) fun l hl => Nat.le_trans (hw.say l hl) (by decide)
  · show (List.length _ ≤ _) ∧ (List.length _ ≤ _)
    unfold copyM Go.Ear.mdK ratsR; simp only [List.length_map]; omega
theorem modelChecks_c {a b : Md} (ua : UpK a) (ub : UpK b) : Ct Tryz.prog 9 [mv a, mv b] True (bv true) := by
  refine (ctI Tryz.call9 Tryz.func9 Tryz.ntmps9 rfl Tryz.results9 rfl [] fun h0 w0 _ => ?_)
  haveI := ua.t
  haveI := ub.t
  have ba := ua.b
  have bb := ub.b
  have wa := ua.w
  have la : a.say.length ≤ 1048576 ∧ a.move.length ≤ 1048576 := by have := ua.b.r; omega
  have ca := ua.c
  have cb := ub.c
  have cca := ua.cc
  have ccb := ub.cc
  repeat first | refine nx ?_ | intro _
  refine gIf (fun c => ?_) fun c => ?_
  · repeat first | refine nx ?_ | intro _
    trivial
  · repeat first | refine nx ?_ | intro _
    rw [equal_same a b, equal_refl, decide_eq_true rfl, beq_self_eq_true]; rfl
end Go.E3
