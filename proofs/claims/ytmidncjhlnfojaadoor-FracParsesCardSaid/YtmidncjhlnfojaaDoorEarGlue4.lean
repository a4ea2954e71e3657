/- About package frac: EarGlue4. -/
import Derived.Test.YtmidncjhlnfojaaDoorEarGlue2
import Derived.Test.YtmidncjhlnfojaaDoorEarStr
set_option linter.all false
namespace Go.Ear
open Go.WideShapes
theorem openStr {P : Program} {w : World} {r : Reach} {b0 : Nat} {t : TypeId} {v : Value} (ht : P.underlying t = some .string) (h : Value.okWide P w r b0 t v) : ∃ l, v = .string (S l) := by
  obtain ⟨s, rfl⟩ := okWide_string ht h
  exact ⟨s.data.toList, by unfold S; simp⟩
end Go.Ear
