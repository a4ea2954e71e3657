/- T6: a part of the proofs about package model: how the program's functions run, and what they compute, for every input. -/
import Derived.Test.YtpmndikbfalfoaaGreatT5
set_option linter.all false
set_option linter.unusedVariables false
set_option maxRecDepth 20000
set_option maxHeartbeats 8000000
set_option synthInstance.maxSize 1000
namespace Go.E3
open Go Go.Ear Go.Proofs
def rowF (c : CtF) (i : Nat) : List Fr := c.move.getD i [] ++ c.say.getD i [] ++ [c.start.getD i fr0, c.fin.getD i fr0]
theorem any_of {l : List Fr} {n : Nat} (hl : l.length = n) (h : ∀ i, i < n → negF (l.getD i fr0) = false) : l.any negF = false := by
  rw [← Bool.not_eq_true, List.any_eq_true]
  rintro ⟨x, hx, hn⟩
  obtain ⟨i, hi, rfl⟩ := List.getElem_of_mem hx
  have := h i (by omega)
  rw [List.getD_eq_getElem?_getD, List.getElem?_eq_getElem hi] at this
  have : negF l[i] = false := this
  rw [this] at hn; cases hn
section
variable {m : Md} {c : CtF} {S T : SV}
abbrev badF (m : Md) (c : CtF) : Prop := ((c.start.length ≠ m.start.length ∨ c.fin.length ≠ m.start.length) ∨ ¬ rowsB c.move m.start.length m.start.length = true) ∨ ¬ rowsB c.say m.start.length (symb m) = true
theorem fitP.parts (h : fitP m c) : (c.start.length = m.start.length ∧ c.fin.length = m.start.length ∧ c.move.length = m.start.length ∧ c.say.length = m.start.length) ∧ c.start.any negF = false ∧ c.fin.any negF = false ∧ ∀ i, i < m.start.length → (c.move.getD i []).length = m.start.length ∧ (c.say.getD i []).length = symb m ∧ (c.move.getD i []).any negF = false ∧ (c.say.getD i []).any negF = false := by
  obtain ⟨h1, h2⟩ := h
  unfold fitS at h1
  simp only [not_or, Classical.not_not, ne_eq, Bool.not_eq_true] at h1
  obtain ⟨a1, a2, a3, a4, a5, a6⟩ := h1
  refine ⟨⟨a1, a2, a3, a4⟩, a5, a6, fun i hi => ?_⟩
  have h3 := h2 i hi
  unfold fitR at h3
  simp only [not_or, Classical.not_not, ne_eq, Bool.not_eq_true] at h3
  exact h3
theorem fitP.of (h : (c.start.length = m.start.length ∧ c.fin.length = m.start.length ∧ c.move.length = m.start.length ∧ c.say.length = m.start.length) ∧ c.start.any negF = false ∧ c.fin.any negF = false ∧ ∀ i, i < m.start.length → (c.move.getD i []).length = m.start.length ∧ (c.say.getD i []).length = symb m ∧ (c.move.getD i []).any negF = false ∧ (c.say.getD i []).any negF = false) : fitP m c := by
  obtain ⟨⟨a1, a2, a3, a4⟩, a5, a6, a7⟩ := h
  refine ⟨?_, fun i hi => ?_⟩
  · unfold fitS
    simp only [not_or, Classical.not_not, ne_eq, Bool.not_eq_true]
    exact ⟨a1, a2, a3, a4, a5, a6⟩
  · unfold fitR
    simp only [not_or, Classical.not_not, ne_eq, Bool.not_eq_true]
    exact a7 i hi
end
end Go.E3
