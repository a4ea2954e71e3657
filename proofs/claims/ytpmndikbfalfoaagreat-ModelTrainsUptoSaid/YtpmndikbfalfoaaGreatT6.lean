/- T6: a part of the proofs about package model: how the program's functions run, and what they compute, for every input. -/
import Derived.Test.YtpmndikbfalfoaaGreatT5
set_option linter.all false
set_option linter.unusedVariables false
set_option maxRecDepth 20000
set_option maxHeartbeats 8000000
set_option synthInstance.maxSize 1000
namespace Go.E3
open Go Go.Ear Go.Proofs
def rowF (c : CtF) (i : Nat) : List Fr := c.move.getD i [] ++ c.say.getD i [] ++ [c.start.getD i fr0, c.fin.getD i fr0]
theorem any_of {l : List Fr} {n : Nat} (hl : l.length = n) (h : ∀ i, i < n → negF (l.getD i fr0) = false) : l.any negF = false := by
  rw [← Bool.not_eq_true, List.any_eq_true]
  rintro ⟨x, hx, hn⟩
  obtain ⟨i, hi, rfl⟩ := List.getElem_of_mem hx
  have := h i (by omega)
  rw [List.getD_eq_getElem?_getD, List.getElem?_eq_getElem hi] at this
  have : negF l[i] = false := this
  rw [this] at hn; cases hn
theorem rowF_any {c : CtF} {i : Nat} : (rowF c i).any negF = ((c.move.getD i []).any negF || ((c.say.getD i []).any negF || (negF (c.start.getD i fr0) || negF (c.fin.getD i fr0)))) := by
  unfold rowF; simp [List.any_append, Bool.or_assoc]
section
variable {m : Md} {c : CtF} {S T : SV}
theorem rowsB_len {l : List (List Fr)} {n k : Nat} (h : rowsB l n k = true) : l.length = n ∧ ∀ i, i < n → (l.getD i []).length = k := by
  unfold rowsB at h
  rw [Bool.and_eq_true, decide_eq_true_eq, List.all_eq_true] at h
  refine ⟨h.1, fun i hi => ?_⟩
  have := h.2 _ (getD_mem' l [] (show i < l.length by omega))
  exact of_decide_eq_true this
theorem rowsB_of {l : List (List Fr)} {n k : Nat} (h1 : l.length = n) (h2 : ∀ i, i < n → (l.getD i []).length = k) : rowsB l n k = true := by
  unfold rowsB
  rw [Bool.and_eq_true, decide_eq_true_eq, List.all_eq_true]
  refine ⟨h1, fun r hr => ?_⟩
  obtain ⟨i, hi, rfl⟩ := List.getElem_of_mem hr
  have := h2 i (by omega)
  rw [List.getD_eq_getElem?_getD, List.getElem?_eq_getElem hi] at this
  exact decide_eq_true this
abbrev badF (m : Md) (c : CtF) : Prop := ((c.start.length ≠ m.start.length ∨ c.fin.length ≠ m.start.length) ∨ ¬ rowsB c.move m.start.length m.start.length = true) ∨ ¬ rowsB c.say m.start.length (symb m) = true
theorem fitP.parts (h : fitP m c) : (c.start.length = m.start.length ∧ c.fin.length = m.start.length ∧ c.move.length = m.start.length ∧ c.say.length = m.start.length) ∧ c.start.any negF = false ∧ c.fin.any negF = false ∧ ∀ i, i < m.start.length → (c.move.getD i []).length = m.start.length ∧ (c.say.getD i []).length = symb m ∧ (c.move.getD i []).any negF = false ∧ (c.say.getD i []).any negF = false := by
  obtain ⟨h1, h2⟩ := h
  unfold fitS at h1
  simp only [not_or, Classical.not_not, ne_eq, Bool.not_eq_true] at h1
  obtain ⟨a1, a2, a3, a4, a5, a6⟩ := h1
  refine ⟨⟨a1, a2, a3, a4⟩, a5, a6, fun i hi => ?_⟩
  have h3 := h2 i hi
  unfold fitR at h3
  simp only [not_or, Classical.not_not, ne_eq, Bool.not_eq_true] at h3
  exact h3
theorem fitP.of (h : (c.start.length = m.start.length ∧ c.fin.length = m.start.length ∧ c.move.length = m.start.length ∧ c.say.length = m.start.length) ∧ c.start.any negF = false ∧ c.fin.any negF = false ∧ ∀ i, i < m.start.length → (c.move.getD i []).length = m.start.length ∧ (c.say.getD i []).length = symb m ∧ (c.move.getD i []).any negF = false ∧ (c.say.getD i []).any negF = false) : fitP m c := by
  obtain ⟨⟨a1, a2, a3, a4⟩, a5, a6, a7⟩ := h
  refine ⟨?_, fun i hi => ?_⟩
  · unfold fitS
    simp only [not_or, Classical.not_not, ne_eq, Bool.not_eq_true]
    exact ⟨a1, a2, a3, a4, a5, a6⟩
  · unfold fitR
    simp only [not_or, Classical.not_not, ne_eq, Bool.not_eq_true]
    exact a7 i hi
theorem fit_iff (hr : ¬ badF m c) : fitP m c ↔ ∀ i, i < m.start.length → (rowF c i).any negF = false := by
  unfold badF at hr
  simp only [not_or, Classical.not_not, ne_eq] at hr
  obtain ⟨⟨⟨h1, h2⟩, h3⟩, h4⟩ := hr
  have h3 := rowsB_len h3
  have h4 := rowsB_len h4
  constructor
  · intro h i hi
    obtain ⟨_, a5, a6, a7⟩ := h.parts
    have ⟨_, _, b3, b4⟩ := a7 i hi
    rw [rowF_any, b3, b4, not_any_at (p := negF) (l := c.start) (i := i) fr0 (by omega) (by rw [a5]; exact fun e => by cases e), not_any_at (p := negF) (l := c.fin) (i := i) fr0 (by omega) (by rw [a6]; exact fun e => by cases e)]; rfl
  · intro h
    have h5 := fun i hi => by have := h i hi; rw [rowF_any] at this; simp only [Bool.or_eq_false_iff] at this; exact this
    exact fitP.of ⟨⟨h1, h2, h3.1, h4.1⟩, any_of h1 fun i hi => (h5 i hi).2.2.1, any_of h2 fun i hi => (h5 i hi).2.2.2, fun i hi => ⟨h3.2 i hi, h4.2 i hi, (h5 i hi).1, (h5 i hi).2.1⟩⟩
theorem fit_not (hr : badF m c) : ¬ fitP m c := fun h => by
  obtain ⟨⟨a1, a2, a3, a4⟩, _, _, a7⟩ := h.parts
  rcases hr with ((e | e) | e) | e
  · exact e a1
  · exact e a2
  · exact e (rowsB_of a3 fun i hi => (a7 i hi).1)
  · exact e (rowsB_of a4 fun i hi => (a7 i hi).2.1)
instance rFits_c [i : VM S m] [j : VC T c] : Ct Tryz.prog 70 [S, T] ((m.start.length ≤ 1048576 ∧ c.move.length ≤ 1048576 ∧ c.say.length ≤ 1048576) ∧ wts c.start ≤ 10000000 ∧ wts c.fin ≤ 10000000 ∧ (∀ i, wts (c.move.getD i []) ≤ 10000000) ∧ ∀ i, wts (c.say.getD i []) ≤ 10000000) (bv (fitB m c)) := by
  haveI := i.t
  haveI := j.t
  refine ct2 i.v j.v (ctI Tryz.call70 Tryz.func70 Tryz.ntmps70 rfl Tryz.results70 rfl [] fun h0 w0 ⟨⟨h1, h2, h7⟩, h3, h4, h5, h6⟩ => ?_)
  repeat first | refine gDs 7 7 (by rfl) (by kernel_rfl) ?_ | refine nx ?_ | intro _
  refine gIf (fun c1 => ?_) fun c1 => ?_
  · have c1 : badF m c := by unfold badF; simpa using c1
    have e : fitB m c = false := decide_eq_false (fit_not c1)
    rw [e]
    repeat first | refine nx ?_ | intro _
    trivial
  have hb : ¬ badF m c := fun e => c1 (by unfold badF at e; simpa using e)
  have hi := fit_iff hb
  have hb2 := hb
  unfold badF at hb2
  simp only [not_or, Classical.not_not, ne_eq] at hb2
  obtain ⟨⟨⟨b1, b2⟩, b3⟩, b4⟩ := hb2
  have b3 := rowsB_len b3
  have b4 := rowsB_len b4
  repeat first | refine nx ?_ | intro _
  refine gLp (fun k : Nat => [(7, iv k)]) (fun _ => []) (fun k => k ≤ m.start.length ∧ ∀ i, i < k → (rowF c i).any negF = false) (fun k => m.start.length - k) 0 ⟨Nat.zero_le _, fun i hi => absurd hi (Nat.not_lt_zero _)⟩ fun k ⟨hk, hR⟩ => ?_
  have g1 := h5 k
  have g2 := h6 k
  have g3 := len_wts (c.move.getD k [])
  have g4 := len_wts (c.say.getD k [])
  repeat first | refine nx ?_ | intro _
  refine gIf (fun ck => ?_) fun ck => ?_
  · repeat first | refine gDv 25 5 11 23 (by rfl) (by kernel_rfl) ?_ | refine nx ?_ | intro _
    rename_i w1 w2 w3
    have hrw : c.move.getD k [] ++ c.say.getD k [] ++ [c.start.getD k fr0, c.fin.getD k fr0] = rowF c k := rfl
    rw [hrw]
    refine gFz w3 ?_
    have hrl : wts (rowF c k) ≤ 60000000 := by
      have e1 := bf_getD c.start k
      have e2 := bf_getD c.fin k
      unfold rowF
      rw [wts_append, wts_append, wts_cons, wts_cons, wts_nil]; omega
    have hft : FtS (rowF c k) := inferInstanceAs (FtS (c.move.getD k [] ++ c.say.getD k [] ++ [c.start.getD k fr0, c.fin.getD k fr0]))
    have g5 := len_wts (rowF c k)
    refine gLp (fun j : Nat => [(9, iv j)]) (fun _ => []) (fun j => j ≤ (rowF c k).length ∧ ((rowF c k).take j).any negF = false) (fun j => (rowF c k).length - j) 0 ⟨Nat.zero_le _, rfl⟩ fun j ⟨hj, hN⟩ => ?_
    have g6 := bf_getD (rowF c k) j
    have g7 := hft.bqg j
    repeat first | refine nx ?_ | intro _
    refine gIf (fun cj => ?_) fun cj => ?_
    · repeat first | refine nx ?_ | intro _
      refine gIf (fun c2 => ?_) fun c2 => ?_
      · have e : fitB m c = false := decide_eq_false fun h => by
          have h1 := not_any_at (p := negF) (i := j) fr0 cj (by rw [hi.1 h k ck]; exact fun e => by cases e)
          have h2 : negF ((rowF c k).getD j fr0) = true := decide_eq_true (sgQ_neg.1 c2)
          rw [h1] at h2; cases h2
        rw [e]
        repeat first | refine nx ?_ | intro _
        trivial
      · repeat first | refine nx ?_ | intro _
        exact gBk (j + 1) ⟨by omega, any_take_succ fr0 cj hN (decide_eq_false fun h => c2 (sgQ_neg.2 h))⟩ (by omega)
    · repeat first | refine nx ?_ | intro _
      refine gBk (k + 1) ⟨by omega, fun i hi => ?_⟩ (by omega)
      rcases Nat.lt_or_ge i k with a | a
      · exact hR i a
      · have : i = k := by omega
        subst this
        rw [List.take_of_length_le (by omega)] at hN
        exact hN
  · have e : fitB m c = true := decide_eq_true (hi.2 fun i hi => hR i (by omega))
    rw [e]
    repeat first | refine nx ?_ | intro _
    trivial
end
end Go.E3
