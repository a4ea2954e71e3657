/- A37: a part of the proofs about what is clipped and stored: how the program's functions run, and what they compute, for every input. -/
import Derived.Test.YthlpenhbcmbgoaaGreatDoorA36
set_option linter.all false
set_option linter.unusedVariables false
set_option maxRecDepth 20000
set_option maxHeartbeats 4000000
set_option synthInstance.maxSize 1000
namespace Go.E3
open Go Go.Ear Go.Proofs
theorem putI_nil (l : List Int) : putI [] l = [l] := by
  unfold putI befI
  simp
theorem putI_cons (x : List Int) (xs : List (List Int)) (l : List Int) : putI (x :: xs) l = if ordI x l < 0 then x :: putI xs l else if ordI x l = 0 then x :: xs else l :: x :: xs := by
  by_cases h : ordI x l < 0
  · have e : befI (x :: xs) l = befI xs l + 1 := by
      unfold befI
      rw [List.takeWhile_cons, if_pos (decide_eq_true h), List.length_cons]
    rw [if_pos h]
    unfold putI
    rw [e]
    simp only [List.length_cons, List.getD_cons_succ, List.take_succ_cons, List.drop_succ_cons, Nat.add_lt_add_iff_right, List.cons_append]
    split <;> rfl
  · have e : befI (x :: xs) l = 0 := by
      unfold befI
      rw [List.takeWhile_cons, if_neg (by simpa using h)]; rfl
    rw [if_neg h]
    unfold putI
    rw [e]
    simp
theorem putI_mem {ls : List (List Int)} {l x : List Int} : x ∈ putI ls l ↔ x ∈ ls ∨ x = l := by
  induction ls with
  | nil => rw [putI_nil]; simp
  | cons y ys ih =>
    rw [putI_cons]
    split
    · rw [List.mem_cons, ih, List.mem_cons, or_assoc]
    · split
      · rename_i h
        have := ordI_to.eq _ _ h
        subst this
        simp only [List.mem_cons]
        constructor
        · exact .inl
        · rintro (h | h)
          · exact h
          · exact .inl h
      · simp only [List.mem_cons]
        constructor
        · rintro (h | h | h)
          · exact .inr h
          · exact .inl (.inl h)
          · exact .inl (.inr h)
        · rintro ((h | h) | h)
          · exact .inr (.inl h)
          · exact .inr (.inr h)
          · exact .inl h
theorem ordI_lt {a b c : List Int} (h1 : ordI a b < 0) (h2 : ordI b c < 0) : ordI a c < 0 := by
  have s := ordI_swo
  have n1 := ordI_to.neg a b
  have n2 := ordI_to.neg b c
  have n3 := ordI_to.neg a c
  exact ordI_to.tr _ _ _ h1 h2
theorem putI_srt {ls : List (List Int)} {l : List Int} (h : ls.Pairwise fun a b => ordI a b < 0) : (putI ls l).Pairwise fun a b => ordI a b < 0 := by
  induction ls with
  | nil => rw [putI_nil]; exact List.pairwise_singleton _ _
  | cons y ys ih =>
    rw [putI_cons]
    obtain ⟨h1, h2⟩ := List.pairwise_cons.1 h
    split
    · rename_i h0
      refine List.pairwise_cons.2 ⟨fun a ha => ?_, ih h2⟩
      rcases putI_mem.1 ha with h | rfl
      · exact h1 a h
      · exact h0
    · split
      · exact h
      · rename_i h3 h4
        have n := ordI_to.neg y l
        refine List.pairwise_cons.2 ⟨fun a ha => ?_, h⟩
        rcases List.mem_cons.1 ha with rfl | ha
        · omega
        · exact ordI_lt (by omega) (h1 a ha)
theorem sI_ext : ∀ {a b : List (List Int)}, (a.Pairwise fun x y => ordI x y < 0) → (b.Pairwise fun x y => ordI x y < 0) → (∀ x, x ∈ a ↔ x ∈ b) → a = b
  | [], [], _, _, _ => rfl
  | [], y :: b, _, _, h => absurd ((h y).2 (List.mem_cons_self ..)) (by simp)
  | x :: a, [], _, _, h => absurd ((h x).1 (List.mem_cons_self ..)) (by simp)
  | x :: a, y :: b, ha, hb, h => by
    obtain ⟨a1, a2⟩ := List.pairwise_cons.1 ha
    obtain ⟨b1, b2⟩ := List.pairwise_cons.1 hb
    have n := ordI_to.neg x y
    have e : x = y := by
      rcases List.mem_cons.1 ((h x).1 (List.mem_cons_self ..)) with e | e
      · exact e
      · rcases List.mem_cons.1 ((h y).2 (List.mem_cons_self ..)) with e2 | e2
        · exact e2.symm
        · have := b1 _ e
          have := a1 _ e2
          omega
    subst e
    have s := ordI_to.self (a := x)
    rw [sI_ext a2 b2 fun z => ?_]
    constructor
    · intro hz
      rcases List.mem_cons.1 ((h z).1 (List.mem_cons_of_mem _ hz)) with e | e
      · have := a1 _ hz
        rw [e] at this; omega
      · exact e
    · intro hz
      rcases List.mem_cons.1 ((h z).2 (List.mem_cons_of_mem _ hz)) with e | e
      · have := b1 _ hz
        rw [e] at this; omega
      · exact e
def putsI (L : List (List Int)) : List (List Int) := L.foldl putI []
theorem foldP {L : List (List Int)} : ∀ {s : List (List Int)}, (s.Pairwise fun a b => ordI a b < 0) → ((L.foldl putI s).Pairwise fun a b => ordI a b < 0) ∧ ∀ x, x ∈ L.foldl putI s ↔ x ∈ s ∨ x ∈ L := by
  induction L with
  | nil => exact fun h => ⟨h, fun x => by simp⟩
  | cons y L ih =>
    intro s h
    obtain ⟨h1, h2⟩ := ih (putI_srt (l := y) h)
    exact ⟨h1, fun x => by rw [List.foldl_cons, h2, putI_mem, List.mem_cons, or_assoc]⟩
end Go.E3
