/- A41: a part of the proofs about what is clipped and stored: how the program's functions run, and what they compute, for every input. -/
import Derived.Test.YthlpenhbcmbgoaaGreatDoorA40
set_option linter.all false
set_option linter.unusedVariables false
set_option maxRecDepth 20000
set_option maxHeartbeats 4000000
set_option synthInstance.maxSize 1000
namespace Go.E3
open Go Go.Ear Go.Proofs
theorem nearI_app {l m : List Int} {i : Int} (h : i < (l.length : Int)) : nearI (l ++ m) i = nearI l i := by
  unfold nearI
  by_cases c : i < 0
  · rw [if_pos (.inl c), if_pos (.inl c)]
  · rw [if_neg (by rw [List.length_append]; omega), if_neg (by omega), List.getD_eq_getElem?_getD, List.getElem?_append_left (by omega), ← List.getD_eq_getElem?_getD]
theorem any_congr' {α : Type} {p q : α → Bool} : ∀ {l : List α}, (∀ x ∈ l, p x = q x) → l.any p = l.any q
  | [], _ => rfl
  | x :: l, h => by rw [List.any_cons, List.any_cons, h x (List.mem_cons_self ..), any_congr' fun y hy => h y (List.mem_cons_of_mem _ hy)]
theorem fidx_congr {α : Type} {p q : α → Bool} : ∀ {l : List α}, (∀ x ∈ l, p x = q x) → l.findIdx p = l.findIdx q
  | [], _ => rfl
  | x :: l, h => by rw [List.findIdx_cons, List.findIdx_cons, h x (List.mem_cons_self ..), fidx_congr fun y hy => h y (List.mem_cons_of_mem _ hy)]
theorem idxP_congr {α : Type} {p q : α → Bool} {l : List α} (h : ∀ x ∈ l, p x = q x) : idxP p l = idxP q l := by
  unfold idxP
  rw [any_congr' h, fidx_congr h]
theorem mtR_app {l m : List Int} {i : Nat} {x : Rw} (hf : x.from_.length ≤ 4) (h : i + 4 < l.length) : mtR (l ++ m) i x = mtR l i x := by
  unfold mtR
  have e1 : (List.range x.from_.length).any (frR x (l ++ m) i) = (List.range x.from_.length).any (frR x l i) := any_congr' fun k hk => by
    have := List.mem_range.1 hk
    unfold frR
    rw [nearI_app (by omega)]
  have e2 : offR x (l ++ m) i = offR x l i := by
    unfold offR
    rw [nearI_app (i := (i : Int) - 1) (by omega), nearI_app (i := (i : Int) + x.from_.length) (by omega)]
  rw [e1, e2]
theorem optL_app {r : List Rw} {l m : List Int} {i : Nat} (hr : rulB r = true) (h : i + 4 < l.length) : optL r (l ++ m) i = optL r l i := by
  have e : idxP (mtR (l ++ m) i) r = idxP (mtR l i) r := idxP_congr fun x hx => mtR_app (by
    have := (phB_gd ((rul_gd hr).2 x hx).2.1).2
    omega) h
  unfold optL
  rw [e, List.take_append_of_le_length (by omega)]
theorem ats_app {r : List Rw} {l m : List Int} (hr : rulB r = true) : ∀ i j, i ≤ l.length - 4 → ats r (l ++ m) i j = ats r l i j
  | 0, _, _ => rfl
  | i + 1, j, h => by
    unfold ats
    rw [ats_app hr i j (by omega), ats_app hr i i (by omega), optL_app hr (by omega)]
theorem ats_far {r : List Rw} {l : List Int} (ok : OpOk r l) : ∀ i j, i ≤ l.length → ∀ {p}, hasB (ats r l i j) p → j ≤ i + 3 ∧ (i = 0 → j = 0)
  | 0, j, _, p, h => by
    unfold ats at h
    split at h
    · rename_i c
      exact ⟨by omega, fun _ => c⟩
    · exact absurd h (has_nil p)
  | i + 1, j, hi, p, h => by
    refine ⟨?_, fun e => by omega⟩
    unfold ats at h
    split at h
    · exact absurd h (has_nil p)
    · rcases (has_app _ _ _).1 h with h | h
      · have := (ats_far ok i j (by omega) h).1; omega
      · obtain ⟨o, ho, h⟩ := has_fm.1 h
        split at h
        · rename_i c
          have := ok.p i (by omega) o ho
          omega
        · exact absurd h (has_nil p)
theorem alive_all {r : List Rw} {l m q : List Int} (a : ApOk r l) (b : ApOk r (l ++ m)) (h : hasB (atF r (l ++ m)) q) : aliveB r l q = true := by
  have h1 : hasB (res r (l ++ m) 0) q := ((ats_res b.op).h q).1 h
  have hl : (l ++ m).length = l.length + m.length := List.length_append
  have h2 : hasB (glue r (l ++ m) (l.length - 4)) q := ((glue_all b.op (l.length - 4) (by omega)).h q).1 h1
  unfold glue at h2
  obtain ⟨j, hj, h2⟩ := has_fm.1 h2
  obtain ⟨p, s, h3, _, h5⟩ := has_cr.1 h2
  rw [ats_app a.hr _ _ (Nat.le_refl _)] at h3
  have hf := ats_far a.op _ _ (by omega) h3
  have hlow : l.length - 4 ≤ j := by
    rcases Nat.lt_or_ge j (l.length - 4) with c | c
    · rw [ats_low c] at h3; exact absurd h3 (has_nil p)
    · exact c
  have hpq : p.length ≤ q.length := by rw [← h5, List.length_append]; omega
  refine List.any_eq_true.2 ⟨j, List.mem_range.2 (by omega), ?_⟩
  rw [Bool.and_eq_true]
  refine ⟨decide_eq_true hlow, List.any_eq_true.2 ⟨p.length, List.mem_range.2 (by omega), decide_eq_true ?_⟩⟩
  unfold WE
  rw [Nat.min_eq_left hlow, show q.take p.length = p by rw [← h5]; exact List.take_left' rfl]
  exact (tot_pos (ats_pos a.op _ _ (by omega))).2 h3
end Go.E3
