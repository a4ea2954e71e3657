/- A40: a part of the proofs about what is clipped and stored: how the program's functions run, and what they compute, for every input. -/
import Derived.Test.YthlpenhbcmbgoaaGreatDoorA39
set_option linter.all false
set_option linter.unusedVariables false
set_option maxRecDepth 20000
set_option maxHeartbeats 4000000
set_option synthInstance.maxSize 1000
namespace Go.E3
open Go Go.Ear Go.Proofs
def pdL : List (List En) → Nat
  | [] => 1
  | o :: L => o.length * pdL L
theorem pdL_app : ∀ A B : List (List En), pdL (A ++ B) = pdL A * pdL B
  | [], B => (Nat.one_mul _).symm
  | o :: A, B => by
    show o.length * pdL (A ++ B) = o.length * pdL A * pdL B
    rw [pdL_app A B, Nat.mul_assoc]
theorem pdL_pos : ∀ {L : List (List En)}, ([] ∉ L) → 0 < pdL L
  | [], _ => Nat.one_pos
  | o :: L, h => by
    refine Nat.mul_pos (Nat.pos_of_ne_zero fun e => h ?_) (pdL_pos fun x => h (List.mem_cons_of_mem _ x))
    rw [List.eq_nil_of_length_eq_zero e]; exact List.mem_cons_self ..
theorem choF : ∀ (L : List (List En)) (n : Nat), n ≤ 5001 → L.foldl (fun n o => min (n * o.length) 5001) n = min (n * pdL L) 5001
  | [], n, h => by
    show n = min (n * 1) 5001
    omega
  | o :: L, n, h => by
    rw [List.foldl_cons, choF L _ (Nat.min_le_right ..)]
    show min (min (n * o.length) 5001 * pdL L) 5001 = min (n * (o.length * pdL L)) 5001
    rw [← Nat.mul_assoc]
    generalize n * o.length = m
    by_cases hm : m ≤ 5001
    · rw [Nat.min_eq_left hm]
    · rw [Nat.min_eq_right (show 5001 ≤ m by omega)]
      rcases Nat.eq_zero_or_pos (pdL L) with e | e
      · rw [e]; simp
      · have h1 : 5001 ≤ 5001 * pdL L := Nat.le_mul_of_pos_right _ e
        have h2 : m ≤ m * pdL L := Nat.le_mul_of_pos_right _ e
        omega
theorem choN_pd (L : List (List En)) : choN L = min (pdL L) 5001 := by
  rw [show choN L = L.foldl (fun n o => min (n * o.length) 5001) 1 from rfl, choF L 1 (by omega), Nat.one_mul]
theorem choP_app (A B : List (List En)) : choP (A ++ B) = choP A + choP B := by
  have h : ∀ (L : List (List En)) (n : Nat), L.foldl (fun p o => p + maxP o) n = n + L.foldl (fun p o => p + maxP o) 0 := fun L => by
    induction L with
    | nil => exact fun n => rfl
    | cons o L ih => exact fun n => by rw [List.foldl_cons, List.foldl_cons, ih, ih (0 + maxP o)]; omega
  unfold choP
  rw [List.foldl_append, h B]
theorem owns_app (l : List En) (a b : List ByteArray) : owns l (a ++ b) = owns l a ++ owns l b := List.map_append ..
theorem choE_app {l : List En} {a b : List ByteArray} (h : choE l (a ++ b) = 0) : choE l a = 0 ∧ choE l b = 0 := by
  unfold choE at h
  rw [owns_app] at h
  split at h
  · exact absurd h (by decide)
  · rename_i c1
    split at h
    · exact absurd h (by decide)
    · rename_i c2
      rw [hasE_iff, List.mem_append, not_or] at c1
      rw [choN_pd, pdL_app, choP_app] at c2
      have p1 := pdL_pos c1.1
      have p2 := pdL_pos c1.2
      have h1 : pdL (owns l a) ≤ pdL (owns l a) * pdL (owns l b) := Nat.le_mul_of_pos_right _ p2
      have h2 : pdL (owns l b) ≤ pdL (owns l a) * pdL (owns l b) := Nat.le_mul_of_pos_left _ p1
      unfold choE
      constructor
      · rw [if_neg fun h => c1.1 (hasE_iff.1 h), choN_pd, if_neg (by omega)]
      · rw [if_neg fun h => c1.2 (hasE_iff.1 h), choN_pd, if_neg (by omega)]
theorem phB_sub {p q : List Int} {m : Int} (h : phB q m = true) (hs : ∀ x ∈ p, x ∈ q) (hl : p.length ≤ q.length) : phB p m = true := by
  unfold phB at h ⊢
  rw [Bool.and_eq_true, decide_eq_true_iff, Bool.not_eq_true', List.any_eq_false] at h ⊢
  exact ⟨by omega, fun x hx => h.2 x (hs x hx)⟩
theorem PnS.part {l : List En} {w ws : List ByteArray} (s : PnS l [] ws) (h4 : ws.length ≤ 4) (h : w.length ≤ ws.length) : PnS l [] w := ⟨s.lx, s.r, .inl (by omega), by have := s.n; omega, s.p⟩
theorem wgT_jw {l : List En} {ws : List ByteArray} {q : List Int} (s : PnS l [] ws) (h : wgE l [] ws q = 0) : wgT l [] ws q = jw (chs (owns l ws)) q := by
  unfold wgE at h
  split at h
  · rename_i c
    obtain ⟨c1, c2, c3, c8⟩ := c
    obtain ⟨d1, d2, d3⟩ := choE_ok h
    have ok := pn_ok s c1 c2 c3 d1 d2
    unfold wgT
    rw [if_pos ⟨c1, c2, c3, c8, h⟩, wgS_jw ok.c]
  · exact absurd h (by decide)
theorem wgE_part {l : List En} {a b : List ByteArray} {q : List Int} (h : wgE l [] (a ++ b) q = 0) (k : Nat) : wgE l [] a (q.take k) = 0 ∧ wgE l [] b (q.drop k) = 0 := by
  unfold wgE at h
  split at h
  · rename_i c
    obtain ⟨c1, c2, c3, c8⟩ := c
    rw [List.length_append] at c3
    obtain ⟨e1, e2⟩ := choE_app h
    unfold wgE
    rw [if_pos ⟨c1, c2, by omega, phB_sub c8 (fun x hx => List.mem_of_mem_take hx) (by rw [List.length_take]; omega)⟩, if_pos ⟨c1, c2, by omega, phB_sub c8 (fun x hx => List.mem_of_mem_drop hx) (by rw [List.length_drop]; omega)⟩]
    exact ⟨e1, e2⟩
  · exact absurd h (by decide)
def jnS (l : List En) (a b : List ByteArray) (q : List Int) (n : Nat) : Rat := sQ ((List.range n).map fun k => wgT l [] a (q.take k) * wgT l [] b (q.drop k))
theorem jnS_succ (l : List En) (a b : List ByteArray) (q : List Int) (n : Nat) : jnS l a b q (n + 1) = jnS l a b q n + wgT l [] a (q.take n) * wgT l [] b (q.drop n) := by
  unfold jnS
  rw [List.range_succ, List.map_append, sQ_app]
  show _ + (_ + 0) = _
  rw [Rat.add_zero]
theorem joins {l : List En} {a b : List ByteArray} {q : List Int} (s : PnS l [] (a ++ b)) (h4 : (a ++ b).length ≤ 4) (h : wgE l [] (a ++ b) q = 0) : wgT l [] (a ++ b) q = jnS l a b q (q.length + 1) := by
  rw [wgT_jw s h, owns_app, jw_app]
  unfold jnS
  rw [List.length_append] at h4
  refine sQ_congr fun k _ => ?_
  obtain ⟨e1, e2⟩ := wgE_part h k
  rw [wgT_jw (s.part (by rw [List.length_append]; omega) (by rw [List.length_append]; omega)) e1, wgT_jw (s.part (by rw [List.length_append]; omega) (by rw [List.length_append]; omega)) e2]
end Go.E3
