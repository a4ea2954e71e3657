/- About package frac: EarLaw3. -/
import Derived.Test.YtmidncjhlnfojaaDoorEarLaw2
set_option linter.all false
namespace Go.Ear
theorem any_snoc {α : Type} {p : α → Bool} {l : List α} {k : Nat} (d : α) (hk : k < l.length) : (l.take (k + 1)).any p = ((l.take k).any p || p (l.getD k d)) := by
  rw [take_snoc d hk, List.any_append]; simp
theorem foldA_shift (l : List Fr) : ∀ q, foldA q l = q + sumF l := by
  induction l with
  | nil => intro q; show q = q + 0; rw [Rat.add_zero]
  | cons f l ih =>
    intro q
    show foldA (q + f.rat) l = q + foldA (0 + f.rat) l
    rw [ih, ih (0 + f.rat), Rat.zero_add, Rat.add_assoc]
theorem sumF_cons (f : Fr) (l : List Fr) : sumF (f :: l) = f.rat + sumF l := by
  show foldA (0 + f.rat) l = _
  rw [foldA_shift, Rat.zero_add]
theorem sumF_mul (c : Rat) : ∀ l : List Fr, sumF ((l.map fun f => f.rat * c).map frK) = sumF l * c
  | [] => by show (0 : Rat) = 0 * c; rw [Rat.zero_mul]
  | f :: l => by rw [List.map_cons, List.map_cons, sumF_cons, sumF_cons, sumF_mul c l, frK_rat, Rat.add_mul]
theorem sumF_nonneg : ∀ {l : List Fr}, l.any negF = false → 0 ≤ sumF l
  | [], _ => by show (0 : Rat) ≤ 0; exact Rat.le_refl
  | f :: l, h => by
    rw [List.any_cons, Bool.or_eq_false_iff] at h
    have h1 : 0 ≤ f.rat := Rat.not_lt.1 (of_decide_eq_false h.1)
    rw [sumF_cons]
    exact Rat.add_nonneg h1 (sumF_nonneg h.2)
theorem normF_ok {l : List Fr} (h : l.any negF = false) (h0 : sumF l ≠ 0) : normF l = l.map fun f => f.rat * (sumF l)⁻¹ := by
  unfold normF
  rw [if_neg (by rintro (x | x); rw [h] at x; cases x; exact h0 x)]
theorem norm_len {l : List Fr} (h : l.any negF = false) (h0 : sumF l ≠ 0) : (normF l).length = l.length := by rw [normF_ok h h0, List.length_map]
theorem norm_at {l : List Fr} {k : Nat} (h : l.any negF = false) (h0 : sumF l ≠ 0) (hk : k < l.length) : (normF l).getD k 0 = (l.getD k fr0).rat / sumF l := by
  rw [normF_ok h h0, Rat.div_def, List.getD_eq_getElem?_getD, List.getD_eq_getElem?_getD, List.getElem?_map, List.getElem?_eq_getElem hk]; rfl
theorem norm_dist {l : List Fr} (h : l.any negF = false) (h0 : sumF l ≠ 0) : distF ((normF l).map frK) = true := by
  have hs : 0 < sumF l := by
    have := sumF_nonneg h
    exact Rat.lt_of_le_of_ne this (fun e => h0 e.symm)
  have hi : 0 < (sumF l)⁻¹ := Rat.inv_pos.2 hs
  rw [normF_ok h h0]
  unfold distF
  rw [Bool.and_eq_true]
  constructor
  · rw [Bool.not_eq_true', List.any_eq_false]
    intro x hx
    obtain ⟨q, hq, rfl⟩ := List.mem_map.1 hx
    obtain ⟨f, hf, rfl⟩ := List.mem_map.1 hq
    have hn := List.any_eq_false.1 h f hf
    unfold negF at hn ⊢
    rw [decide_eq_true_iff] at hn ⊢
    rw [frK_rat]
    intro hlt
    have h1 : 0 ≤ f.rat := Rat.not_lt.1 hn
    have := Rat.mul_nonneg h1 (Rat.le_of_lt hi)
    exact absurd hlt (Rat.not_lt.2 this)
  · rw [decide_eq_true_iff, sumF_mul, Rat.mul_inv_cancel _ h0]
theorem norm_wts {l : List Fr} {B : Nat} (hb : ∀ x ∈ l, bq x.rat ≤ bf x) (hs : bq (sumF l) ≤ B) (h : l.any negF = false) (h0 : sumF l ≠ 0) : wts ((normF l).map frK) ≤ wts l + B * l.length := by
  rw [normF_ok h h0]
  have hi := bq_inv' (sumF l)
  generalize (sumF l)⁻¹ = c at hi
  clear h h0
  induction l with
  | nil => simp [wts_nil]
  | cons f l ih =>
    rw [List.map_cons, List.map_cons, wts_cons, wts_cons, bf_frK, List.length_cons, Nat.mul_succ]
    have h1 := bq_mul f.rat c
    have h2 := hb f (List.mem_cons_self ..)
    have h3 : wts ((l.map fun f => f.rat * c).map frK) ≤ wts l + B * l.length := by
      have key : ∀ (m : List Fr), (∀ x ∈ m, bq x.rat ≤ bf x) → wts ((m.map fun f => f.rat * c).map frK) ≤ wts m + B * m.length := by
        intro m
        induction m with
        | nil => intro _; simp [wts_nil]
        | cons g m ihm =>
          intro hm
          rw [List.map_cons, List.map_cons, wts_cons, wts_cons, bf_frK, List.length_cons, Nat.mul_succ]
          have g1 := bq_mul g.rat c
          have g2 := hm g (List.mem_cons_self ..)
          have g3 := ihm (fun x hx => hm x (List.mem_cons_of_mem _ hx))
          omega
      exact key l (fun x hx => hb x (List.mem_cons_of_mem _ hx))
    omega
end Go.Ear
