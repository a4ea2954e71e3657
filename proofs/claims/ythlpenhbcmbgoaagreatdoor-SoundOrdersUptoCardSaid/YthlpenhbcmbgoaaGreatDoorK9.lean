/- K9: a part of the proofs about what is clipped and stored: how the program's functions run, and what they compute, for every input. -/
import Derived.Shelf.SlSortCmp.NoneTotal
import Derived.Shelf.SlSortCmp.WholeK
import Derived.Shelf.SlSortCmp.Whole1
import Derived.Test.YthlpenhbcmbgoaaGreatDoorK8
import Derived.Test.YthlpenhbcmbgoaaGreatDoorK3
import Derived.Test.YthlpenhbcmbgoaaGreatDoorK6
set_option linter.all false
set_option linter.unusedVariables false
set_option linter.unusedSectionVars false
set_option maxRecDepth 20000
namespace Go.E3
open Go Go.Ear
def decV (l : List UInt8) : Nat := l.foldl (fun a d => 10 * a + (d.toNat - 48)) 0
theorem decV_app (a : List UInt8) (d : UInt8) : decV (a ++ [d]) = 10 * decV a + (d.toNat - 48) := by unfold decV; rw [List.foldl_append]; rfl
theorem dig_toNat {u : Nat} (h : u < 10) : (UInt8.ofNat (48 + u)).toNat = 48 + u := by
  rw [UInt8.toNat_ofNat']; omega
theorem decDigits_val (u : Nat) : decV (Lib.decDigits u) = u ∧ ∀ d ∈ Lib.decDigits u, 48 ≤ d.toNat ∧ d.toNat ≤ 57 := by
  induction u using Nat.strongRecOn with
  | ind u ih =>
    rw [Lib.decDigits]
    by_cases h : u < 10
    · rw [dif_pos h]
      have e := dig_toNat h
      refine ⟨?_, fun d hd => ?_⟩
      · show 10 * 0 + ((UInt8.ofNat (48 + u)).toNat - 48) = u
        rw [e]; omega
      · rw [List.mem_singleton.1 hd, e]; omega
    · rw [dif_neg h]
      obtain ⟨a, b⟩ := ih (u / 10) (by omega)
      have e := dig_toNat (u := u % 10) (by omega)
      refine ⟨by rw [decV_app, a, e]; omega, fun d hd => ?_⟩
      rcases List.mem_append.1 hd with hd | hd
      · exact b d hd
      · rw [List.mem_singleton.1 hd, e]; omega
theorem itoa_inj {p q : Int} (h : Lib.itoa p = Lib.itoa q) : p = q := by
  unfold Lib.itoa at h
  have key : ∀ u v : Nat, (45 : UInt8) :: Lib.decDigits u ≠ Lib.decDigits v := fun u v e => by
    have := (decDigits_val v).2 45 (by rw [← e]; exact List.mem_cons_self ..)
    have : (45 : UInt8).toNat = 45 := rfl
    omega
  by_cases h1 : p < 0
  · by_cases h2 : q < 0
    · rw [if_pos h1, if_pos h2, List.cons.injEq] at h
      have := congrArg decV h.2
      rw [(decDigits_val _).1, (decDigits_val _).1] at this
      omega
    · rw [if_pos h1, if_neg h2] at h; exact absurd h (key _ _)
  · by_cases h2 : q < 0
    · rw [if_neg h1, if_pos h2] at h; exact absurd h.symm (key _ _)
    · rw [if_neg h1, if_neg h2] at h
      have := congrArg decV h
      rw [(decDigits_val _).1, (decDigits_val _).1] at this
      omega
theorem itoa_no32 (p : Int) : ∀ d ∈ Lib.itoa p, d ≠ 32 := by
  intro d hd e
  subst e
  have h32 : (32 : UInt8).toNat = 32 := rfl
  unfold Lib.itoa at hd
  split at hd
  · rcases List.mem_cons.1 hd with h | h
    · exact absurd h (by decide)
    · have := (decDigits_val _).2 _ h; omega
  · have := (decDigits_val _).2 _ hd; omega
theorem split32 : ∀ {a b x y : List UInt8}, (∀ d ∈ a, d ≠ 32) → (∀ d ∈ b, d ≠ 32) → a ++ 32 :: x = b ++ 32 :: y → a = b ∧ x = y
  | [], [], x, y, _, _, h => ⟨rfl, by simpa using h⟩
  | [], d :: b, x, y, _, hb, h => by
    rw [List.nil_append, List.cons_append, List.cons.injEq] at h
    exact absurd h.1.symm (hb d (List.mem_cons_self ..))
  | d :: a, [], x, y, ha, _, h => by
    rw [List.nil_append, List.cons_append, List.cons.injEq] at h
    exact absurd h.1 (ha d (List.mem_cons_self ..))
  | d :: a, e :: b, x, y, ha, hb, h => by
    rw [List.cons_append, List.cons_append, List.cons.injEq] at h
    obtain ⟨h1, h2⟩ := split32 (fun z hz => ha z (List.mem_cons_of_mem _ hz)) (fun z hz => hb z (List.mem_cons_of_mem _ hz)) h.2
    rw [h.1, h1, h2]; exact ⟨rfl, rfl⟩
theorem prtL_inj : ∀ {a b : List Int}, prtL a = prtL b → a = b
  | [], [], _ => rfl
  | [], q :: b, h => by
    unfold prtL at h
    rw [List.flatMap_cons, List.flatMap_nil] at h
    exact absurd (congrArg List.length h) (by simp)
  | p :: a, [], h => by
    unfold prtL at h
    rw [List.flatMap_cons, List.flatMap_nil] at h
    exact absurd (congrArg List.length h) (by simp)
  | p :: a, q :: b, h => by
    unfold prtL at h
    rw [List.flatMap_cons, List.flatMap_cons, List.append_assoc, List.append_assoc] at h
    obtain ⟨h1, h2⟩ := split32 (itoa_no32 p) (itoa_no32 q) h
    rw [itoa_inj h1, prtL_inj (a := a) (b := b) h2]
theorem prtB_inj {a b : List Int} (h : prtB a = prtB b) : a = b := by
  unfold prtB at h
  injection h with h
  exact prtL_inj (by simpa using congrArg Array.toList h)
abbrev Bag (α : Type) := List (α × Rat)
section
variable {α : Type} [DecidableEq α]
def tot (b : Bag α) (p : α) : Rat := sQ ((b.filter fun x => decide (x.1 = p)).map (·.2))
def hasB (b : Bag α) (p : α) : Prop := ∃ w, (p, w) ∈ b
theorem tot_app (a b : Bag α) (p : α) : tot (a ++ b) p = tot a p + tot b p := by unfold tot; rw [List.filter_append, List.map_append, sQ_app]
theorem tot_one (q : α) (w : Rat) (p : α) : tot [(q, w)] p = if q = p then w else 0 := by
  unfold tot
  by_cases h : q = p
  · rw [if_pos h, List.filter_cons_of_pos (by simpa using h)]
    show w + 0 = w; rw [Rat.add_zero]
  · rw [if_neg h, List.filter_cons_of_neg (by simpa using h)]; rfl
theorem has_app (a b : Bag α) (p : α) : hasB (a ++ b) p ↔ hasB a p ∨ hasB b p := by
  unfold hasB
  constructor
  · rintro ⟨w, h⟩
    rcases List.mem_append.1 h with h | h
    · exact .inl ⟨w, h⟩
    · exact .inr ⟨w, h⟩
  · rintro (⟨w, h⟩ | ⟨w, h⟩)
    · exact ⟨w, List.mem_append_left _ h⟩
    · exact ⟨w, List.mem_append_right _ h⟩
theorem has_one (q : α) (w : Rat) (p : α) : hasB [(q, w)] p ↔ p = q := by
  unfold hasB
  constructor
  · rintro ⟨x, h⟩; rw [List.mem_singleton, Prod.mk.injEq] at h; exact h.1
  · rintro rfl; exact ⟨w, List.mem_singleton.2 rfl⟩
theorem tot_none {b : Bag α} {p : α} (h : ¬ hasB b p) : tot b p = 0 := by
  unfold tot
  rw [List.filter_eq_nil_iff.2 fun x hx e => h ⟨x.2, by
    have : x.1 = p := by simpa using e
    rw [← this]; exact hx⟩]; rfl
theorem tot_perm {a b : Bag α} (h : a.Perm b) (p : α) : tot a p = tot b p := sQ_perm ((h.filter _).map _)
theorem has_perm {a b : Bag α} (h : a.Perm b) (p : α) : hasB a p ↔ hasB b p := ⟨fun ⟨w, x⟩ => ⟨w, h.mem_iff.1 x⟩, fun ⟨w, x⟩ => ⟨w, h.mem_iff.2 x⟩⟩
end
def MK {α β : Type} [DecidableEq α] (key : α → ByteArray) (mk : α → Rat → β) (l : List (ByteArray × β)) (b : Bag α) : Prop :=
  (l.map (·.1)).Nodup ∧ ∀ s x, (s, x) ∈ l ↔ ∃ p, hasB b p ∧ s = key p ∧ x = mk p (tot b p)
section
variable {α β : Type} [DecidableEq α] {key : α → ByteArray} {mk : α → Rat → β} {l : List (ByteArray × β)} {b b' : Bag α}
theorem MK.nil : MK key mk [] [] := by
  refine ⟨List.nodup_nil, fun s x => ?_⟩
  constructor
  · intro h; cases h
  · rintro ⟨p, ⟨w, h⟩, _⟩; cases h
theorem MK.same (m : MK key mk l b) (h1 : ∀ p, hasB b p ↔ hasB b' p) (h2 : ∀ p, tot b p = tot b' p) : MK key mk l b' := ⟨m.1, fun s x => by
  rw [m.2]
  constructor
  · rintro ⟨p, a, c, d⟩; exact ⟨p, (h1 p).1 a, c, by rw [← h2]; exact d⟩
  · rintro ⟨p, a, c, d⟩; exact ⟨p, (h1 p).2 a, c, by rw [h2]; exact d⟩⟩
theorem mget_mem {γ : Type} {l : List (ByteArray × γ)} (nd : (l.map (·.1)).Nodup) {s : ByteArray} {x : γ} : mget l s = some x ↔ (s, x) ∈ l := by
  induction l with
  | nil => simp [mget]
  | cons y l ih =>
    rw [List.map_cons, List.nodup_cons] at nd
    unfold mget at *
    rw [List.find?_cons]
    by_cases h : y.1 = s
    · have hb : (y.1 == s) = true := by rw [h]; exact bb_self s
      rw [hb]
      simp only [Option.map_some, Option.some.injEq, List.mem_cons]
      constructor
      · rintro rfl; exact .inl (by rw [← h])
      · rintro (e | e)
        · rw [← e]
        · exact absurd (List.mem_map.2 ⟨_, e, rfl⟩) (by rw [← h]; exact nd.1)
    · rw [bb_ne h]
      simp only [List.mem_cons]
      rw [ih nd.2]
      constructor
      · exact .inr
      · rintro (e | e)
        · rw [← e] at h; exact absurd rfl h
        · exact e
theorem mget_none {γ : Type} {l : List (ByteArray × γ)} {s : ByteArray} : mget l s = none ↔ ∀ x, (s, x) ∉ l := by
  unfold mget
  rw [Option.map_eq_none_iff, List.find?_eq_none]
  constructor
  · intro h x hx; exact h _ hx (bb_self s)
  · intro h y hy e
    rw [bbq, decide_eq_true_iff] at e
    exact h y.2 (by rw [← e]; exact hy)
theorem MK.get (m : MK key mk l b) (inj : ∀ p q, key p = key q → p = q) (p : α) : (hasB b p → mget l (key p) = some (mk p (tot b p))) ∧ (¬ hasB b p → mget l (key p) = none) := by
  refine ⟨fun h => (mget_mem m.1).2 ((m.2 _ _).2 ⟨p, h, rfl, rfl⟩), fun h => mget_none.2 fun x hx => ?_⟩
  obtain ⟨q, hq, e, _⟩ := (m.2 _ _).1 hx
  exact h (by rw [inj _ _ e]; exact hq)
theorem mset_keys {γ : Type} : ∀ {l : List (ByteArray × γ)} {s : ByteArray} {x : γ}, (∀ k, k ∈ (mset l s x).map (·.1) ↔ k = s ∨ k ∈ l.map (·.1)) ∧ ((l.map (·.1)).Nodup → ((mset l s x).map (·.1)).Nodup)
  | [], s, x => ⟨fun k => by simp [mset], fun _ => by simp [mset]⟩
  | y :: l, s, x => by
    unfold mset
    obtain ⟨h1, h2⟩ := mset_keys (l := l) (s := s) (x := x)
    by_cases h : y.1 = s
    · rw [if_pos (by rw [h]; exact bb_self s)]
      simp only [List.map_cons, List.mem_cons, h]
      refine ⟨fun k => ?_, fun nd => by simpa [h] using nd⟩
      constructor
      · rintro (e | e); exact .inl e; exact .inr (.inr e)
      · rintro (e | e | e); exact .inl e; exact .inl e; exact .inr e
    · rw [if_neg (by rw [bb_ne h]; decide)]
      simp only [List.map_cons, List.mem_cons, h1]
      refine ⟨fun k => ?_, fun nd => ?_⟩
      · constructor
        · rintro (e | e | e); exact .inr (.inl e); exact .inl e; exact .inr (.inr e)
        · rintro (e | e | e); exact .inr (.inl e); exact .inl e; exact .inr (.inr e)
      · rw [List.nodup_cons] at nd ⊢
        refine ⟨fun e => ?_, h2 nd.2⟩
        rcases (h1 _).1 e with e | e
        · exact h e
        · exact nd.1 e
theorem mset_mem {γ : Type} : ∀ {l : List (ByteArray × γ)} {s : ByteArray} {x : γ}, (l.map (·.1)).Nodup → ∀ k y, (k, y) ∈ mset l s x ↔ (k = s ∧ y = x) ∨ (k ≠ s ∧ (k, y) ∈ l)
  | [], s, x, _, k, y => by simp [mset]
  | z :: l, s, x, nd, k, y => by
    rw [List.map_cons, List.nodup_cons] at nd
    unfold mset
    by_cases h : z.1 = s
    · rw [if_pos (by rw [h]; exact bb_self s)]
      simp only [List.mem_cons, Prod.mk.injEq]
      constructor
      · rintro (e | e)
        · exact .inl e
        · exact .inr ⟨fun e2 => nd.1 (by rw [h, ← e2]; exact List.mem_map.2 ⟨_, e, rfl⟩), .inr e⟩
      · rintro (e | ⟨e1, e | e⟩)
        · exact .inl e
        · rw [← e] at h; exact absurd h e1
        · exact .inr e
    · rw [if_neg (by rw [bb_ne h]; decide)]
      simp only [List.mem_cons]
      rw [mset_mem nd.2]
      constructor
      · rintro (e | e | ⟨e1, e⟩)
        · exact .inr ⟨by rw [← e] at h; exact h, .inl e⟩
        · exact .inl e
        · exact .inr ⟨e1, .inr e⟩
      · rintro (e | ⟨e1, e | e⟩)
        · exact .inr (.inl e)
        · exact .inl e
        · exact .inr (.inr ⟨e1, e⟩)
theorem MK.add (m : MK key mk l b) (inj : ∀ p q, key p = key q → p = q) (p : α) (w : Rat) : MK key mk (mset l (key p) (mk p (tot b p + w))) (b ++ [(p, w)]) := by
  refine ⟨mset_keys.2 m.1, fun s x => ?_⟩
  rw [mset_mem m.1, m.2]
  constructor
  · rintro (⟨rfl, rfl⟩ | ⟨h, q, hq, rfl, rfl⟩)
    · exact ⟨p, (has_app _ _ _).2 (.inr ((has_one _ _ _).2 rfl)), rfl, by rw [tot_app, tot_one, if_pos rfl]⟩
    · exact ⟨q, (has_app _ _ _).2 (.inl hq), rfl, by rw [tot_app, tot_one, if_neg fun e => h (by rw [e]), Rat.add_zero]⟩
  · rintro ⟨q, hq, rfl, rfl⟩
    by_cases e : q = p
    · subst e
      exact .inl ⟨rfl, by rw [tot_app, tot_one, if_pos rfl]⟩
    · refine .inr ⟨fun e2 => e (inj _ _ e2), q, ?_, rfl, by rw [tot_app, tot_one, if_neg fun e2 => e e2.symm, Rat.add_zero]⟩
      rcases (has_app _ _ _).1 hq with h | h
      · exact h
      · exact absurd ((has_one _ _ _).1 h) e
end
end Go.E3
set_option linter.unusedVariables false
set_option linter.unusedSectionVars false
namespace Go.E3
open Go Go.Ear
theorem sQ_zero {α : Type} {f : α → Rat} : ∀ {l : List α}, (∀ x ∈ l, f x = 0) → sQ (l.map f) = 0
  | [], _ => rfl
  | x :: l, h => by
    show f x + sQ (l.map f) = 0
    rw [h x (List.mem_cons_self ..), sQ_zero fun y hy => h y (List.mem_cons_of_mem _ hy), Rat.add_zero]
theorem sQ_add {α : Type} (f g : α → Rat) : ∀ l : List α, sQ (l.map fun x => f x + g x) = sQ (l.map f) + sQ (l.map g)
  | [] => by show (0 : Rat) = 0 + 0; rw [Rat.add_zero]
  | x :: l => by
    show f x + g x + sQ (l.map fun x => f x + g x) = f x + sQ (l.map f) + (g x + sQ (l.map g))
    rw [sQ_add f g l]; grind
theorem sQ_congr {α : Type} {f g : α → Rat} : ∀ {l : List α}, (∀ x ∈ l, f x = g x) → sQ (l.map f) = sQ (l.map g)
  | [], _ => rfl
  | x :: l, h => by
    show f x + _ = g x + _
    rw [h x (List.mem_cons_self ..), sQ_congr fun y hy => h y (List.mem_cons_of_mem _ hy)]
section
variable {α β : Type} [DecidableEq α] [DecidableEq β]
def dd : List α → List α
  | [] => []
  | x :: l => if x ∈ l then dd l else x :: dd l
theorem mem_dd {x : α} : ∀ {l : List α}, x ∈ dd l ↔ x ∈ l
  | [] => Iff.rfl
  | y :: l => by
    unfold dd
    split
    · rename_i h
      rw [mem_dd, List.mem_cons]
      exact ⟨.inr, fun e => e.elim (fun e => by rw [e]; exact h) id⟩
    · rw [List.mem_cons, List.mem_cons, mem_dd]
theorem nodup_dd : ∀ l : List α, (dd l).Nodup
  | [] => List.nodup_nil
  | y :: l => by
    unfold dd
    split
    · exact nodup_dd l
    · rename_i h
      exact List.nodup_cons.2 ⟨fun e => h (mem_dd.1 e), nodup_dd l⟩
theorem sQ_single {g : α → Rat} {a : α} {c : Rat} : ∀ {S : List α}, S.Nodup → a ∈ S → sQ (S.map fun p => g p * (if a = p then c else 0)) = g a * c
  | [], _, h => (List.not_mem_nil h).elim
  | s :: S, nd, h => by
    rw [List.nodup_cons] at nd
    show g s * (if a = s then c else 0) + sQ (S.map _) = _
    by_cases e : a = s
    · subst e
      rw [if_pos rfl, sQ_zero, Rat.add_zero]
      intro x hx
      rw [if_neg (fun e => nd.1 (by rw [e]; exact hx)), Rat.mul_zero]
    · rw [if_neg e, Rat.mul_zero, Rat.zero_add]
      rcases List.mem_cons.1 h with h | h
      · exact absurd h e
      · exact sQ_single nd.2 h
theorem tot_cons (x : α × Rat) (b : Bag α) (p : α) : tot (x :: b) p = (if x.1 = p then x.2 else 0) + tot b p := by
  rw [show x :: b = [(x.1, x.2)] ++ b from rfl, tot_app, tot_one]
theorem tot_nil (p : α) : tot ([] : Bag α) p = 0 := rfl
theorem has_cons (x : α × Rat) (b : Bag α) (p : α) : hasB (x :: b) p ↔ p = x.1 ∨ hasB b p := by
  rw [show x :: b = [(x.1, x.2)] ++ b from rfl, has_app, has_one]
theorem has_nil (p : α) : ¬ hasB ([] : Bag α) p := fun ⟨_, h⟩ => List.not_mem_nil h
structure BE (a b : Bag α) : Prop where
  h : ∀ p, hasB a p ↔ hasB b p
  t : ∀ p, tot a p = tot b p
theorem BE.refl (a : Bag α) : BE a a := ⟨fun _ => Iff.rfl, fun _ => rfl⟩
theorem BE.of_eq {a b : Bag α} (e : a = b) : BE a b := e ▸ BE.refl a
theorem BE.symm {a b : Bag α} (e : BE a b) : BE b a := ⟨fun p => (e.h p).symm, fun p => (e.t p).symm⟩
theorem BE.trans {a b c : Bag α} (e : BE a b) (f : BE b c) : BE a c := ⟨fun p => (e.h p).trans (f.h p), fun p => (e.t p).trans (f.t p)⟩
theorem BE.app {a a' b b' : Bag α} (e : BE a a') (f : BE b b') : BE (a ++ b) (a' ++ b') := ⟨fun p => by rw [has_app, has_app, e.h, f.h], fun p => by rw [tot_app, tot_app, e.t, f.t]⟩
theorem BE.perm {a b : Bag α} (h : a.Perm b) : BE a b := ⟨has_perm h, tot_perm h⟩
def lin (g : α → Rat) (b : Bag α) : Rat := sQ (b.map fun x => g x.1 * x.2)
theorem lin_cons (g : α → Rat) (x : α × Rat) (b : Bag α) : lin g (x :: b) = g x.1 * x.2 + lin g b := rfl
theorem lin_over {g : α → Rat} {S : List α} (nd : S.Nodup) : ∀ {a : Bag α}, (∀ p, hasB a p → p ∈ S) → lin g a = sQ (S.map fun p => g p * tot a p)
  | [], _ => by rw [sQ_zero fun x _ => by rw [tot_nil, Rat.mul_zero]]; rfl
  | x :: a, h => by
    rw [lin_cons, lin_over nd (a := a) fun p hp => h p ((has_cons _ _ _).2 (.inr hp))]
    have e : (fun p => g p * tot (x :: a) p) = fun p => g p * (if x.1 = p then x.2 else 0) + g p * tot a p := by
      funext p; rw [tot_cons, Rat.mul_add]
    rw [e, sQ_add, sQ_single nd (h _ ((has_cons _ _ _).2 (.inl rfl)))]
theorem BE.lin {a b : Bag α} (e : BE a b) (g : α → Rat) : lin g a = lin g b := by
  have h1 : ∀ p, hasB a p → p ∈ dd (a.map (·.1)) := fun p ⟨w, hp⟩ => mem_dd.2 (List.mem_map.2 ⟨_, hp, rfl⟩)
  rw [lin_over (nodup_dd _) h1, lin_over (nodup_dd (a.map (·.1))) fun p hp => h1 p ((e.h p).2 hp)]
  exact sQ_congr fun p _ => by rw [e.t]
def bm (f : α → β) (w : Rat) (b : Bag α) : Bag β := b.map fun x => (f x.1, x.2 * w)
theorem tot_bm {f : α → β} {w : Rat} (p : β) : ∀ b : Bag α, tot (bm f w b) p = lin (fun q => if f q = p then w else 0) b
  | [] => rfl
  | x :: b => by
    show tot ((f x.1, x.2 * w) :: bm f w b) p = _
    rw [tot_cons, lin_cons, tot_bm p b]
    by_cases h : f x.1 = p
    · rw [if_pos h, if_pos h, Rat.mul_comm]
    · rw [if_neg h, if_neg h, Rat.zero_mul]
theorem has_bm {f : α → β} {w : Rat} {b : Bag α} {p : β} : hasB (bm f w b) p ↔ ∃ q, hasB b q ∧ f q = p := by
  unfold hasB bm
  constructor
  · rintro ⟨z, h⟩
    obtain ⟨⟨q, v⟩, hx, e⟩ := List.mem_map.1 h
    exact ⟨q, ⟨v, hx⟩, congrArg Prod.fst e⟩
  · rintro ⟨q, ⟨v, h⟩, rfl⟩
    exact ⟨v * w, List.mem_map.2 ⟨_, h, rfl⟩⟩
theorem BE.bm {a b : Bag α} (e : BE a b) (f : α → β) (w : Rat) : BE (bm f w a) (bm f w b) := ⟨fun p => by rw [has_bm, has_bm]; simp only [e.h], fun p => by rw [tot_bm, tot_bm, e.lin]⟩
def cnt (b : Bag α) : Nat := (dd (b.map (·.1))).length
theorem mem_keys {b : Bag α} {p : α} : p ∈ dd (b.map (·.1)) ↔ hasB b p := by
  rw [mem_dd, List.mem_map]
  exact ⟨fun ⟨x, hx, e⟩ => ⟨x.2, by rw [← e]; exact hx⟩, fun ⟨w, h⟩ => ⟨_, h, rfl⟩⟩
theorem nd_len {γ : Type} : ∀ {a b : List γ}, a.Nodup → (∀ x, x ∈ a → x ∈ b) → a.length ≤ b.length
  | [], _, _, _ => Nat.zero_le _
  | x :: a, b, nd, h => by
    rw [List.nodup_cons] at nd
    obtain ⟨s, t, rfl⟩ := List.append_of_mem (h x (List.mem_cons_self ..))
    have := nd_len (a := a) (b := s ++ t) nd.2 fun y hy => by
      have := h y (List.mem_cons_of_mem _ hy)
      rcases List.mem_append.1 this with h1 | h1
      · exact List.mem_append_left _ h1
      · rcases List.mem_cons.1 h1 with h2 | h2
        · subst h2; exact absurd hy nd.1
        · exact List.mem_append_right _ h2
    rw [List.length_append] at this
    rw [List.length_append, List.length_cons, List.length_cons]; omega
theorem nd_eq {γ : Type} {a b : List γ} (ha : a.Nodup) (hb : b.Nodup) (h : ∀ x, x ∈ a ↔ x ∈ b) : a.length = b.length := Nat.le_antisymm (nd_len ha fun x => (h x).1) (nd_len hb fun x => (h x).2)
theorem BE.cnt {a b : Bag α} (e : BE a b) : cnt a = cnt b := nd_eq (nodup_dd _) (nodup_dd _) fun p => by rw [mem_keys, mem_keys, e.h]
theorem cnt_le (b : Bag α) : cnt b ≤ b.length := by
  have := nd_len (nodup_dd (b.map (·.1))) (b := b.map (·.1)) fun x => mem_dd.1
  rwa [List.length_map] at this
theorem cnt_mono {a b : Bag α} (h : ∀ p, hasB a p → hasB b p) : cnt a ≤ cnt b := nd_len (nodup_dd _) fun x hx => mem_keys.2 (h x (mem_keys.1 hx))
theorem MK.len {key : α → ByteArray} {γ : Type} {mk : α → Rat → γ} {l : List (ByteArray × γ)} {b : Bag α} (m : MK key mk l b) (inj : ∀ p q, key p = key q → p = q) : l.length = Go.E3.cnt b := by
  have h1 : (l.map (·.1)).length = ((dd (b.map (·.1))).map key).length := nd_eq m.1 (by
    have : ∀ {s : List α}, s.Nodup → (s.map key).Nodup := by
      intro s
      induction s with
      | nil => intro _; exact List.nodup_nil
      | cons x s ih =>
        intro nd
        rw [List.nodup_cons] at nd
        rw [List.map_cons, List.nodup_cons]
        refine ⟨fun e => ?_, ih nd.2⟩
        obtain ⟨y, hy, e⟩ := List.mem_map.1 e
        exact nd.1 (by rw [← inj _ _ e]; exact hy)
    exact this (nodup_dd _)) fun s => by
      constructor
      · intro hs
        obtain ⟨⟨s', x⟩, hx, rfl⟩ := List.mem_map.1 hs
        obtain ⟨p, hp, e, _⟩ := (m.2 _ _).1 hx
        exact List.mem_map.2 ⟨p, mem_keys.2 hp, e.symm⟩
      · intro hs
        obtain ⟨p, hp, rfl⟩ := List.mem_map.1 hs
        exact List.mem_map.2 ⟨(key p, mk p (tot b p)), (m.2 _ _).2 ⟨p, mem_keys.1 hp, rfl, rfl⟩, rfl⟩
  rw [List.length_map, List.length_map] at h1
  exact h1
end
def cr (a b : Bag (List Int)) : Bag (List Int) := a.flatMap fun x => b.map fun y => (x.1 ++ y.1, x.2 * y.2)
theorem cr_cons (x : List Int × Rat) (a b : Bag (List Int)) : cr (x :: a) b = (b.map fun y => (x.1 ++ y.1, x.2 * y.2)) ++ cr a b := rfl
theorem tot_cr (p : List Int) (b : Bag (List Int)) : ∀ a, tot (cr a b) p = lin (fun q => tot (bm (q ++ ·) 1 b) p) a
  | [] => rfl
  | x :: a => by
    rw [cr_cons, tot_app, lin_cons, tot_cr p b a]
    congr 1
    have : ∀ b : Bag (List Int), tot (b.map fun y => (x.1 ++ y.1, x.2 * y.2)) p = tot (bm (x.1 ++ ·) 1 b) p * x.2 := by
      intro b
      induction b with
      | nil => show (0 : Rat) = 0 * x.2; rw [Rat.zero_mul]
      | cons y b ih =>
        show tot ((x.1 ++ y.1, x.2 * y.2) :: b.map _) p = tot ((x.1 ++ y.1, y.2 * 1) :: bm _ 1 b) p * x.2
        rw [tot_cons, tot_cons, ih, Rat.add_mul]
        congr 1
        by_cases h : x.1 ++ y.1 = p
        · rw [if_pos h, if_pos h]; grind
        · rw [if_neg h, if_neg h, Rat.zero_mul]
    exact this b
theorem has_cr {p : List Int} {b : Bag (List Int)} : ∀ {a : Bag (List Int)}, hasB (cr a b) p ↔ ∃ q r, hasB a q ∧ hasB b r ∧ q ++ r = p
  | [] => ⟨fun h => (has_nil _ h).elim, fun ⟨_, _, h, _⟩ => (has_nil _ h).elim⟩
  | x :: a => by
    rw [cr_cons, has_app, has_cr (a := a)]
    constructor
    · rintro (⟨w, h⟩ | ⟨q, r, h1, h2, h3⟩)
      · obtain ⟨y, hy, e⟩ := List.mem_map.1 h
        exact ⟨x.1, y.1, (has_cons _ _ _).2 (.inl rfl), ⟨y.2, hy⟩, congrArg Prod.fst e⟩
      · exact ⟨q, r, (has_cons _ _ _).2 (.inr h1), h2, h3⟩
    · rintro ⟨q, r, h1, ⟨w, h2⟩, h3⟩
      rcases (has_cons _ _ _).1 h1 with rfl | h1
      · exact .inl ⟨x.2 * w, List.mem_map.2 ⟨_, h2, by rw [← h3]⟩⟩
      · exact .inr ⟨q, r, h1, ⟨w, h2⟩, h3⟩
theorem BE.cr {a a' b b' : Bag (List Int)} (e : BE a a') (f : BE b b') : BE (cr a b) (cr a' b') := ⟨fun p => by rw [has_cr, has_cr]; simp only [e.h, f.h], fun p => by
  rw [tot_cr, tot_cr, e.lin]
  congr 1
  funext q
  exact (f.bm _ _).t p⟩
end Go.E3
set_option linter.unusedVariables false
namespace Go.E3
open Go Go.Ear
section
variable {α β : Type} [DecidableEq α]
def PosB (b : Bag α) : Prop := ∀ x ∈ b, 0 < x.2
theorem tot_nonneg {b : Bag α} (h : PosB b) (p : α) : 0 ≤ tot b p := by
  refine sQ_nonneg fun x hx => ?_
  obtain ⟨y, hy, rfl⟩ := List.mem_map.1 hx
  exact Rat.le_of_lt (h y (List.mem_filter.1 hy).1)
theorem tot_pos {b : Bag α} (h : PosB b) {p : α} : 0 < tot b p ↔ hasB b p := by
  constructor
  · intro h0
    refine Classical.byContradiction fun hn => ?_
    rw [tot_none hn] at h0
    exact absurd h0 (by decide)
  · induction b with
    | nil => intro e; exact absurd e (has_nil p)
    | cons x b ih =>
      intro e
      have hb : PosB b := fun y hy => h y (List.mem_cons_of_mem _ hy)
      have h1 := tot_nonneg hb p
      have h2 := h x (List.mem_cons_self ..)
      rw [tot_cons]
      by_cases c : x.1 = p
      · rw [if_pos c]; grind
      · rw [if_neg c, Rat.zero_add]
        rcases (has_cons _ _ _).1 e with e | e
        · exact absurd e.symm c
        · exact ih hb e
theorem PosB.app {a b : Bag α} (h : PosB a) (k : PosB b) : PosB (a ++ b) := fun x hx => (List.mem_append.1 hx).elim (h x) (k x)
theorem PosB.fm {f : β → Bag α} {l : List β} (h : ∀ a ∈ l, PosB (f a)) : PosB (l.flatMap f) := fun x hx => by
  obtain ⟨a, ha, hb⟩ := List.mem_flatMap.1 hx
  exact h a ha x hb
end
theorem PosB.bm {α β : Type} {f : α → β} {w : Rat} {b : Bag α} (h : PosB b) (hw : 0 < w) : PosB (bm f w b) := fun x hx => by
  obtain ⟨y, hy, rfl⟩ := List.mem_map.1 hx
  exact Rat.mul_pos (h y hy) hw
def pre (o : Op') (b : Bag (List Int)) : Bag (List Int) := b.map fun x => (o.wr ++ x.1, o.f.rat * x.2)
def resF (r : List Rw) (l : List Int) : Nat → Nat → Bag (List Int)
  | 0, i => if i < l.length then [] else [([], 1)]
  | n + 1, i => if i < l.length then (optL r l i).flatMap fun o => pre o (resF r l n (i + o.pass.toNat)) else [([], 1)]
def res (r : List Rw) (l : List Int) (i : Nat) : Bag (List Int) := resF r l l.length i
structure OpOk (r : List Rw) (l : List Int) : Prop where
  p : ∀ i, i < l.length → ∀ o ∈ optL r l i, 1 ≤ o.pass.toNat ∧ i + o.pass.toNat ≤ l.length ∧ o.pass = (o.pass.toNat : Int) ∧ o.pass.toNat ≤ 4 ∧ o.wr.length ≤ 4
  w : ∀ i, i < l.length → ∀ o ∈ optL r l i, 0 < o.f.rat
  s : ∀ i, i < l.length → sQ ((optL r l i).map fun o => o.f.rat) = 1
section
variable {r : List Rw} {l : List Int}
def ats (r : List Rw) (l : List Int) : Nat → Nat → Bag (List Int)
  | 0, j => if j = 0 then [([], 1)] else []
  | i + 1, j => if j ≤ i then [] else ats r l i j ++ (optL r l i).flatMap fun o => if i + o.pass.toNat = j then bm (· ++ o.wr) o.f.rat (ats r l i i) else []
theorem ats_succ {i j : Nat} (h : i < j) : ats r l (i + 1) j = ats r l i j ++ (optL r l i).flatMap fun o => if i + o.pass.toNat = j then bm (· ++ o.wr) o.f.rat (ats r l i i) else [] := by
  conv => lhs; unfold ats
  rw [if_neg (by omega)]
def glue (r : List Rw) (l : List Int) (i : Nat) : Bag (List Int) := (List.range (l.length + 1)).flatMap fun j => cr (ats r l i j) (res r l j)
end
end Go.E3
set_option linter.unusedVariables false
set_option maxHeartbeats 4000000
namespace Go.E3
open Go Go.Ear Go.Proofs Go.Shelf
structure CmpC (P : Program) {β : Type} (g : FuncId) (cs : β → SV) (Q : β → Prop) (cf : β → β → Int) : Prop where
  fn : IsFn P g
  h : ∀ {x y}, Q x → Q y → ∀ {h w vs}, Sat h w → denL h [cs x, cs y] vs → Calls P g vs.toArray w (Ret h w fun h' v => den h' (iv (cf x y)) v)
section
variable {P : Program} {ρ : Ren} {β : Type} {r : Rp β} {cs : β → List SV} {e : TypeId} {cf : β → β → Int} {Q : β → Prop} {g : FuncId} {v : Value} {l : List β} {B : List Res} {sd : Prop}
theorem swd_sat {h : PH} {w W : World} {b : Nat} {arr F : Array Value} (s : SWd w W b arr e F) (sat : Sat h w) (hb : h b = none) : Sat (del h) W := fun i o x => by
  have x' := del_le h i o x
  rw [s.ow.block i (sat.lt (by rw [x']; exact fun h => nomatch h)) (by rintro ⟨⟩; rw [hb] at x'; cases x')]
  exact sat i o x'
theorem tab_size {h : PH} {w : World} (t : Tab h) (s : Sat h w) : 1 < w.heap.size := by
  obtain ⟨e, fz, q⟩ := t
  exact s.lt (by rw [q]; exact fun h => nomatch h)
theorem cmp_world {S : β → SV} {x y : β} {h : PH} {w W : World} {b : Nat} {arr F : Array Value} {vs : List Value} (cc : CmpC P g S Q cf) (qx : Q x) (qy : Q y) (t : Tab h) (s : SWd w W b arr e F) (sat : Sat h w) (hb : h b = none) (u : denL (del h) [S x, S y] vs) :
    Calls P g vs.toArray W fun e w' => e = .returned (.int .i64 (cf x y)) ∧ ∃ q os', w' = Sort.grow (W.drewN q) os' := by
  refine (cc.h qx qy (swd_sat s sat hb) u).mono ?_
  rintro e w' ⟨v, h', rfl, gr, d⟩
  exact ⟨by rw [show v = _ from d], grow_of gr.ext (gr.drawn (del_one h) (Nat.lt_of_lt_of_le (tab_size t sat) s.ow.size))⟩
abbrev Kn (r : Rp β) (Q : β → Prop) (h : PH) := {p : List Value × β // r.R h p.1 p.2 ∧ Q p.2}
def mkKn {h : PH} : (css : List (List Value)) → (l : List β) → Go.Ear.Rows r h css l → (∀ x ∈ l, Q x) → List (Kn r Q h)
  | [], [], _, _ => []
  | c :: css, x :: l, u, q => ⟨(c, x), u.1, q x (List.mem_cons_self ..)⟩ :: mkKn css l u.2 fun y hy => q y (List.mem_cons_of_mem _ hy)
theorem mkKn_fst {h : PH} : ∀ {css : List (List Value)} {l : List β} (u : Go.Ear.Rows r h css l) (q : ∀ x ∈ l, Q x), (mkKn css l u q).map (fun p => p.1.1) = css
  | [], [], _, _ => rfl
  | c :: css, x :: l, u, q => by show c :: _ = _; rw [mkKn_fst]
theorem mkKn_snd {h : PH} : ∀ {css : List (List Value)} {l : List β} (u : Go.Ear.Rows r h css l) (q : ∀ x ∈ l, Q x), (mkKn css l u q).map (fun p => p.1.2) = l
  | [], [], _, _ => rfl
  | c :: css, x :: l, u, q => by show x :: _ = _; rw [mkKn_snd]
theorem kn_rows {h h' : PH} (le : h.le h') : ∀ d : List (Kn r Q h), Go.Ear.Rows r h' (d.map fun p => p.1.1) (d.map fun p => p.1.2)
  | [] => trivial
  | p :: d => ⟨r.mono p.2.1 le, kn_rows le d⟩
theorem permIn_all {α : Type} [Inhabited α] {d d' : Array α} (h : Sort.PermIn 0 d.size d d') : d'.toList.Perm d.toList ∧ d'.size = d.size := by
  obtain ⟨h1, _, h3⟩ := h
  have e : ∀ (a : Array α) n, n = a.size → (a.extract 0 n).toList = a.toList := fun a n hn => by subst hn; simp
  rw [e d' _ h1.symm, e d _ rfl] at h3
  exact ⟨h3, h1⟩
theorem sortedIn_all {α : Type} [Inhabited α] {c : α → α → Int} {d : Array α} {n : Nat} (hn : d.size = n) (h : Sort.SortedIn (ltOf c) 0 n d) : d.toList.Pairwise fun a b => ¬ c b a < 0 := by
  rw [List.pairwise_iff_getElem]
  intro i j hi hj hij
  have hi' : i < d.size := by simpa using hi
  have hj' : j < d.size := by simpa using hj
  have := h i j (Nat.zero_le _) hij (by omega)
  unfold ltOf at this
  rw [getElem!_pos d j hj', getElem!_pos d i hi'] at this
  simpa using this
theorem swo_sub {α : Type} {f : α → β} (hO : Sort.SWO (ltOf cf)) : Sort.SWO (ltOf fun x y : α => cf (f x) (f y)) := ⟨fun x => hO.irrefl (f x), fun x y z => hO.trans (f x) (f y) (f z), fun x y z => hO.ntrans (f x) (f y) (f z)⟩
abbrev Srtd (cf : β → β → Int) (l : List β) := {l' : List β // l'.Perm l ∧ l'.Pairwise fun a b => ¬ cf b a < 0}
theorem sort_end {css' : List (List Value)} {l' : List β} {h0 h : PH} {w0 w w' : World} {b cap : Nat} {arr arr' : Array Value} (hv : v = .slice (some ⟨b, 0, none⟩) l.length cap) (gr : Gr h0 w0 h w) (ow : OwnB w0 (rA r e v l :: B) h w) (hh : h b = none) (h2 : arr.size = cap * r.k) (h3 : l.length ≤ cap)
    (hl : l'.length = l.length) (hat : w'.heap[b]? = some (.cells arr' e (0, 0))) (hs : arr'.size = arr.size) (ht : arr'.toList.take (l.length * r.k) = css'.flatten) (rows : Go.Ear.Rows r h css' l') (o : Ow w w' (some b)) : Gr h0 w0 h w' ∧ OwnB w0 (rA r e v l' :: B) h w' := by
  have hx : css'.flatten.length = l'.length * r.k := by
    rw [Go.Ear.flatten_length (k := r.k) rows.lens, rows.length]
  have own : OwnL r 0 h w' e v l' := ⟨css', ⟨hx, .inr ⟨b, cap, arr', by rw [hv, hl], Nat.zero_le _, hh, hat, by rw [hl]; exact h3, by rw [hs]; exact h2, by rw [hl]; exact ht⟩⟩, rows⟩
  have sy : Sy h0 w0 [] [] (rA r e v l :: B) (env0 0 []) h w := ⟨gr, trivial, trivial, ow⟩
  have s2 := own_app sy own (by rw [hv]; exact o) fun b' hb' => .inl hb'
  exact ⟨s2.gr, s2.ow⟩
set_option maxRecDepth 100000 in
theorem sortK (L : SlLaysF0.n6 P ρ) [rc : RpC r cs] [dz : DzR r] (fn : IsFn P (ρ.f 6)) (aE : ∀ w, (isAgg (ρ.t 24)).run P w = .ok true w) (zE : ∀ w, (Go.sizeOf (ρ.t 24)).run P w = .ok r.k w) (hO : Sort.SWO (ltOf cf)) (cc : CmpC P g (fun x => .ag (cs x)) Q cf) [hg : HG B] :
    CtR P (ρ.f 6) [ov v, .cv (.func (.func g) #[] #[])] (rA r e v l :: B) (l.length ≤ 1099511627776 ∧ ∀ x ∈ l, Q x) (Srtd cf l) (fun _ => .tp []) (fun s => rA r e v s.1 :: B) := ⟨fn, fun ⟨hl, hq⟩ {h0 w0 h w vs} gr ow u => by
  match vs, u with
  | [v1, f1], ⟨⟨e1, _⟩, e2, _⟩ =>
    have e2 : f1 = .func (.func g) #[] #[] := e2
    subst e1 e2
    have tab : Tab h := HG.h (B := B) ow.2.2.2
    obtain ⟨css, own, rows⟩ := ow.1
    have hnone : ∀ {p : Option Addr} {cap : Nat}, v1 = .slice p 0 cap → l = [] → Calls P (ρ.f 6) [v1, .func (.func g) #[] #[]].toArray w fun e' w' => ∃ v, e' = .returned v ∧ ∃ (h' : PH) (s : Srtd cf l), Gr h0 w0 h' w' ∧ h.le h' ∧ OwnB w0 (rA r e v1 s.1 :: B) h' w' ∧ den h' (.tp []) v := fun {p cap} hv hn => by
      subst hv
      refine (AnyF.slices_SortFunc_none L p cap _ w).mono ?_
      rintro e' w' ⟨rfl, rfl⟩
      subst hn
      exact ⟨_, rfl, h, ⟨[], .refl _, .nil⟩, gr, PH.le.refl h, ow, [], rfl, trivial⟩
    rcases own.2 with ⟨hv, hn⟩ | ⟨b, cap, arr, hv, _, hh, hb, hcap, hsz, htk⟩
    · exact hnone hv (List.eq_nil_of_length_eq_zero hn)
    · by_cases hn : l = []
      · exact hnone (by rw [hv, hn]; rfl) hn
      · have rowsd : Go.Ear.Rows r (del h) css l := rows_del tab rows
        have hfst := mkKn_fst (Q := Q) rowsd hq
        have hsnd := mkKn_snd (Q := Q) rowsd hq
        generalize hd : mkKn css l rowsd hq = dl at hfst hsnd
        haveI : Inhabited (Kn r Q (del h)) := by
          cases dl with
          | nil => exact absurd hsnd.symm hn
          | cons p _ => exact ⟨p⟩
        have hk : ∀ x : Kn r Q (del h), x.1.1.length = r.k := fun x => r.len x.2.1
        have h1 : ∀ x : Kn r Q (del h), ∀ v ∈ x.1.1, v.oneCell' = true := fun x => r.one x.2.1
        have hlen : dl.toArray.size = l.length := by rw [← hsnd]; simp
        have hflat : (Sort.flatK (fun x : Kn r Q (del h) => x.1.1) r.k dl.toArray).toList = css.flatten := by
          rw [flatK_eq _ hk dz.k]
          congr 1
        have hfs : (Sort.flatK (fun x : Kn r Q (del h) => x.1.1) r.k dl.toArray).size = l.length * r.k := by rw [Sort.size_flatK, hlen]
        have hle : l.length * r.k ≤ arr.size := by rw [hsz]; exact Nat.mul_le_mul_right _ hcap
        have hH : Sort.HoldsK (fun x : Kn r Q (del h) => x.1.1) r.k w b 0 dl.toArray := fun j hj => by
          have hj' : j < l.length * r.k := by rw [← hfs]; exact hj
          refine ⟨?_, ?_⟩
          · show w.cell? ⟨b, 0 + j, none⟩ = _
            unfold World.cell?
            simp only [hb, Nat.zero_add]
            rw [if_neg (by simp), Array.getElem?_eq_getElem (by omega)]
            congr 1
            rw [getElem!_pos _ j hj]
            have h3 := congrArg (fun l : List Value => l[j]?) (htk.trans hflat.symm)
            simp only [List.getElem?_take, if_pos hj'] at h3
            rw [Array.getElem?_toList, Array.getElem?_toList, Array.getElem?_eq_getElem (by omega), Array.getElem?_eq_getElem hj] at h3
            exact Option.some.inj h3
          · unfold World.frozen?
            simp [hb]
        have hc := AnyQ.slices_SortFunc (P := P) (ρ := ρ) L r.k aE zE (fun x : Kn r Q (del h) => x.1.1) hk h1 (fun x y => cf x.1.2 y.1.2) (swo_sub (f := fun x : Kn r Q (del h) => x.1.2) hO) g #[] b 0 cap dl.toArray w cc.fn (fun m os dk hs x y => by
          have := cmp_world (W := sortWorldK (fun x : Kn r Q (del h) => x.1.1) r.k w b 0 m dk os) cc x.2.2 y.2.2 tab (swd hb m os) gr.sat hh (vs := [.agg x.1.1.toArray, .agg y.1.1.toArray]) ⟨⟨_, rfl, rc.h.1 x.2.1⟩, ⟨_, rfl, rc.h.1 y.2.1⟩, trivial⟩
          exact this) hH (blk_lt hb) (by rw [hlen]; omega)
        rw [hlen] at hc
        rw [hv]
        refine hc.mono ?_
        rintro e' w' ⟨rfl, d', n, os, hp, hso, hw'⟩
        rw [← hlen] at hp hso
        obtain ⟨hp1, hp2⟩ := permIn_all hp
        have hl' : (d'.toList.map fun p => p.1.2).length = l.length := by rw [List.length_map, ← hlen, ← hp2]; simp
        have hs' := swd (F := Sort.flatK (fun x : Kn r Q (del h) => x.1.1) r.k d') hb n os
        have hfs' : (Sort.flatK (fun x : Kn r Q (del h) => x.1.1) r.k d').size = l.length * r.k := by rw [Sort.size_flatK, hp2, hlen]
        have hpc := putCells_id (c := arr) (F := Sort.flatK (fun x : Kn r Q (del h) => x.1.1) r.k d') (by rw [hfs']; exact hle)
        have hwe : w' = Sort.grow (Sort.putRow id (Sort.ahead w n) b 0 (Sort.flatK (fun x : Kn r Q (del h) => x.1.1) r.k d')) os := hw'
        rw [← hwe] at hs'
        have hend := sort_end (css' := d'.toList.map fun p => p.1.1) (l' := d'.toList.map fun p => p.1.2) hv gr ow hh hsz hcap hl' hs'.at_ hpc.2 (by rw [← hfs', hpc.1, flatK_eq _ hk dz.k]) (kn_rows (del_le h) d'.toList) hs'.ow
        refine ⟨_, rfl, h, ⟨d'.toList.map fun p => p.1.2, ?_, ?_⟩, hend.1, PH.le.refl h, ?_, [], rfl, trivial⟩
        · have := hp1.map fun p => p.1.2
          rwa [show (dl.toArray.toList.map fun p => p.1.2) = l from hsnd] at this
        · rw [List.pairwise_map]
          exact sortedIn_all hp2 hso
        · rw [← hv]; exact hend.2⟩
set_option maxRecDepth 100000 in
theorem sort1 {S : β → SV} (L : SlLaysF.n6 P ρ) (L0 : SlLaysF0.n6 P ρ) [rc : RpC r fun x => [S x]] [dz : DzR r] (hk1 : r.k = 1) (fn : IsFn P (ρ.f 6)) (hO : Sort.SWO (ltOf cf)) (cc : CmpC P g S Q cf) [hg : HG B] :
    CtR P (ρ.f 6) [ov v, .cv (.func (.func g) #[] #[])] (rA r e v l :: B) (l.length ≤ 1099511627776 ∧ ∀ x ∈ l, Q x) (Srtd cf l) (fun _ => .tp []) (fun s => rA r e v s.1 :: B) := ⟨fn, fun ⟨hl, hq⟩ {h0 w0 h w vs} gr ow u => by
  match vs, u with
  | [v1, f1], ⟨⟨e1, _⟩, e2, _⟩ =>
    have e2 : f1 = .func (.func g) #[] #[] := e2
    subst e1 e2
    have tab : Tab h := HG.h (B := B) ow.2.2.2
    obtain ⟨css, own, rows⟩ := ow.1
    have hnone : ∀ {p : Option Addr} {cap : Nat}, v1 = .slice p 0 cap → l = [] → Calls P (ρ.f 6) [v1, .func (.func g) #[] #[]].toArray w fun e' w' => ∃ v, e' = .returned v ∧ ∃ (h' : PH) (s : Srtd cf l), Gr h0 w0 h' w' ∧ h.le h' ∧ OwnB w0 (rA r e v1 s.1 :: B) h' w' ∧ den h' (.tp []) v := fun {p cap} hv hn => by
      subst hv
      refine (AnyF.slices_SortFunc_none L0 p cap _ w).mono ?_
      rintro e' w' ⟨rfl, rfl⟩
      subst hn
      exact ⟨_, rfl, h, ⟨[], .refl _, .nil⟩, gr, PH.le.refl h, ow, [], rfl, trivial⟩
    rcases own.2 with ⟨hv, hn⟩ | ⟨b, cap, arr, hv, _, hh, hb, hcap, hsz, htk⟩
    · exact hnone hv (List.eq_nil_of_length_eq_zero hn)
    · by_cases hn : l = []
      · exact hnone (by rw [hv, hn]; rfl) hn
      · have rowsd : Go.Ear.Rows r (del h) css l := rows_del tab rows
        have hfst := mkKn_fst (Q := Q) rowsd hq
        have hsnd := mkKn_snd (Q := Q) rowsd hq
        generalize hd : mkKn css l rowsd hq = dl at hfst hsnd
        haveI : Inhabited (Kn r Q (del h)) := by
          cases dl with
          | nil => exact absurd hsnd.symm hn
          | cons p _ => exact ⟨p⟩
        have hone : ∀ x : Kn r Q (del h), x.1.1 = [x.1.1.headD vnil] := fun x => by
          have h1 := r.len x.2.1
          rw [hk1] at h1
          match hx : x.1.1, h1 with
          | [y], _ => rfl
        have h1 : OneCell fun x : Kn r Q (del h) => x.1.1.headD vnil := fun x => by
          have hx := hone x
          have h2 := r.one x.2.1
          show (x.1.1.headD vnil).oneCell' = true
          refine h2 _ ?_
          generalize x.1.1.headD vnil = y at hx
          rw [hx]; exact List.mem_cons_self ..
        have hlen : dl.toArray.size = l.length := by rw [← hsnd]; simp
        have hmap : ∀ dd : List (Kn r Q (del h)), (dd.map fun p => p.1.1).flatten = dd.map fun x => x.1.1.headD vnil := fun dd => by
          induction dd with
          | nil => rfl
          | cons p dd ih => rw [List.map_cons, List.flatten_cons, ih, hone p]; rfl
        have hle : l.length ≤ arr.size := by rw [hsz, hk1, Nat.mul_one]; exact hcap
        rw [hk1, Nat.mul_one] at htk
        have hH : Sort.Holds (fun x : Kn r Q (del h) => x.1.1.headD vnil) w b 0 dl.toArray := fun j hj => by
          have hj' : j < l.length := by rw [← hlen]; exact hj
          refine ⟨?_, ?_⟩
          · show w.cell? ⟨b, 0 + j, none⟩ = _
            unfold World.cell?
            simp only [hb, Nat.zero_add]
            rw [if_neg (by simp), Array.getElem?_eq_getElem (by omega)]
            congr 1
            rw [getElem!_pos _ j hj]
            have h3 := congrArg (fun l : List Value => l[j]?) (htk.trans ((congrArg List.flatten hfst.symm).trans (hmap dl)))
            have hj2 : j < dl.length := by simpa using hj
            simp only [List.getElem?_take, if_pos hj', List.getElem?_map] at h3
            rw [Array.getElem?_toList, Array.getElem?_eq_getElem (by omega), List.getElem?_eq_getElem hj2] at h3
            simpa using Option.some.inj h3
          · unfold World.frozen?
            simp [hb]
        have hc := Any.slices_SortFunc (P := P) (ρ := ρ) L (fun x : Kn r Q (del h) => x.1.1.headD vnil) h1 (fun x y => cf x.1.2 y.1.2) (swo_sub (f := fun x : Kn r Q (del h) => x.1.2) hO) g #[] b 0 cap dl.toArray w cc.fn (fun m os dk hs x y => by
          have hw : sortWorld (fun x : Kn r Q (del h) => x.1.1.headD vnil) w b 0 m dk os = Sort.grow (Sort.putRow id (Sort.ahead w m) b 0 (dk.map fun x => x.1.1.headD vnil)) os := by
            unfold sortWorld; rw [putRow_map]
          have hx := rc.h.1 x.2.1
          have hy := rc.h.1 y.2.1
          rw [hone x] at hx
          rw [hone y] at hy
          have := cmp_world cc x.2.2 y.2.2 tab (swd (F := dk.map fun x => x.1.1.headD vnil) hb m os) gr.sat hh (vs := [x.1.1.headD vnil, y.1.1.headD vnil]) ⟨hx.1, hy.1, trivial⟩
          rw [hw]
          exact this) hH (blk_lt hb) (by rw [hlen]; omega)
        rw [hlen] at hc
        rw [hv]
        refine hc.mono ?_
        rintro e' w' ⟨rfl, d', n, os, hp, hso, hw'⟩
        rw [← hlen] at hp hso
        obtain ⟨hp1, hp2⟩ := permIn_all hp
        have hl' : (d'.toList.map fun p => p.1.2).length = l.length := by rw [List.length_map, ← hlen, ← hp2]; simp
        have hs' := swd (F := d'.map fun x => x.1.1.headD vnil) hb n os
        have hfs' : (d'.map fun x : Kn r Q (del h) => x.1.1.headD vnil).size = l.length := by rw [Array.size_map, hp2, hlen]
        have hpc := putCells_id (c := arr) (F := d'.map fun x => x.1.1.headD vnil) (by rw [hfs']; exact hle)
        have hwe : w' = Sort.grow (Sort.putRow id (Sort.ahead w n) b 0 (d'.map fun x => x.1.1.headD vnil)) os := by
          rw [hw']; unfold sortWorld; rw [putRow_map]
        rw [← hwe] at hs'
        have hend := sort_end (css' := d'.toList.map fun p => p.1.1) (l' := d'.toList.map fun p => p.1.2) hv gr ow hh hsz hcap hl' hs'.at_ hpc.2 (by rw [hk1, Nat.mul_one, ← hfs', hpc.1, hmap]; simp) (kn_rows (del_le h) d'.toList) hs'.ow
        refine ⟨_, rfl, h, ⟨d'.toList.map fun p => p.1.2, ?_, ?_⟩, hend.1, PH.le.refl h, ?_, [], rfl, trivial⟩
        · have := hp1.map fun p => p.1.2
          rwa [show (dl.toArray.toList.map fun p => p.1.2) = l from hsnd] at this
        · rw [List.pairwise_map]
          exact sortedIn_all hp2 hso
        · rw [← hv]; exact hend.2⟩
end
end Go.E3
set_option linter.unusedVariables false
namespace Go.E3
open Go Go.Ear Go.Proofs
section
variable {α γ : Type} {c : α → α → Int}
theorem TO.swo {C : γ → γ → Int} (t : TO C) (π : α → γ) : Sort.SWO (ltOf fun a b => C (π a) (π b)) where
  irrefl x := by
    unfold ltOf
    have := t.self (π x)
    exact decide_eq_false (by show ¬ C (π x) (π x) < 0; omega)
  trans x y z h1 h2 := by
    unfold ltOf at *
    exact decide_eq_true (t.tr _ _ _ (of_decide_eq_true h1) (of_decide_eq_true h2))
  ntrans x y z h1 h2 := by
    unfold ltOf at *
    have h1 : ¬ C (π x) (π y) < 0 := of_decide_eq_false h1
    have h2 : ¬ C (π y) (π z) < 0 := of_decide_eq_false h2
    refine decide_eq_false fun h => ?_
    have h : C (π x) (π z) < 0 := h
    have n1 := t.neg (π x) (π y)
    have n2 := t.neg (π y) (π z)
    have n3 := t.neg (π x) (π z)
    have := t.tr' (a := π z) (b := π y) (d := π x) (by omega) (by omega)
    omega
def insS (c : α → α → Int) (x : α) : List α → List α
  | [] => [x]
  | y :: l => if c y x < 0 then y :: insS c x l else x :: y :: l
def srtS (c : α → α → Int) : List α → List α
  | [] => []
  | x :: l => insS c x (srtS c l)
theorem insS_perm (x : α) : ∀ l : List α, (insS c x l).Perm (x :: l)
  | [] => .refl _
  | y :: l => by
    unfold insS
    split
    · exact ((insS_perm x l).cons y).trans (.swap ..)
    · exact .refl _
theorem srtS_perm : ∀ l : List α, (srtS c l).Perm l
  | [] => .refl _
  | x :: l => (insS_perm x _).trans ((srtS_perm l).cons x)
theorem swoL (s : Sort.SWO (ltOf c)) : (∀ a, ¬ c a a < 0) ∧ (∀ a b d, c a b < 0 → c b d < 0 → c a d < 0) ∧ (∀ a b d, ¬ c a b < 0 → ¬ c b d < 0 → ¬ c a d < 0) :=
  ⟨fun a => of_decide_eq_false (s.irrefl a), fun a b d h1 h2 => of_decide_eq_true (s.trans a b d (decide_eq_true h1) (decide_eq_true h2)), fun a b d h1 h2 => of_decide_eq_false (s.ntrans a b d (decide_eq_false h1) (decide_eq_false h2))⟩
theorem insS_srt (s : Sort.SWO (ltOf c)) (x : α) : ∀ {l : List α}, (l.Pairwise fun a b => ¬ c b a < 0) → (insS c x l).Pairwise fun a b => ¬ c b a < 0
  | [], _ => List.pairwise_singleton ..
  | y :: l, h => by
    obtain ⟨s1, s2, s3⟩ := swoL s
    rw [List.pairwise_cons] at h
    unfold insS
    split
    · rename_i hc
      rw [List.pairwise_cons]
      refine ⟨fun z hz => ?_, insS_srt s x h.2⟩
      rcases List.mem_cons.1 ((insS_perm x l).mem_iff.1 hz) with rfl | hz
      · exact fun h2 => s1 _ (s2 _ _ _ hc h2)
      · exact h.1 z hz
    · rename_i hc
      rw [List.pairwise_cons]
      refine ⟨fun z hz => ?_, List.pairwise_cons.2 h⟩
      rcases List.mem_cons.1 hz with rfl | hz
      · exact hc
      · exact s3 _ _ _ (h.1 z hz) hc
theorem srtS_srt (s : Sort.SWO (ltOf c)) : ∀ l : List α, (srtS c l).Pairwise fun a b => ¬ c b a < 0
  | [] => List.Pairwise.nil
  | x :: l => insS_srt s x (srtS_srt s l)
theorem srt_one (s : Sort.SWO (ltOf c)) {l l1 : List α} (anti : ∀ a b, a ∈ l → b ∈ l → ¬ c b a < 0 → ¬ c a b < 0 → a = b) (p1 : l1.Perm l) (h1 : l1.Pairwise fun a b => ¬ c b a < 0) : l1 = srtS c l :=
  List.Perm.eq_of_pairwise (le := fun a b => ¬ c b a < 0) (fun a b ha hb => anti a b (p1.mem_iff.1 ha) ((srtS_perm l).mem_iff.1 hb)) h1 (srtS_srt s l) (p1.trans (srtS_perm l).symm)
theorem srt_perm (s : Sort.SWO (ltOf c)) {l l1 : List α} (anti : ∀ a b, a ∈ l → b ∈ l → ¬ c b a < 0 → ¬ c a b < 0 → a = b) (p1 : l1.Perm l) : srtS c l1 = srtS c l :=
  srt_one s anti ((srtS_perm l1).trans p1) (srtS_srt s l1)
theorem nd_perm : ∀ {a b : List α}, a.Nodup → b.Nodup → (∀ x, x ∈ a ↔ x ∈ b) → a.Perm b
  | [], [], _, _, _ => .refl _
  | [], y :: b, _, _, h => absurd ((h y).2 (List.mem_cons_self ..)) List.not_mem_nil
  | x :: a, b, na, nb, h => by
    obtain ⟨s, t, rfl⟩ := List.append_of_mem ((h x).1 (List.mem_cons_self ..))
    rw [List.nodup_cons] at na
    have nb2 : (x :: (s ++ t)).Nodup := (List.perm_middle (a := x) (l₁ := s) (l₂ := t)).nodup_iff.1 nb
    rw [List.nodup_cons] at nb2
    refine (List.Perm.cons x (nd_perm na.2 nb2.2 fun y => ?_)).trans List.perm_middle.symm
    constructor
    · intro hy
      have := (h y).1 (List.mem_cons_of_mem _ hy)
      rcases List.mem_append.1 this with h1 | h1
      · exact List.mem_append_left _ h1
      · rcases List.mem_cons.1 h1 with h2 | h2
        · subst h2; exact absurd hy na.1
        · exact List.mem_append_right _ h2
    · intro hy
      have hm : y ∈ s ++ x :: t := by
        rcases List.mem_append.1 hy with h1 | h1
        · exact List.mem_append_left _ h1
        · exact List.mem_append_right _ (List.mem_cons_of_mem _ h1)
      rcases List.mem_cons.1 ((h y).2 hm) with h2 | h2
      · subst h2; exact absurd hy nb2.1
      · exact h2
end
def cmpR (a b : Rat) : Int := sgQ (b - a)
theorem sgQ_rng (q : Rat) : sgQ q = -1 ∨ sgQ q = 0 ∨ sgQ q = 1 := by
  unfold sgQ
  split
  · exact .inr (.inl rfl)
  · split
    · exact .inl rfl
    · exact .inr (.inr rfl)
theorem cmpR_lt {a b : Rat} : cmpR a b < 0 ↔ b < a := by
  unfold cmpR
  rw [sgQ_neg]
  constructor <;> intro h <;> grind
theorem cmpR_gt {a b : Rat} : 0 < cmpR a b ↔ a < b := by
  unfold cmpR
  rw [sgQ_pos]
  constructor <;> intro h <;> grind
theorem cmpR_eq {a b : Rat} : cmpR a b = 0 ↔ a = b := by
  unfold cmpR
  rw [sgQ_zero]
  constructor <;> intro h <;> grind
theorem cmpR_to : TO cmpR where
  neg a b := by
    have h1 := sgQ_rng (b - a)
    have h2 := sgQ_rng (a - b)
    have e1 := @cmpR_lt a b
    have e2 := @cmpR_gt b a
    have e3 := @cmpR_gt a b
    have e4 := @cmpR_lt b a
    unfold cmpR at *
    have x1 : sgQ (b - a) < 0 ↔ 0 < sgQ (a - b) := e1.trans e2.symm
    have x2 : 0 < sgQ (b - a) ↔ sgQ (a - b) < 0 := e3.trans e4.symm
    omega
  eq a b h := cmpR_eq.1 h
  tr a b d h1 h2 := by rw [cmpR_lt] at *; grind
def cmpFo (a b : Fo) : Int := if cmpR a.f.rat b.f.rat ≠ 0 then cmpR a.f.rat b.f.rat else ordI a.ph b.ph
theorem cmpFo_swo : Sort.SWO (ltOf cmpFo) := (cmpR_to.pair ordI_to).swo fun a : Fo => (a.f.rat, a.ph)
theorem cmpFo_zero {a b : Fo} (h1 : ¬ cmpFo b a < 0) (h2 : ¬ cmpFo a b < 0) : a.f.rat = b.f.rat ∧ a.ph = b.ph := by
  have n := (cmpR_to.pair ordI_to).neg (a.f.rat, a.ph) (b.f.rat, b.ph)
  have e := (cmpR_to.pair ordI_to).eq (a.f.rat, a.ph) (b.f.rat, b.ph) (by
    show cmpFo a b = 0
    have n : cmpFo b a = - cmpFo a b := n
    omega)
  exact ⟨congrArg Prod.fst e, congrArg Prod.snd e⟩
def fosB (b : Bag (List Int)) : List Fo := (dd (b.map (·.1))).map fun p => ⟨p, frK (tot b p)⟩
def srtF (b : Bag (List Int)) : List Fo := srtS cmpFo (fosB b)
theorem fosB_anti (b : Bag (List Int)) : ∀ x y, x ∈ fosB b → y ∈ fosB b → ¬ cmpFo y x < 0 → ¬ cmpFo x y < 0 → x = y := fun x y hx hy h1 h2 => by
  obtain ⟨p, _, rfl⟩ := List.mem_map.1 hx
  obtain ⟨q, _, rfl⟩ := List.mem_map.1 hy
  obtain ⟨e1, e2⟩ := cmpFo_zero h1 h2
  have e2 : p = q := e2
  rw [e2]
theorem map_nodup {α β : Type} {f : α → β} (inj : ∀ a b, f a = f b → a = b) : ∀ {l : List α}, l.Nodup → (l.map f).Nodup
  | [], _ => List.nodup_nil
  | x :: l, h => by
    rw [List.nodup_cons] at h
    rw [List.map_cons, List.nodup_cons]
    refine ⟨fun e => ?_, map_nodup inj h.2⟩
    obtain ⟨y, hy, e⟩ := List.mem_map.1 e
    exact h.1 (by rw [← inj _ _ e]; exact hy)
theorem fosB_nodup (b : Bag (List Int)) : (fosB b).Nodup := map_nodup (fun p q e => congrArg Fo.ph e) (nodup_dd _)
theorem mem_fosB {b : Bag (List Int)} {x : Fo} : x ∈ fosB b ↔ ∃ p, hasB b p ∧ x = ⟨p, frK (tot b p)⟩ := by
  unfold fosB
  rw [List.mem_map]
  constructor
  · rintro ⟨p, hp, rfl⟩; exact ⟨p, mem_keys.1 hp, rfl⟩
  · rintro ⟨p, hp, rfl⟩; exact ⟨p, mem_keys.2 hp, rfl⟩
theorem BE.fos {a b : Bag (List Int)} (e : BE a b) : (fosB a).Perm (fosB b) := nd_perm (fosB_nodup a) (fosB_nodup b) fun x => by rw [mem_fosB, mem_fosB]; simp only [e.h, e.t]
theorem BE.srtF {a b : Bag (List Int)} (e : BE a b) : srtF a = srtF b := srt_perm cmpFo_swo (fosB_anti b) e.fos
theorem nodup_of_map {α β : Type} {f : α → β} : ∀ {l : List α}, (l.map f).Nodup → l.Nodup
  | [], _ => List.nodup_nil
  | x :: l, h => by
    rw [List.map_cons, List.nodup_cons] at h
    exact List.nodup_cons.2 ⟨fun e => h.1 (List.mem_map.2 ⟨x, e, rfl⟩), nodup_of_map h.2⟩
theorem MF_perm {l : List (ByteArray × Fo)} {b : Bag (List Int)} (m : MK prtB (fun p x => (⟨p, frK x⟩ : Fo)) l b) : (l.map (·.2)).Perm (fosB b) := by
  have h1 : l.Perm ((dd (b.map (·.1))).map fun p => (prtB p, (⟨p, frK (tot b p)⟩ : Fo))) := nd_perm (nodup_of_map m.1) (map_nodup (fun p q e => congrArg (fun x => x.2.ph) e) (nodup_dd _)) fun ⟨s, x⟩ => by
    rw [m.2, List.mem_map]
    constructor
    · rintro ⟨p, hp, rfl, rfl⟩; exact ⟨p, mem_keys.2 hp, rfl⟩
    · rintro ⟨p, hp, e⟩
      cases e
      exact ⟨p, mem_keys.1 hp, rfl, rfl⟩
  have := h1.map (·.2)
  rw [List.map_map] at this
  exact this
def bndB (b : Bag (List Int)) : Bool := b.all (fun x => decide (x.1.length ≤ 400)) && decide (cnt b ≤ 5000)
theorem bndB_iff {b : Bag (List Int)} : bndB b = true ↔ (∀ p, hasB b p → p.length ≤ 400) ∧ cnt b ≤ 5000 := by
  unfold bndB
  rw [Bool.and_eq_true, decide_eq_true_iff, List.all_eq_true]
  refine and_congr_left fun _ => ⟨fun h p ⟨w, hp⟩ => of_decide_eq_true (h _ hp), fun h x hx => decide_eq_true (h x.1 ⟨x.2, hx⟩)⟩
end Go.E3
namespace Go.Ear
open Go.Proofs Go.Shelf
def sortFRen : Ren := ⟨fun | 6 => 148 | 14 => 189 | 15 => 135 | 20 => 210 | 21 => 211 | 22 => 212 | 23 => 213 | 24 => 214 | 25 => 215 | 26 => 216 | 27 => 217 | 28 => 180 | 29 => 181 | 46 => 231 | 47 => 205 | 48 => 206 | 49 => 232 | 50 => 233 | 57 => 242 | n => n, fun | 0 => 0 | 3 => 3 | 4 => 4 | 5 => 5 | 9 => 9 | 22 => 43 | 24 => 50 | 25 => 197 | 39 => 185 | 45 => 223 | 46 => 224 | 50 => 154 | 53 => 171 | 55 => 137 | 66 => 243 | 70 => 247 | 76 => 262 | 77 => 263 | n => n, fun n => n⟩
set_option maxRecDepth 100000 in
theorem sortFLays : SlLaysF0.n6 Tryz.prog sortFRen := {
  mixed := by kernel_rfl,
  f6 := ⟨"slices.SortFunc[[]earshot/api.Form,earshot/api.Form]", by decide, by kernel_rfl⟩,
  f14 := ⟨"slices.pdqsortCmpFunc[earshot/api.Form]", by decide, by kernel_rfl⟩,
  f15 := by kernel_rfl,
  f20 := ⟨"slices.insertionSortCmpFunc[earshot/api.Form]", by decide, by kernel_rfl⟩,
  f21 := ⟨"slices.heapSortCmpFunc[earshot/api.Form]", by decide, by kernel_rfl⟩,
  f22 := ⟨"slices.breakPatternsCmpFunc[earshot/api.Form]", by decide, by kernel_rfl⟩,
  f23 := ⟨"slices.choosePivotCmpFunc[earshot/api.Form]", by decide, by kernel_rfl⟩,
  f24 := ⟨"slices.reverseRangeCmpFunc[earshot/api.Form]", by decide, by kernel_rfl⟩,
  f25 := ⟨"slices.partialInsertionSortCmpFunc[earshot/api.Form]", by decide, by kernel_rfl⟩,
  f26 := ⟨"slices.partitionEqualCmpFunc[earshot/api.Form]", by decide, by kernel_rfl⟩,
  f27 := ⟨"slices.partitionCmpFunc[earshot/api.Form]", by decide, by kernel_rfl⟩,
  f28 := by kernel_rfl,
  f29 := by kernel_rfl,
  f46 := ⟨"slices.siftDownCmpFunc[earshot/api.Form]", by decide, by kernel_rfl⟩,
  f47 := by kernel_rfl,
  f48 := by kernel_rfl,
  f49 := ⟨"slices.medianAdjacentCmpFunc[earshot/api.Form]", by decide, by kernel_rfl⟩,
  f50 := ⟨"slices.medianCmpFunc[earshot/api.Form]", by decide, by kernel_rfl⟩,
  f57 := ⟨"slices.order2CmpFunc[earshot/api.Form]", by decide, by kernel_rfl⟩,
  t0 := by kernel_rfl,
  a0 := fun _ => by kernel_rfl,
  z0 := fun _ => by kernel_rfl,
  v0 := fun _ => by kernel_rfl,
  t3 := by kernel_rfl,
  a3 := fun _ => by kernel_rfl,
  z3 := fun _ => by kernel_rfl,
  v3 := fun _ => by kernel_rfl,
  t4 := by kernel_rfl,
  a4 := fun _ => by kernel_rfl,
  z4 := fun _ => by kernel_rfl,
  v4 := fun _ => by kernel_rfl,
  t5 := by kernel_rfl,
  a5 := fun _ => by kernel_rfl,
  z5 := fun _ => by kernel_rfl,
  v5 := fun _ => by kernel_rfl,
  t9 := by kernel_rfl,
  a9 := fun _ => by kernel_rfl,
  z9 := fun _ => by kernel_rfl,
  v9 := fun _ => by kernel_rfl,
  t22 := by kernel_rfl,
  a22 := fun _ => by kernel_rfl,
  z22 := fun _ => by kernel_rfl,
  v22 := fun _ => by kernel_rfl,
  t25 := by kernel_rfl,
  a25 := fun _ => by kernel_rfl,
  z25 := fun _ => by kernel_rfl,
  v25 := fun _ => by kernel_rfl,
  t39 := by kernel_rfl,
  a39 := fun _ => by kernel_rfl,
  z39 := fun _ => by kernel_rfl,
  v39 := fun _ => by kernel_rfl,
  t45 := by kernel_rfl,
  a45 := fun _ => by kernel_rfl,
  z45 := fun _ => by kernel_rfl,
  v45 := fun _ => by kernel_rfl,
  t46 := by kernel_rfl,
  a46 := fun _ => by kernel_rfl,
  z46 := fun _ => by kernel_rfl,
  v46 := fun _ => by kernel_rfl,
  t50 := by kernel_rfl,
  a50 := fun _ => by kernel_rfl,
  z50 := fun _ => by kernel_rfl,
  v50 := fun _ => by kernel_rfl,
  t53 := by kernel_rfl,
  a53 := fun _ => by kernel_rfl,
  z53 := fun _ => by kernel_rfl,
  v53 := fun _ => by kernel_rfl,
  t55 := by kernel_rfl,
  a55 := fun _ => by kernel_rfl,
  z55 := fun _ => by kernel_rfl,
  v55 := fun _ => by kernel_rfl,
  t66 := by kernel_rfl,
  a66 := fun _ => by kernel_rfl,
  z66 := fun _ => by kernel_rfl,
  v66 := fun _ => by kernel_rfl,
  t70 := by kernel_rfl,
  a70 := fun _ => by kernel_rfl,
  z70 := fun _ => by kernel_rfl,
  v70 := fun _ => by kernel_rfl,
  t76 := by kernel_rfl,
  a76 := fun _ => by kernel_rfl,
  z76 := fun _ => by kernel_rfl,
  v76 := fun _ => by kernel_rfl,
  t77 := by kernel_rfl,
  a77 := fun _ => by kernel_rfl,
  z77 := fun _ => by kernel_rfl,
  v77 := fun _ => by kernel_rfl }
def sortRgRen : Ren := ⟨fun | 6 => 74 | 14 => 134 | 15 => 135 | 20 => 172 | 21 => 173 | 22 => 174 | 23 => 175 | 24 => 176 | 25 => 177 | 26 => 178 | 27 => 179 | 28 => 180 | 29 => 181 | 46 => 204 | 47 => 205 | 48 => 206 | 49 => 207 | 50 => 208 | 57 => 230 | n => n, fun | 0 => 0 | 3 => 3 | 4 => 4 | 5 => 5 | 9 => 9 | 22 => 46 | 24 => 52 | 25 => 133 | 39 => 185 | 45 => 223 | 46 => 224 | 50 => 154 | 53 => 171 | 55 => 137 | 66 => 243 | 70 => 247 | 76 => 262 | 77 => 263 | n => n, fun n => n⟩
set_option maxRecDepth 100000 in
theorem sortRgLays : SlLaysF0.n6 Tryz.prog sortRgRen := {
  mixed := by kernel_rfl,
  f6 := ⟨"slices.SortFunc[[]earshot/api.Reading,earshot/api.Reading]", by decide, by kernel_rfl⟩,
  f14 := ⟨"slices.pdqsortCmpFunc[earshot/api.Reading]", by decide, by kernel_rfl⟩,
  f15 := by kernel_rfl,
  f20 := ⟨"slices.insertionSortCmpFunc[earshot/api.Reading]", by decide, by kernel_rfl⟩,
  f21 := ⟨"slices.heapSortCmpFunc[earshot/api.Reading]", by decide, by kernel_rfl⟩,
  f22 := ⟨"slices.breakPatternsCmpFunc[earshot/api.Reading]", by decide, by kernel_rfl⟩,
  f23 := ⟨"slices.choosePivotCmpFunc[earshot/api.Reading]", by decide, by kernel_rfl⟩,
  f24 := ⟨"slices.reverseRangeCmpFunc[earshot/api.Reading]", by decide, by kernel_rfl⟩,
  f25 := ⟨"slices.partialInsertionSortCmpFunc[earshot/api.Reading]", by decide, by kernel_rfl⟩,
  f26 := ⟨"slices.partitionEqualCmpFunc[earshot/api.Reading]", by decide, by kernel_rfl⟩,
  f27 := ⟨"slices.partitionCmpFunc[earshot/api.Reading]", by decide, by kernel_rfl⟩,
  f28 := by kernel_rfl,
  f29 := by kernel_rfl,
  f46 := ⟨"slices.siftDownCmpFunc[earshot/api.Reading]", by decide, by kernel_rfl⟩,
  f47 := by kernel_rfl,
  f48 := by kernel_rfl,
  f49 := ⟨"slices.medianAdjacentCmpFunc[earshot/api.Reading]", by decide, by kernel_rfl⟩,
  f50 := ⟨"slices.medianCmpFunc[earshot/api.Reading]", by decide, by kernel_rfl⟩,
  f57 := ⟨"slices.order2CmpFunc[earshot/api.Reading]", by decide, by kernel_rfl⟩,
  t0 := by kernel_rfl,
  a0 := fun _ => by kernel_rfl,
  z0 := fun _ => by kernel_rfl,
  v0 := fun _ => by kernel_rfl,
  t3 := by kernel_rfl,
  a3 := fun _ => by kernel_rfl,
  z3 := fun _ => by kernel_rfl,
  v3 := fun _ => by kernel_rfl,
  t4 := by kernel_rfl,
  a4 := fun _ => by kernel_rfl,
  z4 := fun _ => by kernel_rfl,
  v4 := fun _ => by kernel_rfl,
  t5 := by kernel_rfl,
  a5 := fun _ => by kernel_rfl,
  z5 := fun _ => by kernel_rfl,
  v5 := fun _ => by kernel_rfl,
  t9 := by kernel_rfl,
  a9 := fun _ => by kernel_rfl,
  z9 := fun _ => by kernel_rfl,
  v9 := fun _ => by kernel_rfl,
  t22 := by kernel_rfl,
  a22 := fun _ => by kernel_rfl,
  z22 := fun _ => by kernel_rfl,
  v22 := fun _ => by kernel_rfl,
  t25 := by kernel_rfl,
  a25 := fun _ => by kernel_rfl,
  z25 := fun _ => by kernel_rfl,
  v25 := fun _ => by kernel_rfl,
  t39 := by kernel_rfl,
  a39 := fun _ => by kernel_rfl,
  z39 := fun _ => by kernel_rfl,
  v39 := fun _ => by kernel_rfl,
  t45 := by kernel_rfl,
  a45 := fun _ => by kernel_rfl,
  z45 := fun _ => by kernel_rfl,
  v45 := fun _ => by kernel_rfl,
  t46 := by kernel_rfl,
  a46 := fun _ => by kernel_rfl,
  z46 := fun _ => by kernel_rfl,
  v46 := fun _ => by kernel_rfl,
  t50 := by kernel_rfl,
  a50 := fun _ => by kernel_rfl,
  z50 := fun _ => by kernel_rfl,
  v50 := fun _ => by kernel_rfl,
  t53 := by kernel_rfl,
  a53 := fun _ => by kernel_rfl,
  z53 := fun _ => by kernel_rfl,
  v53 := fun _ => by kernel_rfl,
  t55 := by kernel_rfl,
  a55 := fun _ => by kernel_rfl,
  z55 := fun _ => by kernel_rfl,
  v55 := fun _ => by kernel_rfl,
  t66 := by kernel_rfl,
  a66 := fun _ => by kernel_rfl,
  z66 := fun _ => by kernel_rfl,
  v66 := fun _ => by kernel_rfl,
  t70 := by kernel_rfl,
  a70 := fun _ => by kernel_rfl,
  z70 := fun _ => by kernel_rfl,
  v70 := fun _ => by kernel_rfl,
  t76 := by kernel_rfl,
  a76 := fun _ => by kernel_rfl,
  z76 := fun _ => by kernel_rfl,
  v76 := fun _ => by kernel_rfl,
  t77 := by kernel_rfl,
  a77 := fun _ => by kernel_rfl,
  z77 := fun _ => by kernel_rfl,
  v77 := fun _ => by kernel_rfl }
def sortLIRen : Ren := ⟨fun | 6 => 150 | 14 => 190 | 15 => 135 | 20 => 218 | 21 => 219 | 22 => 220 | 23 => 221 | 24 => 222 | 25 => 223 | 26 => 224 | 27 => 225 | 28 => 180 | 29 => 181 | 46 => 234 | 47 => 205 | 48 => 206 | 49 => 235 | 50 => 236 | 57 => 243 | n => n, fun | 0 => 0 | 3 => 3 | 4 => 4 | 5 => 5 | 9 => 9 | 22 => 147 | 24 => 26 | 25 => 56 | 39 => 185 | 45 => 223 | 46 => 224 | 50 => 154 | 53 => 171 | 55 => 137 | 66 => 243 | 70 => 247 | 76 => 262 | 77 => 263 | n => n, fun n => n⟩
set_option maxRecDepth 100000 in
theorem sortLILays : SlLaysF.n6 Tryz.prog sortLIRen := {
  mixed := by kernel_rfl,
  f6 := ⟨"slices.SortFunc[[][]int,[]int]", by decide, by kernel_rfl⟩,
  f14 := ⟨"slices.pdqsortCmpFunc[[]int]", by decide, by kernel_rfl⟩,
  f15 := by kernel_rfl,
  f20 := ⟨"slices.insertionSortCmpFunc[[]int]", by decide, by kernel_rfl⟩,
  f21 := ⟨"slices.heapSortCmpFunc[[]int]", by decide, by kernel_rfl⟩,
  f22 := ⟨"slices.breakPatternsCmpFunc[[]int]", by decide, by kernel_rfl⟩,
  f23 := ⟨"slices.choosePivotCmpFunc[[]int]", by decide, by kernel_rfl⟩,
  f24 := ⟨"slices.reverseRangeCmpFunc[[]int]", by decide, by kernel_rfl⟩,
  f25 := ⟨"slices.partialInsertionSortCmpFunc[[]int]", by decide, by kernel_rfl⟩,
  f26 := ⟨"slices.partitionEqualCmpFunc[[]int]", by decide, by kernel_rfl⟩,
  f27 := ⟨"slices.partitionCmpFunc[[]int]", by decide, by kernel_rfl⟩,
  f28 := by kernel_rfl,
  f29 := by kernel_rfl,
  f46 := ⟨"slices.siftDownCmpFunc[[]int]", by decide, by kernel_rfl⟩,
  f47 := by kernel_rfl,
  f48 := by kernel_rfl,
  f49 := ⟨"slices.medianAdjacentCmpFunc[[]int]", by decide, by kernel_rfl⟩,
  f50 := ⟨"slices.medianCmpFunc[[]int]", by decide, by kernel_rfl⟩,
  f57 := ⟨"slices.order2CmpFunc[[]int]", by decide, by kernel_rfl⟩,
  t0 := by kernel_rfl,
  a0 := fun _ => by kernel_rfl,
  z0 := fun _ => by kernel_rfl,
  v0 := fun _ => by kernel_rfl,
  t3 := by kernel_rfl,
  a3 := fun _ => by kernel_rfl,
  z3 := fun _ => by kernel_rfl,
  v3 := fun _ => by kernel_rfl,
  t4 := by kernel_rfl,
  a4 := fun _ => by kernel_rfl,
  z4 := fun _ => by kernel_rfl,
  v4 := fun _ => by kernel_rfl,
  t5 := by kernel_rfl,
  a5 := fun _ => by kernel_rfl,
  z5 := fun _ => by kernel_rfl,
  v5 := fun _ => by kernel_rfl,
  t9 := by kernel_rfl,
  a9 := fun _ => by kernel_rfl,
  z9 := fun _ => by kernel_rfl,
  v9 := fun _ => by kernel_rfl,
  t22 := by kernel_rfl,
  a22 := fun _ => by kernel_rfl,
  z22 := fun _ => by kernel_rfl,
  v22 := fun _ => by kernel_rfl,
  a24 := fun _ => by kernel_rfl,
  z24 := fun _ => by kernel_rfl,
  t25 := by kernel_rfl,
  a25 := fun _ => by kernel_rfl,
  z25 := fun _ => by kernel_rfl,
  v25 := fun _ => by kernel_rfl,
  t39 := by kernel_rfl,
  a39 := fun _ => by kernel_rfl,
  z39 := fun _ => by kernel_rfl,
  v39 := fun _ => by kernel_rfl,
  t45 := by kernel_rfl,
  a45 := fun _ => by kernel_rfl,
  z45 := fun _ => by kernel_rfl,
  v45 := fun _ => by kernel_rfl,
  t46 := by kernel_rfl,
  a46 := fun _ => by kernel_rfl,
  z46 := fun _ => by kernel_rfl,
  v46 := fun _ => by kernel_rfl,
  t50 := by kernel_rfl,
  a50 := fun _ => by kernel_rfl,
  z50 := fun _ => by kernel_rfl,
  v50 := fun _ => by kernel_rfl,
  t53 := by kernel_rfl,
  a53 := fun _ => by kernel_rfl,
  z53 := fun _ => by kernel_rfl,
  v53 := fun _ => by kernel_rfl,
  t55 := by kernel_rfl,
  a55 := fun _ => by kernel_rfl,
  z55 := fun _ => by kernel_rfl,
  v55 := fun _ => by kernel_rfl,
  t66 := by kernel_rfl,
  a66 := fun _ => by kernel_rfl,
  z66 := fun _ => by kernel_rfl,
  v66 := fun _ => by kernel_rfl,
  t70 := by kernel_rfl,
  a70 := fun _ => by kernel_rfl,
  z70 := fun _ => by kernel_rfl,
  v70 := fun _ => by kernel_rfl,
  t76 := by kernel_rfl,
  a76 := fun _ => by kernel_rfl,
  z76 := fun _ => by kernel_rfl,
  v76 := fun _ => by kernel_rfl,
  t77 := by kernel_rfl,
  a77 := fun _ => by kernel_rfl,
  z77 := fun _ => by kernel_rfl,
  v77 := fun _ => by kernel_rfl }
def sortLI0Ren : Ren := ⟨fun | 6 => 150 | 14 => 190 | 15 => 135 | 20 => 218 | 21 => 219 | 22 => 220 | 23 => 221 | 24 => 222 | 25 => 223 | 26 => 224 | 27 => 225 | 28 => 180 | 29 => 181 | 46 => 234 | 47 => 205 | 48 => 206 | 49 => 235 | 50 => 236 | 57 => 243 | n => n, fun | 0 => 0 | 3 => 3 | 4 => 4 | 5 => 5 | 9 => 9 | 22 => 147 | 24 => 26 | 25 => 56 | 39 => 185 | 45 => 223 | 46 => 224 | 50 => 154 | 53 => 171 | 55 => 137 | 66 => 243 | 70 => 247 | 76 => 262 | 77 => 263 | n => n, fun n => n⟩
set_option maxRecDepth 100000 in
theorem sortLI0Lays : SlLaysF0.n6 Tryz.prog sortLI0Ren := {
  mixed := by kernel_rfl,
  f6 := ⟨"slices.SortFunc[[][]int,[]int]", by decide, by kernel_rfl⟩,
  f14 := ⟨"slices.pdqsortCmpFunc[[]int]", by decide, by kernel_rfl⟩,
  f15 := by kernel_rfl,
  f20 := ⟨"slices.insertionSortCmpFunc[[]int]", by decide, by kernel_rfl⟩,
  f21 := ⟨"slices.heapSortCmpFunc[[]int]", by decide, by kernel_rfl⟩,
  f22 := ⟨"slices.breakPatternsCmpFunc[[]int]", by decide, by kernel_rfl⟩,
  f23 := ⟨"slices.choosePivotCmpFunc[[]int]", by decide, by kernel_rfl⟩,
  f24 := ⟨"slices.reverseRangeCmpFunc[[]int]", by decide, by kernel_rfl⟩,
  f25 := ⟨"slices.partialInsertionSortCmpFunc[[]int]", by decide, by kernel_rfl⟩,
  f26 := ⟨"slices.partitionEqualCmpFunc[[]int]", by decide, by kernel_rfl⟩,
  f27 := ⟨"slices.partitionCmpFunc[[]int]", by decide, by kernel_rfl⟩,
  f28 := by kernel_rfl,
  f29 := by kernel_rfl,
  f46 := ⟨"slices.siftDownCmpFunc[[]int]", by decide, by kernel_rfl⟩,
  f47 := by kernel_rfl,
  f48 := by kernel_rfl,
  f49 := ⟨"slices.medianAdjacentCmpFunc[[]int]", by decide, by kernel_rfl⟩,
  f50 := ⟨"slices.medianCmpFunc[[]int]", by decide, by kernel_rfl⟩,
  f57 := ⟨"slices.order2CmpFunc[[]int]", by decide, by kernel_rfl⟩,
  t0 := by kernel_rfl,
  a0 := fun _ => by kernel_rfl,
  z0 := fun _ => by kernel_rfl,
  v0 := fun _ => by kernel_rfl,
  t3 := by kernel_rfl,
  a3 := fun _ => by kernel_rfl,
  z3 := fun _ => by kernel_rfl,
  v3 := fun _ => by kernel_rfl,
  t4 := by kernel_rfl,
  a4 := fun _ => by kernel_rfl,
  z4 := fun _ => by kernel_rfl,
  v4 := fun _ => by kernel_rfl,
  t5 := by kernel_rfl,
  a5 := fun _ => by kernel_rfl,
  z5 := fun _ => by kernel_rfl,
  v5 := fun _ => by kernel_rfl,
  t9 := by kernel_rfl,
  a9 := fun _ => by kernel_rfl,
  z9 := fun _ => by kernel_rfl,
  v9 := fun _ => by kernel_rfl,
  t22 := by kernel_rfl,
  a22 := fun _ => by kernel_rfl,
  z22 := fun _ => by kernel_rfl,
  v22 := fun _ => by kernel_rfl,
  t25 := by kernel_rfl,
  a25 := fun _ => by kernel_rfl,
  z25 := fun _ => by kernel_rfl,
  v25 := fun _ => by kernel_rfl,
  t39 := by kernel_rfl,
  a39 := fun _ => by kernel_rfl,
  z39 := fun _ => by kernel_rfl,
  v39 := fun _ => by kernel_rfl,
  t45 := by kernel_rfl,
  a45 := fun _ => by kernel_rfl,
  z45 := fun _ => by kernel_rfl,
  v45 := fun _ => by kernel_rfl,
  t46 := by kernel_rfl,
  a46 := fun _ => by kernel_rfl,
  z46 := fun _ => by kernel_rfl,
  v46 := fun _ => by kernel_rfl,
  t50 := by kernel_rfl,
  a50 := fun _ => by kernel_rfl,
  z50 := fun _ => by kernel_rfl,
  v50 := fun _ => by kernel_rfl,
  t53 := by kernel_rfl,
  a53 := fun _ => by kernel_rfl,
  z53 := fun _ => by kernel_rfl,
  v53 := fun _ => by kernel_rfl,
  t55 := by kernel_rfl,
  a55 := fun _ => by kernel_rfl,
  z55 := fun _ => by kernel_rfl,
  v55 := fun _ => by kernel_rfl,
  t66 := by kernel_rfl,
  a66 := fun _ => by kernel_rfl,
  z66 := fun _ => by kernel_rfl,
  v66 := fun _ => by kernel_rfl,
  t70 := by kernel_rfl,
  a70 := fun _ => by kernel_rfl,
  z70 := fun _ => by kernel_rfl,
  v70 := fun _ => by kernel_rfl,
  t76 := by kernel_rfl,
  a76 := fun _ => by kernel_rfl,
  z76 := fun _ => by kernel_rfl,
  v76 := fun _ => by kernel_rfl,
  t77 := by kernel_rfl,
  a77 := fun _ => by kernel_rfl,
  z77 := fun _ => by kernel_rfl,
  v77 := fun _ => by kernel_rfl }
end Go.Ear
set_option linter.unusedVariables false
namespace Go.E3
open Go Go.Ear
instance (priority := 1) {v : Value} {T : SV} {B : List Res} : SbB v T B B := ⟨fun _ o => ⟨o, fun r' h => ⟨r', h, fun _ x => x⟩⟩⟩
structure Ch2 where
  d1 : Nat
  d2 : Nat
  T1 : Value → Res
  T2 : Value → Res
section
variable (P : Program) (n : Nat) (X : Fix) (ms : List Nat) (env : EL) (ol : List Oper) (B : List Res) (k : Kt) (p r m : Nat) (c : Ch2)
def Ev2 (L : EL) (i : Nat) (o : Oper) : Option (Nat × SV) → Prop
  | some q => i ≠ p ∧ i ≠ r ∧ o.dst = some q.1 ∧ TriP P n X env B ol L o q.1 q.2
  | none => (i = p ∧ o.dst = some c.d1 ∧ TriV P n X env B ol L o (some (c.d1, fun v => ov v)) (fun v => c.T1 v :: B)) ∨
    (i = r ∧ o.dst = some c.d2 ∧ ∀ v, TriV P n X env (c.T1 v :: B) ol ((c.d1, ov v) :: L) o (some (c.d2, fun v => ov v)) (fun v => c.T2 v :: B))
inductive GC2 : EL → Nat → List Oper → Prop
  | pure {L i o rest} (q : Nat × SV) (h : Ev2 P n X env ol B p r c L i o (some q)) (g : GC2 (q :: L) (i + 1) rest) : GC2 L i (o :: rest)
  | ev {L i o rest} (h : Ev2 P n X env ol B p r c L i o none) (g : GC2 L (i + 1) rest) : GC2 L i (o :: rest)
  | fin {L rest} (g : ∀ v, GO P n X ms ((c.d2, ov v) :: L) env (c.T2 v :: B) ol rest k) : GC2 L m rest
open Classical in
noncomputable def bC (D : Nat → Prop) (ρ : Env) : List Res := if D r then c.T2 (ρ c.d2) :: B else if D p then c.T1 (ρ c.d1) :: B else B
end
section
variable {P : Program} {n : Nat} {X : Fix} {ms : List Nat} {env : EL} {ol : List Oper} {B : List Res} {k : Kt} {p r m : Nat} {c : Ch2}
theorem GC2.sem {L : EL} {i : Nat} {rest : List Oper} (g : GC2 P n X ms env ol B k p r m c L i rest) :
    ∃ res : List (Option (Nat × SV)), i + res.length = m ∧ res.length ≤ rest.length ∧ (∀ j e, res[j]? = some e → ∃ o, rest[j]? = some o ∧ Ev2 P n X env ol B p r c (lcs (res.take j) ++ L) (i + j) o e) ∧ ∀ v, GO P n X ms ((c.d2, ov v) :: (lcs res ++ L)) env (c.T2 v :: B) ol (rest.drop res.length) k := by
  induction g with
  | @pure L i o rest q h g ih =>
    obtain ⟨res, e, hle, hr, hg⟩ := ih
    refine ⟨some q :: res, by simp only [List.length_cons]; omega, by simp only [List.length_cons]; omega, fun j e hj => ?_, by rw [lcs_some]; simpa using hg⟩
    cases j with
    | zero => have hj : some q = e := by simpa using hj
              subst hj
              exact ⟨o, rfl, by simpa [lcs] using h⟩
    | succ j =>
      obtain ⟨o', x, y⟩ := hr j e (by simpa using hj)
      refine ⟨o', by simpa using x, ?_⟩
      rw [List.take_succ_cons, lcs_some, show i + (j + 1) = i + 1 + j by omega]; exact y
  | @ev L i o rest h g ih =>
    obtain ⟨res, e, hle, hr, hg⟩ := ih
    refine ⟨none :: res, by simp only [List.length_cons]; omega, by simp only [List.length_cons]; omega, fun j e hj => ?_, by rw [lcs_none]; simpa using hg⟩
    cases j with
    | zero => have hj : none = e := by simpa using hj
              subst hj
              exact ⟨o, rfl, by simpa [lcs] using h⟩
    | succ j =>
      obtain ⟨o', x, y⟩ := hr j e (by simpa using hj)
      refine ⟨o', by simpa using x, ?_⟩
      rw [List.take_succ_cons, lcs_none, show i + (j + 1) = i + 1 + j by omega]; exact y
  | @fin L rest g => exact ⟨[], by simp, by simp, fun j e hj => by simp at hj, by simpa [lcs] using g⟩
theorem c2_sound {loc : EL} {idn : Nat} (hmix : P.follows .mixedOrders = true) (hc : dagC ol m (env.map (·.1)) = true) (hnd : ol.all noDefer = true) (hpm : p < m) (hrm : r < m) (hpr : p < r) (hrp : reach ol 9 r p = true) (g : GC2 P n X ms env ol B k p r m c [] 0 ol) : GW P n X ms loc env B (.region idn ol.toArray true) k := ⟨fun ρ0 h1 wi si => by
  obtain ⟨res, hm0, hlen, hr, hend⟩ := g.sem
  rw [Nat.zero_add] at hm0
  have hr : ∀ j e, res[j]? = some e → ∃ o, ol[j]? = some o ∧ Ev2 P n X env ol B p r c (lcs (res.take j) ++ []) j o e := fun j e hj => by have := hr j e hj; rwa [Nat.zero_add] at this
  unfold dagC at hc
  simp only [Bool.and_eq_true] at hc
  obtain ⟨⟨hok, hall⟩, htl⟩ := hc
  have hall := fun i (hi : i < m) => by have := List.all_eq_true.1 hall i (List.mem_range.2 hi); rw [Bool.and_eq_true, Bool.not_eq_true'] at this; exact this
  have htl := fun i (o : Oper) (ho : ol[i]? = some o) => by
    have := List.all_eq_true.1 htl i (List.mem_range.2 (List.getElem?_eq_some_iff.1 ho).1)
    rw [Bool.and_eq_true, opA_eq ho] at this; exact this
  have F := okR_facts hok
  have hat : ∀ i, i < m → ∃ e, res[i]? = some e := fun i hi => ⟨_, List.getElem?_eq_getElem (by omega)⟩
  have hP : ∃ o, ol[p]? = some o ∧ o.dst = some c.d1 := by
    obtain ⟨e, he⟩ := hat p hpm
    obtain ⟨o, ho, ev⟩ := hr p e he
    cases e with
    | some q => exact absurd rfl ev.1
    | none =>
      rcases ev with ev | ev
      · exact ⟨o, ho, ev.2.1⟩
      · exact absurd ev.1 (by omega)
  have hR : ∃ o, ol[r]? = some o ∧ o.dst = some c.d2 := by
    obtain ⟨e, he⟩ := hat r hrm
    obtain ⟨o, ho, ev⟩ := hr r e he
    cases e with
    | some q => exact absurd rfl ev.2.1
    | none =>
      rcases ev with ev | ev
      · exact absurd ev.1 (by omega)
      · exact ⟨o, ho, ev.2.1⟩
  obtain ⟨op, hop, hod⟩ := hP
  obtain ⟨or, hor, hodr⟩ := hR
  have hne : ∀ (i j : Nat) (o o' : Oper) (d : Nat), i ≠ j → ol[i]? = some o → ol[j]? = some o' → o.dst = some d → o'.dst ≠ some d := fun i j o o' d hij ho ho' hd hd' => by
    rcases Nat.lt_or_ge i j with a | a
    · exact (F j o' d ho' hd').2.2 i o a ho hd
    · exact (F i o d ho hd).2.2 j o' (by omega) ho' hd'
  have henv : ∀ i o, i < m → ol[i]? = some o → ∀ t S, (t, S) ∈ env → o.dst ≠ some t := fun i o hi ho t S ht e => by
    have a := hall i hi
    rw [opA_eq ho, e] at a
    have := a.1
    simp only at this
    rw [← Bool.not_eq_true, memN_iff] at this
    exact this (List.mem_map.2 ⟨_, ht, rfl⟩)
  refine WT.draw (K := fun ρ w => run X.c.round P X.T k .normal (mkX X.c n ρ) w) hnd ?_ fun _ _ x => x
  intro t
  unfold Region.schedule Region.linearise
  rw [hmix]
  simp only [Bool.true_or, if_true]
  generalize hw1 : ({ wi with drawn := _ } : World) = w1
  have sy0 : Sy X.h0 X.w0 loc env B ρ0 h1 w1 := by
    subst hw1
    exact si.grow ((Gr.refl si.gr.sat).drew _ (Nat.le_succ _))
  obtain ⟨ls, hl, hwp⟩ := lin_inv (P := P) (n := n) (m := m) (ops := ol.toArray) (Q := onlyN fun ρ w => run X.c.round P X.T k .normal (mkX X.c n ρ) w) (fun D ρ w => ∃ (h : PH), (Gr X.h0 X.w0 h w ∧ h1.le h) ∧ OwnB X.w0 (bC B p r c D ρ) h w ∧
      (∀ i q, D i → res[i]? = some (some q) → den h q.2 (ρ q.1)) ∧ (∀ s, (∀ k o, D k → ol[k]? = some o → o.dst ≠ some s) → ρ s = ρ0 s) ∧ (D p → den h (ov (ρ c.d1)) (ρ c.d1)) ∧ (D r → den h (ov (ρ c.d2)) (ρ c.d2))) (by simpa [← hm0] using hlen)
    (fun i o ho j hj => by
      have := List.all_eq_true.1 (htl i o (by simpa using ho)).1 j hj
      rw [blt_eq] at this; exact of_decide_eq_true this)
    (fun i o ho hmi j hj => by
      have ho : ol[i]? = some o := by simpa using ho
      have := (htl i o ho).2
      rw [Nat.ble_eq_true_of_le hmi] at this
      have := List.all_eq_true.1 this j (List.mem_range.2 hj)
      obtain ⟨x, hx, hxx⟩ := List.any_eq_true.1 this
      have hx := List.mem_range.1 hx
      have hsz := (List.getElem?_eq_some_iff.1 ho).1
      have ho' : ol[i - x]? = some (ol[i - x]'(by omega)) := List.getElem?_eq_getElem (by omega)
      rw [opA_eq ho'] at hxx
      exact ⟨i - x, ol[i - x]'(by omega), by omega, by omega, by rw [List.getElem?_toArray]; exact ho', by simpa using hxx⟩)
    (by
      rintro D ρ w i o ho him hi hd hcl hD ⟨h, hg, how, hF, hold, hxS, hxR⟩
      have ho : ol[i]? = some o := by simpa using ho
      have hcl : ∀ (k : Nat) (o : Oper), ol[k]? = some o → D k → ∀ j ∈ deps o, D j := fun k o hk => hcl k o (by simpa using hk)
      have hDrp : D r → D p := fun hDr => reach_D hcl hrp hDr
      have hd12 : c.d1 ≠ c.d2 := fun e => hne p r op or c.d1 (by omega) hop hor hod (by rw [hodr, e])
      have fx0 : ∀ x ∈ looks ol o, ∀ t S, x = .tmp t → ((t, S) ∈ lcs (res.take i) ++ [] ∨ (t, S) ∈ env) → den h S (ρ t) := fun x hx t S hxt hmem => by
        subst hxt
        rcases hmem with hmem | hmem
        · rw [List.append_nil, List.mem_reverse, List.mem_filterMap] at hmem
          obtain ⟨qo, hqm, hent⟩ := hmem
          have hent : qo = some (t, S) := hent
          subst hent
          obtain ⟨j, hj⟩ := List.getElem?_of_mem hqm
          have hji : j < i := by
            rcases Nat.lt_or_ge j i with a | a
            · exact a
            · rw [List.getElem?_eq_none (by simp; omega)] at hj; cases hj
          rw [List.getElem?_take, if_pos hji] at hj
          obtain ⟨oj, hoj, _, _, hsj, _⟩ := hr j _ hj
          have hr2 := (hall i him).2
          unfold rdOk at hr2
          rw [opA_eq ho] at hr2
          have h2 := List.all_eq_true.1 hr2 _ hx
          simp only at h2
          have h3 := List.all_eq_true.1 h2 j (List.mem_range.2 hji)
          rw [opA_eq hoj, hsj] at h3
          simp only [beq_self, Bool.not_true, Bool.false_or] at h3
          exact hF j _ (hd j (by simpa using h3)) hj
        · rw [hold t fun k o' hk hok' => henv k o' (hD k hk) hok' t S hmem]
          exact (sy0.en.mem hmem).mono hg.2
      obtain ⟨e, he⟩ := hat i him
      obtain ⟨o', ho', ev⟩ := hr i e he
      rw [ho] at ho'; cases ho'
      have hw1' : ∀ (d : Nat), i ≠ p → o.dst = some d → c.d1 ≠ d := fun d hip hod1 e => hne i p o op d hip ho hop hod1 (by rw [hod, e])
      have hw2' : ∀ (d : Nat), i ≠ r → o.dst = some d → c.d2 ≠ d := fun d hip hod1 e => hne i r o or d hip ho hor hod1 (by rw [hodr, e])
      have hrs : ∀ (d : Nat) (v : Value) (h' : PH), h.le h' → o.dst = some d → (∀ j q, D j → res[j]? = some (some q) → den h' q.2 (upd ρ d v q.1)) ∧ (∀ sl, (∀ k o', (k = i ∨ D k) → ol[k]? = some o' → o'.dst ≠ some sl) → upd ρ d v sl = ρ0 sl) := fun d v h' hle hod => by
        refine ⟨fun j q hDj hq => ?_, fun sl hs' => ?_⟩
        · have hji : i ≠ j := fun e => hi (e ▸ hDj)
          obtain ⟨oj, hoj, _, _, hsj, _⟩ := hr j _ hq
          rw [upd_ne _ _ fun e => hne i j o oj d hji ho hoj hod (by rw [hsj, e])]
          exact (hF j q hDj hq).mono hle
        · rw [upd_ne _ _ fun e => hs' i o (.inl rfl) ho (by rw [e]; exact hod)]
          exact hold sl fun k o' hk hok' => hs' k o' (.inr hk) hok'
      cases e with
      | some q =>
        obtain ⟨hip, hir, hdq, hTq⟩ := ev
        have how0 : OwnB X.w0 B h w := by
          unfold bC at how
          split at how
          · exact how.2.2.2
          · split at how
            · exact how.2.2.2
            · exact how
        refine (hTq ρ h w ⟨hg.1, fx0, how0⟩).mono ?_
        rintro ρ' w' ⟨v, h', rfl, gr, hv⟩
        obtain ⟨r1, r2⟩ := hrs q.1 v h' gr.le hdq
        have e1 := upd_ne ρ v (hw1' q.1 hip hdq)
        have e2 := upd_ne ρ v (hw2' q.1 hir hdq)
        refine ⟨h', ⟨hg.1.trans gr, hg.2.trans gr.le⟩, ?_, fun j q' hj hq' => ?_, r2, fun hDp => ?_, fun hDr => ?_⟩
        · have e3 : bC B p r c (fun k => k = i ∨ D k) (upd ρ q.1 v) = bC B p r c D ρ := by
            unfold bC
            rw [e1, e2]
            by_cases y1 : D r
            · rw [if_pos (Or.inr y1), if_pos y1]
            · rw [if_neg (fun x => x.elim (fun e => hir e.symm) y1), if_neg y1]
              by_cases y2 : D p
              · rw [if_pos (Or.inr y2), if_pos y2]
              · rw [if_neg (fun x => x.elim (fun e => hip e.symm) y2), if_neg y2]
          rw [e3]; exact how.grow gr
        · by_cases hji : j = i
          · subst hji; rw [he] at hq'; cases hq'; rw [upd_at]; exact hv
          · exact r1 j q' (hj.resolve_left hji) hq'
        · rw [e1]; exact (hxS (hDp.resolve_left fun e => hip e.symm)).mono gr.le
        · rw [e2]; exact (hxR (hDr.resolve_left fun e => hir e.symm)).mono gr.le
      | none =>
        rcases ev with ⟨rfl, hdq, hT1⟩ | ⟨rfl, hdq, hT1⟩
        · have hDr : ¬ D r := fun x => hi (hDrp x)
          have hb1 : bC B i r c D ρ = B := by unfold bC; rw [if_neg hDr, if_neg hi]
          have hir : i ≠ r := by omega
          rw [hb1] at how
          refine (hT1 ρ h w ⟨hg.1, fx0, how⟩).mono ?_
          rintro ρ' w' ⟨v, h', ⟨rfl, hv⟩, hgr, hle, _, _, hob⟩
          obtain ⟨r1, r2⟩ := hrs c.d1 v h' hle hdq
          have hb2 : bC B i r c (fun k => k = i ∨ D k) (upd ρ c.d1 v) = c.T1 v :: B := by
            unfold bC
            rw [if_neg (fun x => x.elim (fun e => hir e.symm) hDr), if_pos (Or.inl rfl), upd_at]
          refine ⟨h', ⟨hgr, hg.2.trans hle⟩, (by rw [hb2]; exact hob), fun j q hj hq => ?_, r2, fun _ => ?_, fun x => absurd (x.resolve_left fun e => hir e.symm) hDr⟩
          · have hji : j ≠ i := fun e => by rw [e, he] at hq; cases hq
            exact r1 j q (hj.resolve_left hji) hq
          · rw [upd_at]; exact hv
        · have hDp : D p := reach_of_deps hcl ho hd hrp
          have hb1 : bC B p i c D ρ = c.T1 (ρ c.d1) :: B := by unfold bC; rw [if_neg hi, if_pos hDp]
          have hip : i ≠ p := by omega
          rw [hb1] at how
          refine (hT1 (ρ c.d1) ρ h w ⟨hg.1, fun x hx t S hxt hmem => ?_, how⟩).mono ?_
          · rcases hmem with hmem | hmem
            · rcases List.mem_cons.1 hmem with e | hmem
              · cases e; exact hxS hDp
              · exact fx0 x hx t S hxt (.inl hmem)
            · exact fx0 x hx t S hxt (.inr hmem)
          rintro ρ' w' ⟨v, h', ⟨rfl, hv⟩, hgr, hle, _, _, hob⟩
          obtain ⟨r1, r2⟩ := hrs c.d2 v h' hle hdq
          have hb2 : bC B p i c (fun k => k = i ∨ D k) (upd ρ c.d2 v) = c.T2 v :: B := by
            unfold bC
            rw [if_pos (Or.inl rfl), upd_at]
          refine ⟨h', ⟨hgr, hg.2.trans hle⟩, (by rw [hb2]; exact hob), fun j q hj hq => ?_, r2, fun _ => ?_, fun _ => ?_⟩
          · have hji : j ≠ i := fun e => by rw [e, he] at hq; cases hq
            exact r1 j q (hj.resolve_left hji) hq
          · rw [upd_ne _ _ hd12]; exact (hxS hDp).mono hle
          · rw [upd_at]; exact hv)
    (by
      rintro D D' ρ w hDD ⟨h, a, b, c, d⟩
      have : D = D' := funext fun k => propext (hDD k)
      subst this
      exact ⟨h, a, b, c, d⟩)
    (by
      rintro D ρ w hall2 hD ⟨h, hg, how, hF, hold, hxS, hxR⟩
      have hlo : ∀ l : List (Option (Nat × SV)), (∀ q, some q ∈ l → den h q.2 (ρ q.1)) → EnvOk h ρ (l.filterMap id) := fun l => by
        induction l with
        | nil => exact fun _ => trivial
        | cons q l ih =>
          cases q with
          | none => exact fun a => by simpa using ih fun q hq => a q (List.mem_cons_of_mem _ hq)
          | some q =>
            intro a
            show EnvOk h ρ (q :: l.filterMap id)
            exact ⟨a q (List.mem_cons_self ..), ih fun q hq => a q (List.mem_cons_of_mem _ hq)⟩
      have hloc : EnvOk h ρ (lcs res ++ []) := by
        rw [List.append_nil]
        have : lcs res = (res.reverse.filterMap id) := by rw [List.filterMap_reverse]
        rw [this]
        refine hlo _ fun q hq => ?_
        obtain ⟨i, hi⟩ := List.getElem?_of_mem (List.mem_reverse.1 hq)
        have him : i < m := by rw [← hm0]; exact (List.getElem?_eq_some_iff.1 hi).1
        exact hF i q (hall2 i him) hi
      have hen : EnvOk h ρ env := (sy0.en.mono hg.2).ext fun p hp => (hold p.1 fun k o' hk hok' => henv k o' (hD k hk) hok' p.1 p.2 hp).symm
      have hds : ∀ (ex : List Nat), (∀ e ∈ ex, ∃ j o, j < m ∧ ol[j]? = some o ∧ o.dst = some e) → okR (ol.drop m) (ex ++ (lcs res).map (·.1)) (env.map (·.1)) = true := fun ex hex =>
        okR_tail hok (fun e he => by
          rcases List.mem_append.1 he with x | x
          · exact hex e x
          · obtain ⟨q, hq, rfl⟩ := List.mem_map.1 x
            rw [List.mem_reverse, List.mem_filterMap] at hq
            obtain ⟨qo, hqm, hq2⟩ := hq
            have hq2 : qo = some q := hq2
            subst hq2
            obtain ⟨j, hj⟩ := List.getElem?_of_mem hqm
            obtain ⟨o, ho, _, _, hod, _⟩ := hr j _ hj
            exact ⟨j, o, by rw [← hm0]; exact (List.getElem?_eq_some_iff.1 hj).1, ho, hod⟩)
      have close : ∀ {L : EL} {Bx : List Res}, GO P n X ms L env Bx ol (ol.drop res.length) k → okR (ol.drop m) (L.map (·.1)) (env.map (·.1)) = true → EnvOk h ρ L → OwnB X.w0 Bx h w → wpOps P ol.toArray (toQ n (onlyN fun ρ w => run X.c.round P X.T k .normal (mkX X.c n ρ) w)) (List.range' m (ol.toArray.size - m)) (mk n ρ) w := fun {L Bx} hgo hk hL hB => by
        have hG := hgo.p (by rw [hm0]; exact hk) ρ h w ⟨hg.1, hL, hen, hB⟩
        rw [hm0] at hG
        have := wpList_of_Ops (Q := onlyN fun ρ w => run X.c.round P X.T k .normal (mkX X.c n ρ) w) (fun _ _ h => h) (ol.drop m) ρ w hG
        rw [← wpOps_eq_wpList (ol.drop m) m (by intro j; simp)] at this
        simpa using this
      have hDr := hall2 r hrm
      have hbw : bC B p r c D ρ = c.T2 (ρ c.d2) :: B := by unfold bC; exact if_pos hDr
      rw [hbw] at how
      refine close (hend (ρ c.d2)) ?_ ⟨hxR hDr, hloc⟩ how
      have := hds [c.d2] fun e he => by
        rcases List.mem_singleton.1 he with rfl
        exact ⟨r, or, hrm, hor, hodr⟩
      simpa using this)
    ol.toArray.size t (Array.replicate ol.toArray.size false) [] (by simp) (by intro i o ho hi; simp [Array.getElem?_replicate] at hi) (by intro i hi; simp [Array.getElem?_replicate] at hi)
    (by unfold left; exact Nat.le_trans (List.length_filter_le _ _) (by simp))
  rw [hl]
  simp only [List.reverse_nil, List.nil_append]
  have hD0 : ∀ i, ¬ (Array.replicate ol.toArray.size false)[i]? = some true := fun i => by rw [Array.getElem?_replicate]; split <;> simp
  refine hwp ρ0 w1 ⟨h1, ⟨sy0.gr, PH.le.refl h1⟩, by
    have e2 : bC B p r c (fun i => (Array.replicate ol.toArray.size false)[i]? = some true) ρ0 = B := by
      unfold bC
      rw [if_neg (hD0 r), if_neg (hD0 p)]
    rw [e2]; exact sy0.ow, (fun i q hi => absurd hi (hD0 i)), fun _ _ => rfl, fun h => absurd h (hD0 p), fun h => absurd h (hD0 r)⟩⟩
theorem gDc (sz p r m : Nat) (c : Ch2) {idn : Nat} {loc : EL} [mx : MixO P] (hs : Nat.beq ol.length sz = true) (cc : (dagC ol m (env.map (·.1)) && ol.all noDefer && Nat.blt r m && Nat.blt p r && reach ol 9 r p) = true) (g : GC2 P n X ms env ol B k p r m c [] 0 ol) : GW P n X ms loc env B (.region idn ol.toArray true) k := by
  simp only [Bool.and_eq_true] at cc
  have h1 := ltZ cc.1.1.2
  have h2 := ltZ cc.1.2
  exact c2_sound mx.h cc.1.1.1.1 cc.1.1.1.2 (by omega) h1 h2 cc.2 g
section
variable {L loc : EL} {i d : Nat} {op : Op} {t e : TypeId} {ty : TypeId} {pos : String} {af : Array Edge} {rest : List Oper} {sd : Prop} {S : SV}
instance [e1 : RflE (Nat.beq i p) false] [e2 : RflE (Nat.beq i r) false] [st : St P n true L env B ms d op sd S] : Nx (GC2 P n X ms env ol B k p r m c L i (⟨some d, op, ty, pos, af, none⟩ :: rest)) sd (GC2 P n X ms env ol B k p r m c ((d, S) :: L) (i + 1) rest) := ⟨fun hs g => .pure (d, S) ⟨neZ e1.h, neZ e2.h, rfl, triQ (st := st) hs⟩ g⟩
theorem gCa {α : Type} {q : Rp α} {l : List α} {d2 : Nat} {T2 : Value → Res} {f : FuncId} {xs : List Operand} {ts : Array TypeId} {Ss : List SV} {T : Gh → List Res} [lx : Lus n true L env xs Ss] [ct : CtO P f Ss sd T] (hT : T = fun g => [rA q e g.v l]) (hp : i = p) (hs : sd) (g : GC2 P n X ms env ol B k p r m ⟨d, d2, fun v => rA q e v l, T2⟩ L (i + 1) rest) : GC2 P n X ms env ol B k p r m ⟨d, d2, fun v => rA q e v l, T2⟩ L i (⟨some d, .call ⟨.value (.func f), xs.toArray, ts⟩, ty, pos, af, none⟩ :: rest) := .ev (.inl ⟨hp, rfl, fun ρ h w s => by
  have s' : Sx X.h0 X.w0 L env B xs ρ h w := s.sub (fun x hx => by simp [looks, Op.operands, Call.operands, hx]) fun _ h => h
  have hx : denL h Ss (xs.map (ev n ρ)) := lx.h rfl fun x hx => s'.fx x hx
  refine OpG.plain (OpW.enter (f := f) (args := (xs.map (ev n ρ)).toArray) (w' := w) ?_ (ct.h hs s.gr.sat hx) ?_)
  · simp only [execOp, resolve, ev, Deferred.ofValue, Sem.run_bind, Sem.run_pure, Result.andThen, invoke, List.map_toArray]
    have := ct.fn (#[] ++ (xs.map (ev n ρ)).toArray ++ #[]) w
    simpa using this
  · rintro e w'' ⟨γ, rfl, h', gr, one, own⟩
    subst hT
    refine ⟨γ.v, rfl, γ.v, h', ⟨rfl, rfl, one⟩, s.gr.trans gr, gr.le, (fun e => by cases e), (fun e => by cases e), ?_⟩
    exact OwnB.join own s.gr.ext.size s.ow gr fun r' hr' => by rcases List.mem_singleton.1 hr' with rfl; rfl⟩) g
theorem gCb {α : Type} {q : Rp α} {bb : Nat} {d0 : α} {l l' : List α} {d1 : Nat} {o1 o2 : Operand} [ts : TS P t e] [rt : RT P e α q bb d0] [lx : ∀ v, Lu n true ((d1, ov v) :: L) env o1 (ov v)] [ly : ∀ v, Lu n true ((d1, ov v) :: L) env o2 (lv q l')] (hp : i = r) (hs : l.length + l'.length ≤ 9223372036854775807 ∧ (l.length + l'.length) * bb ≤ 140737488355328) (g : GC2 P n X ms env ol B k p r m ⟨d1, d, fun v => rA q e v l, fun v => rA q e v (l ++ l')⟩ L (i + 1) rest) :
    GC2 P n X ms env ol B k p r m ⟨d1, d, fun v => rA q e v l, fun v => rA q e v (l ++ l')⟩ L i (⟨some d, .call ⟨.builtin .append, [o1, o2].toArray, [t, t].toArray⟩, ty, pos, af, none⟩ :: rest) := .ev (.inr ⟨hp, rfl, fun v ρ h w s => by
  obtain ⟨z, ti, el, hz⟩ := rt.e
  have s' : Sx X.h0 X.w0 ((d1, ov v) :: L) env (rA q e v l :: B) [o1, o2] ρ h w := s.sub (fun x hx => by simpa [looks, Op.operands, Call.operands] using hx) fun _ h => h
  have hx := (lx v).h rfl (s'.fx o1 (by simp))
  have hy := (ly v).h rfl (s'.fx o2 (by simp))
  refine OpG.plain (OpW.appendL (lo := 0) ts.h el.hi el.hz el.hc el.hk s.gr.sat (Nat.zero_le _) hx.1 rfl (s.ow.at 0 rfl).1 hy hs.1 (by rw [el.hb]; exact hs.2) fun v' w' own ow hbl => ?_)
  have sy := own_app (loc := []) (env := []) (ρ := ρ) ⟨s.gr, trivial, trivial, s.ow⟩ own ow hbl
  exact ⟨v', h, ⟨rfl, rfl, own_one own⟩, sy.gr, PH.le.refl h, (fun e => by cases e), (fun e => by cases e), sy.ow⟩⟩) g
theorem gCe {d1 d2 : Nat} {T1 T2 : Value → Res} (h : i = m) (g : ∀ v, GO P n X ms ((d2, ov v) :: L) env (T2 v :: B) ol rest k) : GC2 P n X ms env ol B k p r m ⟨d1, d2, T1, T2⟩ L i rest := by
  subst h
  exact .fin g
end
theorem gFzO {α : Type} (v : Value) {q : Rp α} {e : TypeId} {l : List α} {loc loc' env' : EL} {B1 B2 : List Res} {rest : List Oper} [pa : PA B v α q e l B1] [sl : SbE v (lv q l) loc loc'] [se : SbE v (lv q l) env env'] [sb : SbB v (lv q l) B1 B2] [d1 : SameDom loc loc'] [d2 : SameDom env env'] (g : GO P n X ms loc' env' B2 ol rest k) : GO P n X ms loc env B ol rest k := ⟨fun ok ρ h w s => by
  obtain ⟨h', s'⟩ := s.fz (v := v) (r := q) (q := l) (pa := pa) (sl := sl) (se := se) (sb := sb)
  exact g.p (by rw [d1.h, d2.h]; exact ok) ρ h' w s'⟩
end
end Go.E3
set_option linter.unusedVariables false
set_option maxRecDepth 20000
set_option maxHeartbeats 4000000
set_option synthInstance.maxSize 1000
namespace Go.E3
open Go Go.Ear Go.Proofs
def mkF (p : List Int) (x : Rat) : Fo := ⟨p, frK x⟩
theorem CtR.to {P : Program} {f : FuncId} {args : List SV} {B B1 : List Res} {sd : Prop} {σ : Type} {S : σ → SV} {B' : σ → List Res} (c : CtR P f args B1 sd σ S B') (h : Sb B B1) : CtR P f args B sd σ S B' := ⟨c.fn, fun x _ _ _ _ _ g o u => c.h x g (h.own o) u⟩
abbrev MF (b : Bag (List Int)) : List (ByteArray × Fo) → Prop := fun l => MK prtB mkF l b
theorem CtR.az {P : Program} {f : FuncId} {as1 bs : List SV} {B : List Res} {sd : Prop} {σ : Type} {S : σ → SV} {B' : σ → List Res} (c : CtR P f bs B sd σ S B') (i : ∀ {h vs}, denL h as1 vs → denL h bs vs) : CtR P f as1 B sd σ S B' := ⟨c.fn, fun x _ _ _ _ _ g o u => c.h x g o (i u)⟩
def PhI (p : List Int) : Prop := p.length ≤ 100000 ∧ ∀ x ∈ p, -9223372036854775808 ≤ x ∧ x ≤ 9223372036854775807
instance add_b {v : Value} {p : List Int} {f : Fr} {b : Bag (List Int)} {B1 : List Res} [hg : HG B1] [ft : FtF f] : CtR Tryz.prog 70 [ov v, lv rI p, fv f] (rMp fov v (MF b) :: B1) (PhI p ∧ bq (tot b p) + bf f ≤ 134217000) Unit (fun _ => .tp []) (fun _ => rMp fov v (MF (b ++ [(p, f.rat)])) :: B1) := by
  refine (ctR Tryz.call70 Tryz.func70 Tryz.ntmps70 rfl Tryz.results70 rfl [] fun h0 w0 ⟨⟨hp, hpi⟩, hq⟩ => ?_)
  refine gOp v fun l m => ?_
  repeat first | refine nx ?_ | intro _
  obtain ⟨m1, m2⟩ := m.get (fun p q => prtB_inj) p
  have hfin := m.add (fun p q => prtB_inj) p f.rat
  by_cases hh : hasB b p
  · have e := m1 hh
    rw [e]
    refine gIf (fun c => absurd c (by simp)) fun c => ?_
    dsimp only [Option.getD_some, mkF]
    repeat first | refine nx ?_ | intro _
    exact gEr () (h2 := ⟨hfin, trivial⟩)
  · have e := m2 hh
    rw [e]
    refine gIf (fun c => ?_) fun c => absurd c (by simp)
    dsimp only [Option.getD_none, fo0]
    have hz : bf fr0 ≤ 1 := by decide
    rw [tot_none hh, bq_zero] at hq
    have hr : fr0.rat = 0 := by rw [← frK_zero, frK_rat]
    rw [tot_none hh, ← hr] at hfin
    repeat first | refine nx ?_ | intro _
    exact gEr () (h2 := ⟨hfin, trivial⟩)
end Go.E3
set_option linter.unusedVariables false
set_option maxRecDepth 20000
set_option maxHeartbeats 4000000
set_option synthInstance.maxSize 1000
namespace Go.E3
open Go Go.Ear Go.Proofs
def FoS (e : Fo) : Prop := e.ph.length ≤ 1099511627776 ∧ bf e.f ≤ 60000000 ∧ Fit e.f.n ∧ Fit e.f.d
instance cmpFo_c {a b : Fo} : Ct Tryz.prog 149 [fov a, fov b] (FoS a ∧ FoS b) (iv (cmpFo a b)) := by
  refine (ctI Tryz.call149 Tryz.func149 Tryz.ntmps149 rfl Tryz.results149 rfl [2, 3] fun h0 w0 ⟨⟨h1, h2, h3⟩, h4, h5, h6⟩ => ?_)
  haveI : FtF a.f := ⟨h3⟩
  haveI : FtF b.f := ⟨h6⟩
  unfold cmpFo
  repeat first | refine nx ?_ | intro _
  refine gIf (fun c => ?_) fun c => ?_ <;> repeat first | refine nx ?_ | intro _
  · exact (if_pos c).symm
  · exact (if_neg c).symm
instance : DzR rO' := .of (by decide) fun _ => inferInstance
theorem cmpFo_C : CmpC Tryz.prog 149 fov FoS cmpFo := ⟨Tryz.call149, fun {x y} qx qy {h w vs} s u => cmpFo_c.h ⟨qx, qy⟩ s u⟩
instance sortF_c {v : Value} {l : List Fo} {B1 : List Res} [hg : HG B1] : CtR Tryz.prog 148 [ov v, .cv (.func (.func 149) #[] #[])] (rA rO' 50 v l :: B1) (l.length ≤ 1099511627776 ∧ ∀ x ∈ l, FoS x) (Srtd cmpFo l) (fun _ => .tp []) (fun s => rA rO' 50 v s.1 :: B1) :=
  sortK (ρ := sortFRen) sortFLays Tryz.call148 Tryz.isAgg50 Tryz.sizeOf50 cmpFo_swo cmpFo_C
theorem ordered_c' {v : Value} {l : List Fo} {B1 : List Res} [hg : HG B1] : CtR Tryz.prog 92 [ov v] (rA rO' 50 v l :: B1) (l.length ≤ 1099511627776 ∧ ∀ x ∈ l, FoS x) (Srtd cmpFo l) (fun _ => ov v) (fun s => rA rO' 50 v s.1 :: B1) := by
  refine (ctR Tryz.call92 Tryz.func92 Tryz.ntmps92 rfl Tryz.results92 rfl [] fun h0 w0 hs => ?_)
  repeat first | refine nx ?_ | intro _
  rename_i s
  exact gEr s
instance ordered_c {v : Value} {l : List Fo} {B B1 : List Res} [pa : PA B v Fo rO' 50 l B1] [hg : HG B1] : CtR Tryz.prog 92 [ov v] B (l.length ≤ 1099511627776 ∧ ∀ x ∈ l, FoS x) (Srtd cmpFo l) (fun _ => ov v) (fun s => rA rO' 50 v s.1 :: B1) := CtR.to ordered_c' pa.h
theorem MF_mem {b : Bag (List Int)} {l : List (ByteArray × Fo)} (m : MF b l) {s : ByteArray} {a : Fo} (h : (s, a) ∈ l) : ∃ p, hasB b p ∧ a = mkF p (tot b p) := by
  obtain ⟨p, h1, _, h2⟩ := (m.2 _ _).1 h
  exact ⟨p, h1, h2⟩
theorem MF_bnd {b : Bag (List Int)} {l : List (ByteArray × Fo)} (m : MF b l) : bndB b = true ↔ (∀ x ∈ l, x.2.ph.length ≤ 400) ∧ l.length ≤ 5000 := by
  rw [bndB_iff, m.len fun p q => prtB_inj]
  refine and_congr_left fun _ => ⟨fun h x hx => ?_, fun h p hp => ?_⟩
  · obtain ⟨p, hp, e⟩ := MF_mem m (s := x.1) (a := x.2) hx
    rw [e]; exact h p hp
  · exact h (prtB p, mkF p (tot b p)) ((m.2 _ _).2 ⟨p, hp, rfl, rfl⟩)
theorem bounded_c' {v : Value} {b : Bag (List Int)} {B1 : List Res} : CtR Tryz.prog 71 [ov v] (rMp fov v (MF b) :: B1) (cnt b ≤ 1099511627776) Unit (fun _ => bv (bndB b)) (fun _ => rMp fov v (MF b) :: B1) := by
  refine (ctR Tryz.call71 Tryz.func71 Tryz.ntmps71 rfl Tryz.results71 rfl [] fun h0 w0 hs => ?_)
  refine gOp v fun l m => ?_
  have hb := MF_bnd m
  have hlen := m.len fun p q => prtB_inj
  repeat first | refine nx ?_ | intro _
  rename_i p
  refine gLp (fun vis : List (ByteArray × Fo) => [(6, ov p)]) (fun vis => [rMI fov p v l vis]) (fun vis => vis.length ≤ l.length ∧ ∀ x ∈ vis, x.2.ph.length ≤ 400) (fun vis => l.length - vis.length) [] ⟨Nat.zero_le _, fun x hx => by cases hx⟩ fun vis ⟨hv, hI⟩ => ?_
  repeat first | refine nx ?_ | intro _
  refine gNxt (fun hd => ?_) fun s a ⟨r, hr⟩ => ?_
  · repeat first | refine nx ?_ | intro _
    have e : decide (l.length ≤ 5000) = bndB b := by
      rw [Bool.eq_iff_iff, decide_eq_true_iff, hb]
      exact ⟨fun h => ⟨fun x hx => hI x (hd.mem_iff.2 hx), h⟩, fun h => h.2⟩
    rw [e]
    exact gEr () (h2 := ⟨m, trivial⟩)
  · have hl2 := hr.length_eq
    rw [List.length_append, List.length_cons] at hl2
    repeat first | refine nx ?_ | intro _
    refine gIf (fun c => ?_) fun c => ?_ <;> repeat first | refine nx ?_ | intro _
    · have e : bndB b = false := by
        rw [← Bool.not_eq_true, hb]
        intro h
        have := h.1 (s, a) (hr.mem_iff.1 (by simp))
        have c : 400 < a.ph.length := by omega
        exact absurd this (by show ¬ a.ph.length ≤ 400; omega)
      rw [← e]
      exact gEr () (h2 := ⟨m, trivial⟩)
    · refine gBk (vis ++ [(s, a)]) ⟨by rw [List.length_append]; simp; omega, fun x hx => ?_⟩ (by rw [List.length_append]; simp; omega)
      rcases List.mem_append.1 hx with hx | hx
      · exact hI x hx
      · rw [List.mem_singleton.1 hx]; show a.ph.length ≤ 400; omega
instance bounded_c {v : Value} {b : Bag (List Int)} {B B1 : List Res} [pm : PMp B v Fo fov (MF b) B1] : CtR Tryz.prog 71 [ov v] B (cnt b ≤ 1099511627776) Unit (fun _ => bv (bndB b)) (fun _ => rMp fov v (MF b) :: B1) := CtR.to bounded_c' pm.h
theorem FoS_fos {b : Bag (List Int)} (h : ∀ p, hasB b p → p.length ≤ 1099511627776 ∧ bq (tot b p) ≤ 60000000) : ∀ x ∈ fosB b, FoS x := fun x hx => by
  obtain ⟨p, hp, rfl⟩ := mem_fosB.1 hx
  obtain ⟨h1, h2⟩ := h p hp
  have ft : FtF (frK (tot b p)) := inferInstance
  exact ⟨h1, by rw [bf_frK]; exact h2, ft.h⟩
theorem list_c' {v : Value} {b : Bag (List Int)} {B1 : List Res} [hg : HG B1] : CtR Tryz.prog 72 [ov v] (rMp fov v (MF b) :: B1) (cnt b ≤ 1000000 ∧ ∀ p, hasB b p → p.length ≤ 1099511627776 ∧ bq (tot b p) ≤ 60000000) Value (fun v' => ov v') (fun v' => rA rO' 50 v' (srtF b) :: rMp fov v (MF b) :: B1) := by
  refine (ctR Tryz.call72 Tryz.func72 Tryz.ntmps72 rfl Tryz.results72 rfl [] fun h0 w0 ⟨hs1, hs2⟩ => ?_)
  refine gOp v fun l m => ?_
  have hlen := m.len fun p q => prtB_inj
  repeat first | refine nx ?_ | intro _
  refine gNl rO' 50 ?_
  rename_i p
  refine gLp (fun s : List (ByteArray × Fo) × Value => [(7, ov p), (3, ov s.2)]) (fun s => [rMI fov p v l s.1, rA rO' 50 s.2 (s.1.map (·.2))]) (fun s => s.1.length ≤ l.length) (fun s => l.length - s.1.length) ([], .slice none 0 0) (Nat.zero_le _) (fun ⟨vis, u⟩ hv => ?_)
  dsimp only at hv ⊢
  repeat first | refine nx ?_ | intro _
  refine gNxt (fun hd => ?_) fun s a ⟨r, hr⟩ => ?_
  · have hml : (vis.map (·.2)).length = vis.length := List.length_map ..
    have hp : (vis.map (·.2)).Perm (fosB b) := (hd.map _).trans (MF_perm m)
    have hfs : ∀ x ∈ vis.map (·.2), FoS x := fun x hx => FoS_fos hs2 x (hp.mem_iff.1 hx)
    repeat first | refine nx ?_ | intro _
    rename_i s
    have e : s.1 = srtF b := srt_one cmpFo_swo (fosB_anti b) (s.2.1.trans hp) s.2.2
    rw [e]
    exact gEr u (h2 := ⟨trivial, m, trivial⟩)
  · have hl2 := hr.length_eq
    rw [List.length_append, List.length_cons] at hl2
    have hml : (vis.map (·.2)).length = vis.length := List.length_map ..
    repeat first | refine nx ?_ | intro _
    rename_i u2
    have e : vis.map (·.2) ++ [a] = (vis ++ [(s, a)]).map (·.2) := by rw [List.map_append]; rfl
    rw [e]
    exact gBk (vis ++ [(s, a)], u2) (by dsimp only; rw [List.length_append]; simp; omega) (by dsimp only; rw [List.length_append]; simp; omega)
instance list_c {v : Value} {b : Bag (List Int)} {B B1 : List Res} [pm : PMp B v Fo fov (MF b) B1] [hg : HG B1] : CtR Tryz.prog 72 [ov v] B (cnt b ≤ 1000000 ∧ ∀ p, hasB b p → p.length ≤ 1099511627776 ∧ bq (tot b p) ≤ 60000000) Value (fun v' => ov v') (fun v' => rA rO' 50 v' (srtF b) :: rMp fov v (MF b) :: B1) := CtR.to list_c' pm.h
end Go.E3
