/- P6: a part of the proofs about package model: how the program's functions run, and what they compute, for every input. -/
import Derived.Test.YtpmndikbfalfoaaGreatP5
set_option linter.all false
set_option linter.unusedVariables false
namespace Go.Ear
theorem sumTo_split (q : Nat → Rat) (a : Nat) : ∀ b, sumTo q (a + b) = sumTo q a + sumTo (fun j => q (a + j)) b
  | 0 => (Rat.add_zero _).symm
  | b + 1 => by rw [← Nat.add_assoc, sumTo_succ, sumTo_succ, sumTo_split q a b]; exact Rat.add_assoc ..
theorem sumTo_first (q : Nat → Rat) (n : Nat) : sumTo q (n + 1) = q 0 + sumTo (fun i => q (i + 1)) n := by
  rw [Nat.add_comm, sumTo_split, show sumTo q 1 = 0 + q 0 from rfl, Rat.zero_add]
  congr 1; exact sumTo_congr _ fun i _ => by rw [Nat.add_comm]
theorem fwd_take {m : Md} {o : List Int} {k t : Nat} (h : k < t) (ht : t ≤ o.length) : fwd ⟨m, o.take t⟩ k = fwd ⟨m, o⟩ k := by
  have := fwd_o (m := m) (o := o.take t) (q := o.drop t) (k := k) (by rw [List.length_take]; omega)
  rw [List.take_append_drop] at this; exact this.symm
theorem lk_take {m : Md} {o : List Int} {t : Nat} (ht : t + 1 ≤ o.length) : lk ⟨m, o.take (t + 1)⟩ = sumTo (fun i => (fwd ⟨m, o⟩ t).getD i 0 * (m.fin.getD i fr0).rat) m.start.length := by
  have hl : (o.take (t + 1)).length = t + 1 := by rw [List.length_take]; omega
  rw [lk_fwd (by show 0 < (o.take (t + 1)).length; omega)]
  show sumTo (fun i => (fwd ⟨m, o.take (t + 1)⟩ ((o.take (t + 1)).length - 1)).getD i 0 * _) _ = _
  rw [hl, show t + 1 - 1 = t by omega, fwd_take (by omega) ht]
theorem lk_drop {m : Md} {o : List Int} {t : Nat} (ht : t < o.length) : lk ⟨m, o.drop t⟩ = sumTo (fun i => (fwd ⟨m, o.drop t⟩ (o.length - 1 - t)).getD i 0 * (m.fin.getD i fr0).rat) m.start.length := by
  rw [lk_fwd (by show 0 < (o.drop t).length; rw [List.length_drop]; omega)]
  show sumTo (fun i => (fwd ⟨m, o.drop t⟩ ((o.drop t).length - 1)).getD i 0 * _) _ = _
  rw [List.length_drop, show o.length - t - 1 = o.length - 1 - t by omega]
theorem getD_drop' (o : List Int) (t k : Nat) : (o.drop t).getD k 0 = o.getD (t + k) 0 := by
  rw [List.getD_eq_getElem?_getD, List.getElem?_drop, List.getD_eq_getElem?_getD]
def stQ (m : Md) (i : Nat) : Rat := (m.start.getD i fr0).rat
def mvE (m : Md) (i j : Nat) : Rat := ((m.move.getD i []).getD j fr0).rat
def fiQ (m : Md) (i : Nat) : Rat := (m.fin.getD i fr0).rat
def syQ (m : Md) (i k : Nat) : Rat := ((m.say.getD i []).getD k fr0).rat
structure JoinOf (j a b : Md) : Prop where
  n : j.start.length = a.start.length + b.start.length
  s1 : ∀ i, i < a.start.length → stQ j i = stQ a i
  s2 : ∀ i, i < b.start.length → stQ j (a.start.length + i) = 0
  m1 : ∀ i k, i < a.start.length → k < a.start.length → mvE j i k = mvE a i k
  m2 : ∀ i k, i < a.start.length → k < b.start.length → mvE j i (a.start.length + k) = fiQ a i * stQ b k
  m3 : ∀ i k, i < b.start.length → k < a.start.length → mvE j (a.start.length + i) k = 0
  m4 : ∀ i k, i < b.start.length → k < b.start.length → mvE j (a.start.length + i) (a.start.length + k) = mvE b i k
  f1 : ∀ i, i < a.start.length → fiQ j i = 0
  f2 : ∀ i, i < b.start.length → fiQ j (a.start.length + i) = fiQ b i
  y1 : ∀ i k, i < a.start.length → syQ j i k = syQ a i k
  y2 : ∀ i k, i < b.start.length → syQ j (a.start.length + i) k = syQ b i k
section
variable {j a b : Md} {o : List Int}
theorem join_fa (h : JoinOf j a b) : ∀ k i, i < a.start.length → (fwd ⟨j, o⟩ k).getD i 0 = (fwd ⟨a, o⟩ k).getD i 0
  | 0, i, hi => by
    rw [← fwd_zero (t := ⟨j, o⟩) (by show i < j.start.length; rw [h.n]; omega), ← fwd_zero (t := ⟨a, o⟩) hi]
    show stQ j i * syQ j i _ = stQ a i * syQ a i _
    rw [h.s1 i hi, h.y1 i _ hi]
  | k + 1, i, hi => by
    rw [← fwd_succ (t := ⟨j, o⟩) (by show i < j.start.length; rw [h.n]; omega), ← fwd_succ (t := ⟨a, o⟩) hi]
    show syQ j i _ * sumTo (fun c => (fwd ⟨j, o⟩ k).getD c 0 * mvE j c i) j.start.length = syQ a i _ * sumTo (fun c => (fwd ⟨a, o⟩ k).getD c 0 * mvE a c i) a.start.length
    rw [h.y1 i _ hi, h.n, sumTo_split, sumTo_none (q := fun c => (fwd ⟨j, o⟩ k).getD (a.start.length + c) 0 * mvE j (a.start.length + c) i) fun c hc => by rw [h.m3 c i hc hi, Rat.mul_zero], Rat.add_zero]
    congr 1
    exact sumTo_congr _ fun c hc => by rw [join_fa h k c hc, h.m1 c i hc hi]
theorem join_fb (h : JoinOf j a b) : ∀ k i, k < o.length → i < b.start.length → (fwd ⟨j, o⟩ k).getD (a.start.length + i) 0 = sumTo (fun t => lk ⟨a, o.take (t + 1)⟩ * (fwd ⟨b, o.drop (t + 1)⟩ (k - 1 - t)).getD i 0) k
  | 0, i, _, hi => by
    rw [← fwd_zero (t := ⟨j, o⟩) (by show _ < j.start.length; rw [h.n]; omega)]
    show stQ j _ * _ = 0
    rw [h.s2 i hi, Rat.zero_mul]
  | k + 1, i, hk, hi => by
    rw [← fwd_succ (t := ⟨j, o⟩) (by show _ < j.start.length; rw [h.n]; omega)]
    show syQ j (a.start.length + i) (o.getD (k + 1) 0).toNat * sumTo (fun c => (fwd ⟨j, o⟩ k).getD c 0 * mvE j c (a.start.length + i)) j.start.length = _
    rw [h.y2 i _ hi, h.n, sumTo_split]
    have e1 : sumTo (fun c => (fwd ⟨j, o⟩ k).getD c 0 * mvE j c (a.start.length + i)) a.start.length = lk ⟨a, o.take (k + 1)⟩ * stQ b i := by
      rw [lk_take (by omega), ← sumTo_mulc]
      refine sumTo_congr _ fun c hc => ?_
      show _ = (fwd ⟨a, o⟩ k).getD c 0 * fiQ a c * stQ b i
      rw [join_fa h k c hc, h.m2 c i hc hi]; grind
    have e2 : sumTo (fun c => (fwd ⟨j, o⟩ k).getD (a.start.length + c) 0 * mvE j (a.start.length + c) (a.start.length + i)) b.start.length = sumTo (fun t => lk ⟨a, o.take (t + 1)⟩ * sumTo (fun c => (fwd ⟨b, o.drop (t + 1)⟩ (k - 1 - t)).getD c 0 * mvE b c i) b.start.length) k := by
      rw [sumTo_congr (q' := fun c => sumTo (fun t => lk ⟨a, o.take (t + 1)⟩ * (fwd ⟨b, o.drop (t + 1)⟩ (k - 1 - t)).getD c 0 * mvE b c i) k) _ fun c hc => by rw [join_fb h k c (by omega) hc, h.m4 c i hc hi, ← sumTo_mulc], sumTo_swap]
      refine sumTo_congr _ fun t _ => ?_
      rw [Rat.mul_comm, ← sumTo_mulc]
      exact sumTo_congr _ fun c _ => by grind
    rw [e1, e2, sumTo_succ, show k + 1 - 1 - k = 0 by omega, ← fwd_zero (t := ⟨b, o.drop (k + 1)⟩) hi]
    show _ = _ + lk ⟨a, o.take (k + 1)⟩ * (stQ b i * syQ b i ((o.drop (k + 1)).getD 0 0).toNat)
    rw [getD_drop', Nat.add_zero, Rat.mul_add, Rat.add_comm]
    congr 1
    · rw [Rat.mul_comm, ← sumTo_mulc]
      refine sumTo_congr _ fun t ht => ?_
      rw [show k + 1 - 1 - t = (k - 1 - t) + 1 by omega, ← fwd_succ (t := ⟨b, o.drop (t + 1)⟩) hi]
      show _ = _ * (syQ b i ((o.drop (t + 1)).getD (k - 1 - t + 1) 0).toNat * sumTo (fun c => (fwd ⟨b, o.drop (t + 1)⟩ (k - 1 - t)).getD c 0 * mvE b c i) b.start.length)
      rw [getD_drop', show t + 1 + (k - 1 - t + 1) = k + 1 by omega]; grind
    · grind
theorem lk_join (h : JoinOf j a b) : sumTo (fun t => lk ⟨a, o.take t⟩ * lk ⟨b, o.drop t⟩) (o.length + 1) = lk ⟨j, o⟩ := by
  have z0 : ∀ m : Md, lk ⟨m, []⟩ = 0 := fun m => lk_zero rfl
  by_cases h0 : o.length = 0
  · rw [h0, lk_zero (t := ⟨j, o⟩) h0]
    show 0 + _ * _ = _
    rw [List.take_zero, z0, Rat.zero_mul, Rat.zero_add]
  obtain ⟨n, hn⟩ : ∃ n, o.length = n + 1 := ⟨o.length - 1, by omega⟩
  rw [sumTo_first, List.take_zero, z0, Rat.zero_mul, Rat.zero_add, hn, sumTo_succ, List.drop_of_length_le (by omega), z0, Rat.mul_zero, Rat.add_zero, lk_fwd (t := ⟨j, o⟩) (by show 0 < o.length; omega)]
  show _ = sumTo (fun i => (fwd ⟨j, o⟩ (o.length - 1)).getD i 0 * fiQ j i) j.start.length
  rw [hn, Nat.add_sub_cancel, h.n, sumTo_split, sumTo_none (q := fun i => (fwd ⟨j, o⟩ n).getD i 0 * fiQ j i) fun i hi => by rw [h.f1 i hi, Rat.mul_zero], Rat.zero_add]
  rw [sumTo_congr (q' := fun i => sumTo (fun t => lk ⟨a, o.take (t + 1)⟩ * (fwd ⟨b, o.drop (t + 1)⟩ (n - 1 - t)).getD i 0 * fiQ b i) n) b.start.length fun i hi => by rw [join_fb h n i (by omega) hi, h.f2 i hi, ← sumTo_mulc], sumTo_swap]
  refine sumTo_congr _ fun t ht => ?_
  rw [lk_drop (by omega), hn, show n + 1 - 1 - (t + 1) = n - 1 - t by omega, Rat.mul_comm, ← sumTo_mulc]
  refine sumTo_congr _ fun i _ => ?_
  show _ * fiQ b i * _ = _; grind
structure MixOf (j a b : Md) (p q : Rat) : Prop where
  n : j.start.length = a.start.length + b.start.length
  s1 : ∀ i, i < a.start.length → stQ j i = p * stQ a i
  s2 : ∀ i, i < b.start.length → stQ j (a.start.length + i) = q * stQ b i
  m1 : ∀ i k, i < a.start.length → k < a.start.length → mvE j i k = mvE a i k
  m2 : ∀ i k, i < a.start.length → k < b.start.length → mvE j i (a.start.length + k) = 0
  m3 : ∀ i k, i < b.start.length → k < a.start.length → mvE j (a.start.length + i) k = 0
  m4 : ∀ i k, i < b.start.length → k < b.start.length → mvE j (a.start.length + i) (a.start.length + k) = mvE b i k
  f1 : ∀ i, i < a.start.length → fiQ j i = fiQ a i
  f2 : ∀ i, i < b.start.length → fiQ j (a.start.length + i) = fiQ b i
  y1 : ∀ i k, i < a.start.length → syQ j i k = syQ a i k
  y2 : ∀ i k, i < b.start.length → syQ j (a.start.length + i) k = syQ b i k
theorem mix_fa {p q : Rat} (h : MixOf j a b p q) : ∀ k i, i < a.start.length → (fwd ⟨j, o⟩ k).getD i 0 = p * (fwd ⟨a, o⟩ k).getD i 0
  | 0, i, hi => by
    rw [← fwd_zero (t := ⟨j, o⟩) (by show i < j.start.length; rw [h.n]; omega), ← fwd_zero (t := ⟨a, o⟩) hi]
    show stQ j i * syQ j i _ = p * (stQ a i * syQ a i _)
    rw [h.s1 i hi, h.y1 i _ hi]; exact Rat.mul_assoc ..
  | k + 1, i, hi => by
    rw [← fwd_succ (t := ⟨j, o⟩) (by show i < j.start.length; rw [h.n]; omega), ← fwd_succ (t := ⟨a, o⟩) hi]
    show syQ j i _ * sumTo (fun c => (fwd ⟨j, o⟩ k).getD c 0 * mvE j c i) j.start.length = p * (syQ a i _ * sumTo (fun c => (fwd ⟨a, o⟩ k).getD c 0 * mvE a c i) a.start.length)
    rw [h.y1 i _ hi, h.n, sumTo_split, sumTo_none (q := fun c => (fwd ⟨j, o⟩ k).getD (a.start.length + c) 0 * mvE j (a.start.length + c) i) fun c hc => by rw [h.m3 c i hc hi, Rat.mul_zero], Rat.add_zero]
    rw [sumTo_congr (q' := fun c => (fwd ⟨a, o⟩ k).getD c 0 * mvE a c i * p) _ fun c hc => by rw [mix_fa h k c hc, h.m1 c i hc hi]; grind, sumTo_mulc]; grind
theorem mix_fb {p q : Rat} (h : MixOf j a b p q) : ∀ k i, i < b.start.length → (fwd ⟨j, o⟩ k).getD (a.start.length + i) 0 = q * (fwd ⟨b, o⟩ k).getD i 0
  | 0, i, hi => by
    rw [← fwd_zero (t := ⟨j, o⟩) (by show _ < j.start.length; rw [h.n]; omega), ← fwd_zero (t := ⟨b, o⟩) hi]
    show stQ j _ * syQ j _ _ = q * (stQ b i * syQ b i _)
    rw [h.s2 i hi, h.y2 i _ hi]; exact Rat.mul_assoc ..
  | k + 1, i, hi => by
    rw [← fwd_succ (t := ⟨j, o⟩) (by show _ < j.start.length; rw [h.n]; omega), ← fwd_succ (t := ⟨b, o⟩) hi]
    show syQ j _ _ * sumTo (fun c => (fwd ⟨j, o⟩ k).getD c 0 * mvE j c (a.start.length + i)) j.start.length = q * (syQ b i _ * sumTo (fun c => (fwd ⟨b, o⟩ k).getD c 0 * mvE b c i) b.start.length)
    rw [h.y2 i _ hi, h.n, sumTo_split, sumTo_none (q := fun c => (fwd ⟨j, o⟩ k).getD c 0 * mvE j c (a.start.length + i)) fun c hc => by rw [h.m2 c i hc hi, Rat.mul_zero], Rat.zero_add]
    rw [sumTo_congr (q' := fun c => (fwd ⟨b, o⟩ k).getD c 0 * mvE b c i * q) _ fun c hc => by rw [mix_fb h k c hc, h.m4 c i hc hi]; grind, sumTo_mulc]; grind
theorem lk_mix {p q : Rat} (h : MixOf j a b p q) : lk ⟨j, o⟩ = p * lk ⟨a, o⟩ + q * lk ⟨b, o⟩ := by
  by_cases h0 : o.length = 0
  · rw [lk_zero (t := ⟨j, o⟩) h0, lk_zero (t := ⟨a, o⟩) h0, lk_zero (t := ⟨b, o⟩) h0]; grind
  rw [lk_fwd (t := ⟨j, o⟩) (Nat.pos_of_ne_zero h0), lk_fwd (t := ⟨a, o⟩) (Nat.pos_of_ne_zero h0), lk_fwd (t := ⟨b, o⟩) (Nat.pos_of_ne_zero h0)]
  show sumTo (fun i => (fwd ⟨j, o⟩ (o.length - 1)).getD i 0 * fiQ j i) j.start.length = p * sumTo (fun i => (fwd ⟨a, o⟩ (o.length - 1)).getD i 0 * fiQ a i) a.start.length + q * sumTo (fun i => (fwd ⟨b, o⟩ (o.length - 1)).getD i 0 * fiQ b i) b.start.length
  rw [h.n, sumTo_split, Rat.mul_comm p, Rat.mul_comm q, ← sumTo_mulc, ← sumTo_mulc]
  congr 1
  · exact sumTo_congr _ fun i hi => by rw [mix_fa h _ i hi, h.f1 i hi]; grind
  · exact sumTo_congr _ fun i hi => by rw [mix_fb h _ i hi, h.f2 i hi]; grind
end
end Go.Ear
