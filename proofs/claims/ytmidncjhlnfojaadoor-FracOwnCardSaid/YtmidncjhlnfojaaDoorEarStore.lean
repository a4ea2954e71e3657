/- About package frac: EarStore. -/
import Derived.Test.YtmidncjhlnfojaaDoorEarList
set_option linter.all false
namespace Go.Ear
def OwnC (lo n : Nat) (t : TypeId) (h : PH) (w : World) (x : Value) : Prop := ∃ b arr, x = .pointer (some ⟨b, 0, none⟩) ∧ lo ≤ b ∧ h b = none ∧ w.heap[b]? = some (.cells arr t (0, 0)) ∧ arr.size = n
def StC (lo : Nat) (t : TypeId) (ψ : PH → World → Value → Prop) (h : PH) (w : World) (x : Value) : Prop :=
  ∃ b arr, x = .pointer (some ⟨b, 0, none⟩) ∧ lo ≤ b ∧ h b = none ∧ w.heap[b]? = some (.cells arr t (0, 0)) ∧ ψ h w (.agg arr)
theorem stab_OwnC (lo n : Nat) (t : TypeId) : Stab (OwnC lo n t) := fun _ _ _ _ _ g ⟨b, arr, hx, hl, hn, hb, hs⟩ => ⟨b, arr, hx, hl, g.keepNone hb hn, g.ext.keep hb, hs⟩
theorem stab_StC {lo : Nat} {t : TypeId} {ψ : PH → World → Value → Prop} (hp : Stab ψ) : Stab (StC lo t ψ) :=
  fun _ _ _ _ _ g ⟨b, arr, hx, hl, hn, hb, q⟩ => ⟨b, arr, hx, hl, g.keepNone hb hn, g.ext.keep hb, hp _ _ _ _ _ g q⟩
theorem OwnC.put {lo n b : Nat} {t : TypeId} {h : PH} {w w' : World} {x : Value} {arr : Array Value} (pp : Put w w' b (.cells arr t (0, 0))) (hs : arr.size = n) (q : OwnC lo n t h w x) : OwnC lo n t h w' x := by
  obtain ⟨b', arr', hx, hl, hn, hb, hs'⟩ := q
  by_cases e : b' = b
  · subst e; exact ⟨b', arr, hx, hl, hn, pp.at_, hs⟩
  · exact ⟨b', arr', hx, hl, hn, (pp.other b' e).trans hb, hs'⟩
theorem putIn_all {arr : Array Value} {cs : List Value} (h : arr.size = cs.length) : putIn arr 0 cs = cs.toArray := by
  apply Array.toList_inj.1
  rw [putIn_toList cs arr 0 (by omega)]
  simp only [List.take_zero, List.nil_append, Nat.zero_add]
  rw [List.drop_of_length_le (by simp; omega), List.append_nil]
theorem set_one {arr : Array Value} {v : Value} (h : arr.size = 1) : arr.setIfInBounds 0 v = #[v] := by
  match arr, h with
  | ⟨[_]⟩, _ => rfl
end Go.Ear
