/- EarT13: a part of the proofs about package model: how the program's functions run, and what they compute, for every input. -/
import Derived.Test.YtpmndikbfalfoaaGreatK11
set_option linter.all false
set_option linter.unusedVariables false
namespace Go.E3
open Go Go.Ear
theorem set_putIn {arr : Array Value} {p m o : Nat} {v : Value} (hf : p + m ≤ arr.size) (ho : o < m) : arr.setIfInBounds (p + o) v = putIn arr p ((cut arr p m).set o v) := by
  have hl : (cut arr p m).length = m := by unfold cut; rw [List.length_take, List.length_drop, Array.length_toList]; omega
  apply Array.toList_inj.1
  rw [putIn_toList _ _ _ (by rw [List.length_set, hl]; exact hf), Array.toList_setIfInBounds, List.length_set, hl]
  have hl2 : arr.toList.length = arr.size := Array.length_toList
  apply List.ext_getElem?
  intro j
  rw [List.getElem?_set]
  by_cases e : p + o = j
  · subst e
    rw [if_pos rfl, if_pos (by omega), List.getElem?_append_left (by rw [List.length_append, List.length_take, List.length_set, hl]; omega), List.getElem?_append_right (by rw [List.length_take]; omega), List.length_take, Nat.min_eq_left (by omega), Nat.add_sub_cancel_left, List.getElem?_set, if_pos rfl, if_pos (by omega)]
  · rw [if_neg e]
    by_cases h1 : j < p
    · rw [List.getElem?_append_left (by rw [List.length_append, List.length_take, List.length_set, hl]; omega), List.getElem?_append_left (by rw [List.length_take]; omega), List.getElem?_take, if_pos h1]
    · by_cases h2 : j < p + m
      · rw [List.getElem?_append_left (by rw [List.length_append, List.length_take, List.length_set, hl]; omega), List.getElem?_append_right (by rw [List.length_take]; omega), List.length_take, Nat.min_eq_left (by omega), List.getElem?_set, if_neg (by omega)]
        unfold cut
        rw [List.getElem?_take, if_pos (by omega), List.getElem?_drop, show p + (j - p) = j by omega]
      · rw [List.getElem?_append_right (by rw [List.length_append, List.length_take, List.length_set, hl]; omega), List.length_append, List.length_take, List.length_set, hl, Nat.min_eq_left (by omega), List.getElem?_drop]
        congr 1; omega
class RdC {α : Type} (r : Rp α) (o : Nat) (S : SV) (f : outParam (α → α)) : Prop where
  h : ∀ {h cs x v}, r.R h cs x → den h S v → o < r.k ∧ v.oneCell' = true ∧ r.R h (cs.set o v) (f x)
section
variable {P : Program} {n : Nat} {X : Fix} {ms : List Nat} {loc env : EL} {B : List Res} {k : Kt} {ol rest : List Oper} {a m o : Nat} {ty : TypeId} {pos : String} {af : Array Edge} {t e : TypeId} {α : Type} {v : Value} {r : Rp α} {q : List α} {S : SV} {o1 o2 : Operand} {f : α → α} {d0 : α}
instance {mk : List α → List Res} [D0 α d0] [lx : Lu n true loc env o1 (pa v m a o)] [ua : UA B v α r e q mk] [rk : Rk r m] [ly : Lu n true loc env o2 S] [rd : RdC r o S f] [tz : TZ P t 1] : Nx (GO P n X ms loc env B ol (⟨none, .store t o1 o2, ty, pos, af, none⟩ :: rest) k) (a < q.length) (GO P n X ms loc env (mk (q.set a (f (q.getD a d0)))) ol rest k) := ⟨fun hj g => ⟨fun ok ρ h w s => by
  have hx := lx.h rfl ((s.x [o1]).fx o1 (by simp))
  have hy := ly.h rfl ((s.x [o2]).fx o2 (by simp))
  obtain ⟨b, cap, arr, ev_, _, hnb, hb, hle, ur⟩ := OwnL.block (ua.own s.ow).1 (by intro e; rw [e] at hj; cases hj)
  obtain ⟨b', l', c', e1, e2⟩ := hx
  rw [ev_] at e1; cases e1
  obtain ⟨cs, hc, hs, hr⟩ := ur.at d0 hj
  obtain ⟨h1, h2, h3⟩ := rd.h hr hy
  have hk := rk.h
  rw [hk] at hc hs h1
  refine Ops.cons (OpW.store1 tz.h e2 rfl h2 hb (by omega) fun w' p => g.p (okR_none rfl ok) _ _ _ (own_elem ua s hj hk h3 ev_ hb ?_))
  rw [set_putIn hs h1, hc] at p; exact p⟩⟩
end
end Go.E3
