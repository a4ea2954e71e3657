/- W2: a part of the proofs about package model: how the program's functions run, and what they compute, for every input. -/
import Derived.Test.YtpmndikbfalfoaaGreatW1
set_option linter.all false
set_option linter.unusedVariables false
set_option maxRecDepth 20000
set_option maxHeartbeats 8000000
set_option synthInstance.maxSize 1000
namespace Go.E3
open Go Go.Ear Go.Proofs
instance : RpC rS (fun x => [iv x.1, iv x.2.1, iv x.2.2]) := ⟨Iff.rfl⟩
instance : Rk rS 3 := ⟨rfl⟩
abbrev sp0 : Sp := (0, 0, 0)
instance : D0 Sp sp0 := ⟨trivial⟩
instance : RT Tryz.prog 87 Sp rS 24 sp0 := ⟨Tryz.sizeOf87, _, _, ⟨Tryz.type87, rfl, rfl, rfl, rfl⟩, fun _ => ⟨rfl, rfl, rfl, trivial⟩⟩
instance {x y z : Int} : Rd rS (.ag [iv x, iv y, iv z]) (x, y, z) := ⟨fun ⟨vs, e, u⟩ => by
  match vs, u with
  | [_, _, _], ⟨a, b, c, _⟩ => subst e; exact ⟨a, b, c, trivial⟩⟩
instance {y : Int} : RdC rS 2 (iv y) (fun x => (x.1, x.2.1, y)) := ⟨fun {h cs x v} hr hv => by
  match cs, hr with
  | [_, _, _], ⟨a, b, c, d⟩ => exact ⟨by decide, by have hv : v = _ := hv; subst hv; rfl, ⟨a, b, hv, d⟩⟩⟩
def spN (p : List Int) : Nat → List Sp
  | 0 => []
  | k + 1 => if 0 < (spN p k).length ∧ ((spN p k).getD ((spN p k).length - 1) sp0).1 = p.getD k 0 then (spN p k).set ((spN p k).length - 1) (((spN p k).getD ((spN p k).length - 1) sp0).1, ((spN p k).getD ((spN p k).length - 1) sp0).2.1, ((spN p k).getD ((spN p k).length - 1) sp0).2.2 + 1) else spN p k ++ [(p.getD k 0, (k : Int), ((k + 1 : Nat) : Int))]
theorem sp_t {p : List Int} {k : Nat} (h : 0 < (spN p k).length ∧ ((spN p k).getD ((spN p k).length - 1) sp0).1 = p.getD k 0) : (spN p k).set ((spN p k).length - 1) (((spN p k).getD ((spN p k).length - 1) sp0).1, ((spN p k).getD ((spN p k).length - 1) sp0).2.1, ((spN p k).getD ((spN p k).length - 1) sp0).2.2 + 1) = spN p (k + 1) := by rw [spN, if_pos h]
theorem sp_f {p : List Int} {k : Nat} (h : ¬ (0 < (spN p k).length ∧ ((spN p k).getD ((spN p k).length - 1) sp0).1 = p.getD k 0)) : spN p k ++ [(p.getD k 0, (k : Int), ((k + 1 : Nat) : Int))] = spN p (k + 1) := by rw [spN, if_neg h]
theorem spN_last {p : List Int} : ∀ k, 0 < k → 0 < (spN p k).length ∧ ((spN p k).getD ((spN p k).length - 1) sp0).1 = p.getD (k - 1) 0
  | k + 1, _ => by
    by_cases h : 0 < (spN p k).length ∧ ((spN p k).getD ((spN p k).length - 1) sp0).1 = p.getD k 0
    · rw [← sp_t h, List.length_set, getD_set_is (by omega)]; exact h
    · rw [← sp_f h, List.length_append]
      refine ⟨by simp, ?_⟩
      rw [List.getD_eq_getElem?_getD, List.getElem?_append_right (by simp)]; simp
theorem spN_len {p : List Int} : ∀ k, (spN p k).length ≤ k
  | 0 => Nat.le_refl _
  | k + 1 => by
    have := spN_len (p := p) k
    rw [spN]; split
    · rw [List.length_set]; omega
    · simp; omega
theorem spN_to {p : List Int} : ∀ k i, 0 ≤ ((spN p k).getD i sp0).2.2 ∧ ((spN p k).getD i sp0).2.2 ≤ (k : Int)
  | 0, i => ⟨Int.le_refl _, Int.le_refl _⟩
  | k + 1, i => by
    have h0 := spN_to (p := p) k i
    have h1 := spN_to (p := p) k ((spN p k).length - 1)
    rw [spN]; split
    · by_cases e : (spN p k).length - 1 = i
      · subst e; rw [getD_set_is (by omega)]; dsimp only; omega
      · rw [getD_set_ne' e]; omega
    · rw [List.getD_eq_getElem?_getD]
      by_cases e : i < (spN p k).length
      · rw [List.getElem?_append_left e, ← List.getD_eq_getElem?_getD]; omega
      · rw [List.getElem?_append_right (by omega)]
        by_cases e2 : i - (spN p k).length = 0
        · rw [e2]; show 0 ≤ ((k + 1 : Nat) : Int) ∧ ((k + 1 : Nat) : Int) ≤ _; omega
        · rw [List.getElem?_eq_none (by simp; omega)]; show (0 : Int) ≤ 0 ∧ (0 : Int) ≤ _; omega
section
variable {path : List Int} {S : SV}
instance Spans_c [i : Vw (lv rI) S path] : Ct Tryz.prog 65 [S] (path.length ≤ 1048576) (lv rS (spN path path.length)) := by
  refine ct1 i (ctI Tryz.call65 Tryz.func65 Tryz.ntmps65 rfl Tryz.results65 rfl [] fun h0 w0 hl => ?_)
  repeat first | refine nx ?_ | intro _
  refine gNl rS 87 ?_
  refine gLp (fun s : Nat × Value => [(9, iv s.1), (3, ov s.2)]) (fun s => [rA rS 87 s.2 (spN path s.1)]) (fun s => s.1 ≤ path.length) (fun s => path.length - s.1) (0, .slice none 0 0) (Nat.zero_le _) (fun ⟨k, v⟩ hk => ?_)
  dsimp only at hk ⊢
  have hsl := spN_len (p := path) k
  have hst := spN_to (p := path) k ((spN path k).length - 1)
  repeat first | refine nx ?_ | intro _
  refine gIf (fun c => ?_) fun c => ?_
  · repeat first | refine nx ?_ | intro _
    refine gIf (fun c2 => ?_) fun c2 => ?_
    · have hlt : (spN path k).length - 1 < (spN path k).length := by omega
      repeat first | refine nx ?_ | intro _
      rw [sp_t c2]
      exact gBk (k + 1, v) (by dsimp only; omega) (by dsimp only; omega)
    · repeat first | refine nx ?_ | intro _
      rename_i v2
      rw [sp_f c2]
      exact gBk (k + 1, v2) (by dsimp only; omega) (by dsimp only; omega)
  · have ek : k = path.length := by omega
    subst ek
    repeat first | refine nx ?_ | intro _
    trivial
instance rSpans_c [i : Vw (lv rI) S path] : Ct Tryz.prog 66 [S] (path.length ≤ 1048576) (lv rS (spN path path.length)) := by
  refine ct1 i (ctI Tryz.call66 Tryz.func66 Tryz.ntmps66 rfl Tryz.results66 rfl [] fun h0 w0 hl => ?_)
  repeat first | refine nx ?_ | intro _
  refine gNl rS 87 ?_
  refine gLp (fun s : Nat × Value => [(4, iv s.1), (3, ov s.2)]) (fun s => [rA rS 87 s.2 (spN path s.1)]) (fun s => s.1 ≤ path.length) (fun s => path.length - s.1) (0, .slice none 0 0) (Nat.zero_le _) (fun ⟨k, v⟩ hk => ?_)
  dsimp only at hk ⊢
  have hsl := spN_len (p := path) k
  have hst := spN_to (p := path) k ((spN path k).length - 1)
  repeat first | refine nx ?_ | intro _
  refine gIf (fun c => ?_) fun c => ?_
  · repeat first | refine nx ?_ | intro _
    refine gIf (fun c2 => ?_) fun c2 => ?_
    · have hsp := spN_last (p := path) k (by omega)
      have c2 : 0 < (spN path k).length ∧ ((spN path k).getD ((spN path k).length - 1) sp0).1 = path.getD k 0 := ⟨hsp.1, by rw [hsp.2]; exact c2.2.symm⟩
      have hlt : (spN path k).length - 1 < (spN path k).length := by omega
      repeat first | refine nx ?_ | intro _
      rw [sp_t c2]
      exact gBk (k + 1, v) (by dsimp only; omega) (by dsimp only; omega)
    · have c2 : ¬ (0 < (spN path k).length ∧ ((spN path k).getD ((spN path k).length - 1) sp0).1 = path.getD k 0) := fun e => by
        by_cases h0 : 0 < k
        · have hsp := spN_last (p := path) k h0
          exact c2 ⟨by omega, by rw [← e.2, hsp.2]⟩
        · have := e.1; omega
      repeat first | refine nx ?_ | intro _
      rename_i v2
      rw [sp_f c2]
      exact gBk (k + 1, v2) (by dsimp only; omega) (by dsimp only; omega)
  · have ek : k = path.length := by omega
    subst ek
    repeat first | refine nx ?_ | intro _
    trivial
end
end Go.E3
