/- V9: a part of the proofs about what is clipped and stored: how the program's functions run, and what they compute, for every input. -/
import Derived.Test.YtabmlonaohfncaaDoorV8
set_option linter.all false
set_option linter.unusedVariables false
set_option maxRecDepth 20000
set_option maxHeartbeats 8000000
set_option synthInstance.maxSize 1000
namespace Go.E3
open Go Go.Ear Go.Proofs
def leN (b : List Nat) (a : Nat) : Nat → Nat
  | 0 => 0
  | k + 1 => leN b a k + b.getD (a + k) 0 * 256 ^ k
theorem leN_bd {b : List Nat} {a : Nat} (hb : ∀ i, b.getD i 0 ≤ 255) : ∀ k, leN b a k < 256 ^ k
  | 0 => by show (0 : Nat) < 256 ^ 0; decide
  | k + 1 => by
    have h1 := leN_bd (a := a) hb k
    have h2 := Nat.mul_le_mul_right (256 ^ k) (hb (a + k))
    show leN b a k + b.getD (a + k) 0 * 256 ^ k < 256 ^ (k + 1)
    rw [Nat.pow_succ]
    omega
theorem or_le {n x j : Nat} (h : n < 256 ^ j) : n ||| x * 2 ^ (8 * j) = n + x * 256 ^ j := by
  have e : (256 : Nat) ^ j = 2 ^ (8 * j) := by rw [Nat.pow_mul]
  rw [e] at h ⊢
  have := Nat.two_pow_add_eq_or_of_lt h x
  rw [Nat.or_comm, Nat.mul_comm x, ← this, Nat.add_comm]
theorem take_b {k a : Nat} {b : List Nat} {p : Value} {rest : List Res} : CtR Tryd.prog 39 [iv (k : Int), .pk [lv rY b] 0, ov p] (rV p [iv (a : Int)] 3 :: rest) ((k ≤ 4 ∧ a + k ≤ b.length ∧ b.length ≤ 1000000) ∧ ∀ i, b.getD i 0 ≤ 255) Unit (fun _ => iv ((leN b a k : Nat) : Int)) (fun _ => rV p [iv ((a + k : Nat) : Int)] 3 :: rest) := by
  refine (ctR Tryd.call39 Tryd.func39 Tryd.ntmps39 rfl Tryd.results39 rfl [] fun h0 w0 ⟨⟨hk, ha, hl⟩, hb⟩ => ?_)
  repeat first | refine nx ?_ | intro _
  refine gLp (fun j : Nat => [(8, iv j), (5, iv ((leN b a j : Nat) : Int))]) (fun _ => []) (fun j => j ≤ k) (fun j => k - j) 0 (Nat.zero_le _) fun j hj => ?_
  repeat first | refine nx ?_ | intro _
  refine gIf (fun c1 => ?_) fun c1 => ?_
  · have h1 := leN_bd (a := a) hb j
    have h2 := hb (a + j)
    have h3 : (256 : Nat) ^ j ≤ 256 ^ 3 := Nat.pow_le_pow_right (by decide) (by omega)
    have h4 : (2 : Nat) ^ (8 * j) ≤ 2 ^ 24 := Nat.pow_le_pow_right (by decide) (by omega)
    have h5 : b.getD (a + j) 0 * 2 ^ (8 * j) ≤ 255 * 2 ^ 24 := Nat.mul_le_mul h2 h4
    have h6 : b.getD (a + j) 0 * 2 ^ (8 * j) ≤ 9223372036854775807 := by omega
    have h7 : leN b a j < 9223372036854775808 := by omega
    have h8 : b.getD (a + j) 0 * 2 ^ (8 * j) < 9223372036854775808 := by omega
    clear h5 h4 h3
    repeat first | refine nx ?_ | intro _
    exact gBk (j + 1) c1 (by omega) (h1 := by rw [or_le h1]; exact ⟨trivial, rfl, by simp⟩)
  · have e : j = k := by omega
    subst e
    repeat first | refine nx ?_ | intro _
    exact gEr ()
end Go.E3
