/- V12: a part of the proofs about what is clipped and stored: how the program's functions run, and what they compute, for every input. -/
import Derived.Test.YtabmlonaohfncaaDoorV11
set_option linter.all false
set_option linter.unusedVariables false
set_option maxRecDepth 20000
set_option maxHeartbeats 8000000
set_option synthInstance.maxSize 1000
namespace Go.E3
open Go Go.Ear Go.Proofs
instance take_c {i x : Int} {k a : Nat} {b : List Nat} {p : Value} {B B1 : List Res} [a1 : IN i k] [pv : PV B p [iv x] 3 B1] [a2 : IN x a] : CtR Tryd.prog 39 [iv i, .pk [lv rY b] 0, ov p] B ((k ≤ 4 ∧ a + k ≤ b.length ∧ b.length ≤ 1000000) ∧ ∀ i, b.getD i 0 ≤ 255) Unit (fun _ => iv ((leN b a k : Nat) : Int)) (fun _ => rV p [iv ((a + k : Nat) : Int)] 3 :: B1) := by
  have h := pv.h
  rw [a2.e] at h
  rw [a1.e]; exact take_b.to h
theorem recE_any {rate : Int} {l : List Int} (h : recE rate l = 0) : (1 ≤ rate ∧ rate ≤ 192000) ∧ l.any (outI (-32768) 32767) = false := by
  unfold recE at h
  split at h
  · cases h
  · split at h
    · cases h
    · rename_i h1 h2
      simp only [not_or, Bool.not_eq_true] at h2
      exact ⟨by omega, h2.2.2⟩
theorem any_at {l : List Int} (h : l.any (outI (-32768) 32767) = false) {j : Nat} (hj : j < l.length) : ¬ (l.getD j 0 < -32768 ∨ 32767 < l.getD j 0) := by
  have := List.any_eq_false.1 h _ (getD_in 0 hj)
  unfold outI at this
  simpa using this
theorem unpack_b {rate : Int} {l : List Int} {P : List Nat} (f : PackF rate l P) (he : recE rate l = 0) (hl : l.length ≤ 300) (hr : 1 ≤ rate ∧ rate ≤ 192000) : Ct Tryd.prog 14 [lv rY P] True (.tp [rcv rate l, iv 0]) := by
  refine (ctI Tryd.call14 Tryd.func14 Tryd.ntmps14 rfl Tryd.results14 rfl [] fun h0 w0 _ => ?_)
  have hln := f.len
  have hby := f.byte
  repeat first | refine nx ?_ | intro _
  refine gIf (fun c => absurd c (by omega)) fun c => ?_
  repeat first | refine nx ?_ | intro _
  refine gIf (fun c => ?_) fun c => ?_
  · exfalso
    rw [f.head] at c
    rcases c with c | c
    · omega
    · exact c (by rfl)
  repeat first | refine nx ?_ | intro _
  rename_i v0 _ va _ vr _
  rw [f.rate, show leN P (4 + 4) 4 = l.length from f.num, show ((rate.toNat : Nat) : Int) = rate by omega]
  refine gIf (fun c => ?_) fun c => ?_
  · exfalso
    rcases c with ((c | c) | c) | c <;> omega
  repeat first | refine nx ?_ | intro _
  refine gNl rI 3 ?_
  rw [show 4 + 4 + 4 = 12 + 2 * 0 from rfl]
  refine gLp (fun s : Nat × Value => [(51, iv s.1)]) (fun s => [rA rI 3 s.2 (l.take s.1), rV va [iv ((12 + 2 * s.1 : Nat) : Int)] 3, rV vr [iv rate, ov s.2] 24]) (fun s => s.1 ≤ l.length) (fun s => l.length - s.1) (0, .slice none 0 0) (Nat.zero_le _) (fun ⟨j, o⟩ hj => ?_) (h1 := by simp) (h2 := by repeat' (first | refine And.intro ?_ ?_ | rfl | trivial))
  dsimp only at *
  have htl : (l.take j).length = j := by rw [List.length_take]; omega
  repeat first | refine nx ?_ | intro _
  refine gIf (fun c1 => ?_) fun c1 => ?_
  · repeat first | refine nx ?_ | intro _
    have hv := any_at (recE_any he).2 c1
    rw [f.at_ j c1]
    refine gJ [(8, iv (l.getD j 0))] (fun c2 => ?_) (fun c2 => ?_) ?_
    · repeat first | refine nx ?_ | intro _
      rw [show (((l.getD j 0 % 65536).toNat : Nat) : Int) - 65536 = l.getD j 0 by omega]
      exact gM
    · rw [show (((l.getD j 0 % 65536).toNat : Nat) : Int) = l.getD j 0 by omega]
      repeat first | refine nx ?_ | intro _
      exact gM
    repeat first | refine nx ?_ | intro _
    rename_i o2
    have e1 : l.take (j + 1) = l.take j ++ [l.getD j 0] := by
      rw [List.take_add_one, List.getElem?_eq_getElem c1, List.getD_eq_getElem?_getD, List.getElem?_eq_getElem c1]; rfl
    exact gBk (j + 1, o2) c1 (by dsimp only; omega) (h2 := by rw [e1]; repeat' (first | refine And.intro ?_ ?_ | rfl | trivial))
  · have e : j = l.length := by omega
    subst e
    rw [List.take_of_length_le (Nat.le_refl _)]
    have hsum := f.sum
    have htk : (P.take (P.length - 4)).length ≤ 1000000 := by rw [List.length_take]; omega
    have ht4 : P.length - 4 = 12 + 2 * l.length := by omega
    repeat first | refine gW1 10 1 9 ⟨67, fun _ => iv ((leN P (12 + 2 * l.length) 4 : Nat) : Int), fun _ => [rV va [iv ((12 + 2 * l.length + 4 : Nat) : Int)] 3, rA rI 3 o l, rV vr [iv rate, ov o] 24, rV v0 [iv 0, .cv (.slice none 0 0)] 24]⟩ (by rfl) (by kernel_rfl) ?_ | refine nx ?_ | intro _
    refine gWi (by decide) (by first | trivial | ((repeat' first | trivial | refine And.intro ?_ ?_) <;> first | omega | (simp only [List.length_take]; omega))) ?_
    refine gWc rfl ⟨by omega, hby⟩ ?_
    refine gWd (by decide) (by rfl) (by first | trivial | ((repeat' first | trivial | refine And.intro ?_ ?_) <;> first | omega | (simp only [List.length_take]; omega))) ?_
    refine gWi (by decide) (by first | trivial | ((repeat' first | trivial | refine And.intro ?_ ?_) <;> first | omega | (simp only [List.length_take]; omega))) ?_
    refine gWi (by decide) (by first | trivial | ((repeat' first | trivial | refine And.intro ?_ ?_) <;> first | omega | (simp only [List.length_take]; omega))) ?_
    refine gWi (by decide) (by first | trivial | ((repeat' first | trivial | refine And.intro ?_ ?_) <;> first | omega | (simp only [List.length_take]; omega))) ?_
    refine gWi (by decide) (by first | trivial | ((repeat' first | trivial | refine And.intro ?_ ?_) <;> first | omega | (simp only [List.length_take]; omega))) ?_
    refine gWi (by decide) (by first | trivial | ((repeat' first | trivial | refine And.intro ?_ ?_) <;> first | omega | (simp only [List.length_take]; omega))) ?_
    refine gWi (by decide) (by first | trivial | ((repeat' first | trivial | refine And.intro ?_ ?_) <;> first | omega | (simp only [List.length_take]; omega))) ?_
    refine gWe rfl ?_
    have hlt := sumB_lt (P.take (12 + 2 * l.length))
    rw [ht4, hsum, Nat.mod_eq_of_lt hlt]
    repeat first | refine nx ?_ | intro _
    refine gIf (fun c3 => absurd rfl c3) fun c3 => ?_
    repeat first | refine nx ?_ | intro _
    trivial
end Go.E3
