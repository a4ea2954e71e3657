/- V11: a part of the proofs about what is clipped and stored: how the program's functions run, and what they compute, for every input. -/
import Derived.Test.YtabmlonaohfncaaDoorV10
set_option linter.all false
set_option linter.unusedVariables false
namespace Go.E3
open Go Go.Ear Go.Proofs
theorem byL_mem {n k x : Nat} (h : x ∈ byL n k) : x ≤ 255 := by
  unfold byL at h
  obtain ⟨i, _, rfl⟩ := List.mem_map.1 h
  omega
theorem sumB_lt (b : List Nat) : sumB b < 4294967296 := by
  unfold sumB
  have : ∀ (b : List Nat) (c : Nat), c < 4294967296 → b.foldl sumS c < 4294967296 := by
    intro b
    induction b with
    | nil => exact fun c h => h
    | cons x b ih => exact fun c h => ih _ (by unfold sumS; omega)
  exact this b 1 (by decide)
theorem smL_mem {l : List Int} {x : Nat} (h : x ∈ smL l) : x ≤ 255 := by
  unfold smL at h
  obtain ⟨v, _, hv⟩ := List.mem_flatMap.1 h
  exact byL_mem hv
structure PackF (rate : Int) (l : List Int) (P : List Nat) : Prop where
  len : P.length = 16 + 2 * l.length
  head : P.take 4 = [69, 65, 82, 49]
  rate : leN P 4 4 = rate.toNat
  num : leN P 8 4 = l.length
  at_ : ∀ j, j < l.length → leN P (12 + 2 * j) 2 = (l.getD j 0 % 65536).toNat
  sum : leN P (12 + 2 * l.length) 4 = sumB (P.take (12 + 2 * l.length))
  byte : ∀ i, P.getD i 0 ≤ 255
theorem smL_split {l : List Int} {j : Nat} (h : j < l.length) : smL l = smL (l.take j) ++ smB (l.getD j 0) ++ smL (l.drop (j + 1)) := by
  rw [← smL_take h]
  unfold smL
  rw [← List.flatMap_append, List.take_append_drop]
theorem smB_eq (v : Int) : smB v = byL (v % 65536).toNat 2 := by
  unfold smB
  have e : (v % 4294967296).toNat &&& 65535 = (v % 65536).toNat := by
    rw [show (65535 : Nat) = 2 ^ 16 - 1 from rfl, Nat.and_two_pow_sub_one_eq_mod]
    omega
  rw [e]
theorem packF {rate : Int} {l : List Int} (hr : 1 ≤ rate ∧ rate ≤ 192000) (hl : l.length ≤ 300) : PackF rate l (packL rate l) := by
  have h12 : (hdL rate l.length).length = 12 := hdL_len
  have hs := smL_len l
  refine ⟨?_, rfl, ?_, ?_, fun j hj => ?_, ?_, fun i => ?_⟩
  · unfold packL; rw [List.length_append, List.length_append, byL_len, h12, hs]; omega
  · have e : packL rate l = ([69, 65, 82, 49] ++ byL (rate % 4294967296).toNat 4) ++ (byL (l.length % 4294967296) 4 ++ (smL l ++ byL (sumB (hdL rate l.length ++ smL l)) 4)) := by unfold packL hdL; simp only [List.append_assoc]
    rw [e, leN_mid (x := [69, 65, 82, 49]) (a := 4) rfl]
    omega
  · have e : packL rate l = (([69, 65, 82, 49] ++ byL (rate % 4294967296).toNat 4) ++ byL (l.length % 4294967296) 4) ++ (smL l ++ byL (sumB (hdL rate l.length ++ smL l)) 4) := by unfold packL hdL; simp only [List.append_assoc]
    rw [e, leN_mid (by rw [List.length_append, byL_len]; rfl)]
    omega
  · have e : packL rate l = ((hdL rate l.length ++ smL (l.take j)) ++ byL (l.getD j 0 % 65536).toNat 2) ++ (smL (l.drop (j + 1)) ++ byL (sumB (hdL rate l.length ++ smL l)) 4) := by
      unfold packL
      generalize sumB (hdL rate l.length ++ smL l) = S
      rw [smL_split hj, smB_eq]; simp only [List.append_assoc]
    rw [e, leN_mid (by rw [List.length_append, smL_len, h12, List.length_take]; omega)]
    omega
  · have e : packL rate l = ((hdL rate l.length ++ smL l) ++ byL (sumB (hdL rate l.length ++ smL l)) 4) ++ [] := by unfold packL; rw [List.append_nil]
    have e2 : (packL rate l).take (12 + 2 * l.length) = hdL rate l.length ++ smL l := by
      unfold packL
      rw [List.take_left' (by rw [List.length_append, h12, hs])]
    rw [e2, e, leN_mid (by rw [List.length_append, h12, hs])]
    have := sumB_lt (hdL rate l.length ++ smL l)
    omega
  · rw [List.getD_eq_getElem?_getD]
    rcases Nat.lt_or_ge i (packL rate l).length with h | h
    · rw [List.getElem?_eq_getElem h]
      have hm : (packL rate l)[i] ∈ packL rate l := List.getElem_mem h
      generalize (packL rate l)[i] = x at hm
      show x ≤ 255
      unfold packL hdL at hm
      simp only [List.mem_append, List.mem_cons, List.not_mem_nil, or_false] at hm
      rcases hm with ((((rfl | rfl | rfl | rfl) | h) | h) | h) | h
      · decide
      · decide
      · decide
      · decide
      · exact byL_mem h
      · exact byL_mem h
      · exact smL_mem h
      · exact byL_mem h
    · rw [List.getElem?_eq_none h]; exact Nat.zero_le _
end Go.E3
