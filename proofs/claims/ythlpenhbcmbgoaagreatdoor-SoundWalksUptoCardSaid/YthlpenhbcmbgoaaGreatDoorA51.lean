/- A51: a part of the proofs about what is clipped and stored: how the program's functions run, and what they compute, for every input. -/
import Derived.Test.YthlpenhbcmbgoaaGreatDoorLawSoundTrees
set_option linter.all false
set_option linter.unusedVariables false
set_option maxRecDepth 20000
set_option maxHeartbeats 4000000
set_option synthInstance.maxSize 1000
namespace Go.E3
open Go Go.Ear Go.Proofs
instance holds_c {L : List Int} {n : Int} {S : SV} [i : Vw (lv rI) S L] : Ct Tryz.prog 47 [S, iv n] (L.length ≤ 1000000) (bv (L.any fun x => decide (x = n))) := by
  refine ct1 i (ctI Tryz.call47 Tryz.func47 Tryz.ntmps47 rfl Tryz.results47 rfl [] fun h0 w0 hs => ?_)
  repeat first | refine nx ?_ | intro _
  refine gLp (fun k : Nat => [(5, iv k)]) (fun _ => []) (fun k => k ≤ L.length ∧ (L.take k).any (fun x => decide (x = n)) = false) (fun k => L.length - k) 0 ⟨Nat.zero_le _, rfl⟩ (fun k ⟨hk, hn⟩ => ?_)
  repeat first | refine nx ?_ | intro _
  refine gIf (fun c => ?_) fun c => ?_
  · repeat first | refine nx ?_ | intro _
    refine gIf (fun c2 => ?_) fun c2 => ?_ <;> repeat first | refine nx ?_ | intro _
    · have : (L.any fun x => decide (x = n)) = true := List.any_eq_true.2 ⟨_, getD_in 0 c, decide_eq_true c2⟩
      rw [this]
    · exact gBk (k + 1) ⟨by omega, any_take_succ 0 c hn (decide_eq_false c2)⟩ (by omega)
  · repeat first | refine nx ?_ | intro _
    rw [List.take_of_length_le (by omega)] at hn
    rw [hn]
theorem bsI_idx {l : List En} {q : List Int} (h : q ∈ begS l) : bsI (begS l) q = idxK (begS l) q := by
  obtain ⟨h1, h2⟩ := idxK_mem h
  refine bsI_eq (by omega) (fun k hk => ?_) fun h3 => by rw [h2, ordI_to.self]; omega
  have := List.pairwise_iff_getElem.1 (begS_srt l) k (idxK (begS l) q) (by omega) h1 hk
  rw [List.getD_eq_getElem?_getD, List.getElem?_eq_getElem h1] at h2
  have h2 : (begS l)[idxK (begS l) q] = q := h2
  rw [h2] at this
  rw [List.getD_eq_getElem?_getD, List.getElem?_eq_getElem (by omega)]
  exact this
theorem wk_in {l : List En} {q : List Int} (hv : valB l = true) (hq : phB q 400 = true) (h : q ∈ begS l) : wkI l q = (idxK (begS l) q : Int) ∧ wkE l q = 0 := by
  constructor
  · unfold wkI
    rw [if_pos ⟨hv, hq, h⟩, bsI_idx h]
  · unfold wkE
    rw [if_pos ⟨hv, hq⟩, if_pos h]
theorem wk_out {l : List En} {q : List Int} (hv : valB l = true) (hq : phB q 400 = true) (h : q ∉ begS l) : wkI l q = 0 ∧ wkE l q = 7 ∧ idxP (fun x => decide (x = q)) (begS l) = -1 := by
  refine ⟨if_neg fun x => h x.2.2, ?_, if_neg fun x => ?_⟩
  · unfold wkE
    rw [if_pos ⟨hv, hq⟩, if_neg h]
  · obtain ⟨y, hy, e⟩ := List.any_eq_true.1 x
    exact h (by rw [← of_decide_eq_true e]; exact hy)
def brT (p : List Int) (b : Fr) (e : En) : Fr := if e.ph.take p.length = p ∧ 0 < sgQ (e.f.rat - b.rat) then e.f else b
def brN (l : List En) (p : List Int) (n : Nat) : Fr := (l.take n).foldl (brT p) fr0
theorem brN_succ {l : List En} {p : List Int} {n : Nat} (h : n < l.length) : brN l p (n + 1) = brT p (brN l p n) (l.getD n en0) := fold_succ en0 h
theorem brN_rat (l : List En) (p : List Int) : ∀ n, (brN l p n).rat = (bsN l p n).rat
  | 0 => rfl
  | n + 1 => by
    by_cases hn : n < l.length
    · rw [brN_succ hn, bsN_succ hn]
      unfold brT bsT
      rw [brN_rat l p n]
      split
      · rw [frK_rat]
      · exact brN_rat l p n
    · have e1 : brN l p (n + 1) = brN l p n := by unfold brN; rw [List.take_of_length_le (by omega), List.take_of_length_le (by omega)]
      have e2 : bsN l p (n + 1) = bsN l p n := by unfold bsN; rw [List.take_of_length_le (by omega), List.take_of_length_le (by omega)]
      rw [e1, e2]; exact brN_rat l p n
theorem brN_ok {l : List En} (h : ∀ e ∈ l, EnS e) (p : List Int) : ∀ n, (Fit (brN l p n).n ∧ Fit (brN l p n).d) ∧ bf (brN l p n) ≤ 1000
  | 0 => ⟨(inferInstance : FtF fr0).h, by show bf fr0 ≤ 1000; decide⟩
  | n + 1 => by
    by_cases hn : n < l.length
    · rw [brN_succ hn]
      unfold brT
      split
      · have he := h _ (getD_in en0 hn)
        exact ⟨he.2.2, he.2.1⟩
      · exact brN_ok h p n
    · have e1 : brN l p (n + 1) = brN l p n := by unfold brN; rw [List.take_of_length_le (by omega), List.take_of_length_le (by omega)]
      rw [e1]; exact brN_ok h p n
def brC (l : List En) (p : List Int) (n c : Nat) : Fr := if c ≤ p.length then brN l p (n + 1) else brN l p n
def brK (l : List En) (K : List (List Int)) (n c : Nat) : List Fr := (List.range K.length).map fun k => brC l (K.getD k []) n c
def brL (l : List En) (K : List (List Int)) (n : Nat) : List Fr := (List.range K.length).map fun k => brN l (K.getD k []) n
section
variable {l : List En} {K : List (List Int)} {n : Nat}
theorem brC_up {p : List Int} {c : Nat} (hn : n < l.length) (h : ¬ (l.getD n en0).ph.take p.length = p) : brC l p n c = brN l p n := by
  unfold brC
  split
  · rw [brN_succ hn]
    exact if_neg fun x => h x.1
  · rfl
theorem brK_len {c : Nat} : (brK l K n c).length = K.length := by unfold brK; simp
theorem brK_at {c a : Nat} (ha : a < K.length) : (brK l K n c).getD a fr0 = brC l (K.getD a []) n c := rngN_at ha
theorem brL_len : (brL l K n).length = K.length := by unfold brL; simp
theorem brL_at {a : Nat} (ha : a < K.length) : (brL l K n).getD a fr0 = brN l (K.getD a []) n := rngN_at ha
theorem brL_zero : List.replicate K.length fr0 = brL l K 0 := by
  unfold brL
  apply List.ext_getElem?
  intro i
  by_cases hi : i < K.length
  · rw [List.getElem?_replicate, if_pos hi, List.getElem?_map, List.getElem?_range hi]; rfl
  · rw [List.getElem?_eq_none (by simp; omega), List.getElem?_eq_none (by simp; omega)]
theorem brK_top (hn : n < l.length) : brK l K n ((l.getD n en0).ph.length + 1) = brL l K n := rngN_congr fun k _ => by
  by_cases h : (l.getD n en0).ph.take (K.getD k []).length = K.getD k []
  · unfold brC
    rw [if_neg]
    intro hc
    have := congrArg List.length h
    rw [List.length_take] at this
    omega
  · exact brC_up hn h
theorem brK_end : brK l K n 0 = brL l K (n + 1) := rngN_congr fun k _ => if_pos (Nat.zero_le _)
theorem brK_step (nd : K.Nodup) {c : Nat} (hn : n < l.length) (hc : c ≤ (l.getD n en0).ph.length) {a : Nat} (ha : a < K.length) (hK : K.getD a [] = (l.getD n en0).ph.take c) :
    (brK l K n (c + 1)).set a (brN l (K.getD a []) (n + 1)) = brK l K n c := by
  have hl : (K.getD a []).length = c := by rw [hK, List.length_take]; omega
  have e : brC l (K.getD a []) n c = brN l (K.getD a []) (n + 1) := if_pos (by omega)
  have h := rngN_set (f := fun k => brC l (K.getD k []) n (c + 1)) (f' := fun k => brC l (K.getD k []) n c) ha fun k hk hka => by
    by_cases h : (l.getD n en0).ph.take (K.getD k []).length = K.getD k []
    · have hne : (K.getD k []).length ≠ c := fun e => hka (by
        have h1 := idxK_at nd hk
        have h2 := idxK_at nd ha
        rw [hK, ← e, h] at h2
        omega)
      unfold brC
      by_cases h3 : c + 1 ≤ (K.getD k []).length
      · rw [if_pos h3, if_pos (by omega)]
      · rw [if_neg h3, if_neg (by omega)]
    · rw [brC_up hn h, brC_up hn h]
  rw [e] at h
  exact h
end
theorem trL_get {l : List En} {b : Nat} (hb : b < (begS l).length) : (trL l).getD b nd0 = trN l (begS l) ((begS l).getD b []) := by
  unfold trL
  rw [map_rng [], rngN_at hb]
theorem enN_has {l : List En} {n : Nat} (hn : n < l.length) {p : List Int} (h : (l.getD n en0).ph = p) : ((enN l p l.length).any fun x => decide (x = (n : Int))) = true :=
  List.any_eq_true.2 ⟨_, List.mem_map.2 ⟨n, List.mem_filter.2 ⟨List.mem_range.2 hn, by simpa using h⟩, rfl⟩, by simp⟩
end Go.E3
