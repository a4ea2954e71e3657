/- A49: a part of the proofs about what is clipped and stored: how the program's functions run, and what they compute, for every input. -/
import Derived.Test.YthlpenhbcmbgoaaGreatDoorA48
set_option linter.all false
set_option linter.unusedVariables false
set_option maxRecDepth 20000
set_option maxHeartbeats 4000000
set_option synthInstance.maxSize 1000
namespace Go.E3
open Go Go.Ear Go.Proofs
instance index_c {K : List (List Int)} {p : List Int} {S T : SV} [i : Vw (lv (rL rI)) S K] [j : Vw (lv rI) T p] : Ct Tryz.prog 101 [S, T] (LiS K ∧ p.length ≤ 1000000) (iv (idxP (fun x => decide (x = p)) K)) := by
  refine ct2 i j (ctI Tryz.call101 Tryz.func101 Tryz.ntmps101 rfl Tryz.results101 rfl [] fun h0 w0 ⟨hs, hp⟩ => ?_)
  have hs1 := hs.1
  repeat first | refine nx ?_ | intro _
  refine gLp (fun k : Nat => [(5, iv k)]) (fun _ => []) (fun k => k ≤ K.length ∧ (K.take k).any (fun x => decide (x = p)) = false) (fun k => K.length - k) 0 ⟨Nat.zero_le _, rfl⟩ (fun k ⟨hk, hn⟩ => ?_)
  have hs2 := hs.2 k
  repeat first | refine nx ?_ | intro _
  refine gIf (fun c => ?_) fun c => ?_
  · repeat first | refine nx ?_ | intro _
    refine gIf (fun c2 => ?_) fun c2 => ?_ <;> repeat first | refine nx ?_ | intro _
    · exact (idx_found [] c hn (decide_eq_true (ordI_to.eq _ _ c2))).symm
    · refine gBk (k + 1) ⟨by omega, any_take_succ [] c hn (decide_eq_false fun e => c2 (by rw [e]; exact ordI_to.self p))⟩ (by omega)
  · repeat first | refine nx ?_ | intro _
    exact (idx_none (by omega) hn).symm
instance begins_c {a b : List Int} {S T : SV} [i : Vw (lv rI) S a] [j : Vw (lv rI) T b] : Ct Tryz.prog 102 [S, T] (a.length ≤ 1000000 ∧ b.length ≤ 1000000) (bv (decide (a.take b.length = b))) := by
  refine ct2 i j (ctI Tryz.call102 Tryz.func102 Tryz.ntmps102 rfl Tryz.results102 rfl [] fun h0 w0 ⟨ha, hb⟩ => ?_)
  have hs : (a.take b.length).length ≤ 1000000 := by rw [List.length_take]; omega
  repeat first | refine nx ?_ | intro _
  rw [Bool.eq_iff_iff, Bool.and_eq_true, decide_eq_true_iff, decide_eq_true_iff, decide_eq_true_iff]
  constructor
  · rintro ⟨_, h⟩; exact ordI_to.eq _ _ h
  · intro h
    refine ⟨?_, by rw [h]; exact ordI_to.self b⟩
    have := congrArg List.length h
    rw [List.length_take] at this
    omega
def bgK (l : List En) (k : Nat) : List (List Int) := (l.take k).flatMap fun e => (List.range e.ph.length).map fun j => e.ph.take (j + 1)
def bgN (l : List En) (k n : Nat) : List (List Int) := bgK l k ++ (List.range n).map fun j => (l.getD k en0).ph.take (j + 1)
def bgP (L : List (List Int)) : List (List Int) := L.foldl putI [[]]
theorem bgP_snoc (L : List (List Int)) (x : List Int) : bgP (L ++ [x]) = putI (bgP L) x := by
  unfold bgP
  rw [List.foldl_append]; rfl
theorem bgP_mem {L : List (List Int)} {x : List Int} : x ∈ bgP L ↔ x = [] ∨ x ∈ L := by
  have := (foldP (L := L) (s := [[]]) (List.pairwise_singleton _ _)).2 x
  rw [List.mem_singleton] at this
  exact this
theorem bgN_succ (l : List En) (k n : Nat) : bgN l k (n + 1) = bgN l k n ++ [(l.getD k en0).ph.take (n + 1)] := by
  unfold bgN
  rw [List.range_succ, List.map_append, ← List.append_assoc]; rfl
theorem bgK_succ {l : List En} {k : Nat} (h : k < l.length) : bgN l k (l.getD k en0).ph.length = bgK l (k + 1) := by
  unfold bgN bgK
  rw [List.take_succ_eq_append_getElem h, List.flatMap_append, List.getD_eq_getElem?_getD, List.getElem?_eq_getElem h]; simp
theorem bgN_zero (l : List En) (k : Nat) : bgN l k 0 = bgK l k := by
  unfold bgN
  rw [List.range_zero, List.map_nil, List.append_nil]
theorem bgP_all (l : List En) : bgP (bgK l l.length) = begS l := by
  refine sI_ext (foldP (L := bgK l l.length) (s := [[]]) (List.pairwise_singleton _ _)).1 (begS_srt l) fun x => ?_
  rw [begS_mem, bgP_mem]
  unfold bgK
  rw [List.take_length, List.mem_flatMap]
  constructor
  · rintro (h | ⟨e, he, h⟩)
    · exact .inl h
    · obtain ⟨j, hj, rfl⟩ := List.mem_map.1 h
      exact .inr ⟨e, he, j + 1, by have := List.mem_range.1 hj; omega, rfl⟩
  · rintro (h | ⟨e, he, n, hn, rfl⟩)
    · exact .inl h
    · cases n with
      | zero => exact .inl rfl
      | succ n => exact .inr ⟨e, he, List.mem_map.2 ⟨n, List.mem_range.2 (by omega), rfl⟩⟩
theorem putI_len (ls : List (List Int)) (x : List Int) : (putI ls x).length ≤ ls.length + 1 := by
  unfold putI
  split
  · omega
  · rw [List.length_append, List.length_append, List.length_take, List.length_drop, List.length_singleton]; omega
theorem bgP_len (L : List (List Int)) : (bgP L).length ≤ L.length + 1 := by
  unfold bgP
  have : ∀ (L s : List (List Int)), (L.foldl putI s).length ≤ s.length + L.length := by
    intro L
    induction L with
    | nil => intro s; exact Nat.le_refl _
    | cons x L ih =>
      intro s
      rw [List.foldl_cons, List.length_cons]
      have h1 := ih (putI s x)
      have h2 := putI_len s x
      omega
  have := this L [[]]
  rw [List.length_singleton] at this
  omega
theorem bgK_len {l : List En} (h : ∀ e ∈ l, e.ph.length ≤ 100) (k : Nat) : (bgK l k).length ≤ l.length * 100 := by
  unfold bgK
  refine Nat.le_trans (fm_le (M := 100) fun e he => ?_) (Nat.mul_le_mul_right _ (by rw [List.length_take]; omega))
  rw [List.length_map, List.length_range]
  exact h e (List.mem_of_mem_take he)
theorem bg_LiS {l : List En} (hl : l.length ≤ 2000) (h : ∀ e ∈ l, e.ph.length ≤ 100) {k n : Nat} (hk : k < l.length) (hn : n ≤ (l.getD k en0).ph.length) : LiS (bgP (bgN l k n)) := by
  have h1 := bgK_len h k
  have h2 : l.length * 100 ≤ 2000 * 100 := Nat.mul_le_mul_right _ hl
  have h3 := h _ (getD_in en0 hk)
  refine ⟨?_, fun j => ?_⟩
  · have h4 := bgP_len (bgN l k n)
    have h5 : (bgN l k n).length = (bgK l k).length + n := by unfold bgN; simp
    omega
  · by_cases hj : j < (bgP (bgN l k n)).length
    · rcases bgP_mem.1 (getD_in [] hj) with e | hm
      · rw [e]; exact Nat.zero_le _
      · unfold bgN at hm
        rcases List.mem_append.1 hm with hm | hm
        · unfold bgK at hm
          obtain ⟨e, he, hm⟩ := List.mem_flatMap.1 hm
          obtain ⟨i, hi, h6⟩ := List.mem_map.1 hm
          have h7 := h e (List.mem_of_mem_take he)
          unfold bgN bgK at *
          rw [← h6, List.length_take]; omega
        · obtain ⟨i, hi, h6⟩ := List.mem_map.1 hm
          unfold bgN at *
          rw [← h6, List.length_take]; omega
    · rw [List.getD_eq_getElem?_getD, List.getElem?_eq_none (by omega)]; exact Nat.zero_le _
instance rBeginnings_c {l : List En} {S : SV} [i : Vw lxv S l] : Ct Tryz.prog 100 [S] (l.length ≤ 2000 ∧ ∀ e ∈ l, e.ph.length ≤ 100) (lv (rL rI) (begS l)) := by
  refine ct1 i (ctI Tryz.call100 Tryz.func100 Tryz.ntmps100 rfl Tryz.results100 rfl [] fun h0 w0 ⟨hl, he⟩ => ?_)
  repeat first | refine nx ?_ | intro _
  refine gLp (fun k : Nat => [(4, iv k), (3, lv (rL rI) (bgP (bgK l k)))]) (fun _ => []) (fun k => k ≤ l.length) (fun k => l.length - k) 0 (Nat.zero_le _) (fun k hk => ?_)
  repeat first | refine nx ?_ | intro _
  refine gIf (fun c => ?_) fun c => ?_
  · have hpk := he _ (getD_in en0 c)
    repeat first | refine nx ?_ | intro _
    refine gLp (fun n : Nat => [(6, iv ((n + 1 : Nat) : Int)), (3, lv (rL rI) (bgP (bgN l k n)))]) (fun _ => []) (fun n => n ≤ (l.getD k en0).ph.length) (fun n => (l.getD k en0).ph.length - n) 0 (Nat.zero_le _) (fun n hn => ?_) (h1 := by rw [bgN_zero]; repeat' (first | trivial | refine And.intro ?_ ?_))
    have hli := bg_LiS hl he c hn
    have hsu := bgN_succ l k n
    have hps := bgP_snoc (bgN l k n) ((l.getD k en0).ph.take (n + 1))
    repeat first | refine nx ?_ | intro _
    refine gIf (fun c2 => ?_) fun c2 => ?_
    · have hsd : LiS (bgP (bgN l k n)) ∧ ((l.getD k en0).ph.take (n + 1)).length ≤ 1000000 := ⟨hli, by rw [List.length_take]; omega⟩
      repeat first | refine nx ?_ | intro _
      rw [← hps, ← hsu]
      exact gBk (n + 1) (by omega) (by omega)
    · have en : n = (l.getD k en0).ph.length := by omega
      rw [en, bgK_succ c]
      repeat first | refine nx ?_ | intro _
      exact gBk (k + 1) (by omega) (by omega)
  · have ek : k = l.length := by omega
    rw [ek, bgP_all]
    repeat first | refine nx ?_ | intro _
    trivial
end Go.E3
