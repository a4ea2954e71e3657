/- A47: a part of the proofs about what is clipped and stored: how the program's functions run, and what they compute, for every input. -/
import Derived.Test.YthlpenhbcmbgoaaGreatDoorA46
set_option linter.all false
set_option linter.unusedVariables false
set_option maxRecDepth 20000
set_option maxHeartbeats 4000000
set_option synthInstance.maxSize 1000
namespace Go.E3
open Go Go.Ear Go.Proofs
def idxK (K : List (List Int)) (p : List Int) : Nat := K.findIdx fun x => decide (x = p)
def phN (p : List Int) : Int := p.getD (p.length - 1) 0
def paN (K : List (List Int)) (p : List Int) : Int := if p = [] then -1 else idxP (fun x => decide (x = p.take (p.length - 1))) K
def enN (l : List En) (p : List Int) (n : Nat) : List Int := ((List.range n).filter fun i => decide ((l.getD i en0).ph = p)).map fun i : Nat => (i : Int)
def bsT (p : List Int) (b : Fr) (e : En) : Fr := if e.ph.take p.length = p ∧ 0 < sgQ (e.f.rat - b.rat) then frK e.f.rat else b
def bsN (l : List En) (p : List Int) (n : Nat) : Fr := (l.take n).foldl (bsT p) fr0
def trN (l : List En) (K : List (List Int)) (p : List Int) : Nd := ⟨phN p, paN K p, enN l p l.length, bsN l p l.length⟩
def trL (l : List En) : List Nd := (begS l).map (trN l (begS l))
theorem idxK_mem {K : List (List Int)} {p : List Int} (h : p ∈ K) : idxK K p < K.length ∧ K.getD (idxK K p) [] = p := by
  have h1 : idxK K p < K.length := List.findIdx_lt_length.2 ⟨p, h, by simp⟩
  refine ⟨h1, ?_⟩
  have h2 := List.findIdx_getElem (p := fun x => decide (x = p)) (xs := K) (w := h1)
  rw [List.getD_eq_getElem?_getD, List.getElem?_eq_getElem h1]
  have h3 : K[List.findIdx (fun x => decide (x = p)) K] = p := by simpa using h2
  exact h3
theorem idxK_at {K : List (List Int)} (nd : K.Nodup) {j : Nat} (h : j < K.length) : idxK K (K.getD j []) = j := by
  obtain ⟨h1, h2⟩ := idxK_mem (getD_in [] h)
  generalize idxK K (K.getD j []) = i at h1 h2
  rw [List.getD_eq_getElem?_getD, List.getElem?_eq_getElem h1, List.getD_eq_getElem?_getD, List.getElem?_eq_getElem h] at h2
  have h2 : K[i] = K[j] := h2
  rcases Nat.lt_trichotomy i j with a | a | a
  · exact absurd h2 (List.pairwise_iff_getElem.1 nd i j h1 h a)
  · exact a
  · exact absurd h2.symm (List.pairwise_iff_getElem.1 nd j i h h1 a)
theorem idxP_K {K : List (List Int)} {p : List Int} (h : p ∈ K) : idxP (fun x => decide (x = p)) K = (idxK K p : Int) := if_pos (List.any_eq_true.2 ⟨p, h, by simp⟩)
theorem paN_idx {K : List (List Int)} {p : List Int} (hp : p ≠ []) (h : p.take (p.length - 1) ∈ K) : paN K p = (idxK K (p.take (p.length - 1)) : Int) := (if_neg hp).trans (idxP_K h)
theorem ordI_take : ∀ {p : List Int} {n : Nat}, n < p.length → ordI (p.take n) p < 0
  | x :: p, 0, _ => by show (-1 : Int) < 0; omega
  | x :: p, n + 1, h => by
    rw [List.take_succ_cons]
    have e : cmpI x x = 0 := cmpI_to.self x
    show (if cmpI x x = 0 then ordI (p.take n) p else cmpI x x) < 0
    rw [if_pos e]
    exact ordI_take (by simpa using h)
theorem begS_srt (l : List En) : (begS l).Pairwise fun a b => ordI a b < 0 := dstI_srt _
theorem begS_nd (l : List En) : (begS l).Nodup := ordI_nodup (begS_srt l)
theorem begS_mem {l : List En} {p : List Int} : p ∈ begS l ↔ p = [] ∨ ∃ e ∈ l, ∃ n, n ≤ e.ph.length ∧ p = e.ph.take n := by
  unfold begS
  rw [dstI_mem, List.mem_cons, begL_mem]
theorem begS_take {l : List En} {p : List Int} (h : p ∈ begS l) (n : Nat) : p.take n ∈ begS l := by
  rcases begS_mem.1 h with rfl | ⟨e, he, m, hm, rfl⟩
  · rw [List.take_nil]; exact h
  · rw [List.take_take]
    exact begS_mem.2 (.inr ⟨e, he, min n m, by omega, rfl⟩)
theorem begS_ent {l : List En} {e : En} (h : e ∈ l) (n : Nat) : e.ph.take n ∈ begS l := by
  by_cases c : n ≤ e.ph.length
  · exact begS_mem.2 (.inr ⟨e, h, n, c, rfl⟩)
  · exact begS_mem.2 (.inr ⟨e, h, e.ph.length, Nat.le_refl _, by rw [List.take_of_length_le (by omega), List.take_length]⟩)
theorem srt_lt {K : List (List Int)} (h : K.Pairwise fun a b => ordI a b < 0) {i j : Nat} (hi : i < K.length) (hj : j < K.length) (hlt : ordI (K.getD i []) (K.getD j []) < 0) : i < j := by
  rw [List.getD_eq_getElem?_getD, List.getElem?_eq_getElem hi, List.getD_eq_getElem?_getD, List.getElem?_eq_getElem hj] at hlt
  have hlt : ordI K[i] K[j] < 0 := hlt
  rcases Nat.lt_trichotomy i j with a | a | a
  · exact a
  · subst a
    have := ordI_to.self K[i]
    omega
  · have h1 := List.pairwise_iff_getElem.1 h j i hj hi a
    have n := ordI_to.neg K[i] K[j]
    omega
theorem idxK_lt {l : List En} {j : Nat} (hj : j < (begS l).length) {n : Nat} (hn : n < ((begS l).getD j []).length) : idxK (begS l) (((begS l).getD j []).take n) < j := by
  obtain ⟨h1, h2⟩ := idxK_mem (begS_take (getD_in [] hj) n)
  refine srt_lt (begS_srt l) h1 hj ?_
  rw [h2]
  exact ordI_take hn
def numB (K : List (List Int)) (k : Nat) : Bag (List Int) := (List.range k).map fun j => (K.getD j [], ((j : Nat) : Rat))
def mkI (_ : List Int) (x : Rat) : Int := x.num
abbrev MI (K : List (List Int)) (k : Nat) : List (ByteArray × Int) → Prop := fun l => MK prtB mkI l (numB K k)
theorem numB_succ (K : List (List Int)) (k : Nat) : numB K (k + 1) = numB K k ++ [(K.getD k [], ((k : Nat) : Rat))] := by
  unfold numB
  rw [List.range_succ, List.map_append]; rfl
theorem numB_keys {K : List (List Int)} {k : Nat} (h : k ≤ K.length) : (numB K k).map (·.1) = K.take k := by
  unfold numB
  rw [List.map_map]
  apply List.ext_getElem?
  intro i
  by_cases hi : i < k
  · rw [List.getElem?_map, List.getElem?_range hi, List.getElem?_take, if_pos hi, List.getElem?_eq_getElem (by omega)]
    show some (K.getD i []) = _
    rw [List.getD_eq_getElem?_getD, List.getElem?_eq_getElem (by omega)]; rfl
  · rw [List.getElem?_eq_none (by simp; omega), List.getElem?_eq_none (by simp; omega)]
theorem MI_get {K : List (List Int)} (nd : K.Nodup) {k : Nat} (hk : k ≤ K.length) {L : List (ByteArray × Int)} (m : MI K k L) {j : Nat} (hj : j < k) : mget L (prtB (K.getD j [])) = some (j : Int) := by
  have hm : (K.getD j [], ((j : Nat) : Rat)) ∈ numB K k := List.mem_map.2 ⟨j, List.mem_range.2 hj, rfl⟩
  have hn : ((numB K k).map (·.1)).Nodup := by rw [numB_keys hk]; exact nd.sublist (List.take_sublist _ _)
  rw [(m.get (fun p q h => prtB_inj h) (K.getD j [])).1 ⟨_, hm⟩, tot_ndb hn hm]
  show some ((j : Rat)).num = _
  rw [Rat.num_natCast]
theorem MI_add {K : List (List Int)} (nd : K.Nodup) {k : Nat} (hk : k < K.length) {L : List (ByteArray × Int)} (m : MI K k L) : MI K (k + 1) (mset L (prtB (K.getD k [])) (k : Int)) := by
  have ht : tot (numB K k) (K.getD k []) = 0 := tot_none fun ⟨x, hx⟩ => by
    have : K.getD k [] ∈ (numB K k).map (·.1) := List.mem_map.2 ⟨_, hx, rfl⟩
    rw [numB_keys (by omega)] at this
    obtain ⟨j, hj, e⟩ := getD_mem (d := []) this
    rw [List.length_take] at hj
    rw [take_getD (by omega)] at e
    have h1 := idxK_at nd (show j < K.length by omega)
    have h2 := idxK_at nd hk
    rw [e, h2] at h1
    omega
  have := m.add (fun p q h => prtB_inj h) (K.getD k []) ((k : Nat) : Rat)
  rw [ht, Rat.zero_add, ← numB_succ] at this
  have e : mkI (K.getD k []) ((k : Nat) : Rat) = (k : Int) := Rat.num_natCast k
  rw [e] at this
  exact this
theorem bsN_succ {l : List En} {p : List Int} {n : Nat} (h : n < l.length) : bsN l p (n + 1) = bsT p (bsN l p n) (l.getD n en0) := fold_succ en0 h
theorem enN_succ (l : List En) (p : List Int) (n : Nat) : enN l p (n + 1) = enN l p n ++ if (l.getD n en0).ph = p then [(n : Int)] else [] := by
  unfold enN
  rw [List.range_succ, List.filter_append, List.map_append]
  simp only [List.filter_cons, List.filter_nil, decide_eq_true_eq]
  split <;> rfl
theorem enN_len (l : List En) (p : List Int) (n : Nat) : (enN l p n).length ≤ n := by
  unfold enN
  rw [List.length_map]
  exact Nat.le_trans (List.length_filter_le _ (List.range n)) (by rw [List.length_range]; exact Nat.le_refl _)
theorem bsN_ok {l : List En} (h : ∀ e ∈ l, EnS e) (p : List Int) : ∀ n, (Fit (bsN l p n).n ∧ Fit (bsN l p n).d) ∧ bf (bsN l p n) ≤ 1000
  | 0 => ⟨(inferInstance : FtF fr0).h, by show bf fr0 ≤ 1000; decide⟩
  | n + 1 => by
    by_cases hn : n < l.length
    · rw [bsN_succ hn]
      unfold bsT
      split
      · have he := h _ (getD_in en0 hn)
        refine ⟨(inferInstance : FtF (frK (l.getD n en0).f.rat)).h, ?_⟩
        rw [bf_frK]
        have := bq_rat he.2.2
        have := he.2.1
        have h4 : max (max (l.getD n en0).f.n.length (l.getD n en0).f.d.length) 1 ≤ bf (l.getD n en0).f := Nat.le_refl _
        omega
      · exact bsN_ok h p n
    · have e : bsN l p (n + 1) = bsN l p n := by
        unfold bsN
        rw [List.take_of_length_le (by omega), List.take_of_length_le (by omega)]
      rw [e]; exact bsN_ok h p n
theorem rngN_set {α : Type} {f f' : Nat → α} {N a : Nat} (ha : a < N) (h : ∀ k, k < N → k ≠ a → f k = f' k) : ((List.range N).map f).set a (f' a) = (List.range N).map f' := by
  apply List.ext_getElem?
  intro i
  rw [List.getElem?_set]
  by_cases e : a = i
  · subst e
    rw [if_pos rfl, if_pos (by simpa using ha), List.getElem?_map, List.getElem?_range ha]; rfl
  · rw [if_neg e]
    by_cases hi : i < N
    · rw [List.getElem?_map, List.getElem?_range hi, List.getElem?_map, List.getElem?_range hi]
      show some (f i) = some (f' i)
      rw [h i hi fun x => e x.symm]
    · rw [List.getElem?_eq_none (by simp; omega), List.getElem?_eq_none (by simp; omega)]
theorem rngN_at {α : Type} {f : Nat → α} {N a : Nat} {d : α} (ha : a < N) : ((List.range N).map f).getD a d = f a := by
  rw [List.getD_eq_getElem?_getD, List.getElem?_map, List.getElem?_range ha]; rfl
theorem rngN_congr {α : Type} {f f' : Nat → α} {N : Nat} (h : ∀ k, k < N → f k = f' k) : (List.range N).map f = (List.range N).map f' := List.map_congr_left fun k hk => h k (List.mem_range.1 hk)
theorem map_rng {α β : Type} (d : α) (f : α → β) (l : List α) : l.map f = (List.range l.length).map fun k => f (l.getD k d) := by
  apply List.ext_getElem?
  intro i
  by_cases hi : i < l.length
  · rw [List.getElem?_map, List.getElem?_eq_getElem hi, List.getElem?_map, List.getElem?_range hi]
    show some (f l[i]) = some (f (l.getD i d))
    rw [List.getD_eq_getElem?_getD, List.getElem?_eq_getElem hi]; rfl
  · rw [List.getElem?_eq_none (by simp; omega), List.getElem?_eq_none (by simp; omega)]
theorem zipN_rng {f : Nat → NdO} {g : Nat → List Int} : ∀ (a N : Nat), zipN ((List.range' a N).map f) ((List.range' a N).map g) = (List.range' a N).map fun k => ⟨(f k).phone, (f k).parent, g k, (f k).f⟩
  | _, 0 => rfl
  | a, N + 1 => by
    rw [List.range'_succ]
    show _ :: zipN ((List.range' (a + 1) N).map f) ((List.range' (a + 1) N).map g) = _
    rw [zipN_rng (a + 1) N]; rfl
def bsC (l : List En) (p : List Int) (n c : Nat) : Fr := if c ≤ p.length then bsN l p (n + 1) else bsN l p n
def osK (l : List En) (K : List (List Int)) (vs : List Value) (n c : Nat) : List NdO := (List.range K.length).map fun k => ⟨phN (K.getD k []), paN K (K.getD k []), vs.getD k vnil, bsC l (K.getD k []) n c⟩
def lsK (l : List En) (K : List (List Int)) (n : Nat) : List (List Int) := (List.range K.length).map fun k => enN l (K.getD k []) n
theorem bsC_up {l : List En} {p : List Int} {n c : Nat} (hn : n < l.length) (h : ¬ (l.getD n en0).ph.take p.length = p) : bsC l p n c = bsN l p n := by
  unfold bsC
  split
  · rw [bsN_succ hn]
    exact if_neg fun x => h x.1
  · rfl
theorem osK_len {l : List En} {K : List (List Int)} {vs : List Value} {n c : Nat} : (osK l K vs n c).length = K.length := by unfold osK; simp
theorem osK_top {l : List En} {K : List (List Int)} {vs : List Value} {n : Nat} (hn : n < l.length) : osK l K vs n ((l.getD n en0).ph.length + 1) = (List.range K.length).map fun k => ⟨phN (K.getD k []), paN K (K.getD k []), vs.getD k vnil, bsN l (K.getD k []) n⟩ := rngN_congr fun k _ => by
  have e : bsC l (K.getD k []) n ((l.getD n en0).ph.length + 1) = bsN l (K.getD k []) n := by
    by_cases h : (l.getD n en0).ph.take (K.getD k []).length = K.getD k []
    · unfold bsC
      rw [if_neg]
      intro hc
      have := congrArg List.length h
      rw [List.length_take] at this
      omega
    · exact bsC_up hn h
  rw [e]
theorem osK_end {l : List En} {K : List (List Int)} {vs : List Value} {n : Nat} : osK l K vs n 0 = (List.range K.length).map fun k => ⟨phN (K.getD k []), paN K (K.getD k []), vs.getD k vnil, bsN l (K.getD k []) (n + 1)⟩ := rngN_congr fun k _ => by
  rw [show bsC l (K.getD k []) n 0 = bsN l (K.getD k []) (n + 1) from if_pos (Nat.zero_le _)]
theorem osK_step {l : List En} {K : List (List Int)} (nd : K.Nodup) {vs : List Value} {n c : Nat} (hn : n < l.length) (hc : c ≤ (l.getD n en0).ph.length) {a : Nat} (ha : a < K.length) (hK : K.getD a [] = (l.getD n en0).ph.take c) :
    (osK l K vs n (c + 1)).set a ⟨phN (K.getD a []), paN K (K.getD a []), vs.getD a vnil, bsN l (K.getD a []) (n + 1)⟩ = osK l K vs n c := by
  have hl : (K.getD a []).length = c := by rw [hK, List.length_take]; omega
  have e : bsC l (K.getD a []) n c = bsN l (K.getD a []) (n + 1) := if_pos (by omega)
  have h := rngN_set (f := fun k => (⟨phN (K.getD k []), paN K (K.getD k []), vs.getD k vnil, bsC l (K.getD k []) n (c + 1)⟩ : NdO)) (f' := fun k => ⟨phN (K.getD k []), paN K (K.getD k []), vs.getD k vnil, bsC l (K.getD k []) n c⟩) ha fun k hk hka => by
    have : bsC l (K.getD k []) n (c + 1) = bsC l (K.getD k []) n c := by
      by_cases h : (l.getD n en0).ph.take (K.getD k []).length = K.getD k []
      · have hne : (K.getD k []).length ≠ c := fun e => hka (by
          have h1 := idxK_at nd hk
          have h2 := idxK_at nd ha
          rw [hK, ← e, h] at h2
          omega)
        unfold bsC
        by_cases h3 : c + 1 ≤ (K.getD k []).length
        · rw [if_pos h3, if_pos (by omega)]
        · rw [if_neg h3, if_neg (by omega)]
      · rw [bsC_up hn h, bsC_up hn h]
    rw [this]
  rw [e] at h
  exact h
end Go.E3
namespace Go.E3
open Go Go.Ear Go.Proofs
def osN (l : List En) (K : List (List Int)) (vs : List Value) (n : Nat) : List NdO := (List.range K.length).map fun k => ⟨phN (K.getD k []), paN K (K.getD k []), vs.getD k vnil, bsN l (K.getD k []) n⟩
def atN (K : List (List Int)) (p : List Int) (c : Nat) : Int := if c = 0 then -1 else (idxK K (p.take (c - 1)) : Nat)
section
variable {l : List En} {K : List (List Int)} {vs : List Value} {n : Nat}
theorem osN_len : (osN l K vs n).length = K.length := by unfold osN; simp
theorem osN_at {a : Nat} (ha : a < K.length) : (osN l K vs n).getD a ndo0 = ⟨phN (K.getD a []), paN K (K.getD a []), vs.getD a vnil, bsN l (K.getD a []) n⟩ := rngN_at ha
theorem osK_at {c a : Nat} (ha : a < K.length) : (osK l K vs n c).getD a ndo0 = ⟨phN (K.getD a []), paN K (K.getD a []), vs.getD a vnil, bsC l (K.getD a []) n c⟩ := rngN_at ha
theorem osN_zero : K.map (fun p => (⟨phN p, paN K p, vnil, fr0⟩ : NdO)) = osN l K (List.replicate K.length vnil) 0 := by
  rw [map_rng []]
  refine rngN_congr fun k hk => ?_
  have e : (List.replicate K.length vnil).getD k vnil = vnil := by
    rw [List.getD_eq_getElem?_getD, List.getElem?_replicate]
    split <;> rfl
  rw [e]; rfl
theorem lsK_zero : List.replicate K.length ([] : List Int) = lsK l K 0 := by
  unfold lsK
  apply List.ext_getElem?
  intro i
  by_cases hi : i < K.length
  · rw [List.getElem?_replicate, if_pos hi, List.getElem?_map, List.getElem?_range hi]; rfl
  · rw [List.getElem?_eq_none (by simp; omega), List.getElem?_eq_none (by simp; omega)]
theorem getD_set_v {a k : Nat} {z : Value} (h : a < vs.length) : (vs.set a z).getD k vnil = if k = a then z else vs.getD k vnil := getD_set' h
theorem osN_set {a : Nat} {z : Value} (ha : a < K.length) (hv : vs.length = K.length) : (osN l K vs n).set a ⟨phN (K.getD a []), paN K (K.getD a []), z, bsN l (K.getD a []) n⟩ = osN l K (vs.set a z) n := by
  have h := rngN_set (f := fun k => (⟨phN (K.getD k []), paN K (K.getD k []), vs.getD k vnil, bsN l (K.getD k []) n⟩ : NdO)) (f' := fun k => ⟨phN (K.getD k []), paN K (K.getD k []), (vs.set a z).getD k vnil, bsN l (K.getD k []) n⟩) ha fun k hk hka => by
    rw [getD_set_v (by omega), if_neg hka]
  have e : (vs.set a z).getD a vnil = z := by rw [getD_set_v (by omega), if_pos rfl]
  rw [e] at h
  exact h
theorem lsK_set (nd : K.Nodup) {a : Nat} (ha : a < K.length) (he : K.getD a [] = (l.getD n en0).ph) : (lsK l K n).set a ((lsK l K n).getD a [] ++ [(n : Int)]) = lsK l K (n + 1) := by
  have e1 : (lsK l K n).getD a [] = enN l (K.getD a []) n := rngN_at ha
  have h := rngN_set (f := fun k => enN l (K.getD k []) n) (f' := fun k => enN l (K.getD k []) (n + 1)) ha fun k hk hka => by
    rw [enN_succ, if_neg, List.append_nil]
    intro e
    have h1 := idxK_at nd hk
    have h2 := idxK_at nd ha
    rw [← e, ← he, h2] at h1
    exact hka h1.symm
  have e2 : enN l (K.getD a []) (n + 1) = enN l (K.getD a []) n ++ [(n : Int)] := by rw [enN_succ, if_pos he.symm]
  rw [e2] at h
  rw [e1]
  exact h
theorem set_self {α : Type} {l : List α} {i : Nat} {d : α} (h : i < l.length) : l.set i (l.getD i d) = l := by
  apply List.ext_getElem?
  intro j
  rw [List.getElem?_set]
  by_cases e : i = j
  · subst e
    rw [if_pos rfl, if_pos h, List.getD_eq_getElem?_getD, List.getElem?_eq_getElem h]; rfl
  · rw [if_neg e]
theorem atN_up {c b : Nat} {p : List Int} (hc : c ≤ p.length) (hb : b < K.length) (hK : K.getD b [] = p.take c) (ht : ∀ q ∈ K, ∀ n, q.take n ∈ K) : paN K (K.getD b []) = atN K p c := by
  unfold atN
  by_cases h : c = 0
  · rw [if_pos h, hK, h]; rfl
  · have hl : (K.getD b []).length = c := by rw [hK, List.length_take]; omega
    rw [if_neg h, paN_idx (fun e => h (by rw [e] at hl; exact hl.symm)) (ht _ (getD_in [] hb) _), hl, hK, List.take_take, Nat.min_eq_left (by omega)]
theorem zip_tree (hv : vs.length = K.length) : zipN (osN l K vs l.length) (lsK l K l.length) = K.map (trN l K) := by
  unfold osN lsK
  rw [List.range_eq_range', zipN_rng, map_rng [], List.range_eq_range']
  rfl
end
end Go.E3
namespace Go.E3
open Go Go.Ear Go.Proofs
theorem osN_v {l : List En} {K : List (List Int)} {vs : List Value} {n : Nat} (h : vs.length = K.length) : (osN l K vs n).map NdO.v = vs := by
  unfold osN
  rw [List.map_map]
  apply List.ext_getElem?
  intro i
  by_cases hi : i < K.length
  · rw [List.getElem?_map, List.getElem?_range hi, List.getElem?_eq_getElem (by omega)]
    show some (vs.getD i vnil) = _
    rw [List.getD_eq_getElem?_getD, List.getElem?_eq_getElem (by omega)]; rfl
  · rw [List.getElem?_eq_none (by simp; omega), List.getElem?_eq_none (by omega)]
end Go.E3
