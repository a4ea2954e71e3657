/- P8: a part of the proofs about package model: how the program's functions run, and what they compute, for every input. -/
import Derived.Test.YtpmndikbfalfoaaGreatP7
set_option linter.all false
set_option linter.unusedVariables false
namespace Go.Ear
structure SideOk (ms : List Md) (k : Nat) : Prop where
  l : 1 ≤ ms.length
  v : ∀ x, x < ms.length → validM (ms.getD x md0) = true
  y : ∀ x, x < ms.length → symb (ms.getD x md0) = k
section
variable {ms : List Md} {k : Nat} (so : SideOk ms k)
include so
theorem SideOk.nn {x : Nat} (hx : x < ms.length) : Nn (ms.getD x md0) := Nn.of (so.v x hx)
theorem SideOk.st {x : Nat} (hx : x < ms.length) : sumTo (stQ (ms.getD x md0)) (sz4 ms x) = 1 := (Ones.of (so.v x hx)).st
theorem SideOk.lv {x i : Nat} (hx : x < ms.length) (hi : i < sz4 ms x) : sumTo (mvQ ms x i) (sz4 ms x) + fiQ (ms.getD x md0) i = 1 := (Ones.of (so.v x hx)).lv i hi
theorem SideOk.n1 : 1 ≤ offN ms ms.length := by
  have := offN_lt (ms := ms) (x := 0) (L := ms.length) so.l
  have h2 := (valid_len (so.v 0 so.l)).1
  unfold sz4 at this; omega
theorem SideOk.k1 : 1 ≤ k := by
  have h := so.v 0 so.l
  have := (valid_row h (i := 0) (valid_len h).1).2.2.1
  rw [so.y 0 so.l] at this; exact this
theorem SideOk.say {x i : Nat} (hx : x < ms.length) (hi : i < sz4 ms x) : ((ms.getD x md0).say.getD i []).length = k := by
  have := (valid_row (so.v x hx) (i := i) hi).2.1
  rw [so.y x hx] at this; exact this
theorem SideOk.yrow {r : Nat} (hr : r < offN ms ms.length) : (((bsY ms ms.length).getD r []).length = k) ∧ (∀ j, 0 ≤ ((bsY ms ms.length).getD r []).getD j 0) ∧ sumR ((bsY ms ms.length).getD r []) = 1 := by
  obtain ⟨x, i, hx, hi, rfl⟩ := off_split ms _ r hr
  rw [bsY_blk, blk_at hi hx]
  have hl := so.say hx hi
  rw [hl]
  refine ⟨sayC_len .., nn_pad fun j hj => ?_, ?_⟩
  · rw [sayC_len] at hj
    rw [sayC, range_getD _ _ hj]; exact (so.nn hx).sy i j
  · unfold sayC
    rw [sumR_range]
    have := (Ones.of (so.v x hx)).sy i hi
    rw [so.y x hx] at this; exact this
theorem join_VK : VK (offN ms ms.length) k (joinS ms) (joinM (offN ms ms.length) ms) (joinF ms) (bsY ms ms.length) := by
  refine ⟨so.n1, so.k1, ⟨joinS_len, joinM_len, joinF_len, bsY_len ..⟩, fun r hr => ⟨?_, (so.yrow hr).1⟩, ⟨fun r hr => ?_, ?_⟩, fun r hr => ?_, fun r hr => (so.yrow hr).2⟩
  · obtain ⟨x, i, hx, hi, rfl⟩ := off_split ms _ r hr
    rw [joinM_at hx hi, jnP_len]
  · obtain ⟨x, i, hx, hi, rfl⟩ := off_split ms _ r hr
    rw [joinS_at hx hi]; split
    · exact (so.nn so.l).st i
    · exact Rat.le_refl
  · obtain ⟨L, hL⟩ : ∃ L, ms.length = L + 1 := ⟨ms.length - 1, by have := so.l; omega⟩
    unfold joinS
    rw [sumR_blk, hL, sumTo_first, sumTo_none (n := L) fun x _ => sumTo_none fun i _ => if_neg (by omega), Rat.add_zero, ← so.st so.l]
    exact sumTo_congr _ fun i _ => if_pos rfl
  · obtain ⟨x, i, hx, hi, rfl⟩ := off_split ms _ r hr
    have ho := offN_lt (ms := ms) hx
    have ho2 : offN ms (x + 1) = offN ms x + sz4 ms x := rfl
    have hn : offN ms (x + 1) + nxN ms x ≤ offN ms ms.length := by
      unfold nxN; split
      · rename_i h; have := offN_lt (ms := ms) h; omega
      · omega
    have hf := (so.nn hx).fi i
    rw [joinM_at hx hi, joinF_at hx hi, sumR_jnP hn]
    refine ⟨fun j hj => ?_, ?_, ?_⟩
    · rw [jnP, range_getD _ _ hj]
      split
      · exact (so.nn hx).mv i _
      · split
        · refine Rat.mul_nonneg hf ?_
          have : x + 1 < ms.length := by
            rename_i h; unfold nxN at h
            by_cases e : x + 1 < ms.length
            · exact e
            · rw [if_neg e] at h; omega
          exact (so.nn this).st _
        · exact Rat.le_refl
    · split
      · exact Rat.le_refl
      · exact hf
    · have h1 := so.lv hx hi
      unfold nxN
      by_cases e : x + 1 < ms.length
      · rw [if_pos e, if_pos e, so.st e, Rat.mul_one, Rat.add_zero]; exact h1
      · rw [if_neg e, if_neg e, show sumTo (stQ (ms.getD (x + 1) md0)) 0 = 0 from rfl, Rat.mul_zero, Rat.add_zero]; exact h1
theorem mix_VK {ws : List Fr} (hw : ws.length = ms.length) (hd : distF ws = true) : VK (offN ms ms.length) k (mixS ws ms ms.length) (bsM (offN ms ms.length) ms ms.length) (bsE ms ms.length) (bsY ms ms.length) := by
  have hd := dist_iff.1 hd
  refine ⟨so.n1, so.k1, ⟨mixS_len .., bsM_len .., bsE_len .., bsY_len ..⟩, fun r hr => ⟨?_, (so.yrow hr).1⟩, ⟨fun r hr => ?_, ?_⟩, fun r hr => ?_, fun r hr => (so.yrow hr).2⟩
  · obtain ⟨x, i, hx, hi, rfl⟩ := off_split ms _ r hr
    rw [bsM_blk, blk_at hi hx, rowP_len]
  · obtain ⟨x, i, hx, hi, rfl⟩ := off_split ms _ r hr
    rw [mixS_blk, blk_at hi hx]; exact Rat.mul_nonneg (hd.1 x) ((so.nn hx).st i)
  · rw [mixS_blk, sumR_blk]
    have h1 := hd.2
    rw [sumF_sum, hw] at h1
    rw [← h1]
    refine sumTo_congr _ fun x hx => ?_
    have := sumTo_mulc (ws.getD x fr0).rat (stQ (ms.getD x md0)) (sz4 ms x)
    rw [so.st hx, Rat.one_mul] at this
    refine Eq.trans ?_ this
    exact sumTo_congr _ fun i _ => Rat.mul_comm ..
  · obtain ⟨x, i, hx, hi, rfl⟩ := off_split ms _ r hr
    rw [bsM_blk, blk_at hi hx, bsE_blk, blk_at hi hx, sumR_rowP (offN_lt hx)]
    refine ⟨fun j hj => ?_, (so.nn hx).fi i, so.lv hx hi⟩
    rw [rowP, range_getD _ _ hj]
    split
    · exact (so.nn hx).mv i _
    · exact Rat.le_refl
end
theorem half2 : halfQ + halfQ = 1 := by decide +kernel
theorem half_nn : 0 ≤ halfQ := by decide +kernel
theorem each_nn (k : Nat) : 0 ≤ eachQ k := by
  unfold eachQ; rw [Rat.div_def]
  exact Rat.mul_nonneg (by decide) (inv_nn (by exact_mod_cast Nat.zero_le k))
theorem rep_set_sum {n x : Nat} {q : Rat} (hx : x < n) : sumR ((List.replicate n 0).set x q) = q := by
  have := sumR_set (l := List.replicate n (0 : Rat)) (x := x) (q := q) (by rw [List.length_replicate]; exact hx)
  rw [← rep_getD (x := (0 : Rat)) (d := 0) hx, Rat.zero_add, sumR_rep, Rat.zero_add] at this; exact this
theorem set_nn {l : List Rat} {x : Nat} {q : Rat} (h : ∀ i, 0 ≤ l.getD i 0) (hq : 0 ≤ q) (i : Nat) : 0 ≤ (l.set x q).getD i 0 := by
  by_cases e : x = i
  · subst e
    by_cases hx : x < l.length
    · rw [getD_set_is hx]; exact hq
    · rw [List.getD_eq_getElem?_getD, List.getElem?_eq_none (by rw [List.length_set]; omega)]; exact Rat.le_refl
  · rw [getD_set_ne' e]; exact h i
theorem rep_nn (n : Nat) {q : Rat} (hq : 0 ≤ q) (i : Nat) : 0 ≤ (List.replicate n q).getD i 0 := by
  rw [List.getD_eq_getElem?_getD, List.getElem?_replicate]; split
  · exact hq
  · exact Rat.le_refl
theorem left_VK {n k : Nat} (hn : 1 ≤ n) (hk : 1 ≤ k) : VK n k (leftS n) (leftMv n) (leftF n) (leftY n k) := by
  have z0 : (0 : Rat) ≤ 0 := Rat.le_refl
  refine ⟨hn, hk, ⟨by unfold leftS; simp, leftMv_len n, by unfold leftF; simp, leftY_len n k⟩, fun i hi => ⟨?_, ?_⟩, ⟨fun i _ => ?_, ?_⟩, fun i hi => ?_, fun i hi => ?_⟩
  · rw [leftMv, range_getD _ _ hi]; unfold leftRow; split <;> simp
  · rw [← leftY_at hi]; simp
  · unfold leftS; exact set_nn (rep_nn n z0) (by decide) i
  · unfold leftS; rw [rep_set_sum (by omega)]; rfl
  · rw [leftMv, range_getD _ _ hi]
    have hE : 0 ≤ (leftF n).getD i 0 := by unfold leftF; exact set_nn (rep_nn n z0) half_nn i
    refine ⟨fun j _ => ?_, hE, ?_⟩
    · unfold leftRow; split
      · exact set_nn (set_nn (rep_nn n z0) half_nn) half_nn j
      · exact set_nn (rep_nn n z0) half_nn j
    · unfold leftRow leftF
      split
      · have h2 := sumR_set (l := (List.replicate n (0 : Rat)).set i halfQ) (x := i + 1) (q := halfQ) (by simp; omega)
        rw [getD_set_ne' (by omega), ← rep_getD (x := (0 : Rat)) (d := 0) (by omega), Rat.zero_add, rep_set_sum hi, half2] at h2
        rw [h2, getD_set_ne' (by omega), ← rep_getD (x := (0 : Rat)) (d := 0) hi, Rat.add_zero]
      · have e : n - 1 = i := by omega
        rw [rep_set_sum hi, e, getD_set_is (by simp; omega), half2]
  · rw [← leftY_at hi]
    refine ⟨rep_nn k (each_nn k), ?_⟩
    have hk0 : ((k : Nat) : Rat) ≠ 0 := by
      intro e; have : k = 0 := by exact_mod_cast e
      omega
    unfold sumR
    rw [List.length_replicate, sumTo_congr (q' := fun _ => 1 * eachQ k) _ fun i hi => by rw [← rep_getD (x := eachQ k) (d := 0) hi, Rat.one_mul], sumTo_mulc (eachQ k) (fun _ => 1), sumTo_all1 fun _ _ => rfl]
    unfold eachQ
    rw [Rat.div_def, show (((1 : Nat) : Int) : Rat) = 1 from rfl, Rat.one_mul]
    exact Rat.mul_inv_cancel _ hk0
section
variable {a b : Md} {k : Nat}
theorem off2 : offN [a, b] 0 = 0 ∧ offN [a, b] 1 = a.start.length ∧ offN [a, b] 2 = a.start.length + b.start.length := by
  refine ⟨rfl, ?_, ?_⟩
  · show 0 + a.start.length = _; omega
  · show 0 + a.start.length + b.start.length = _; omega
theorem stK {S M E Y i} : stQ (mdK S M E Y) i = S.getD i 0 := getD_K' S i
theorem fiK {S M E Y i} : fiQ (mdK S M E Y) i = E.getD i 0 := getD_K' E i
theorem mvK {S M E Y i j} : mvE (mdK S M E Y) i j = (M.getD i []).getD j 0 := by
  show (((M.map (·.map frK)).getD i []).getD j fr0).rat = _
  rw [map_getDR, getD_K']
theorem syK {S M E Y i j} : syQ (mdK S M E Y) i j = (Y.getD i []).getD j 0 := by
  show (((Y.map (·.map frK)).getD i []).getD j fr0).rat = _
  rw [map_getDR, getD_K']
theorem say_at {ms : List Md} (so : SideOk ms k) {x i j : Nat} (hx : x < ms.length) (hi : i < sz4 ms x) : ((bsY ms ms.length).getD (offN ms x + i) []).getD j 0 = syQ (ms.getD x md0) i j := by
  rw [bsY_blk, blk_at hi hx]
  by_cases hj : j < ((ms.getD x md0).say.getD i []).length
  · rw [sayC, range_getD _ _ hj]; rfl
  · rw [List.getD_eq_getElem?_getD, List.getElem?_eq_none (by rw [sayC_len]; omega)]
    unfold syQ
    rw [List.getD_eq_getElem?_getD (l := (ms.getD x md0).say.getD i []), List.getElem?_eq_none (by omega)]
    show (0 : Rat) = fr0.rat; decide +kernel
theorem join_two (so : SideOk [a, b] k) : JoinOf (mdK (joinS [a, b]) (joinM (offN [a, b] 2) [a, b]) (joinF [a, b]) (bsY [a, b] 2)) a b := by
  have ⟨o0, o1, o2⟩ := off2 (a := a) (b := b)
  have x0 : 0 < [a, b].length := Nat.zero_lt_two
  have x1 : 1 < [a, b].length := Nat.one_lt_two
  have s0 : sz4 [a, b] 0 = a.start.length := rfl
  have s1 : sz4 [a, b] 1 = b.start.length := rfl
  have A : ∀ i, offN [a, b] 0 + i = i := fun i => by rw [o0, Nat.zero_add]
  have B : ∀ i, offN [a, b] 1 + i = a.start.length + i := fun i => by rw [o1]
  have n0 : nxN [a, b] 0 = b.start.length := rfl
  have n1 : nxN [a, b] 1 = 0 := rfl
  refine ⟨?_, fun i hi => ?_, fun i hi => ?_, fun i j hi hj => ?_, fun i j hi hj => ?_, fun i j hi hj => ?_, fun i j hi hj => ?_, fun i hi => ?_, fun i hi => ?_, fun i j hi => ?_, fun i j hi => ?_⟩
  · show ((joinS [a, b]).map frK).length = _; rw [List.length_map, joinS_len]; exact o2
  · rw [stK, ← A i, joinS_at x0 hi, o0, Nat.zero_add]; rfl
  · rw [stK, ← B i, joinS_at x1 hi]; rfl
  · rw [mvK]; have := joinM_at (n := offN [a, b] 2) (d := []) x0 hi; rw [A] at this
    rw [this, jnP, range_getD _ _ (by omega), if_pos (by omega), o0]; rfl
  · rw [mvK]; have := joinM_at (n := offN [a, b] 2) (d := []) x0 hi; rw [A] at this
    rw [this, jnP, range_getD _ _ (by omega), if_neg (by omega), n0, if_pos (by rw [show (0 + 1 : Nat) = 1 from rfl]; omega), show (0 + 1 : Nat) = 1 from rfl, o1, Nat.add_sub_cancel_left]; rfl
  · rw [mvK]; have := joinM_at (n := offN [a, b] 2) (d := []) x1 hi; rw [B] at this
    rw [this, jnP, range_getD _ _ (by omega), if_neg (by omega), n1, if_neg (by omega)]
  · rw [mvK]; have := joinM_at (n := offN [a, b] 2) (d := []) x1 hi; rw [B] at this
    rw [this, jnP, range_getD _ _ (by omega), if_pos (by omega), o1, Nat.add_sub_cancel_left]; rfl
  · rw [fiK, ← A i, joinF_at x0 hi]; rfl
  · rw [fiK, ← B i, joinF_at x1 hi]; rfl
  · rw [syK, ← A i]; have := say_at so (j := j) x0 hi; rw [A] at this; rw [A]; exact this
  · rw [syK, ← B i]; exact say_at so x1 hi
theorem mix_two {ws : List Fr} (so : SideOk [a, b] k) : MixOf (mdK (mixS ws [a, b] 2) (bsM (offN [a, b] 2) [a, b] 2) (bsE [a, b] 2) (bsY [a, b] 2)) a b (ws.getD 0 fr0).rat (ws.getD 1 fr0).rat := by
  have ⟨o0, o1, o2⟩ := off2 (a := a) (b := b)
  have x0 : 0 < 2 := Nat.zero_lt_two
  have x1 : 1 < 2 := Nat.one_lt_two
  have s0 : sz4 [a, b] 0 = a.start.length := rfl
  have s1 : sz4 [a, b] 1 = b.start.length := rfl
  have A : ∀ i, offN [a, b] 0 + i = i := fun i => by rw [o0, Nat.zero_add]
  have B : ∀ i, offN [a, b] 1 + i = a.start.length + i := fun i => by rw [o1]
  refine ⟨?_, fun i hi => ?_, fun i hi => ?_, fun i j hi hj => ?_, fun i j hi hj => ?_, fun i j hi hj => ?_, fun i j hi hj => ?_, fun i hi => ?_, fun i hi => ?_, fun i j hi => ?_, fun i j hi => ?_⟩
  · show ((mixS ws [a, b] 2).map frK).length = _; rw [List.length_map, mixS_len]; exact o2
  · rw [stK, ← A i, mixS_blk, blk_at (ms := [a, b]) hi x0, A]; rfl
  · rw [stK, ← B i, mixS_blk, blk_at (ms := [a, b]) hi x1]; rfl
  · rw [mvK, bsM_blk]; have := blk_at (ms := [a, b]) (f := fun x i => rowP (offN [a, b] 2) [a, b] x i (sz4 [a, b] x)) (d := []) hi x0; rw [A] at this
    rw [this, rowP, range_getD _ _ (by omega), if_pos (by omega), o0]; rfl
  · rw [mvK, bsM_blk]; have := blk_at (ms := [a, b]) (f := fun x i => rowP (offN [a, b] 2) [a, b] x i (sz4 [a, b] x)) (d := []) hi x0; rw [A] at this
    rw [this, rowP, range_getD _ _ (by omega), if_neg (by omega)]
  · rw [mvK, bsM_blk]; have := blk_at (ms := [a, b]) (f := fun x i => rowP (offN [a, b] 2) [a, b] x i (sz4 [a, b] x)) (d := []) hi x1; rw [B] at this
    rw [this, rowP, range_getD _ _ (by omega), if_neg (by omega)]
  · rw [mvK, bsM_blk]; have := blk_at (ms := [a, b]) (f := fun x i => rowP (offN [a, b] 2) [a, b] x i (sz4 [a, b] x)) (d := []) hi x1; rw [B] at this
    rw [this, rowP, range_getD _ _ (by omega), if_pos (by omega), o1, Nat.add_sub_cancel_left]; rfl
  · rw [fiK, ← A i, bsE_blk, blk_at (ms := [a, b]) hi x0, A]; rfl
  · rw [fiK, ← B i, bsE_blk, blk_at (ms := [a, b]) hi x1]; rfl
  · rw [syK, ← A i]; have := say_at so (j := j) (x := 0) Nat.zero_lt_two hi; rw [A] at this; rw [A]; exact this
  · rw [syK, ← B i]; exact say_at so (x := 1) Nat.one_lt_two hi
end
end Go.Ear
