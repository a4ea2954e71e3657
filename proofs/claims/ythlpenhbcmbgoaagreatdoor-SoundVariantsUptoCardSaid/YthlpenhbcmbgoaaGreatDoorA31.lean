/- A31: a part of the proofs about what is clipped and stored: how the program's functions run, and what they compute, for every input. -/
import Derived.Test.YthlpenhbcmbgoaaGreatDoorA30
set_option linter.all false
set_option linter.unusedVariables false
set_option maxRecDepth 20000
set_option maxHeartbeats 4000000
set_option synthInstance.maxSize 1000
namespace Go.E3
open Go Go.Ear Go.Proofs
def denD (x : Rat) : Nat := if x.den = 1 then 0 else x.den
theorem frK_n (x : Rat) : (frK x).n = digs x.num.natAbs := rfl
theorem frK_d (x : Rat) : (frK x).d = digs (denD x) := by
  unfold denD frK
  dsimp only
  split
  · rw [digs_zero]
  · rfl
theorem digs_nil {n : Nat} (h : (digs n).length = 0) : n = 0 := by
  have := List.eq_nil_of_length_eq_zero h
  have e := val_digs n
  rw [this] at e; exact e.symm
theorem digs_one {n : Nat} (h : (digs n).length = 1) (h1 : (digs n).getD 0 0 = 1) : n = 1 := by
  obtain ⟨a, ha⟩ := List.length_eq_one_iff.1 h
  have e := val_digs n
  rw [ha] at e h1
  have h1 : a = 1 := h1
  rw [h1] at e
  exact e.symm
instance Canonical_c {x : Rat} {S : SV} [i : Vw fv S (frK x)] : Ct Tryz.prog 81 [S] (bq x ≤ 100000000) (bv true) := by
  refine ct1 i (ctI Tryz.call81 Tryz.func81 Tryz.ntmps81 rfl Tryz.results81 rfl [] fun h0 w0 hb => ?_)
  have hq := bq_K x
  have e1 : val (frK x).n = x.num.natAbs := by rw [frK_n, val_digs]
  have e2 : val (frK x).d = denD x := by rw [frK_d, val_digs]
  have hf := (inferInstance : FtF (frK x)).h
  haveI f1 : FtL (frK x).n := ⟨hf.1⟩
  haveI f2 : FtL (frK x).d := ⟨hf.2⟩
  repeat first | refine gDs 8 6 (by rfl) (by kernel_rfl) ?_ | refine nx ?_ | intro _
  rw [e1, e2]
  have hD1 : denD x ≠ 1 := by
    unfold denD
    split
    · omega
    · rename_i h; exact h
  refine gIf (fun c => ?_) fun c => ?_
  · exfalso
    rw [frK_n, frK_d] at c
    rcases c with (c | c) | ⟨c, c'⟩
    · exact c rfl
    · exact c rfl
    · exact hD1 (digs_one c c')
  · have hs1 : (digs x.num.natAbs).length ≤ 100000000 := by rw [← frK_n]; omega
    have hs2 : (digs (denD x)).length ≤ 100000000 := by rw [← frK_d]; omega
    have z1 : sz x.num.natAbs ≤ 100000000 := hs1
    have z2 : sz (denD x) ≤ 100000000 := hs2
    repeat first | refine nx ?_ | intro _
    refine gIf (fun c2 => ?_) fun c2 => ?_
    · have h0 : x.num.natAbs = 0 := digs_nil c2
      have hx : x = 0 := by
        have : x.num = 0 := by omega
        exact Rat.num_eq_zero.1 this
      subst hx
      repeat first | refine nx ?_ | intro _
      decide +kernel
    · haveI : Sz x.num.natAbs 100000000 := ⟨z1⟩
      haveI : Sz (denD x) 100000000 := ⟨z2⟩
      have hn0 : x.num.natAbs ≠ 0 := fun e => c2 (by rw [e, digs_zero]; rfl)
      haveI : Sz (Nat.gcd x.num.natAbs (denD x)) 100000000 := ⟨Nat.le_trans (sz_mono (Nat.gcd_le_left _ (Nat.pos_of_ne_zero hn0))) z1⟩
      repeat first | refine nx ?_ | intro _
      rw [Bool.or_eq_true, decide_eq_true_iff, decide_eq_true_iff, cmpN_one]
      unfold denD
      split
      · left; rw [digs_zero]; rfl
      · right; exact x.reduced
def CnF (f : List Fo) : Prop := f.length ≤ 1000000 ∧ ∀ e ∈ f, e.f = frK e.f.rat ∧ e.ph.length ≤ 1000000 ∧ bq e.f.rat ≤ 10000000
def oneAt (f : List Fo) (i : Nat) : Bool := decide (0 < sgQ (f.getD i fo0).f.rat) && (decide (i = 0) || !(decide (sgQ ((f.getD (i - 1) fo0).f.rat - (f.getD i fo0).f.rat) < 0) || (decide (sgQ ((f.getD (i - 1) fo0).f.rat - (f.getD i fo0).f.rat) = 0) && decide (0 ≤ ordI (f.getD (i - 1) fo0).ph (f.getD i fo0).ph))))
def oneB (f : List Fo) : Bool := (List.range f.length).all (oneAt f) && decide (sgQ (sumF (f.map Fo.f) - ((1 : Int) : Rat)) = 0)
theorem one_c' {f : List Fo} {S : SV} [i : Vw (lv rO') S f] : Ct Tryz.prog 31 [S] (CnF f ∧ wts (f.map Fo.f) ≤ 60000000 ∧ bq (sumF (f.map Fo.f)) ≤ 60000000) (bv (oneB f)) := by
  refine ct1 i (ctI Tryz.call31 Tryz.func31 Tryz.ntmps31 rfl Tryz.results31 rfl [] fun h0 w0 ⟨hf, hw, hsq⟩ => ?_)
  have hlen := hf.1
  haveI : FtFo f := ⟨fun e he => by rw [(hf.2 e he).1]; infer_instance⟩
  repeat first | refine nx ?_ | intro _
  refine gNl rF 32 ?_
  refine gLp (fun s : Nat × Value => [(4, iv s.1), (3, ov s.2)]) (fun s => [rA rF 32 s.2 ((f.take s.1).map Fo.f)]) (fun s => s.1 ≤ f.length ∧ ∀ j, j < s.1 → oneAt f j = true) (fun s => f.length - s.1) (0, .slice none 0 0) ⟨Nat.zero_le _, fun j h => absurd h (Nat.not_lt_zero _)⟩ (fun ⟨k, u⟩ ⟨hk, hn⟩ => ?_)
  dsimp only at hk hn ⊢
  repeat first | refine nx ?_ | intro _
  refine gIf (fun c => ?_) fun c => ?_
  · obtain ⟨x1, x2, x3⟩ := hf.2 _ (getD_in fo0 c)
    have hml : ((f.take k).map Fo.f).length = k := by rw [List.length_map, List.length_take]; omega
    have hbf : bf (f.getD k fo0).f ≤ 10000000 := by rw [x1, bf_frK]; exact x3
    haveI hcan : ∀ {S : SV} [Vw fv S (f.getD k fo0).f], Ct Tryz.prog 81 [S] True (bv true) := fun {S} [j : Vw fv S (f.getD k fo0).f] => by
      haveI : Vw fv S (frK (f.getD k fo0).f.rat) := by rw [← x1]; exact j
      have ct : Ct Tryz.prog 81 [S] (bq (f.getD k fo0).f.rat ≤ 100000000) (bv true) := inferInstance
      exact ⟨Tryz.call81, fun _ => ct.h (by omega)⟩
    have hap : (f.take k).map Fo.f ++ [(f.getD k fo0).f] = (f.take (k + 1)).map Fo.f := by
      rw [List.take_succ_eq_append_getElem c, List.map_append, List.getD_eq_getElem?_getD, List.getElem?_eq_getElem c]; rfl
    have hbad : oneAt f k = false → oneB f = false := fun h => by
      unfold oneB
      rw [List.all_eq_false.2 ⟨k, List.mem_range.2 c, by rw [h]; decide⟩, Bool.false_and]
    repeat first | refine nx ?_ | intro _
    rename_i u2
    rw [hap]
    refine gIf (fun c2 => ?_) fun c2 => ?_
    · repeat first | refine nx ?_ | intro _
      rw [hbad]
      unfold oneAt
      rw [decide_eq_false (by rcases c2 with c2 | c2; omega; exact absurd trivial c2), Bool.false_and]
    · repeat first | refine nx ?_ | intro _
      refine gIf (fun c3 => ?_) fun c3 => ?_
      · obtain ⟨y1, y2, y3⟩ := hf.2 _ (getD_in fo0 (show k - 1 < f.length by omega))
        have hbf1 : bf (f.getD (k - 1) fo0).f ≤ 10000000 := by rw [y1, bf_frK]; exact y3
        repeat first | refine gUn 5 (gDs 13 12 (by rfl) (by kernel_rfl) ?_) | refine gDs 13 12 (by rfl) (by kernel_rfl) ?_ | refine gDs 21 21 (by rfl) (by kernel_rfl) ?_ | refine nx ?_ | intro _
        refine gIf (fun c4 => ?_) fun c4 => ?_
        · repeat first | refine nx ?_ | intro _
          rw [hbad]
          unfold oneAt
          rw [decide_eq_false (show ¬ k = 0 by omega), Bool.false_or]
          rcases c4 with h | ⟨h1, h2⟩
          · rw [decide_eq_true h]; simp
          · rw [decide_eq_true h1, decide_eq_true h2]; simp
        · repeat first | refine nx ?_ | intro _
          refine gBk (k + 1, u2) ⟨by dsimp only; omega, fun j hj => ?_⟩ (by dsimp only; omega)
          by_cases e : j = k
          · subst e
            unfold oneAt
            rw [Bool.and_eq_true, decide_eq_true_iff, Bool.or_eq_true]
            refine ⟨by omega, .inr ?_⟩
            rw [Bool.not_eq_true', ← Bool.not_eq_true, Bool.or_eq_true, Bool.and_eq_true, decide_eq_true_iff, decide_eq_true_iff, decide_eq_true_iff]
            exact c4
          · exact hn j (by dsimp only at hj; omega)
      · repeat first | refine nx ?_ | intro _
        refine gBk (k + 1, u2) ⟨by dsimp only; omega, fun j hj => ?_⟩ (by dsimp only; omega)
        by_cases e : j = k
        · subst e
          unfold oneAt
          rw [Bool.and_eq_true, decide_eq_true_iff, Bool.or_eq_true]
          exact ⟨by omega, .inl (decide_eq_true (by omega))⟩
        · exact hn j (by dsimp only at hj; omega)
  · rw [List.take_of_length_le (by omega)]
    haveI : FtS (f.map Fo.f) := ⟨fun x hx => by
      obtain ⟨e, he, rfl⟩ := List.mem_map.1 hx
      rw [(hf.2 e he).1]; infer_instance⟩
    have h1 : bq ((1 : Int) : Rat) ≤ 100 := by decide +kernel
    have hall : (List.range f.length).all (oneAt f) = true := List.all_eq_true.2 fun j hj => hn j (by have := List.mem_range.1 hj; omega)
    repeat first | refine nx ?_ | intro _
    unfold oneB
    rw [hall, Bool.true_and]
end Go.E3
