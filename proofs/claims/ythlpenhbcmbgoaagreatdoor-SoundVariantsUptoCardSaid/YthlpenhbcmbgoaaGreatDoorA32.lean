/- A32: a part of the proofs about what is clipped and stored: how the program's functions run, and what they compute, for every input. -/
import Derived.Test.YthlpenhbcmbgoaaGreatDoorA31
set_option linter.all false
set_option linter.unusedVariables false
set_option maxRecDepth 20000
set_option maxHeartbeats 4000000
set_option synthInstance.maxSize 1000
namespace Go.E3
open Go Go.Ear Go.Proofs
def fewE (x : Rw) : Bool := decide (x.from_.length ≤ 8) && (decide (x.to.length ≤ 8) && (decide (x.left.length ≤ 210) && (decide (x.right.length ≤ 210) && smB x.f)))
def fewB (r : List Rw) : Bool := !(decide (6 < r.length) && decide (r.length ≤ 50)) && (decide (r.length ≤ 60) && r.all fewE)
instance few_c {r : List Rw} {S : SV} [i : Vw (lv rR) S r] : Ct Tryz.prog 24 [S] (r.length ≤ 1099511627776) (bv (fewB r)) := by
  refine ct1 i (ctI Tryz.call24 Tryz.func24 Tryz.ntmps24 rfl Tryz.results24 rfl [] fun h0 w0 hl => ?_)
  repeat first | refine nx ?_ | intro _
  refine gIf (fun c => ?_) fun c => ?_
  · repeat first | refine nx ?_ | intro _
    unfold fewB
    rcases c with ⟨a, b⟩ | c
    · rw [decide_eq_true a, decide_eq_true b]; rfl
    · rw [decide_eq_false (show ¬ r.length ≤ 60 by omega), Bool.false_and, Bool.and_false]
  · repeat first | refine nx ?_ | intro _
    have c1 : (!(decide (6 < r.length) && decide (r.length ≤ 50))) = true := by
      rw [Bool.not_eq_true', ← Bool.not_eq_true, Bool.and_eq_true, decide_eq_true_iff, decide_eq_true_iff]
      exact fun h => c (.inl h)
    have c2 : r.length ≤ 60 := by omega
    refine gLp (fun k : Nat => [(3, iv k)]) (fun _ => []) (fun k => k ≤ r.length ∧ ∀ j, j < k → fewE (r.getD j rw0) = true) (fun k => r.length - k) 0 ⟨Nat.zero_le _, fun j h => absurd h (Nat.not_lt_zero _)⟩ (fun k ⟨hk, hn⟩ => ?_)
    repeat first | refine nx ?_ | intro _
    refine gIf (fun c3 => ?_) fun c3 => ?_
    · repeat first | refine nx ?_ | intro _
      refine gIf (fun c4 => ?_) fun c4 => ?_ <;> repeat first | refine nx ?_ | intro _
      · have : fewE (r.getD k rw0) = false := by
          rw [← Bool.not_eq_true]
          unfold fewE
          simp only [Bool.and_eq_true, decide_eq_true_iff]
          rintro ⟨a, b, d, e, f⟩
          rcases c4 with (((c4 | c4) | c4) | c4) | c4
          · omega
          · omega
          · omega
          · omega
          · exact c4 f
        unfold fewB
        rw [List.all_eq_false.2 ⟨_, getD_in rw0 c3, by rw [this]; decide⟩, Bool.and_false, Bool.and_false]
      · refine gBk (k + 1) ⟨by omega, fun j hj => ?_⟩ (by omega)
        by_cases e : j = k
        · subst e
          unfold fewE
          simp only [Bool.and_eq_true, decide_eq_true_iff]
          exact ⟨by omega, by omega, by omega, by omega, Classical.byContradiction fun h => c4 (.inr h)⟩
        · exact hn j (by omega)
    · repeat first | refine nx ?_ | intro _
      unfold fewB
      rw [c1, decide_eq_true c2, Bool.true_and, Bool.true_and, List.all_eq_true.2]
      intro e he
      obtain ⟨k, hk, rfl⟩ := getD_mem (d := rw0) he
      exact hn k (by omega)
def UpR (r : List Rw) : Prop := r.length ≤ 2000000 ∧ ∀ x ∈ r, Fit x.f.n ∧ Fit x.f.d
theorem few_ok {r : List Rw} (h : fewB r = true) (u : UpR r) : r.length ≤ 1000000 ∧ ∀ x ∈ r, RwS x ∧ bf x.f ≤ 4 := by
  unfold fewB at h
  rw [Bool.and_eq_true, Bool.and_eq_true, decide_eq_true_iff, List.all_eq_true] at h
  refine ⟨by omega, fun x hx => ?_⟩
  have := h.2.2 x hx
  unfold fewE smB at this
  simp only [Bool.and_eq_true, decide_eq_true_iff] at this
  obtain ⟨a, b, c, d, e, f⟩ := this
  have hb : bf x.f ≤ 4 := by
    show max (max x.f.n.length x.f.d.length) 1 ≤ 4
    omega
  exact ⟨⟨by omega, by omega, by omega, by omega, by omega, u.2 x hx⟩, hb⟩
theorem lin_tot {b : Bag (List Int)} : lin (fun _ => 1) b = sQ ((dd (b.map (·.1))).map fun p => tot b p) := by
  rw [lin_over (nodup_dd _) (fun p hp => mem_keys.2 hp)]
  exact sQ_congr fun p _ => Rat.one_mul _
theorem sumF_map (f : List Fo) : sumF (f.map Fo.f) = sQ (f.map fun e => e.f.rat) := by
  rw [sumF_sQ, List.map_map]; rfl
theorem sum_srt (b : Bag (List Int)) : sumF ((srtF b).map Fo.f) = lin (fun _ => 1) b := by
  rw [sumF_map, lin_tot]
  unfold srtF
  rw [sQ_perm ((srtS_perm (c := cmpFo) (fosB b)).map fun e => e.f.rat)]
  unfold fosB
  rw [List.map_map]
  congr 1
  refine List.map_congr_left fun p _ => ?_
  show (frK (tot b p)).rat = tot b p
  rw [frK_rat]
theorem mem_srtF {b : Bag (List Int)} {x : Fo} : x ∈ srtF b ↔ ∃ p, hasB b p ∧ x = ⟨p, frK (tot b p)⟩ := by
  unfold srtF
  rw [(srtS_perm (c := cmpFo) (fosB b)).mem_iff, mem_fosB]
theorem sgQ_neg (x : Rat) : sgQ (-x) = - sgQ x := by
  have h1 := @sgQ_pos x
  have h2 := @sgQ_pos (-x)
  have h3 := @sgQ_zero x
  have h4 := @sgQ_zero (-x)
  rcases sgQ_rng x with e | e | e <;> rcases sgQ_rng (-x) with f | f | f <;> rw [e, f] <;> first | rfl | skip
  all_goals (exfalso; rw [e] at h1 h3; rw [f] at h2 h4; simp at h1 h2 h3 h4; grind)
theorem srtF_lt {b : Bag (List Int)} {i : Nat} (h0 : 0 < i) (hi : i < (srtF b).length) : cmpFo ((srtF b).getD (i - 1) fo0) ((srtF b).getD i fo0) < 0 := by
  have hg : ∀ k (h : k < (srtF b).length), (srtF b).getD k fo0 = (srtF b)[k] := fun k h => by rw [List.getD_eq_getElem?_getD, List.getElem?_eq_getElem h]; rfl
  have hs := List.pairwise_iff_getElem.1 (srtS_srt cmpFo_swo (fosB b)) (i - 1) i (by show i - 1 < (srtF b).length; omega) hi (by omega)
  have hnd : (srtF b).Nodup := (srtS_perm (c := cmpFo) (fosB b)).nodup_iff.2 (fosB_nodup b)
  have hne := List.pairwise_iff_getElem.1 hnd (i - 1) i (by omega) hi (by omega)
  rw [hg _ (by omega), hg _ hi]
  have hs : ¬ cmpFo (srtF b)[i] (srtF b)[i - 1] < 0 := hs
  have n : cmpFo (srtF b)[i] (srtF b)[i - 1] = - cmpFo (srtF b)[i - 1] (srtF b)[i] := (cmpR_to.pair ordI_to).neg ((srtF b)[i - 1].f.rat, (srtF b)[i - 1].ph) ((srtF b)[i].f.rat, (srtF b)[i].ph)
  rcases Int.lt_or_le (cmpFo (srtF b)[i - 1] (srtF b)[i]) 0 with h | h
  · exact h
  · exfalso
    refine hne (fosB_anti b _ _ ?_ ?_ hs (by omega))
    · exact (srtS_perm (c := cmpFo) (fosB b)).mem_iff.1 (List.getElem_mem _)
    · exact (srtS_perm (c := cmpFo) (fosB b)).mem_iff.1 (List.getElem_mem _)
theorem oneB_srt {b : Bag (List Int)} (hp : PosB b) (h1 : lin (fun _ => 1) b = 1) : oneB (srtF b) = true := by
  unfold oneB
  rw [Bool.and_eq_true, List.all_eq_true, decide_eq_true_iff, sum_srt, h1]
  refine ⟨fun i hi => ?_, by decide +kernel⟩
  have hi := List.mem_range.1 hi
  unfold oneAt
  rw [Bool.and_eq_true, decide_eq_true_iff, Bool.or_eq_true, decide_eq_true_iff]
  constructor
  · obtain ⟨p, h2, h3⟩ := mem_srtF.1 (getD_in fo0 hi)
    rw [h3, sgQ_pos]
    show 0 < (frK (tot b p)).rat
    rw [frK_rat]; exact (tot_pos hp).2 h2
  · by_cases h0 : i = 0
    · exact .inl h0
    · right
      have hlt := srtF_lt (by omega) hi
      unfold cmpFo cmpR at hlt
      have e : ((srtF b).getD (i - 1) fo0).f.rat - ((srtF b).getD i fo0).f.rat = -(((srtF b).getD i fo0).f.rat - ((srtF b).getD (i - 1) fo0).f.rat) := by grind
      rw [e, sgQ_neg, Bool.not_eq_true', ← Bool.not_eq_true, Bool.or_eq_true, Bool.and_eq_true, decide_eq_true_iff, decide_eq_true_iff, decide_eq_true_iff]
      split at hlt <;> omega
theorem wts_le {f : List Fo} {M : Nat} (h : ∀ e ∈ f, bf e.f ≤ M) : wts (f.map Fo.f) ≤ f.length * (M + 1) := by
  induction f with
  | nil => exact Nat.zero_le _
  | cons e f ih =>
    have h1 := h e (List.mem_cons_self ..)
    have h2 := ih fun x hx => h x (List.mem_cons_of_mem _ hx)
    rw [List.map_cons, wts_cons, List.length_cons, Nat.add_mul]; omega
theorem cnf_srt {b : Bag (List Int)} {M : Nat} (hM : M ≤ 10000) (hn : cnt b ≤ 5000) (h : ∀ p, hasB b p → p.length ≤ 1000000 ∧ bq (tot b p) ≤ M) : CnF (srtF b) ∧ wts ((srtF b).map Fo.f) ≤ 60000000 := by
  have hlen : (srtF b).length ≤ 5000 := by
    unfold srtF
    rw [(srtS_perm (c := cmpFo) (fosB b)).length_eq]
    unfold fosB
    rw [List.length_map]; exact hn
  have hx : ∀ e ∈ srtF b, e.f = frK e.f.rat ∧ e.ph.length ≤ 1000000 ∧ bq e.f.rat ≤ M := fun e he => by
    obtain ⟨p, h2, h3⟩ := mem_srtF.1 he
    obtain ⟨h4, h5⟩ := h p h2
    rw [h3]
    refine ⟨?_, h4, ?_⟩
    · show frK (tot b p) = frK (frK (tot b p)).rat
      rw [frK_rat]
    · show bq (frK (tot b p)).rat ≤ M
      rw [frK_rat]; exact h5
  refine ⟨⟨by omega, fun e he => ⟨(hx e he).1, (hx e he).2.1, by have := (hx e he).2.2; omega⟩⟩, ?_⟩
  have h2 := wts_le (f := srtF b) (M := M) fun e he => by rw [(hx e he).1, bf_frK]; exact (hx e he).2.2
  have h3 : (srtF b).length * (M + 1) ≤ 5000 * 10001 := Nat.mul_le_mul hlen (by omega)
  omega
theorem rdn_sz4 {r : List Rw} (hr : rulB r = true) (hs : ∀ x ∈ r, RwS x ∧ bf x.f ≤ 4) : sz (rdn r) ≤ 201 := by
  have h3 := rdn_sz (r := r) (b := 4) fun x hx => ⟨(hs x hx).1.2.2.2.2.2.1, (hs x hx).1.2.2.2.2.2.2, (hs x hx).2⟩
  have h4 := (rul_gd hr).1
  have h6 : r.length * 4 ≤ 50 * 4 := Nat.mul_le_mul_right _ h4
  omega
theorem res_nil {l : List Int} (ok : OpOk [] l) : ∀ n i, l.length - i ≤ n → i ≤ l.length → res [] l i = [(l.drop i, 1)]
  | 0, i, h, hi => by
    rw [res_end (by omega), List.drop_eq_nil_of_le (by omega)]
  | n + 1, i, h, hi => by
    by_cases e : i = l.length
    · rw [res_end (by omega), List.drop_eq_nil_of_le (by omega)]
    · have hlt : i < l.length := by omega
      rw [res_step ok hlt]
      have ho : optL [] l i = [⟨(l.take (i + 1)).drop i, 1, frK 1⟩] := by
        unfold optL
        rw [if_pos (show idxP (mtR l (i : Int)) [] < 0 from (by decide : (-1 : Int) < 0))]
      rw [ho]
      show pre _ (res [] l (i + 1)) ++ [] = _
      rw [List.append_nil, res_nil ok n (i + 1) (by omega) (by omega)]
      show [(_ ++ l.drop (i + 1), (frK 1).rat * 1)] = _
      rw [frK_rat, Rat.mul_one]
      congr 2
      rw [List.drop_take, show i + 1 - i = 1 by omega, List.drop_eq_getElem_cons hlt]
      rfl
def sureR (r : List Rw) : List Rw := r.map fun x => ⟨x.from_, x.to, x.left, x.right, frK ((1 : Int) : Rat)⟩
end Go.E3
