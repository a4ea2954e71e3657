/- A45: a part of the proofs about what is clipped and stored: how the program's functions run, and what they compute, for every input. -/
import Derived.Test.YthlpenhbcmbgoaaGreatDoorA43
import Derived.Test.YthlpenhbcmbgoaaGreatDoorLawSoundPrecise
set_option linter.all false
set_option linter.unusedVariables false
set_option maxRecDepth 20000
set_option maxHeartbeats 4000000
set_option synthInstance.maxSize 1000
namespace Go.E3
open Go Go.Ear Go.Proofs
def vaL (l : List En) (w : ByteArray) : List Fo := if valB l = true ∧ ownE l w ≠ [] then srtF (vaB l w) else []
def vaE (l : List En) (w : ByteArray) : Int := if valB l = true then (if ownE l w = [] then 7 else 0) else 2
theorem map_succ {α β : Type} {f : α → β} {l : List α} {k : Nat} (d : α) (h : k < l.length) : (l.map f).take (k + 1) = (l.map f).take k ++ [f (l.getD k d)] := by
  rw [← List.map_take, ← List.map_take, List.take_succ_eq_append_getElem h, List.map_append, List.getD_eq_getElem?_getD, List.getElem?_eq_getElem h]; rfl
instance Variants_c {l : List En} {w : ByteArray} {S : SV} {B : List Res} [i : Vw lxv S l] [hg : HG B] : CtB Tryz.prog 37 [S, .cv (.string w)] B (LxS l) (.tp [lv rO' (vaL l w), iv (vaE l w)]) := by
  refine cB1 i (ctB Tryz.call37 Tryz.func37 Tryz.ntmps37 rfl Tryz.results37 rfl [] fun h0 w0 hlx => ?_)
  repeat first | refine nx ?_ | intro _
  refine gIf (fun c => ?_) fun c => ?_
  · have hc : ¬ valB l = true := by simpa using c
    repeat first | refine nx ?_ | intro _
    unfold vaL vaE
    rw [if_neg fun x => hc x.1, if_neg hc]
    exact ⟨rfl, rfl⟩
  · have hc : valB l = true := by simpa using c
    have hsr : Srt l := valB_srt hc
    have hsd : LxS l ∧ Srt l := ⟨hlx, hsr⟩
    repeat first | refine nx ?_ | intro _
    refine gIf (fun c2 => ?_) fun c2 => ?_
    · have hn : ownE l w = [] := List.eq_nil_of_length_eq_zero (by omega)
      repeat first | refine nx ?_ | intro _
      unfold vaL vaE
      rw [if_neg fun x => x.2 hn, if_pos hc, if_pos hn]
      exact ⟨rfl, rfl⟩
    · have hn : ownE l w ≠ [] := fun e => c2 (by rw [e]; rfl)
      unfold vaL vaE
      rw [if_pos ⟨hc, hn⟩, if_pos hc, if_neg hn]
      have hem : ∀ e ∈ ownE l w, EnS e := fun e he => hlx.2 e (ownE_sub he).1
      have hol : (ownE l w).length ≤ 2000 := Nat.le_trans (List.length_filter_le _ _) hlx.1
      have hvl : (vaF l w).length = (ownE l w).length := List.length_map ..
      repeat first | refine nx ?_ | intro _
      refine gNl rO' 50 ?_
      refine gLp (fun s : Nat × Value => [(21, iv s.1), (7, ov s.2)]) (fun s => [rA rO' 50 s.2 ((vaF l w).take s.1)]) (fun s => s.1 ≤ (ownE l w).length) (fun s => (ownE l w).length - s.1) (0, .slice none 0 0) (Nat.zero_le _) (fun ⟨k, u⟩ hk => ?_) (h2 := by dsimp only; exact ⟨rfl, trivial⟩)
      dsimp only at hk ⊢
      repeat first | refine nx ?_ | intro _
      refine gIf (fun c3 => ?_) fun c3 => ?_
      · have hek := hem _ (getD_in en0 c3)
        haveI : FtF ((ownE l w).getD k en0).f := ⟨hek.2.2⟩
        have hbf := hek.2.1
        have hpl := hek.1.2
        have htl : ((vaF l w).take k).length = k := by rw [List.length_take]; omega
        have hsu : (vaF l w).take (k + 1) = (vaF l w).take k ++ [⟨((ownE l w).getD k en0).ph, frK ((ownE l w).getD k en0).f.rat⟩] := map_succ en0 c3
        repeat first | refine gDs 11 10 (by rfl) (by kernel_rfl) ?_ | refine nx ?_ | intro _
        rename_i v9 _ u2
        rw [← hsu]
        exact gBk (k + 1, u2) (by dsimp only; omega) (by dsimp only; omega)
      · rw [List.take_of_length_le (by omega)]
        have hfs : (vaF l w).length ≤ 1099511627776 ∧ ∀ x ∈ vaF l w, FoS x := ⟨by omega, fun x hx => by
          obtain ⟨e, he, rfl⟩ := List.mem_map.1 hx
          have h := hem e he
          have ft : FtF (frK e.f.rat) := inferInstance
          refine ⟨by show e.ph.length ≤ _; have := h.1.2; omega, ?_, ft.h⟩
          show bf (frK e.f.rat) ≤ _
          rw [bf_frK]
          have := bq_rat h.2.2
          have := h.2.1
          have h4 : max (max e.f.n.length e.f.d.length) 1 ≤ bf e.f := Nat.le_refl _
          omega⟩
        repeat first | refine nx ?_ | intro _
        rename_i s
        exact ⟨va_srt hsr s.2.1 s.2.2, trivial⟩
theorem take_while {α : Type} {p : α → Bool} (d : α) : ∀ {l : List α} {k : Nat}, k ≤ l.length → (∀ j, j < k → p (l.getD j d) = true) → (k < l.length → p (l.getD k d) = false) → l.takeWhile p = l.take k ∧ l.dropWhile p = l.drop k
  | [], k, hk, _, _ => by
    have : k = 0 := by simpa using hk
    subst this; exact ⟨rfl, rfl⟩
  | x :: l, 0, _, _, h2 => by
    have : p x = false := h2 (by simp)
    rw [List.takeWhile_cons, List.dropWhile_cons, this]
    exact ⟨rfl, rfl⟩
  | x :: l, k + 1, hk, h1, h2 => by
    have h0 : p x = true := h1 0 (by omega)
    rw [List.takeWhile_cons, List.dropWhile_cons, h0]
    obtain ⟨a, b⟩ := take_while d (l := l) (k := k) (by simpa using hk) (fun j hj => h1 (j + 1) (by omega)) (fun hk => h2 (by simpa using hk))
    exact ⟨by simp [a], by simp [b]⟩
instance addE_c {ls : List Fo} {f : Fo} {S T : SV} [i : Vw (lv rO') S ls] [j : Vw fov T f] : Ct Tryz.prog 93 [S, T] ((ls.length ≤ 1000000 ∧ ∀ k, k < ls.length → (ls.getD k fo0).ph.length ≤ 1000000 ∧ ordI (ls.getD k fo0).ph f.ph < 0) ∧ f.ph.length ≤ 1000000) (lv rO' (ls ++ [f])) := by
  refine ct2 i j (ctI Tryz.call93 Tryz.func93 Tryz.ntmps93 rfl Tryz.results93 rfl [56, 59, 63] fun h0 w0 ⟨⟨hs1, hs⟩, hl⟩ => ?_)
  repeat first | refine nx ?_ | intro _
  refine gLp (fun k : Nat => [(5, iv k)]) (fun _ => []) (fun k => k ≤ ls.length) (fun k => ls.length - k) 0 (Nat.zero_le _) (fun k hk => ?_)
  have hk1 : k < ls.length → (ls.getD k fo0).ph.length ≤ 1000000 := fun h => (hs k h).1
  have hk2 : (ls.getD k fo0).ph.length ≤ 1000000 := by
    by_cases h : k < ls.length
    · exact hk1 h
    · rw [List.getD_eq_getElem?_getD, List.getElem?_eq_none (by omega)]; exact Nat.zero_le _
  repeat first | refine gDs 15 15 (by rfl) (by kernel_rfl) ?_ | refine nx ?_ | intro _
  refine gIf (fun c => ?_) fun c => ?_
  · repeat first | refine nx ?_ | intro _
    exact gBk (k + 1) (by omega) (by omega)
  · have hke : k = ls.length := by
      rcases Nat.lt_or_ge k ls.length with h | h
      · exact absurd ⟨h, (hs k h).2⟩ c
      · omega
    repeat first | refine gDs 15 15 (by rfl) (by kernel_rfl) ?_ | refine nx ?_ | intro _
    refine gIf (fun c2 => absurd c2.1 (by omega)) fun c2 => ?_
    have e2 : ls.take k ++ [f] ++ ls.drop k = ls ++ [f] := by
      rw [List.take_of_length_le (by omega), List.drop_of_length_le (by omega), List.append_nil]
    rw [← e2]
    have htl : (ls.take k).length ≤ 1000000 := by rw [List.length_take]; omega
    repeat first | refine gDc 12 3 6 10 ⟨56, 59, fun v => rA rO' 50 v (ls.take k), fun v => rA rO' 50 v (ls.take k ++ [f])⟩ (by rfl) (by kernel_rfl) ?_ | refine nx ?_ | intro _
    refine gCn rfl (by omega) ?_
    repeat first | refine nx ?_ | intro _
    refine gCb rfl ⟨by simp; omega, by simp; omega⟩ ?_
    repeat first | refine nx ?_ | intro _
    refine gCe rfl fun v59 => ?_
    repeat first | refine nx ?_ | intro _
    trivial
def FoM (l : List Fo) : Prop := l.length ≤ 1000000 ∧ ∀ e ∈ l, e.ph.length ≤ 1000000 ∧ bf e.f ≤ 1000000 ∧ Fit e.f.n ∧ Fit e.f.d
theorem srtW_succ {l : List Fo} {k : Nat} (h : k < l.length) : srtW (l.take (k + 1)) = insW (srtW (l.take k)) (canF (l.getD k fo0)) := by
  unfold srtW
  rw [List.take_succ_eq_append_getElem h, List.map_append, List.foldl_append, List.getD_eq_getElem?_getD, List.getElem?_eq_getElem h]; rfl
theorem foldW_perm : ∀ (l s : List Fo), (l.foldl insW s).Perm (s ++ l)
  | [], s => by rw [List.append_nil]; exact .refl _
  | x :: l, s => by
    rw [List.foldl_cons]
    exact (foldW_perm l (insW s x)).trans (((insW_perm x s).append_right l).trans List.perm_middle.symm)
theorem srtW_perm (l : List Fo) : (srtW l).Perm (l.map canF) := by
  have := foldW_perm (l.map canF) []
  rwa [List.nil_append] at this
theorem srtW_mem {l : List Fo} {x : Fo} (h : x ∈ srtW l) : ∃ e ∈ l, x = canF e := by
  obtain ⟨e, he, rfl⟩ := List.mem_map.1 ((srtW_perm l).mem_iff.1 h)
  exact ⟨e, he, rfl⟩
theorem FoM.can {l : List Fo} (h : FoM l) {x : Fo} (hx : x ∈ srtW l) : x.ph.length ≤ 1000000 ∧ bf x.f ≤ 1000000 ∧ x.f = frK x.f.rat := by
  obtain ⟨e, he, rfl⟩ := srtW_mem hx
  obtain ⟨h1, h2, h3⟩ := h.2 e he
  refine ⟨h1, ?_, by show frK e.f.rat = frK (frK e.f.rat).rat; rw [frK_rat]⟩
  show bf (frK e.f.rat) ≤ _
  rw [bf_frK]
  have := bq_rat h3
  have h4 : max (max e.f.n.length e.f.d.length) 1 ≤ bf e.f := Nat.le_refl _
  omega
instance Sorted_c {l : List Fo} {S : SV} [i : Vw (lv rO') S l] : Ct Tryz.prog 94 [S] (FoM l) (lv rO' (srtW l)) := by
  refine ct1 i (ctI Tryz.call94 Tryz.func94 Tryz.ntmps94 rfl Tryz.results94 rfl [48, 51, 55] fun h0 w0 hm => ?_)
  have hl1 := hm.1
  repeat first | refine nx ?_ | intro _
  refine gLp (fun k : Nat => [(4, iv k), (3, lv rO' (srtW (l.take k)))]) (fun _ => []) (fun k => k ≤ l.length) (fun k => l.length - k) 0 (Nat.zero_le _) (fun k hk => ?_)
  have hmk : FoM (l.take k) := ⟨by rw [List.length_take]; omega, fun e he => hm.2 e (List.mem_of_mem_take he)⟩
  have hsl : (srtW (l.take k)).length = k := by rw [(srtW_perm _).length_eq, List.length_map, List.length_take]; omega
  have hcan := fun x hx => hmk.can (x := x) hx
  obtain ⟨s, hs⟩ : ∃ s, srtW (l.take k) = s := ⟨_, rfl⟩
  rw [hs] at hsl ⊢
  simp only [hs] at hcan
  haveI : FtFo s := ⟨fun e he => by rw [(hcan e he).2.2]; infer_instance⟩
  repeat first | refine nx ?_ | intro _
  refine gIf (fun c => ?_) fun c => ?_
  · obtain ⟨p1, p2, p3⟩ := hm.2 _ (getD_in fo0 c)
    haveI : FtF (l.getD k fo0).f := ⟨p3⟩
    have hsu := srtW_succ c
    rw [hs] at hsu
    repeat first | refine nx ?_ | intro _
    refine gLp (fun j : Nat => [(5, iv j)]) (fun _ => []) (fun j => j ≤ s.length ∧ ∀ i, i < j → 0 ≤ sgQ ((s.getD i fo0).f.rat - (l.getD k fo0).f.rat)) (fun j => s.length - j) 0 ⟨Nat.zero_le _, fun j h => absurd h (Nat.not_lt_zero _)⟩ (fun j ⟨hj, hn⟩ => ?_)
    have hbj : bf (s.getD j fo0).f ≤ 1000000 := by
      by_cases h : j < s.length
      · exact (hcan _ (getD_in fo0 h)).2.1
      · rw [List.getD_eq_getElem?_getD, List.getElem?_eq_none (by omega)]; decide
    repeat first | refine gDs 18 18 (by rfl) (by kernel_rfl) ?_ | refine nx ?_ | intro _
    refine gIf (fun c2 => ?_) fun c2 => ?_
    · repeat first | refine nx ?_ | intro _
      refine gBk (j + 1) ⟨by omega, fun i hi => ?_⟩ (by omega)
      by_cases e : i = j
      · rw [e]; exact c2.2
      · exact hn i (by omega)
    · have htw := take_while (p := fun y : Fo => decide (0 ≤ sgQ (y.f.rat - (canF (l.getD k fo0)).f.rat))) fo0 hj (fun i hi => by
        show decide (0 ≤ sgQ ((s.getD i fo0).f.rat - (frK (l.getD k fo0).f.rat).rat)) = true
        rw [frK_rat]
        exact decide_eq_true (hn i hi)) (fun h => by
        show decide (0 ≤ sgQ ((s.getD j fo0).f.rat - (frK (l.getD k fo0).f.rat).rat)) = false
        rw [frK_rat]
        exact decide_eq_false fun h2 => c2 ⟨h, h2⟩)
      have hins : insW s (canF (l.getD k fo0)) = s.take j ++ [canF (l.getD k fo0)] ++ s.drop j := by
        unfold insW
        rw [htw.1, htw.2]
      have htl : (s.take j).length ≤ 1000000 := by rw [List.length_take]; omega
      repeat first | refine gDs 14 14 (by rfl) (by kernel_rfl) ?_ | refine gDc 12 3 6 10 ⟨48, 51, fun v => rA rO' 50 v (s.take j), fun v => rA rO' 50 v (s.take j ++ [canF (l.getD k fo0)])⟩ (by rfl) (by kernel_rfl) ?_ | refine nx ?_ | intro _
      refine gCn rfl (by omega) ?_
      repeat first | refine nx ?_ | intro _
      refine gCb rfl ⟨by simp; omega, by simp; omega⟩ ?_
      repeat first | refine nx ?_ | intro _
      refine gCe rfl fun v51 => ?_
      refine nx ?_ (by simp; omega)
      intro v55
      refine gFzO v55 ?_
      repeat first | refine nx ?_ | intro _
      rw [← hins, ← hsu]
      exact gBk (k + 1) (by omega) (by omega)
  · have e : l.take k = l := List.take_of_length_le (by omega)
    rw [e] at hs
    repeat first | refine nx ?_ | intro _
    exact hs.symm
theorem vaR_succ {l : List En} {w : ByteArray} {k : Nat} (h : k < l.length) : vaR (l.take (k + 1)) w = vaR (l.take k) w ++ if (l.getD k en0).w = w then [⟨(l.getD k en0).ph, (l.getD k en0).f⟩] else [] := by
  unfold vaR ownE
  rw [List.take_succ_eq_append_getElem h, List.filter_append, List.map_append, List.getD_eq_getElem?_getD, List.getElem?_eq_getElem h]
  simp only [Option.getD_some, List.filter_cons, List.filter_nil, decide_eq_true_eq]
  split <;> rfl
instance rVariants_c {l : List En} {w : ByteArray} {S : SV} [i : Vw lxv S l] : Ct Tryz.prog 38 [S, .cv (.string w)] (LxS l ∧ Srt l) (lv rO' (srtW (vaR l w))) := by
  refine ct1 i (ctI Tryz.call38 Tryz.func38 Tryz.ntmps38 rfl Tryz.results38 rfl [] fun h0 w0 ⟨hlx, hsr⟩ => ?_)
  have hl1 := hlx.1
  repeat first | refine nx ?_ | intro _
  refine gLp (fun k : Nat => [(6, iv k), (5, lv rO' (vaR (l.take k) w))]) (fun _ => []) (fun k => k ≤ l.length) (fun k => l.length - k) 0 (Nat.zero_le _) (fun k hk => ?_)
  repeat first | refine nx ?_ | intro _
  refine gIf (fun c => ?_) fun c => ?_
  · have hsu := vaR_succ (w := w) c
    repeat first | refine nx ?_ | intro _
    refine gIf (fun c2 => ?_) fun c2 => ?_
    · rw [if_pos c2] at hsu
      have hek := hlx.2 _ (getD_in en0 c)
      have hpl := hek.1.2
      have hal : (vaR (l.take k) w).length ≤ 2000 := by
        unfold vaR
        rw [List.length_map]
        exact Nat.le_trans (List.length_filter_le _ _) (by rw [List.length_take]; omega)
      have hs2 : (vaR (l.take k) w).length ≤ 1000000 ∧ ∀ j, j < (vaR (l.take k) w).length → ((vaR (l.take k) w).getD j fo0).ph.length ≤ 1000000 ∧ ordI ((vaR (l.take k) w).getD j fo0).ph (l.getD k en0).ph < 0 := ⟨by omega, fun j hj => by
        obtain ⟨e, he, h2⟩ := List.mem_map.1 (getD_in fo0 hj)
        obtain ⟨h3, h4⟩ := ownE_sub he
        have h2 : ⟨e.ph, e.f⟩ = (vaR (l.take k) w).getD j fo0 := h2
        rw [← h2]
        refine ⟨(hlx.2 e (List.mem_of_mem_take h3)).1.2, ?_⟩
        obtain ⟨i, hi, h5⟩ := getD_mem (d := en0) h3
        rw [List.length_take] at hi
        rw [take_getD (by omega)] at h5
        have h6 := hsr.lt (i := i) (j := k) (by omega) c
        rw [h5] at h6
        unfold befE at h6
        rw [if_neg (by rw [h4, c2, cmpS_self]; simp)] at h6
        exact h6⟩
      repeat first | refine gDs 16 15 (by rfl) (by kernel_rfl) ?_ | refine nx ?_ | intro _
      rw [← hsu]
      exact gBk (k + 1) (by omega) (by omega)
    · rw [if_neg c2, List.append_nil] at hsu
      repeat first | refine nx ?_ | intro _
      rw [← hsu]
      exact gBk (k + 1) (by omega) (by omega)
  · have e : l.take k = l := List.take_of_length_le (by omega)
    rw [e]
    have hfm : FoM (vaR l w) := ⟨by
      unfold vaR
      rw [List.length_map]
      exact Nat.le_trans (List.length_filter_le _ _) (by omega), fun x hx => by
      obtain ⟨e, he, rfl⟩ := List.mem_map.1 hx
      have h := hlx.2 e (ownE_sub he).1
      exact ⟨h.1.2, by have := h.2.1; show bf e.f ≤ _; omega, h.2.2⟩⟩
    repeat first | refine nx ?_ | intro _
    trivial
end Go.E3
namespace Go.E3
theorem sfB_self (a : List Fo) : sfB a a = true := by
  unfold sfB
  rw [decide_eq_true rfl, Bool.true_and, List.all_eq_true]
  intro i _
  unfold sfAt
  rw [ordI_to.self, decide_eq_true rfl, Bool.true_and]
  exact Go.Ear.sameF_iff.2 rfl
end Go.E3
