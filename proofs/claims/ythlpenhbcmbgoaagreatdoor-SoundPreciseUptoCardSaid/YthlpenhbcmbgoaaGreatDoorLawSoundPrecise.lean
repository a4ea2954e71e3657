/- LawSoundPrecise: a part of the proofs about what is clipped and stored: how the program's functions run, and what they compute, for every input. -/
import Derived.Test.YthlpenhbcmbgoaaGreatDoorA33
set_option linter.all false
set_option linter.unusedVariables false
set_option maxRecDepth 20000
set_option maxHeartbeats 4000000
set_option synthInstance.maxSize 1000
namespace Go.E3
open Go Go.Ear Go.Proofs
theorem prB_szE {l : List En} {r : List Rw} {n E : Nat} (hr : rulB r = true) (hs : ∀ x ∈ r, RwS x ∧ bf x.f ≤ 4) (hl : l.length ≤ 12) (hw : n ≤ 4) (he : ∀ e ∈ l, (Fit e.f.n ∧ Fit e.f.d) ∧ bf e.f ≤ 4) (h5 : sz E ≤ 2) : sz (rdn r ^ 25 * eD l ^ n * E) ≤ 6000 := by
  have h1 := sz_mul (rdn r ^ 25 * eD l ^ n) E
  have h2 := sz_mul (rdn r ^ 25) (eD l ^ n)
  have h3 := sz_pow (rdn r) 25
  have h4 := rdn_sz4 hr hs
  have h6 := sz_pow (eD l) n
  have h7 := eD_sz (r := l) (b := 4) he
  have h8 : l.length * 4 ≤ 12 * 4 := Nat.mul_le_mul_right _ hl
  have h9 : n * sz (eD l) ≤ 4 * 49 := Nat.mul_le_mul hw (by omega)
  omega
theorem prB_bq4 {l : List En} {r : List Rw} {ws : List ByteArray} (ok : PrOk r (chs (owns l ws)) (eD l ^ ws.length)) (hs : ∀ x ∈ r, RwS x ∧ bf x.f ≤ 4) (hl : l.length ≤ 12) (hw : ws.length ≤ 4) (he : ∀ e ∈ l, (Fit e.f.n ∧ Fit e.f.d) ∧ bf e.f ≤ 4) (p : List Int) : bq (tot (prB r (chs (owns l ws))) p) ≤ 6000 := by
  have h0 := (prB_wb ok (chs (owns l ws)).length).bq (prD_pos ok) (by decide) p
  rw [List.take_length] at h0
  exact Nat.le_trans h0 (prB_szE ok.hr hs hl hw he (sz_small (by decide)))
theorem pr_facts {l : List En} {r : List Rw} {ws : List ByteArray} (s : PnS l r ws) (h : prE l r ws = 0) : ∃ (hv : valB l = true) (hr : rulB r = true) (hw : ws.length ≤ 40) (hc : choE l ws = 0) (he : hasE (owns l ws) = false), PrOk r (chs (owns l ws)) (eD l ^ ws.length) ∧ okP r (chs (owns l ws)) = true ∧ prL l r ws = srtF (prB r (chs (owns l ws))) := by
  unfold prE at h
  split at h
  · rename_i c
    split at h
    · rename_i c4
      split at h
      · rename_i c5
        obtain ⟨d1, d2, d3⟩ := choE_ok c4
        exact ⟨c.1, c.2.1, c.2.2, c4, d1, pn_ok s c.1 c.2.1 c.2.2 d1 d2, c5, if_pos ⟨c.1, c.2.1, c.2.2, c4, c5⟩⟩
      · exact absurd h (by decide)
    · rename_i c4
      exact absurd h c4
  · exact absurd h (by decide)
theorem prE_ne {l : List En} {r : List Rw} {ws : List ByteArray} (h : prE l r ws ≠ 0) : prL l r ws = [] := by
  refine if_neg fun ⟨a, b, c, d, e⟩ => h ?_
  unfold prE
  rw [if_pos ⟨a, b, c⟩, if_pos d, if_pos e]
theorem okP_bnd {r : List Rw} {C : List (List En)} (h : okP r C = true) (hC : 1 ≤ C.length) : bndB (prB r C) = true := by
  have := (okP_iff.1 h (C.length - 1) (by omega)).2
  rwa [Nat.sub_add_cancel hC, List.take_length] at this
theorem gd_phB {p : List Int} (h : GdP 104 p) : phB p 400 = true := by
  unfold phB
  rw [Bool.and_eq_true, decide_eq_true_iff, Bool.not_eq_true', List.any_eq_false]
  refine ⟨by have := h.1; omega, fun y hy => ?_⟩
  have := h.2 y hy
  unfold badP
  simp; omega
theorem wg_ok {l : List En} {r : List Rw} {ws : List ByteArray} {q : List Int} (hv : valB l = true) (hr : rulB r = true) (hw : ws.length ≤ 40) (hc : choE l ws = 0) (hq : phB q 400 = true) : wgE l r ws q = 0 ∧ wgT l r ws q = tot (prB r (chs (owns l ws))) q := by
  constructor
  · exact (if_pos ⟨hv, hr, hw, hq⟩).trans hc
  · exact (if_pos ⟨hv, hr, hw, hq, hc⟩).trans (wgS_tot r q _)
theorem soundPrecise_c {l : List En} {r : List Rw} {ws : List ByteArray} {q : List Int} {B : List Res} [hg : HG B] (u : UpE l) (ur : UpR r) (uw : ws.length ≤ 1048576) (uq : q.length ≤ 1048576 ∧ ∀ z ∈ q, -9223372036854775808 ≤ z ∧ z ≤ 9223372036854775807) : CtB Tryz.prog 6 [lxv l, lv rR r, lv rQ ws, lv rI q] B True (bv true) := by
  refine (ctB Tryz.call6 Tryz.func6 Tryz.ntmps6 rfl Tryz.results6 rfl [13, 16] fun h0 w0 _ => ?_)
  have hlen := u.1
  have hlen2 := ur.1
  have hlen3 := uq.1
  repeat first | refine nx ?_ | intro _
  refine gIf (fun c => ?_) fun c => ?_
  · repeat first | refine nx ?_ | intro _
    trivial
  · have c1 : fitB l 12 = true := Classical.byContradiction fun h => c (.inl (.inl (.inl (.inl h))))
    have c2 : fewB r = true := Classical.byContradiction fun h => c (.inl (.inl (.inl (.inr h))))
    have c3 : saidB ws 3 = true := Classical.byContradiction fun h => c (.inl (.inl (.inr h)))
    have c4 : ¬ 20 < q.length := fun h => c (.inl (.inr h))
    have c5 : ¬ longB l 5 = true := fun h => c (.inr h)
    obtain ⟨hlx, hb⟩ := fit_lx c1 u
    obtain ⟨hr1, hr2⟩ := few_ok c2 ur
    have hw3 : ws.length ≤ 3 := by
      unfold saidB at c3
      rw [Bool.and_eq_true, decide_eq_true_iff] at c3
      exact c3.2
    have hlg : ∀ e ∈ l, e.ph.length ≤ 6 := fun e he => by
      rcases Nat.lt_or_ge 6 e.ph.length with h | h
      · exact absurd (List.any_eq_true.2 ⟨e, he, decide_eq_true (by omega)⟩) c5
      · exact h
    have he4 : ∀ e ∈ l, (Fit e.f.n ∧ Fit e.f.d) ∧ bf e.f ≤ 4 := fun e he => ⟨u.2 e he, by
      obtain ⟨_, h1, h2⟩ := hb e he
      show max (max e.f.n.length e.f.d.length) 1 ≤ 4
      omega⟩
    have pn : PnS l r ws := ⟨hlx, ⟨hr1, fun x hx => ⟨(hr2 x hx).1, by have := (hr2 x hx).2; omega⟩⟩, .inl (by omega), by omega, hlg⟩
    repeat first | refine nx ?_ | intro _
    refine gIf (fun c6 => ?_) fun c6 => ?_
    · rw [prE_ne c6]
      repeat first | refine nx ?_ | intro _
      rfl
    · have c6 := Classical.not_not.1 c6
      obtain ⟨hv, hr, hw, hc, hE, ok, okp, epr⟩ := pr_facts pn c6
      obtain ⟨v1, v2⟩ := val_ent hv
      have hl12 : l.length ≤ 12 := by rcases fit_len c1 with h | h <;> omega
      have hC := chs_pos (L := owns l ws) fun hm => by rw [hasE_iff.2 hm] at hE; exact Bool.noConfusion hE
      have hbd := okP_bnd okp hC
      obtain ⟨b1, b2⟩ := bndB_iff.1 hbd
      have hwb := prB_wb ok (chs (owns l ws)).length
      rw [List.take_length] at hwb
      have hq4 := prB_bq4 ok hr2 hl12 (by omega) he4
      obtain ⟨g1, g2⟩ := cnf_srt (b := prB r (chs (owns l ws))) (M := 6000) (by omega) b2 fun p hp => ⟨by have := b1 p hp; omega, hq4 p⟩
      have hone := prB_one hv hE ok
      have hpos := prB_pos ok
      have g4 := oneB_srt hpos hone
      have g3 : bq (sumF ((srtF (prB r (chs (owns l ws)))).map Fo.f)) ≤ 60000000 := by
        rw [sum_srt, hone]
        have : bq (1 : Rat) ≤ 100 := by decide +kernel
        omega
      rw [epr]
      obtain ⟨b, hbe⟩ : ∃ b, prB r (chs (owns l ws)) = b := ⟨_, rfl⟩
      rw [hbe] at hbd hwb g1 g2 hone hpos g4 g3 b1 b2 ⊢
      simp only [hbe] at hq4
      haveI hone1 : ∀ {S : SV} [Vw (lv rO') S (srtF b)], Ct Tryz.prog 31 [S] (CnF (srtF b) ∧ wts ((srtF b).map Fo.f) ≤ 60000000 ∧ bq (sumF ((srtF b).map Fo.f)) ≤ 60000000) (bv (oneB (srtF b))) := one_c'
      have g7 : CnF (srtF b) ∧ wts ((srtF b).map Fo.f) ≤ 60000000 ∧ bq (sumF ((srtF b).map Fo.f)) ≤ 60000000 := ⟨g1, g2, g3⟩
      repeat first | refine nx ?_ | intro _
      refine gIf (fun c7 => absurd g4 c7) fun c7 => ?_
      have hfl := g1.1
      have hfo : ∀ k, k < (srtF b).length → ∃ p, hasB b p ∧ (srtF b).getD k fo0 = ⟨p, frK (tot b p)⟩ ∧ phB p 400 = true ∧ p.length ≤ 1000 := fun k hk => by
        obtain ⟨p, h1, h2⟩ := mem_srtF.1 (getD_in fo0 hk)
        have h3 := hwb.has h1
        exact ⟨p, h1, h2, gd_phB h3, by have := h3.1; omega⟩
      haveI : FtFo (srtF b) := ⟨fun e he => by rw [(g1.2 e he).1]; infer_instance⟩
      repeat first | refine nx ?_ | intro _
      refine gLp (fun k : Nat => [(12, iv k)]) (fun _ => []) (fun k => k ≤ (srtF b).length) (fun k => (srtF b).length - k) 0 (Nat.zero_le _) (fun k hk => ?_)
      repeat first | refine nx ?_ | intro _
      refine gIf (fun c8 => ?_) fun c8 => ?_
      · obtain ⟨p, f1, f2, f3, f4⟩ := hfo k c8.1
        obtain ⟨w1, w2⟩ := wg_ok hv hr hw hc f3
        rw [hbe] at w2
        have c81 := c8.1
        have e0 : ((srtF b).getD k fo0).ph = p := by rw [f2]
        have e3 : ((srtF b).getD k fo0).f = frK (tot b p) := by rw [f2]
        have s1 : PnS l r ws ∧ ((srtF b).getD k fo0).ph.length ≤ 1000000 := ⟨pn, by rw [e0]; omega⟩
        have s2 : bq (wgT l r ws ((srtF b).getD k fo0).ph) ≤ 1000000000 ∧ bf ((srtF b).getD k fo0).f ≤ 1000000000 := by
          rw [e0, w2, e3, bf_frK]
          have := hq4 p
          omega
        have s3 : bq (wgT l r ws ((srtF b).getD k fo0).ph) ≤ 1000000000 := s2.1
        have s4 : bf ((srtF b).getD k fo0).f ≤ 1000000000 := s2.2
        repeat first | refine gDsL 15 (fun j => Nat.beq j 11) 14 (by rfl) (by kernel_rfl) ?_ | refine gDs 12 12 (by rfl) (by kernel_rfl) ?_ | refine nx ?_ | intro _
        refine gIf (fun c9 => ?_) fun c9 => ?_
        · exfalso
          rw [e0, e3, w1, w2] at c9
          rcases c9 with h | h
          · exact h rfl
          · exact h (sameF_iff.2 rfl)
        · repeat first | refine nx ?_ | intro _
          exact gBk (k + 1) (by omega) (by omega)
      · repeat first | refine nx ?_ | intro _
        refine gLp (fun j : Nat => [(15, iv j), (11, bv ((List.range j).any fun i => decide (ordI ((srtF b).getD i fo0).ph q = 0)))]) (fun _ => []) (fun j => j ≤ (srtF b).length) (fun j => (srtF b).length - j) 0 (Nat.zero_le _) (fun j hj => ?_)
        repeat first | refine nx ?_ | intro _
        refine gIf (fun c9 => ?_) fun c9 => ?_
        · obtain ⟨p, f1, f2, f3, f4⟩ := hfo j c9
          have s5 : ((srtF b).getD j fo0).ph.length ≤ 1099511627776 ∧ q.length ≤ 1099511627776 := ⟨by rw [f2]; show p.length ≤ _; omega, by omega⟩
          repeat first | refine nx ?_ | intro _
          refine gBk (j + 1) (by omega) (by omega) (h1 := ?_)
          have e : ((List.range (j + 1)).any fun i => decide (ordI ((srtF b).getD i fo0).ph q = 0)) = (((List.range j).any fun i => decide (ordI ((srtF b).getD i fo0).ph q = 0)) || decide (ordI ((srtF b).getD j fo0).ph q = 0)) := by
            rw [List.range_succ, List.any_append]
            simp
          rw [e]
          exact ⟨trivial, rfl, trivial, trivial, trivial, trivial, trivial, trivial, trivial, trivial, trivial, trivial⟩
        · have s6 : PnS l r ws ∧ q.length ≤ 1000000 := ⟨pn, by omega⟩
          have hbq : bq (wgT l r ws q) ≤ 100000000 := by
            by_cases hp : phB q 400 = true
            · rw [(wg_ok hv hr hw hc hp).2, hbe]; have := hq4 q; omega
            · have : wgT l r ws q = 0 := if_neg fun x => hp x.2.2.2.1
              rw [this, bq_zero]; omega
          have hje : j = (srtF b).length := by omega
          repeat first | refine nx ?_ | intro _
          rw [Bool.and_true]
          by_cases hp : phB q 400 = true
          · obtain ⟨w1, w2⟩ := wg_ok hv hr hw hc hp
            rw [w1, w2, hbe]
            rw [show decide ((0 : Int) ≠ 0) = false from rfl, Bool.false_or, beq_iff_eq, Bool.eq_iff_iff, decide_eq_true_iff, sgQ_pos, tot_pos hpos, List.any_eq_true]
            constructor
            · intro h
              obtain ⟨i, hi, he⟩ := getD_mem (d := fo0) (mem_srtF.2 ⟨q, h, rfl⟩)
              refine ⟨i, List.mem_range.2 (by omega), decide_eq_true ?_⟩
              rw [he]
              exact ordI_to.self q
            · rintro ⟨i, hi, h⟩
              have hi := List.mem_range.1 hi
              obtain ⟨p, f1, f2, _⟩ := hfo i (by omega)
              have h2 := ordI_to.eq _ _ (of_decide_eq_true h)
              rw [f2] at h2
              have h2 : p = q := h2
              rw [← h2]; exact f1
          · have h2 : wgE l r ws q = 2 := if_neg fun x => hp x.2.2.2
            rw [h2]; rfl
end Go.E3
