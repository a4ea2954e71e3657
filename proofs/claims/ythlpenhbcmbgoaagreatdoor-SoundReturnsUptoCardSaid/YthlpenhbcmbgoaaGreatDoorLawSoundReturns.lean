/- LawSoundReturns: a part of the proofs about what is clipped and stored: how the program's functions run, and what they compute, for every input. -/
import Derived.Test.YthlpenhbcmbgoaaGreatDoorA44
import Derived.Test.YthlpenhbcmbgoaaGreatDoorLawSoundPrecise
set_option linter.all false
set_option linter.unusedVariables false
set_option maxRecDepth 20000
set_option maxHeartbeats 4000000
set_option synthInstance.maxSize 1000
namespace Go.E3
open Go Go.Ear Go.Proofs
theorem soundReturns_c {l : List En} {r : List Rw} {ws : List ByteArray} {B : List Res} [hg : HG B] (u : UpE l) (ur : UpR r) (uw : ws.length ≤ 1048576) : CtB Tryz.prog 4 [lxv l, lv rR r, lv rQ ws] B True (bv true) := by
  refine (ctB Tryz.call4 Tryz.func4 Tryz.ntmps4 rfl Tryz.results4 rfl [14] fun h0 w0 _ => ?_)
  have hlen := u.1
  have hlen2 := ur.1
  repeat first | refine nx ?_ | intro _
  refine gIf (fun c => ?_) fun c => ?_
  · repeat first | refine nx ?_ | intro _
    trivial
  · have c1 : fitB l 5 = true := Classical.byContradiction fun h => c (.inl (.inl (.inl (.inl (.inl h)))))
    have c0 : ¬ 5 < l.length := fun h => c (.inl (.inl (.inl (.inl (.inr h)))))
    have c2 : fewB r = true := Classical.byContradiction fun h => c (.inl (.inl (.inl (.inr h))))
    have c4 : ¬ 3 < r.length := fun h => c (.inl (.inl (.inr h)))
    have c3 : saidB ws 2 = true := Classical.byContradiction fun h => c (.inl (.inr h))
    have c5 : ¬ longB l 3 = true := fun h => c (.inr h)
    obtain ⟨hlx, hb⟩ := fit_lx c1 u
    obtain ⟨hr1, hr2⟩ := few_ok c2 ur
    have hw2 : ws.length ≤ 2 := by
      unfold saidB at c3
      rw [Bool.and_eq_true, decide_eq_true_iff] at c3
      exact c3.2
    have hlg : ∀ e ∈ l, e.ph.length ≤ 6 := fun e he => by
      rcases Nat.lt_or_ge 6 e.ph.length with h | h
      · exact absurd (List.any_eq_true.2 ⟨e, he, decide_eq_true (by omega)⟩) c5
      · exact h
    have he4 : ∀ e ∈ l, (Fit e.f.n ∧ Fit e.f.d) ∧ bf e.f ≤ 4 := fun e he => ⟨u.2 e he, by
      obtain ⟨_, h1, h2⟩ := hb e he
      show max (max e.f.n.length e.f.d.length) 1 ≤ 4
      omega⟩
    have hrr : r.length ≤ 1000000 ∧ ∀ x ∈ r, RwS x ∧ bf x.f ≤ 1000 := ⟨hr1, fun x hx => ⟨(hr2 x hx).1, by have := (hr2 x hx).2; omega⟩⟩
    have pn' : ∀ w : List ByteArray, w.length ≤ 2 → PnS l r w := fun w hw => ⟨hlx, hrr, .inl (by omega), by omega, hlg⟩
    have pn := pn' ws hw2
    repeat first | refine nx ?_ | intro _
    refine gIf (fun c6 => ?_) fun c6 => ?_
    · rw [prE_ne c6]
      repeat first | refine nx ?_ | intro _
      rfl
    · have c6 := Classical.not_not.1 c6
      obtain ⟨hv, hr, hw, hc, hE, ok, okp, epr⟩ := pr_facts pn c6
      obtain ⟨v1, v2⟩ := val_ent hv
      have hC := chs_pos (L := owns l ws) fun hm => by rw [hasE_iff.2 hm] at hE; exact Bool.noConfusion hE
      have hbd := okP_bnd okp hC
      obtain ⟨b1, b2⟩ := bndB_iff.1 hbd
      have hwb := prB_wb ok (chs (owns l ws)).length
      rw [List.take_length] at hwb
      have hq4 := prB_bq4 ok hr2 (by omega) (by omega) he4
      obtain ⟨g1, g2⟩ := cnf_srt (b := prB r (chs (owns l ws))) (M := 6000) (by omega) b2 fun p hp => ⟨by have := b1 p hp; omega, hq4 p⟩
      have hpos := prB_pos ok
      have hword := own_word hE
      rw [epr]
      have hwT : ∀ q, phB q 400 = true → wgT l r ws q = tot (prB r (chs (owns l ws))) q := fun q h => (wg_ok hv hr hw hc h).2
      have hwS : ∀ q, wgS r (chs (owns l ws)) q = tot (prB r (chs (owns l ws))) q := fun q => wgS_tot r q _
      obtain ⟨b, hbe⟩ : ∃ b, prB r (chs (owns l ws)) = b := ⟨_, rfl⟩
      rw [hbe] at hbd hwb g1 g2 hpos b1 b2 ⊢
      simp only [hbe] at hq4 hwT hwS
      have hfl := g1.1
      have hfo : ∀ k, k < (srtF b).length → ∃ p, hasB b p ∧ (srtF b).getD k fo0 = ⟨p, frK (tot b p)⟩ ∧ phB p 400 = true ∧ p.length ≤ 1000 := fun k hk => by
        obtain ⟨p, h1, h2⟩ := mem_srtF.1 (getD_in fo0 hk)
        have h3 := hwb.has h1
        exact ⟨p, h1, h2, gd_phB h3, by have := h3.1; omega⟩
      haveI : FtFo (srtF b) := ⟨fun e he => by rw [(g1.2 e he).1]; infer_instance⟩
      repeat first | refine nx ?_ | intro _
      refine gLp (fun k : Nat => [(9, iv k)]) (fun _ => []) (fun k => k ≤ (srtF b).length) (fun k => (srtF b).length - k) 0 (Nat.zero_le _) (fun k hk => ?_)
      repeat first | refine nx ?_ | intro _
      refine gIf (fun c8 => ?_) fun c8 => ?_
      · obtain ⟨p, f1, f2, f3, f4⟩ := hfo k c8.1
        have c81 := c8.1
        have e0 : ((srtF b).getD k fo0).ph = p := by rw [f2]
        have e3 : ((srtF b).getD k fo0).f = frK (tot b p) := by rw [f2]
        have rs : RdS l r p := ⟨hr, hrr.2, by omega, fun e he => ⟨hlx.2 e he, wd_nos (val_word hv e he), hlg e he, v2 e he⟩, by omega⟩
        have rES : ReS l r ((srtF b).getD k fo0).ph 2 := ⟨hlx, hrr, by rw [e0]; omega, by omega, hlg, .inl (by omega)⟩
        have eL : rdL l r ((srtF b).getD k fo0).ph 2 = srtG (sB l r p 2 []) := by rw [e0]; exact if_pos ⟨hv, hr, f3, by omega⟩
        have eE : rdE l r ((srtF b).getD k fo0).ph = 0 := by
          rw [e0]
          unfold rdE
          rw [if_pos ⟨hv, hr, f3⟩, if_neg (by omega)]
        have gm := fun x hx => rd_mem rs hv f3 (x := x) hx
        have gb := fun x hx => rd_bq rs hv f3 (x := x) hx
        have gl := rd_len rs
        have hbk : bf ((srtF b).getD k fo0).f ≤ 6000 := by rw [e3, bf_frK]; exact hq4 p
        obtain ⟨x0, hx0, hx0w⟩ := rd_has rs hw2 hword (by rw [hwS, tot_pos hpos]; exact f1)
        repeat first | refine gDs 13 13 (by rfl) (by kernel_rfl) ?_ | refine nx ?_ | intro _
        rw [eL, eE]
        obtain ⟨G, hG⟩ : ∃ G, srtG (sB l r p 2 []) = G := ⟨_, rfl⟩
        rw [hG] at gl hx0 ⊢
        simp only [hG] at gm gb
        refine gIf (fun c9 => absurd c9 (by simp)) fun c9 => ?_
        repeat first | refine nx ?_ | intro _
        refine gLp (fun j : Nat => [(13, iv j), (12, bv ((List.range j).any fun i => decide ((G.getD i rg0).ws = ws)))]) (fun _ => []) (fun j => j ≤ G.length) (fun j => G.length - j) 0 (Nat.zero_le _) (fun j hj => ?_)
        repeat first | refine nx ?_ | intro _
        refine gIf (fun ca => ?_) fun ca => ?_
        · have hm := getD_in rg0 ca
          obtain ⟨m1, m2, m3⟩ := gm _ hm
          have m4 := gb _ hm
          have hbg : bf (G.getD j rg0).f ≤ 10000000 := by rw [m1, bf_frK]; exact m4
          haveI : FtF (G.getD j rg0).f := by rw [m1]; infer_instance
          have s1 : PnS l r (G.getD j rg0).ws ∧ ((srtF b).getD k fo0).ph.length ≤ 1000000 := ⟨pn' _ m3, by rw [e0]; omega⟩
          have s2 : bq (wgT l r (G.getD j rg0).ws ((srtF b).getD k fo0).ph) ≤ 1000000000 := by rw [e0]; omega
          have s3 : (G.getD j rg0).ws.length ≤ 1099511627776 ∧ ws.length ≤ 1099511627776 := by omega
          repeat first | refine gDsL 19 (fun j => Nat.beq j 15) 18 (by rfl) (by kernel_rfl) ?_ | refine gDs 12 12 (by rfl) (by kernel_rfl) ?_ | refine nx ?_ | intro _
          rw [e0, m1]
          refine gIf (fun cb => ?_) fun cb => ?_
          · exfalso
            rcases cb with h | h
            · exact h m2
            · exact h (sameF_iff.2 rfl)
          · have ht : ordS (G.getD j rg0).ws ws = 0 → (G.getD j rg0).ws = ws := ordS_to.eq _ _
            have hsu : ((List.range (j + 1)).any fun i => decide ((G.getD i rg0).ws = ws)) = (((List.range j).any fun i => decide ((G.getD i rg0).ws = ws)) || decide ((G.getD j rg0).ws = ws)) := by
              rw [List.range_succ, List.any_append]
              simp
            repeat first | refine nx ?_ | intro _
            refine gIf (fun cd => ?_) fun cd => ?_
            · have cd := ht cd
              have e5 : sameF (frK (wgT l r (G.getD j rg0).ws p)) ((srtF b).getD k fo0).f = true := by
                rw [cd, e3, hwT p f3]
                exact sameF_iff.2 rfl
              repeat first | refine gDs 8 7 (by rfl) (by kernel_rfl) ?_ | refine nx ?_ | intro _
              rw [e5]
              exact gBk (j + 1) (by omega) (by omega) (h1 := by rw [hsu, cd]; simp)
            · repeat first | refine nx ?_ | intro _
              have : decide ((G.getD j rg0).ws = ws) = false := decide_eq_false fun e => cd (by rw [e]; exact ordS_to.self ws)
              rw [this, Bool.or_false] at hsu
              exact gBk (j + 1) (by omega) (by omega) (h1 := by rw [hsu]; simp)
        · have hany : ((List.range j).any fun i => decide ((G.getD i rg0).ws = ws)) = true := by
            obtain ⟨i, hi, e⟩ := getD_mem (d := rg0) hx0
            exact List.any_eq_true.2 ⟨i, List.mem_range.2 (by omega), decide_eq_true (by rw [e, hx0w])⟩
          rw [hany]
          repeat first | refine nx ?_ | intro _
          refine gIf (fun cb => absurd cb (by simp)) fun cb => ?_
          repeat first | refine nx ?_ | intro _
          exact gBk (k + 1) (by omega) (by omega)
      · repeat first | refine nx ?_ | intro _
        trivial
end Go.E3
