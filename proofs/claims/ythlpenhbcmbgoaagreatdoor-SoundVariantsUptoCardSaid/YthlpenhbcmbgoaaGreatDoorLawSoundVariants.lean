/- LawSoundVariants: a part of the proofs about what is clipped and stored: how the program's functions run, and what they compute, for every input. -/
import Derived.Test.YthlpenhbcmbgoaaGreatDoorA45
set_option linter.all false
set_option linter.unusedVariables false
set_option maxRecDepth 20000
set_option maxHeartbeats 4000000
set_option synthInstance.maxSize 1000
namespace Go.E3
open Go Go.Ear Go.Proofs
theorem ent_bq {e : En} {n : Nat} (h : Fit e.f.n ∧ Fit e.f.d) (hb : bf e.f ≤ n) : bq e.f.rat ≤ n := by
  have := bq_rat h
  have h4 : max (max e.f.n.length e.f.d.length) 1 ≤ bf e.f := Nat.le_refl _
  omega
theorem soundVariants_c {l : List En} {w : ByteArray} {B : List Res} [hg : HG B] (u : UpE l) : CtB Tryz.prog 8 [lxv l, .cv (.string w)] B True (bv true) := by
  refine (ctB Tryz.call8 Tryz.func8 Tryz.ntmps8 rfl Tryz.results8 rfl [] fun h0 w0 _ => ?_)
  have hlen := u.1
  repeat first | refine nx ?_ | intro _
  refine gIf (fun c => ?_) fun c => ?_
  · repeat first | refine nx ?_ | intro _
    trivial
  · have c1 : fitB l 30 = true := Classical.byContradiction fun h => c (.inl h)
    obtain ⟨hlx, hb⟩ := fit_lx c1 u
    repeat first | refine nx ?_ | intro _
    refine gIf (fun c2 => ?_) fun c2 => ?_
    · have hv : ¬ valB l = true := by simpa using c2
      have e1 : vaL l w = [] := if_neg fun x => hv x.1
      have e2 : vaE l w = 2 := if_neg hv
      rw [e1, e2]
      repeat first | refine nx ?_ | intro _
      rfl
    · have hv : valB l = true := by simpa using c2
      have hsr : Srt l := valB_srt hv
      have hsd : LxS l ∧ Srt l := ⟨hlx, hsr⟩
      have hvr := va_ref hsr w
      repeat first | refine nx ?_ | intro _
      rw [hvr]
      have hln : (srtF (vaB l w)).length = (ownE l w).length := by
        rw [show srtF (vaB l w) = srtS cmpFo (fosB (vaB l w)) from rfl, (srtS_perm (c := cmpFo) _).length_eq, ← (va_perm hsr w).length_eq]
        exact List.length_map ..
      refine gIf (fun c3 => ?_) fun c3 => ?_
      · have hn : ownE l w = [] := List.eq_nil_of_length_eq_zero (by omega)
        have e1 : vaL l w = [] := if_neg fun x => x.2 hn
        have e2 : vaE l w = 7 := (if_pos hv).trans (if_pos hn)
        rw [e1, e2]
        repeat first | refine nx ?_ | intro _
        rfl
      · have hn : ownE l w ≠ [] := fun e => c3 (by rw [e] at hln; exact hln)
        have e1 : vaL l w = srtF (vaB l w) := if_pos ⟨hv, hn⟩
        have e2 : vaE l w = 0 := (if_pos hv).trans (if_neg hn)
        rw [e1, e2]
        have hem : ∀ e ∈ ownE l w, EnS e ∧ bf e.f ≤ 4 := fun e he => ⟨hlx.2 e (ownE_sub he).1, by
          obtain ⟨_, h1, h2⟩ := hb e (ownE_sub he).1
          show max (max e.f.n.length e.f.d.length) 1 ≤ 4
          omega⟩
        have nd := ordI_nodup (va_keys hsr w)
        have hbe : ∀ p, hasB (vaB l w) p → p.length ≤ 1000000 ∧ bq (tot (vaB l w) p) ≤ 4 := fun p ⟨x, hx⟩ => by
          have ht := tot_ndb nd hx
          obtain ⟨e, he, h2⟩ := List.mem_map.1 hx
          rw [Prod.mk.injEq] at h2
          obtain ⟨h3, h4⟩ := hem e he
          rw [ht, ← h2.1, ← h2.2]
          exact ⟨h3.1.2, ent_bq h3.2.2 h4⟩
        have hcn : cnt (vaB l w) ≤ 5000 := by
          have h1 := cnt_le (vaB l w)
          have h2 : (vaB l w).length = (ownE l w).length := List.length_map ..
          have h3 : (ownE l w).length ≤ l.length := List.length_filter_le _ _
          have := hlx.1
          omega
        obtain ⟨g1, g2⟩ := cnf_srt (b := vaB l w) (M := 4) (by omega) hcn hbe
        have hone := va_one hv hn
        have g4 := oneB_srt (va_pos hv w) hone
        have g3 : bq (sumF ((srtF (vaB l w)).map Fo.f)) ≤ 60000000 := by
          rw [sum_srt, hone]
          have : bq (1 : Rat) ≤ 100 := by decide +kernel
          omega
        obtain ⟨b, hbb⟩ : ∃ b, vaB l w = b := ⟨_, rfl⟩
        rw [hbb] at g1 g2 g3 g4 hln ⊢
        haveI hone1 : ∀ {S : SV} [Vw (lv rO') S (srtF b)], Ct Tryz.prog 31 [S] (CnF (srtF b) ∧ wts ((srtF b).map Fo.f) ≤ 60000000 ∧ bq (sumF ((srtF b).map Fo.f)) ≤ 60000000) (bv (oneB (srtF b))) := one_c'
        have g7 : CnF (srtF b) ∧ wts ((srtF b).map Fo.f) ≤ 60000000 ∧ bq (sumF ((srtF b).map Fo.f)) ≤ 60000000 := ⟨g1, g2, g3⟩
        have hfl : FoL (srtF b) := ⟨by have := g1.1; omega, fun e he => by
          obtain ⟨h1, h2, h3⟩ := g1.2 e he
          have ft : FtF (frK e.f.rat) := inferInstance
          rw [← h1] at ft
          refine ⟨by omega, ?_, ft.h⟩
          rw [h1, bf_frK]; omega⟩
        repeat first | refine nx ?_ | intro _
        rw [g4, sfB_self]; rfl
end Go.E3
