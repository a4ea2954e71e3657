/- LawSoundSums: a part of the proofs about what is clipped and stored: how the program's functions run, and what they compute, for every input. -/
import Derived.Test.YthlpenhbcmbgoaaGreatDoorA32
set_option linter.all false
set_option linter.unusedVariables false
set_option maxRecDepth 20000
set_option maxHeartbeats 4000000
set_option synthInstance.maxSize 1000
namespace Go.E3
open Go Go.Ear Go.Proofs
theorem app_one {r : List Rw} {l : List Int} (f : ∀ x ∈ r, RwS x ∧ bf x.f ≤ 4) (hl : l.length ≤ 12) (h : appE r l = 0) : CnF (appL r l) ∧ wts ((appL r l).map Fo.f) ≤ 60000000 ∧ bq (sumF ((appL r l).map Fo.f)) ≤ 60000000 ∧ oneB (appL r l) = true := by
  unfold appE at h
  split at h
  · rename_i c
    split at h
    · rename_i c2
      have ap : ApOk r l := ⟨c.1, c.2, by omega, fun x hx => ⟨(f x hx).1, by have := (f x hx).2; omega⟩⟩
      have e : appL r l = srtF (atF r l) := if_pos ⟨c.1, c.2, c2⟩
      obtain ⟨b1, b2⟩ := bndB_iff.1 (apB_bnd c2)
      have h1 := cnf_srt (b := atF r l) (M := 5100) (by omega) b2 fun p hp => ⟨by have := b1 p hp; omega, ap_sz4 ap f (by omega) p⟩
      rw [e]
      refine ⟨h1.1, h1.2, ?_, oneB_srt (at_pos ap) (lin_at ap)⟩
      rw [sum_srt, lin_at ap]
      have : bq (1 : Rat) ≤ 100 := by decide +kernel
      omega
    · exact absurd h (by decide)
  · exact absurd h (by decide)
theorem nil_app (l : List Int) (hl : l.length ≤ 12) : (appE [] l = 0 ∧ appL [] l = [⟨l, frK 1⟩]) ∨ (appE [] l = 2 ∧ appL [] l = []) := by
  by_cases h : phB l 400 = true
  · have ap : ApOk [] l := ⟨by decide, h, by omega, fun x hx => (List.not_mem_nil hx).elim⟩
    have h2 := (sure_ok ap fun x hx => (List.not_mem_nil hx).elim).1
    refine .inl ⟨?_, appL_nil h (by omega) h2⟩
    unfold appE
    rw [if_pos ⟨by decide, h⟩, if_pos h2]
  · refine .inr ⟨?_, ?_⟩
    · unfold appE
      rw [if_neg fun x => h x.2]
    · exact if_neg fun x => h x.2.1
theorem appE_ne {r : List Rw} {l : List Int} (h : appE r l ≠ 0) : appL r l = [] := by
  refine if_neg fun ⟨a, b, c⟩ => h ?_
  unfold appE
  rw [if_pos ⟨a, b⟩, if_pos c]
theorem appE_ok {r : List Rw} {l : List Int} (h : appE r l = 0) : rulB r = true ∧ phB l 400 = true := by
  unfold appE at h
  split at h
  · rename_i c; exact c
  · exact absurd h (by decide)
theorem sure_take {r : List Rw} {k : Nat} (h : k < r.length) : sureR (r.take k) ++ [⟨(r.getD k rw0).from_, (r.getD k rw0).to, (r.getD k rw0).left, (r.getD k rw0).right, frK ((1 : Int) : Rat)⟩] = sureR (r.take (k + 1)) := by
  unfold sureR
  rw [List.take_succ_eq_append_getElem h, List.map_append, List.getD_eq_getElem?_getD, List.getElem?_eq_getElem h]; rfl
theorem sure_S {r : List Rw} (h : ∀ x ∈ r, RwS x ∧ bf x.f ≤ 4) : ∀ x ∈ sureR r, RwS x ∧ bf x.f ≤ 4 := fun x hx => by
  obtain ⟨y, hy, rfl⟩ := List.mem_map.1 hx
  obtain ⟨⟨a, b, c, d, _⟩, _⟩ := h y hy
  have ft := (inferInstance : FtF (frK ((1 : Int) : Rat))).h
  have hb : bf (frK ((1 : Int) : Rat)) ≤ 4 := by decide +kernel
  exact ⟨⟨a, b, c, d, Nat.le_trans hb (by decide), ft⟩, hb⟩
theorem soundSums_c {r : List Rw} {l : List Int} {B : List Res} [hg : HG B] (u : UpR r) (hl : l.length ≤ 1048576 ∧ ∀ z ∈ l, -9223372036854775808 ≤ z ∧ z ≤ 9223372036854775807) : CtB Tryz.prog 5 [lv rR r, lv rI l] B True (bv true) := by
  refine (ctB Tryz.call5 Tryz.func5 Tryz.ntmps5 rfl Tryz.results5 rfl [] fun h0 w0 _ => ?_)
  have hlen := u.1
  repeat first | refine nx ?_ | intro _
  refine gIf (fun c => ?_) fun c => ?_
  · repeat first | refine nx ?_ | intro _
    trivial
  · have c1 : fewB r = true := Classical.byContradiction fun h => c (.inl h)
    have c2 : l.length ≤ 12 := by
      rcases Nat.lt_or_ge 12 l.length with h | h
      · exact absurd (.inr h) c
      · exact h
    obtain ⟨hr1, hr2⟩ := few_ok c1 u
    have hsd : ([] : List Rw).length ≤ 1000000 ∧ l.length ≤ 25 ∧ ∀ x ∈ ([] : List Rw), RwS x ∧ bf x.f ≤ 1000 := ⟨Nat.zero_le _, by omega, fun x hx => (List.not_mem_nil hx).elim⟩
    have hsd2 : r.length ≤ 1000000 ∧ l.length ≤ 25 ∧ ∀ x ∈ r, RwS x ∧ bf x.f ≤ 1000 := ⟨hr1, by omega, fun x hx => ⟨(hr2 x hx).1, by have := (hr2 x hx).2; omega⟩⟩
    have hnil := nil_app l c2
    haveI : FtFo (appL [] l) := ⟨fun e he => by
      rcases hnil with ⟨_, h⟩ | ⟨_, h⟩
      · rw [h] at he
        rw [List.mem_singleton.1 he]
        exact (inferInstance : FtF (frK 1))
      · rw [h] at he; exact (List.not_mem_nil he).elim⟩
    have hG : ((appL [] l).getD 0 fo0).ph.length ≤ 1099511627776 ∧ l.length ≤ 1099511627776 := by
      refine ⟨?_, by omega⟩
      rcases hnil with ⟨_, h⟩ | ⟨_, h⟩
      · rw [h]; show l.length ≤ _; omega
      · rw [h]; exact Nat.zero_le _
    have hF : bf ((appL [] l).getD 0 fo0).f ≤ 1000000000 := by
      rcases hnil with ⟨_, h⟩ | ⟨_, h⟩
      · rw [h]
        show bf (frK 1) ≤ _
        rw [bf_frK]
        have : bq (1 : Rat) ≤ 100 := by decide +kernel
        omega
      · rw [h]; decide
    have hQ : bq ((1 : Int) : Rat) ≤ 1000000000 := Nat.le_trans (show bq ((1 : Int) : Rat) ≤ 100 by decide +kernel) (by decide)
    have hL : appE [] l = 0 → 0 < (appL [] l).length := fun h => by
      rcases hnil with ⟨_, h2⟩ | ⟨h2, _⟩
      · rw [h2]; exact Nat.one_pos
      · rw [h2] at h; exact absurd h (by decide)
    repeat first | refine gDs 25 25 (by rfl) (by kernel_rfl) ?_ | refine nx ?_ | intro _
    refine gIf (fun c3 => ?_) fun c3 => ?_
    · exfalso
      rcases hnil with ⟨_, h⟩ | ⟨h, _⟩
      · rw [h] at c3
        rcases c3.2 with (h2 | h2) | h2
        · exact h2 rfl
        · exact h2 (ordI_to.self l)
        · exact h2 (sameF_iff.2 rfl)
      · rw [h] at c3; exact absurd c3.1 (by decide)
    · repeat first | refine nx ?_ | intro _
      refine gIf (fun c4 => ?_) fun c4 => ?_
      · rw [appE_ne c4]
        repeat first | refine nx ?_ | intro _
        rfl
      · have c4 := Classical.not_not.1 c4
        obtain ⟨g1, g2, g3, g4⟩ := app_one hr2 c2 c4
        obtain ⟨g5, g6⟩ := appE_ok c4
        haveI hone : ∀ {S : SV} [Vw (lv rO') S (appL r l)], Ct Tryz.prog 31 [S] (CnF (appL r l) ∧ wts ((appL r l).map Fo.f) ≤ 60000000 ∧ bq (sumF ((appL r l).map Fo.f)) ≤ 60000000) (bv (oneB (appL r l))) := one_c'
        have g7 : CnF (appL r l) ∧ wts ((appL r l).map Fo.f) ≤ 60000000 ∧ bq (sumF ((appL r l).map Fo.f)) ≤ 60000000 := ⟨g1, g2, g3⟩
        repeat first | refine nx ?_ | intro _
        refine gIf (fun c5 => absurd g4 c5) fun c5 => ?_
        repeat first | refine nx ?_ | intro _
        refine gNl rR 59 ?_
        refine gLp (fun s : Nat × Value => [(10, iv s.1), (9, ov s.2)]) (fun s => [rA rR 59 s.2 (sureR (r.take s.1))]) (fun s => s.1 ≤ r.length) (fun s => r.length - s.1) (0, .slice none 0 0) (Nat.zero_le _) (fun ⟨k, w⟩ hk => ?_)
        dsimp only at hk ⊢
        have hsl : (sureR (r.take k)).length = k := by unfold sureR; rw [List.length_map, List.length_take]; omega
        repeat first | refine nx ?_ | intro _
        refine gIf (fun c6 => ?_) fun c6 => ?_
        · repeat first | refine nx ?_ | intro _
          rename_i w2
          rw [sure_take c6]
          exact gBk (k + 1, w2) (by dsimp only; omega) (by dsimp only; omega)
        · rw [List.take_of_length_le (by omega)]
          have hsS := sure_S hr2
          have hs3 : (sureR r).length ≤ 1000000 ∧ l.length ≤ 25 ∧ ∀ x ∈ sureR r, RwS x ∧ bf x.f ≤ 1000 := ⟨by unfold sureR; rw [List.length_map]; omega, by omega, fun x hx => ⟨(hsS x hx).1, by have := (hsS x hx).2; omega⟩⟩
          have ap : ApOk (sureR r) l := ⟨sure_rul g5, g6, by omega, hs3.2.2⟩
          have hw1 : ∀ x ∈ sureR r, x.f.rat = 1 := fun x hx => by
            obtain ⟨y, hy, rfl⟩ := List.mem_map.1 hx
            show (frK ((1 : Int) : Rat)).rat = 1
            rw [frK_rat]; rfl
          obtain ⟨s1, s2⟩ := sure_ok ap hw1
          have e1 : appE (sureR r) l = 0 := by
            unfold appE
            rw [if_pos ⟨ap.hr, g6⟩, if_pos s1]
          have e2 : (appL (sureR r) l).length = 1 := by
            unfold appL
            rw [if_pos ⟨ap.hr, g6, s1⟩]
            exact cnt_one s2
          obtain ⟨k1, k2, k3, k4⟩ := app_one hsS c2 e1
          haveI hone2 : ∀ {S : SV} [Vw (lv rO') S (appL (sureR r) l)], Ct Tryz.prog 31 [S] (CnF (appL (sureR r) l) ∧ wts ((appL (sureR r) l).map Fo.f) ≤ 60000000 ∧ bq (sumF ((appL (sureR r) l).map Fo.f)) ≤ 60000000) (bv (oneB (appL (sureR r) l))) := one_c'
          have g8 : CnF (appL (sureR r) l) ∧ wts ((appL (sureR r) l).map Fo.f) ≤ 60000000 ∧ bq (sumF ((appL (sureR r) l).map Fo.f)) ≤ 60000000 := ⟨k1, k2, k3⟩
          repeat first | refine nx ?_ | intro _
          rw [e1, e2, k4]
          rfl
end Go.E3
