/- K13: a part of the proofs about what is clipped and stored: how the program's functions run, and what they compute, for every input. -/
import Derived.Test.YthlpenhbcmbgoaaGreatDoorK12
set_option linter.all false
set_option linter.unusedVariables false
set_option maxRecDepth 20000
set_option maxHeartbeats 4000000
set_option synthInstance.maxSize 1000
namespace Go.E3
open Go Go.Ear Go.Proofs
theorem ex_lx : LxS exL := ⟨by decide, fun e he => by
  have ft := fun q => (inferInstance : FtF (frK q)).h
  have h : ∀ e ∈ exL, (e.w.size ≤ 1000000 ∧ e.ph.length ≤ 1000000) ∧ bf e.f ≤ 1000 := by decide +kernel
  have h2 : ∀ e ∈ exL, ∃ q, e.f = frK q := by
    intro e he
    rcases List.mem_cons.1 he with rfl | he
    · exact ⟨_, rfl⟩
    · rcases List.mem_cons.1 he with rfl | he
      · exact ⟨_, rfl⟩
      · rcases List.mem_cons.1 he with rfl | he
        · exact ⟨_, rfl⟩
        · exact (List.not_mem_nil he).elim
  obtain ⟨q, hq⟩ := h2 e he
  exact ⟨(h e he).1, (h e he).2, by rw [hq]; exact ft q⟩⟩
theorem ex_rw : exR.length ≤ 1000000 ∧ ∀ x ∈ exR, RwS x ∧ bf x.f ≤ 1000 := ⟨by decide, fun x hx => by
  have ft := fun q => (inferInstance : FtF (frK q)).h
  rcases List.mem_cons.1 hx with rfl | hx
  · exact ⟨⟨by decide, by decide, by decide, by decide, by decide +kernel, ft _⟩, by decide +kernel⟩
  · exact (List.not_mem_nil hx).elim⟩
theorem ex_pn : PnS exL exR [wA, wB] := ⟨ex_lx, ex_rw, .inl (by decide), by decide, by decide⟩
theorem ex_re : ReS exL exR [4, 3] 2 := ⟨ex_lx, ex_rw, by decide, by decide, by decide, .inl (by decide)⟩
theorem fol_K {b : Bag (List Int)} (h : ∀ p, hasB b p → p.length ≤ 1099511627776 ∧ bq (tot b p) ≤ 60000000) (hn : cnt b ≤ 1000000) : FoL (srtF b) := ⟨by
  unfold srtF
  rw [(srtS_perm (c := cmpFo) (fosB b)).length_eq]
  unfold fosB
  rw [List.length_map]
  exact Nat.le_trans hn (by decide), fun x hx => FoS_fos h x ((srtS_perm (c := cmpFo) (fosB b)).mem_iff.1 hx)⟩
instance Read_i {l : List En} {r : List Rw} {q : List Int} {most : Nat} {k : Int} {S T U : SV} {B : List Res} [x : IN k most] [i : Vw lxv S l] [j : Vw (lv rR) T r] [m : Vw (lv rI) U q] [hg : HG B] : CtB Tryz.prog 26 [S, T, U, iv k] B (ReS l r q most) (.tp [lv rRg (rdL l r q most), iv (rdE l r q)]) := by
  rw [x.e]
  exact Read_c
theorem fol_lit (l : List (List Int × Rat)) (hl : l.length ≤ 1000) (h : ∀ x ∈ l, x.1.length ≤ 1000 ∧ bq x.2 ≤ 1000) : FoL (l.map fun x => ⟨x.1, frK x.2⟩) := ⟨by rw [List.length_map]; omega, fun e he => by
  obtain ⟨x, hx, rfl⟩ := List.mem_map.1 he
  have ft := (inferInstance : FtF (frK x.2)).h
  have h1 := h x hx
  exact ⟨by show x.1.length ≤ _; omega, by show bf (frK x.2) ≤ _; rw [bf_frK]; omega, ft⟩⟩
theorem fol_P : FoL exP := fol_lit [([2, 3], qx 1 2), ([1, 3], qx 1 3), ([4, 3], qx 1 6)] (by decide) (by decide +kernel)
theorem fol_A : FoL exA := fol_lit [([1, 3], qx 2 3), ([4, 3], qx 1 3)] (by decide) (by decide +kernel)
theorem fol_bag {b : Bag (List Int)} (h : ∀ x ∈ b, x.1.length ≤ 1000 ∧ bq (tot b x.1) ≤ 1000) (hn : cnt b ≤ 1000) : FoL (srtF b) := fol_K (fun p ⟨w, hp⟩ => by have h1 : p.length ≤ 1000 ∧ bq (tot b p) ≤ 1000 := h _ hp; omega) (by omega)
theorem prL_eq : prL exL exR [wA, wB] = srtF (prB exR exC) := if_pos (by decide +kernel)
theorem appL_eq : appL exR [1, 3] = srtF (ats exR [1, 3] 2 2) := if_pos (by decide +kernel)
theorem fol_pr : FoL (prL exL exR [wA, wB]) := by
  rw [prL_eq]
  exact fol_bag (by decide +kernel) (by decide +kernel)
theorem fol_ap : FoL (appL exR [1, 3]) := by
  rw [appL_eq]
  exact fol_bag (by decide +kernel) (by decide +kernel)
instance known_c {B : List Res} [hg : HG B] : CtB Tryz.prog 17 [] B True (bv true) := by
  refine (ctB Tryz.call17 Tryz.func17 Tryz.ntmps17 rfl Tryz.results17 rfl [1, 11] fun h0 w0 _ => ?_)
  have h1 := ex_pn
  have h2 := ex_re
  have h3 := ex_lx
  have h4 := ex_rw
  have h6 : exR.length ≤ 1000000 ∧ ([1, 3] : List Int).length ≤ 25 ∧ ∀ x ∈ exR, RwS x ∧ bf x.f ≤ 1000 := ⟨ex_rw.1, by decide, ex_rw.2⟩
  have h7 : LxS exL ∧ ([3] : List Int).length ≤ 1000000 := ⟨ex_lx, by decide⟩
  have h8 : PnS exL exR [wA, wB] ∧ ([4, 3] : List Int).length ≤ 1000000 := ⟨ex_pn, by decide⟩
  have h9 : exR.length ≤ 1099511627776 ∧ ∀ x ∈ exR, RwS x := ⟨by decide, fun x hx => (ex_rw.2 x hx).1⟩
  have h5 := fun x hx => (ex_rw.2 x hx).1
  repeat first | refine nx ?_ | intro _
  refine gIf (fun c => ?_) fun c => ?_
  · exfalso
    have e1 := ex_prE
    have e2 := ex_apE
    have e3 := ex_rdE
    have e4 := ex_wkE
    have e5 := ex_wgE
    have e6 := ex_val
    have e7 := ex_rul
    exact c.elim (fun c => c.elim (fun c => c.elim (fun c => c.elim (fun c => c.elim (fun c => c.elim (fun c => c e1) fun c => c e2) fun c => c e3) fun c => c e4) fun c => c e5) fun c => c e6) fun c => c e7
  · have f1 : FoL (prL exL exR [wA, wB]) ∧ FoL exP := ⟨fol_pr, fol_P⟩
    have f2 : FoL (appL exR [1, 3]) ∧ FoL exA := ⟨fol_ap, fol_A⟩
    have f3 : ((rdL exL exR [4, 3] 2).getD 0 rg0).ws.length ≤ 1099511627776 ∧ ([wA, wB] : List ByteArray).length ≤ 1099511627776 := by decide +kernel
    have f4 : bq (wgT exL exR [wA, wB] [4, 3]) ≤ 1000 := by decide +kernel
    have f5 : bf (frK (wgT exL exR [wA, wB] [4, 3])) ≤ 1000 := by rw [bf_frK]; exact f4
    have f6 : bq (qx 1 6) ≤ 1000 := by decide +kernel
    repeat first | refine gDs 47 46 (by rfl) (by kernel_rfl) ?_ | refine nx ?_ | intro _
    refine nx ?_ (fun _ => ⟨Nat.le_trans f4 (by decide), Nat.le_trans f6 (by decide)⟩)
    repeat first | refine nx ?_ | intro _
    have g : (sfB (prL exL exR [wA, wB]) exP && sfB (appL exR [1, 3]) exA && decide ((rdL exL exR [4, 3] 2).length = 1) && decide (ordS ((rdL exL exR [4, 3] 2).getD 0 rg0).ws [wA, wB] = 0) && decide (wkI exL [3] = 3) && sameF (frK (wgT exL exR [wA, wB] [4, 3])) (frK (qx 1 6))) = true := by
      rw [ex_pr, ex_ap, decide_eq_true ex_rd, decide_eq_true ex_rdw, decide_eq_true ex_wk, ex_wg]; rfl
    exact g
end Go.E3
