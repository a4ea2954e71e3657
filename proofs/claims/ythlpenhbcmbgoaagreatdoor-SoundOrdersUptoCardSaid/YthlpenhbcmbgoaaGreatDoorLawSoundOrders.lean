/- LawSoundOrders: a part of the proofs about what is clipped and stored: how the program's functions run, and what they compute, for every input. -/
import Derived.Test.YthlpenhbcmbgoaaGreatDoorLawSoundMakes
set_option linter.all false
set_option linter.unusedVariables false
set_option maxRecDepth 20000
set_option maxHeartbeats 8000000
set_option synthInstance.maxSize 1000
namespace Go.E3
open Go Go.Ear Go.Proofs
def ocE (w : ByteArray) (by_ : Int) : En → En := scE w (by_ : Rat) fun f => frK (f.rat * (by_ : Rat))
theorem ocE_yes {w : ByteArray} {by_ : Int} {e : En} (h : e.w = w) : ocE w by_ e = ⟨e.w, e.ph, frK (e.f.rat * (by_ : Rat))⟩ := if_pos h
theorem ocE_no {w : ByteArray} {by_ : Int} {e : En} (h : ¬ e.w = w) : ocE w by_ e = e := if_neg h
theorem turn_succ (f : En → En) {l : List En} {k : Nat} (h : k < l.length) : ((l.drop k).map f).reverse = ((l.drop (k + 1)).map f).reverse ++ [f (l.getD k en0)] := by
  rw [List.drop_eq_getElem_cons h, List.map_cons, List.reverse_cons, List.getD_eq_getElem?_getD, List.getElem?_eq_getElem h]; rfl
theorem ocE_sz {w : ByteArray} {by_ : Int} (h1 : 1 ≤ by_) (h2 : by_ ≤ 1000) {e : En} (he : EnS e) (hb : bf e.f ≤ 4) : EnS (ocE w by_ e) := by
  by_cases h : e.w = w
  · rw [ocE_yes h]
    have ft : FtF (frK (e.f.rat * (by_ : Rat))) := inferInstance
    have hq : bq (by_ : Rat) ≤ 2 := bq_intc (by omega) (by omega)
    have h3 := bq_mul e.f.rat (by_ : Rat)
    have h4 := bq_rat he.2.2
    have h5 : max (max e.f.n.length e.f.d.length) 1 = bf e.f := rfl
    have h6 : bf (frK (e.f.rat * (by_ : Rat))) ≤ 6 := by rw [bf_frK]; omega
    exact ⟨he.1, by show bf (frK _) ≤ _; omega, ft.h⟩
  · rw [ocE_no h]; exact he
theorem by_pos {by_ : Int} (h : 1 ≤ by_) : (0 : Rat) < (by_ : Rat) := by
  have : ((0 : Int) : Rat) < (by_ : Rat) := Rat.intCast_lt_intCast.2 (by omega)
  simpa using this
theorem ok_turn {l : List En} {w : ByteArray} {by_ : Int} (h : 1 ≤ by_) : okL (l.map (ocE w by_)).reverse = okL l := by
  have key : ∀ e, okE (ocE w by_ e) = okE e := fun e => by
    by_cases hw : e.w = w
    · rw [ocE_yes hw]
      unfold okE
      show (wdB e.w && (phB e.ph 40 && decide (0 < sgQ (frK (e.f.rat * (by_ : Rat))).rat))) = _
      rw [frK_rat]
      refine congrArg _ (congrArg _ (decide_eq_decide.2 ?_))
      rw [sgQ_pos, sgQ_pos]
      have hp := by_pos h
      constructor
      · intro h2
        refine Classical.byContradiction fun h3 => ?_
        have h4 : 0 ≤ (-e.f.rat) * (by_ : Rat) := Rat.mul_nonneg (by grind) (by grind)
        rw [Rat.neg_mul] at h4
        grind
      · intro h2; exact Rat.mul_pos h2 hp
    · rw [ocE_no hw]
  unfold okL
  rw [List.length_reverse, List.length_map, List.all_reverse, List.all_map]
  refine congrArg _ (congrArg (fun f => List.all l f) (funext fun e => key e))
theorem soundOrders_c {l : List En} {w : ByteArray} {by_ : Int} {S : SV} {B : List Res} [i : Vw (lv rE) S l] [hg : HG B] (ul : UpE l) (hby : -9223372036854775808 ≤ by_ ∧ by_ ≤ 9223372036854775807) : CtB Tryz.prog 13 [S, .cv (.string w), iv by_] B True (bv true) := by
  refine cB1 i (ctB Tryz.call13 Tryz.func13 Tryz.ntmps13 rfl Tryz.results13 rfl [] fun h0 w0 _ => ?_)
  have hll := ul.1
  repeat first | refine nx ?_ | intro _
  refine gIf (fun c => ?_) fun c => ?_
  · repeat first | refine nx ?_ | intro _
    trivial
  · have hf : fitB l 20 = true := Classical.byContradiction fun h => c (.inl (.inl (.inl h)))
    have hl : l.length ≤ 20 := Classical.byContradiction fun h => c (.inl (.inl (.inr (by omega))))
    have hb1 : 1 ≤ by_ := Classical.byContradiction fun h => c (.inl (.inr (by omega)))
    have hb2 : by_ ≤ 1000 := Classical.byContradiction fun h => c (.inr (by omega))
    obtain ⟨hlx, hsm⟩ := fit_lx hf ul
    have h4 : ∀ e ∈ l, bf e.f ≤ 4 := fun e he => by
      obtain ⟨_, a, b⟩ := hsm e he
      show max (max e.f.n.length e.f.d.length) 1 ≤ 4
      omega
    have hs1 : LxS l ∧ (l.length ≤ 20 ∨ 1000 < l.length) := ⟨hlx, by omega⟩
    haveI := hlx.ft
    repeat first | refine nx ?_ | intro _
    rename_i v7
    refine gNl rE 87 ?_
    refine gLp (fun s : Nat × Value => [(10, iv ((s.1 : Int) - 1)), (9, ov s.2)]) (fun s => [rA rE 87 s.2 ((l.drop s.1).map (ocE w by_)).reverse, rV v7 [lv rE (mkL l)] 24]) (fun s => s.1 ≤ l.length) (fun s => s.1) (l.length, .slice none 0 0) (Nat.le_refl _) (fun ⟨k, u⟩ hk => ?_) (h2 := by dsimp only; rw [List.drop_length]; repeat' (first | trivial | rfl | refine And.intro ?_ ?_))
    dsimp only at hk ⊢
    repeat first | refine nx ?_ | intro _
    refine gIf (fun c2 => ?_) fun c2 => ?_
    · obtain ⟨k, rfl⟩ : ∃ i, k = i + 1 := ⟨k - 1, by omega⟩
      have hkl : k < l.length := by omega
      have hek := hlx.2 _ (getD_in en0 hkl)
      haveI : FtF (l.getD k en0).f := ⟨hek.2.2⟩
      have hbf := hek.2.1
      have hpl := hek.1.2
      have hq : bq (by_ : Rat) ≤ 2 := bq_intc (by omega) (by omega)
      have hsu := turn_succ (ocE w by_) hkl
      have hml : ((l.drop (k + 1)).map (ocE w by_)).reverse.length ≤ 20 := by rw [List.length_reverse, List.length_map, List.length_drop]; omega
      rw [show (((k + 1 : Nat) : Int) - 1) = (k : Int) by omega]
      repeat first | refine nx ?_ | intro _
      refine gIf (fun c3 => ?_) fun c3 => ?_
      · rw [ocE_yes c3] at hsu
        repeat first | refine gDs 7 5 (by rfl) (by kernel_rfl) ?_ | refine nx ?_ | intro _
        rename_i u2
        rw [← hsu]
        exact gBk (k, u2) (by dsimp only; omega) (by dsimp only; omega)
      · rw [ocE_no c3] at hsu
        repeat first | refine nx ?_ | intro _
        rename_i u2
        rw [← hsu]
        exact gBk (k, u2) (by dsimp only; omega) (by dsimp only; omega)
    · have ek : k = 0 := by omega
      subst ek
      rw [List.drop_zero]
      refine gFz u ?_
      have hot := ok_turn (l := l) (w := w) hb1
      have htl : (l.map (ocE w by_)).reverse.length = l.length := by rw [List.length_reverse, List.length_map]
      have htx : LxS (l.map (ocE w by_)).reverse := ⟨by omega, fun x hx => by
        obtain ⟨e, he, rfl⟩ := List.mem_map.1 (List.mem_reverse.1 hx)
        exact ocE_sz hb1 hb2 (hlx.2 e he) (h4 e he)⟩
      have hs2 : LxS (l.map (ocE w by_)).reverse ∧ ((l.map (ocE w by_)).reverse.length ≤ 20 ∨ 1000 < (l.map (ocE w by_)).reverse.length) := ⟨htx, by omega⟩
      by_cases h0 : okL l = true
      · obtain ⟨hml, hm20⟩ := mk_lx h0 hl hlx fun e he => Nat.le_trans (h4 e he) (by decide)
        have hs3 : LxS (mkL l) ∧ ((mkL l).length ≤ 20 ∨ 1000 < (mkL l).length) := ⟨hml, .inl hm20⟩
        obtain ⟨t1, t2⟩ := mk_turn (l' := (l.map (ocE w by_)).reverse) (by_pos hb1) (fun x => frK_rat _) h0 hl (List.reverse_perm _)
        obtain ⟨g1, g2⟩ := mk_again h0 hl
        have hms : LxS (mkL l) ∧ LxS (mkL l) := ⟨hml, hml⟩
        have e1 : mkE l = 0 := if_pos h0
        have e2 : mkE (l.map (ocE w by_)).reverse = 0 := if_pos t2
        have e3 : mkE (mkL l) = 0 := if_pos g2
        generalize (l.map (ocE w by_)).reverse = t at *
        repeat first | refine nx ?_ | intro _
        refine gIf (fun c => absurd (e1.trans e2.symm) c) fun c => ?_
        repeat first | refine nx ?_ | intro _
        refine gIf (fun c => absurd e1 c) fun c => ?_
        repeat first | refine nx ?_ | intro _
        rw [e3, t1, g1]
        repeat first | refine nx ?_ | intro _
        rw [slB_self]
        rfl
      · have e1 : mkE l = 2 := if_neg h0
        have e2 : mkE (l.map (ocE w by_)).reverse = 2 := if_neg (by rw [hot]; exact h0)
        generalize (l.map (ocE w by_)).reverse = t at *
        repeat first | refine nx ?_ | intro _
        refine gIf (fun c => absurd (e1.trans e2.symm) c) fun c => ?_
        repeat first | refine nx ?_ | intro _
        refine gIf (fun c => ?_) fun c => absurd (show mkE l ≠ 0 by rw [e1]; decide) c
        repeat first | refine nx ?_ | intro _
        trivial
end Go.E3
