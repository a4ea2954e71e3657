/- A50: a part of the proofs about what is clipped and stored: how the program's functions run, and what they compute, for every input. -/
import Derived.Test.YthlpenhbcmbgoaaGreatDoorA49
set_option linter.all false
set_option linter.unusedVariables false
set_option maxRecDepth 20000
set_option maxHeartbeats 4000000
set_option synthInstance.maxSize 1000
namespace Go.E3
open Go Go.Ear Go.Proofs
section
variable {P : Program} {n : Nat} {X : Fix} {ms : List Nat} {loc env kept : EL} {B : List Res} {x y : Code} {k : Kt}
theorem gJB (es : EL) (Bj : List Res) {o : Operand} {b : Bool} {p : Prop} {E : EL} [l : Lu n true loc env o (.cv (.bool b))] [tp : TP b p] [kp : KpE es env kept] [ae : AppL es kept E] (ht : p → GW P n X ms [] env B x (.cut (Mt X.c n X.h0 X.w0 E Bj) k)) (hf : ¬ p → GW P n X ms [] env B y (.cut (Mt X.c n X.h0 X.w0 E Bj) k)) (g : GX P n X ms [] E Bj .normal k) : GW P n X ms loc env B (.cond o x y) k := ⟨fun ρ h w s => by
  have key : ∀ c, GW P n X ms [] env B c (.cut (Mt X.c n X.h0 X.w0 E Bj) k) → WT X.c P n c (run X.c.round P X.T k) ρ w := fun c gc => by
    refine (gc.p ρ h w ⟨s.gr, trivial, s.en, s.ow⟩).mono fun e a2 w2 hq => ?_
    cases e with
    | normal => obtain ⟨ρ2, rfl, h2, s2⟩ := Mt.p hq; exact g.p _ _ _ s2
    | _ => exact hq
  exact WT.cond (cvE (l.h rfl ((s.x [o]).fx o (by simp)))) (fun e => key _ (ht (tp.h.1 e))) fun e => key _ (hf (fun q => by rw [tp.h.2 q] at e; cases e))⟩
end
theorem begS_ok {l : List En} (hl : l.length ≤ 2000) (h : ∀ e ∈ l, e.ph.length ≤ 100) : LiS (begS l) ∧ ∀ p ∈ begS l, p.length ≤ 100 := by
  have hp : ∀ p ∈ begS l, p.length ≤ 100 := fun p hp => by
    rcases begS_mem.1 hp with rfl | ⟨e, he, n, hn, rfl⟩
    · exact Nat.zero_le _
    · have := h e he
      rw [List.length_take]; omega
  refine ⟨⟨?_, fun k => ?_⟩, hp⟩
  · have h1 := begL_len h
    have h2 : l.length * (100 + 1) ≤ 2000 * (100 + 1) := Nat.mul_le_mul_right _ hl
    have := dstI_len ([] :: begL l)
    rw [List.length_cons] at this
    show (dstI ([] :: begL l)).length ≤ _
    omega
  · by_cases hk : k < (begS l).length
    · have := hp _ (getD_in [] hk); omega
    · rw [List.getD_eq_getElem?_getD, List.getElem?_eq_none (by omega)]; exact Nat.zero_le _
instance rWalk_c {l : List En} {q : List Int} {S T : SV} [i : Vw lxv S l] [j : Vw (lv rI) T q] : Ct Tryz.prog 46 [S, T] ((l.length ≤ 2000 ∧ ∀ e ∈ l, e.ph.length ≤ 100) ∧ q.length ≤ 1000000) (iv (idxP (fun x => decide (x = q)) (begS l))) := by
  refine ct2 i j (ctI Tryz.call46 Tryz.func46 Tryz.ntmps46 rfl Tryz.results46 rfl [] fun h0 w0 ⟨⟨hl, he⟩, hq⟩ => ?_)
  have hs := (begS_ok hl he).1
  have hpl : l.length ≤ 2000 ∧ ∀ e ∈ l, e.ph.length ≤ 100 := ⟨hl, he⟩
  have hsd : LiS (begS l) ∧ q.length ≤ 1000000 := ⟨hs, hq⟩
  repeat first | refine nx ?_ | intro _
  trivial
instance rTree_c {l : List En} {S : SV} [i : Vw lxv S l] : Ct Tryz.prog 43 [S] (LxS l ∧ ∀ e ∈ l, e.ph.length ≤ 100) (lv rN (trL l)) := by
  refine ct1 i (ctI Tryz.call43 Tryz.func43 Tryz.ntmps43 rfl Tryz.results43 rfl [] fun h0 w0 ⟨hlx, he⟩ => ?_)
  have hl := hlx.1
  have hem : ∀ e ∈ l, EnS e := hlx.2
  have hpl : l.length ≤ 2000 ∧ ∀ e ∈ l, e.ph.length ≤ 100 := ⟨hl, he⟩
  obtain ⟨hs, hKp⟩ := begS_ok hl he
  have hs1 := hs.1
  have htk := fun p (hp : p ∈ begS l) n => begS_take hp n
  have htr : trL l = (begS l).map (trN l (begS l)) := rfl
  rw [htr]
  repeat first | refine nx ?_ | intro _
  generalize begS l = K at *
  refine gNl rN 80 ?_
  refine gLp (fun s : Nat × Value => [(5, iv s.1), (4, ov s.2)]) (fun s => [rA rN 80 s.2 ((K.take s.1).map (trN l K))]) (fun s => s.1 ≤ K.length) (fun s => K.length - s.1) (0, .slice none 0 0) (Nat.zero_le _) (fun ⟨k, u⟩ hk => ?_) (h2 := by dsimp only; exact ⟨rfl, trivial⟩)
  dsimp only at hk ⊢
  have hsk := hs.2 k
  repeat first | refine nx ?_ | intro _
  refine gIf (fun c => ?_) fun c => ?_
  · have hml : ((K.take k).map (trN l K)).length = k := by rw [List.length_map, List.length_take]; omega
    have hsu := map_take_succ (f := trN l K) [] c
    have hmem := getD_in [] c
    have hp1 := hKp _ hmem
    repeat first | refine nx ?_ | intro _
    rename_i v6
    obtain ⟨p, hp⟩ : ∃ p, K.getD k [] = p := ⟨_, rfl⟩
    rw [hp] at hmem hp1 hsu hsk ⊢
    have hmt := htk p hmem (p.length - 1)
    have hsk2 : (K.getD k []).length ≤ 1000000 := by rw [hp]; exact hsk
    have hsd : LiS K ∧ (p.take (p.length - 1)).length ≤ 1000000 := ⟨hs, by rw [List.length_take]; omega⟩
    refine gJB [(7, iv p.length)] [rV v6 [iv (phN p), iv (paN K p), .cv (.slice none 0 0), .cv (.bool false), .cv (.slice none 0 0), .cv (.slice none 0 0)] 80, rA rN 80 u ((K.take k).map (trN l K))] (fun c3 => ?_) (fun c3 => ?_) ?_
    · have hpne : p ≠ [] := fun e => by rw [e] at c3; exact absurd c3 (by simp)
      have e1 : paN K p = idxP (fun x => decide (x = p.take (p.length - 1))) K := if_neg hpne
      rw [e1]
      repeat first | refine nx ?_ | intro _
      rw [hp]
      dsimp only
      repeat first | refine nx ?_ | intro _
      rw [hp]
      repeat first | refine nx ?_ | intro _
      exact gM
    · have hpe : p = [] := List.eq_nil_of_length_eq_zero (by omega)
      have e1 : phN p = 0 := by rw [hpe]; rfl
      have e2 : paN K p = -1 := if_pos hpe
      rw [e1, e2]
      repeat first | refine nx ?_ | intro _
      exact gM
    · repeat first | refine nx ?_ | intro _
      refine gNl rI 3 ?_
      refine gLp (fun s : Nat × Value => [(8, iv s.1)]) (fun s => [rA rI 3 s.2 (enN l p s.1), rV v6 [iv (phN p), iv (paN K p), ov s.2, bv (bsN l p s.1).neg, lv rU (bsN l p s.1).n, lv rU (bsN l p s.1).d] 80]) (fun s => s.1 ≤ l.length) (fun s => l.length - s.1) (0, .slice none 0 0) (Nat.zero_le _) (fun ⟨n, z⟩ hn => ?_) (h2 := ?_)
      · dsimp only at hn ⊢
        have hen := enN_len l p n
        obtain ⟨f1, f2⟩ := bsN_ok hem p n
        haveI : FtF (bsN l p n) := ⟨f1⟩
        repeat first | refine nx ?_ | intro _
        refine gIf (fun c4 => ?_) fun c4 => ?_
        · have hes := hem _ (getD_in en0 c4)
          haveI : FtF (l.getD n en0).f := ⟨hes.2.2⟩
          have hbf := hes.2.1
          have hpk := he _ (getD_in en0 c4)
          have hsu2 := enN_succ l p n
          have hbs := bsN_succ (p := p) c4
          repeat first | refine gDs 8 8 (by rfl) (by kernel_rfl) ?_ | refine nx ?_ | intro _
          refine gIf (fun c5 => ?_) fun c5 => ?_
          · have c5 := ordI_to.eq _ _ c5
            rw [hp] at c5
            rw [if_pos c5] at hsu2
            repeat first | refine gDs 15 15 (by rfl) (by kernel_rfl) ?_ | refine nx ?_ | intro _
            rename_i z2 _
            refine gIf (fun c6 => ?_) fun c6 => ?_
            · rw [hp] at c6
              have hb2 : bsN l p (n + 1) = frK (l.getD n en0).f.rat := by rw [hbs]; exact if_pos c6
              repeat first | refine nx ?_ | intro _
              exact gBk (n + 1, z2) (by dsimp only; omega) (by dsimp only; omega) (h2 := by dsimp only; rw [hsu2, hb2]; repeat' (first | trivial | refine And.intro ?_ ?_))
            · rw [hp] at c6
              have hb2 : bsN l p (n + 1) = bsN l p n := by rw [hbs]; exact if_neg c6
              repeat first | refine nx ?_ | intro _
              exact gBk (n + 1, z2) (by dsimp only; omega) (by dsimp only; omega) (h2 := by dsimp only; rw [hsu2, hb2]; repeat' (first | trivial | refine And.intro ?_ ?_))
          · have c5 : ¬ (l.getD n en0).ph = p := fun e => c5 (by rw [hp, e]; exact ordI_to.self p)
            rw [if_neg c5, List.append_nil] at hsu2
            repeat first | refine gDs 15 15 (by rfl) (by kernel_rfl) ?_ | refine nx ?_ | intro _
            refine gIf (fun c6 => ?_) fun c6 => ?_
            · rw [hp] at c6
              have hb2 : bsN l p (n + 1) = frK (l.getD n en0).f.rat := by rw [hbs]; exact if_pos c6
              repeat first | refine nx ?_ | intro _
              exact gBk (n + 1, z) (by dsimp only; omega) (by dsimp only; omega) (h2 := by dsimp only; rw [hsu2, hb2]; repeat' (first | trivial | refine And.intro ?_ ?_))
            · rw [hp] at c6
              have hb2 : bsN l p (n + 1) = bsN l p n := by rw [hbs]; exact if_neg c6
              repeat first | refine nx ?_ | intro _
              exact gBk (n + 1, z) (by dsimp only; omega) (by dsimp only; omega) (h2 := by dsimp only; rw [hsu2, hb2]; repeat' (first | trivial | refine And.intro ?_ ?_))
        · have en : n = l.length := by omega
          subst en
          refine gFz z ?_
          repeat first | refine nx ?_ | intro _
          rename_i u2
          have e3 : trN l K p = ⟨phN p, paN K p, enN l p l.length, bsN l p l.length⟩ := rfl
          rw [e3] at hsu
          rw [← hsu]
          exact gBk (k + 1, u2) (by dsimp only; omega) (by dsimp only; omega)
      · exact ⟨rfl, ⟨trivial, trivial, rfl, rfl, rfl, rfl⟩, trivial⟩
  · rw [List.take_of_length_le (by omega)]
    repeat first | refine nx ?_ | intro _
    trivial
end Go.E3
