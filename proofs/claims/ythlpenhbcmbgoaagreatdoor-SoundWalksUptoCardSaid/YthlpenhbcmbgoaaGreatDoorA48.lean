/- A48: a part of the proofs about what is clipped and stored: how the program's functions run, and what they compute, for every input. -/
import Derived.Test.YthlpenhbcmbgoaaGreatDoorA47
set_option linter.all false
set_option linter.unusedVariables false
set_option maxRecDepth 20000
set_option maxHeartbeats 4000000
set_option synthInstance.maxSize 1000
namespace Go.E3
open Go Go.Ear Go.Proofs
section
local instance (priority := 20000) : RT Tryz.prog 80 NdO rNO 96 ndo0 := rtNO
instance {i : Int} : Vw iv (.cv (.int .i64 i)) i := ⟨fun u => u⟩
def nNil (K : List (List Int)) (p : List Int) : NdO := ⟨phN p, paN K p, vnil, fr0⟩
theorem map_take_succ {α β : Type} {f : α → β} {l : List α} {k : Nat} (d : α) (h : k < l.length) : (l.take (k + 1)).map f = (l.take k).map f ++ [f (l.getD k d)] := by
  rw [List.take_succ_eq_append_getElem h, List.map_append, List.getD_eq_getElem?_getD, List.getElem?_eq_getElem h]; rfl
instance Tree_c {l : List En} {S : SV} {B : List Res} [i : Vw lxv S l] [hg : HG B] : CtB Tryz.prog 42 [S] B (LxS l) (.tp [lv rN (if valB l = true then trL l else []), iv (if valB l = true then 0 else 2)]) := by
  refine cB1 i (ctB Tryz.call42 Tryz.func42 Tryz.ntmps42 rfl Tryz.results42 rfl [] fun h0 w0 hlx => ?_)
  repeat first | refine nx ?_ | intro _
  refine gIf (fun c => ?_) fun c => ?_
  · have hc : ¬ valB l = true := by simpa using c
    repeat first | refine nx ?_ | intro _
    rw [if_neg hc, if_neg hc]
    exact ⟨rfl, rfl⟩
  · have hc : valB l = true := by simpa using c
    rw [if_pos hc, if_pos hc]
    obtain ⟨v1, v2⟩ := val_ent hc
    have hpl : l.length ≤ 2000 ∧ ∀ e ∈ l, e.ph.length ≤ 100 := ⟨by omega, fun e he => by have := (phB_gd (v2 e he).1).2; omega⟩
    have hKp : ∀ p ∈ begS l, p.length ≤ 100 ∧ ∀ x ∈ p, 1 ≤ x ∧ x ≤ 200 := fun p hp => by
      rcases begS_mem.1 hp with rfl | ⟨e, he, n, hn, rfl⟩
      · exact ⟨Nat.zero_le _, fun x hx => (List.not_mem_nil hx).elim⟩
      · have := hpl.2 e he
        exact ⟨by rw [List.length_take]; omega, fun x hx => (phB_gd (v2 e he).1).1 x (List.mem_of_mem_take hx)⟩
    have hbl := begL_len hpl.2
    have hKl : (begS l).length ≤ 300000 := by
      have := dstI_len ([] :: begL l)
      rw [List.length_cons] at this
      have hb2 : (begL l).length ≤ 2000 * 101 := Nat.le_trans hbl (Nat.mul_le_mul_right _ hpl.1)
      show (dstI ([] :: begL l)).length ≤ _
      omega
    have hnd := begS_nd l
    have hlt := fun j (hj : j < (begS l).length) n hn => idxK_lt (l := l) hj (n := n) hn
    have htk := fun p (hp : p ∈ begS l) n => begS_take hp n
    have hent := fun e (he : e ∈ l) n => begS_ent he n
    have htr : trL l = (begS l).map (trN l (begS l)) := rfl
    rw [htr]
    repeat first | refine nx ?_ | intro _
    rename_i m
    generalize begS l = K at *
    refine gCl m (MI K 0) MK.nil ?_
    refine gNl rNO 80 ?_
    refine gLp (fun s : Nat × Value => [(21, iv s.1), (6, ov s.2)]) (fun s => [rMp iv m (MI K s.1), rA rNO 80 s.2 ((K.take s.1).map (nNil K))]) (fun s => s.1 ≤ K.length) (fun s => K.length - s.1) (0, .slice none 0 0) (Nat.zero_le _) (fun ⟨k, u⟩ hk => ?_) (h2 := by dsimp only; exact ⟨fun _ h => h, rfl, trivial⟩)
    dsimp only at hk ⊢
    refine gOp m fun L0 mk => ?_
    repeat first | refine nx ?_ | intro _
    refine gIf (fun c2 => ?_) fun c2 => ?_
    · have hmem := getD_in [] c2
      obtain ⟨hp1, hp2⟩ := hKp _ hmem
      have hsp : (K.getD k []).length ≤ 1000000 ∧ ∀ p ∈ K.getD k [], -9223372036854775808 ≤ p ∧ p ≤ 9223372036854775807 := ⟨by omega, fun p hp => by have := hp2 p hp; omega⟩
      have mk2 := MI_add hnd c2 mk
      repeat first | refine nx ?_ | intro _
      rename_i v9
      have hml : ((K.take k).map (nNil K)).length = k := by rw [List.length_map, List.length_take]; omega
      have hsu := map_take_succ (f := nNil K) [] c2
      obtain ⟨p, hp⟩ : ∃ p, K.getD k [] = p := ⟨_, rfl⟩
      rw [hp] at hmem hp1 hp2 hsp mk2 hsu ⊢
      refine gIf (fun c3 => ?_) fun c3 => ?_
      · have hpne : p ≠ [] := fun e => by rw [e] at c3; exact absurd c3 (by simp)
        have hsp2 : (p.take (p.length - 1)).length ≤ 1000000 ∧ ∀ x ∈ p.take (p.length - 1), -9223372036854775808 ≤ x ∧ x ≤ 9223372036854775807 := ⟨by rw [List.length_take]; omega, fun x hx => by have := hp2 x (List.mem_of_mem_take hx); omega⟩
        have hj : idxK K (p.take (p.length - 1)) < k := by
          have := hlt k c2 (p.length - 1) (by rw [hp]; omega)
          rwa [hp] at this
        have hmt := htk p hmem (p.length - 1)
        have hlk : mget (mset L0 (prtB p) (k : Int)) (prtB (p.take (p.length - 1))) = some ((idxK K (p.take (p.length - 1)) : Nat) : Int) := by
          have := MI_get hnd (show k + 1 ≤ K.length by omega) mk2 (j := idxK K (p.take (p.length - 1))) (by omega)
          rwa [(idxK_mem hmt).2] at this
        repeat first | refine gWst 18 15 17 (rV v9 [iv (p.getD (p.length - 1) 0), .cv (.int .i64 (-1)), .cv (.slice none 0 0), .cv (.bool false), .cv (.slice none 0 0), .cv (.slice none 0 0)] 80 :: rM' iv m (mset L0 (prtB p) (k : Int)) :: rA rNO 80 u ((K.take k).map (nNil K)) :: B.map bo) (by rfl) (by kernel_rfl) ?_ | refine nx ?_ | intro _
        refine gWst1 rfl ?_
        repeat first | refine nx ?_ | intro _
        refine gWstE rfl ?_
        rw [hlk]
        dsimp only [Option.getD_some]
        repeat first | refine nx ?_ | intro _
        have e1 : nNil K p = ⟨p.getD (p.length - 1) 0, ((idxK K (p.take (p.length - 1)) : Nat) : Int), vnil, ⟨false, [], []⟩⟩ := by
          unfold nNil
          rw [paN_idx hpne hmt]; rfl
        rw [e1] at hsu
        rename_i u2
        rw [← hsu]
        exact gBk (k + 1, u2) (by dsimp only; omega) (by dsimp only; omega) (h2 := by dsimp only; exact ⟨mk2, trivial, trivial⟩)
      · have hpe : p = [] := List.eq_nil_of_length_eq_zero (by omega)
        repeat first | refine nx ?_ | intro _
        rename_i u2
        have e1 : nNil K p = ⟨0, -1, vnil, ⟨false, [], []⟩⟩ := by rw [hpe]; rfl
        rw [e1] at hsu
        rw [← hsu]
        exact gBk (k + 1, u2) (by dsimp only; omega) (by dsimp only; omega) (h2 := by dsimp only; exact ⟨mk2, trivial, trivial⟩)
    · have ek : k = K.length := by omega
      subst ek
      rw [List.take_length, show K.map (nNil K) = osN l K (List.replicate K.length vnil) 0 from osN_zero]
      refine gZnil rI 3 K.length ?_
      rw [lsK_zero (l := l)]
      haveI := hlx.ft
      repeat first | refine nx ?_ | intro _
      refine gCl m (MI K K.length) mk ?_
      have hem : ∀ e ∈ l, EnS e := hlx.2
      refine gLp (fun s : Nat × List Value => [(58, iv s.1)]) (fun s => [rMp iv m (MI K K.length), rA rNO 80 u (osN l K s.2 s.1), rZ rI 3 s.2 (lsK l K s.1)]) (fun s => s.1 ≤ l.length ∧ s.2.length = K.length) (fun s => l.length - s.1) (0, List.replicate K.length vnil) ⟨Nat.zero_le _, by simp⟩ (fun ⟨n, vs⟩ ⟨hn, hvs⟩ => ?_) (h2 := by refine ⟨fun _ h => h, ?_⟩; repeat' (first | trivial | refine And.intro ?_ ?_))
      dsimp only at hn hvs ⊢
      refine gOp m fun L0 mk => ?_
      repeat first | refine nx ?_ | intro _
      refine gIf (fun c3 => ?_) fun c3 => ?_
      · have hen := getD_in en0 c3
        have hes := hem _ hen
        haveI : FtF (l.getD n en0).f := ⟨hes.2.2⟩
        have hbf := hes.2.1
        have hek : (l.getD n en0).ph ∈ K := by
          have := hent _ hen (l.getD n en0).ph.length
          rwa [List.take_length] at this
        obtain ⟨ha, haK⟩ := idxK_mem hek
        have hlk := MI_get hnd (Nat.le_refl _) mk ha
        rw [haK] at hlk
        obtain ⟨hp1, hp2⟩ := hKp _ hek
        have hsp : (l.getD n en0).ph.length ≤ 1000000 ∧ ∀ p ∈ (l.getD n en0).ph, -9223372036854775808 ≤ p ∧ p ≤ 9223372036854775807 := ⟨by omega, fun p hp => by have := hp2 p hp; omega⟩
        have hol : (osN l K vs n).length = K.length := osN_len
        have hoa := osN_at (l := l) (vs := vs) (n := n) ha
        have hll : ((lsK l K n).getD (idxK K (l.getD n en0).ph) []).length ≤ 2000 := by
          rw [show (lsK l K n).getD (idxK K (l.getD n en0).ph) [] = enN l (K.getD (idxK K (l.getD n en0).ph) []) n from rngN_at ha]
          have := enN_len l (K.getD (idxK K (l.getD n en0).ph) []) n
          omega
        obtain ⟨a, hae⟩ : ∃ a, idxK K (l.getD n en0).ph = a := ⟨_, rfl⟩
        rw [hae] at ha haK hlk hoa hll
        repeat first | refine nx ?_ | intro _
        rw [hlk]
        dsimp only [Option.getD_some]
        repeat first | refine nx ?_ | intro _
        rw [hoa]
        dsimp only
        repeat first | refine nx ?_ | intro _
        rename_i v11 z
        refine gPz z vs a (by omega) ?_
        rw [hoa]
        dsimp only
        rw [osN_set ha hvs, lsK_set hnd ha haK, ← show osK l K (vs.set a z) n ((l.getD n en0).ph.length + 1) = osN l K (vs.set a z) n from osK_top c3]
        have hvz : (vs.set a z).length = K.length := by rw [List.length_set]; exact hvs
        have hat : (a : Int) = atN K (l.getD n en0).ph ((l.getD n en0).ph.length + 1) := by
          unfold atN
          rw [if_neg (by omega), Nat.add_sub_cancel, List.take_length, hae]
        rw [hat]
        refine gLp (fun c : Nat => [(12, iv (atN K (l.getD n en0).ph c))]) (fun c => [rA rNO 80 u (osK l K (vs.set a z) n c)]) (fun c => c ≤ (l.getD n en0).ph.length + 1) (fun c => c) ((l.getD n en0).ph.length + 1) (Nat.le_refl _) (fun c hcl => ?_)
        repeat first | refine nx ?_ | intro _
        refine gIf (fun c4 => ?_) fun c4 => ?_
        · obtain ⟨d, rfl⟩ : ∃ d, c = d + 1 := ⟨c - 1, by
            have : c ≠ 0 := fun e => by
              subst e
              have h : (0 : Int) ≤ -1 := c4
              omega
            omega⟩
          have hd : d ≤ (l.getD n en0).ph.length := by omega
          have hdk := hent _ hen d
          obtain ⟨hb, hbK⟩ := idxK_mem hdk
          have e1 : atN K (l.getD n en0).ph (d + 1) = ((idxK K ((l.getD n en0).ph.take d) : Nat) : Int) := by
            unfold atN
            rw [if_neg (by omega), Nat.add_sub_cancel]
          rw [e1]
          generalize idxK K ((l.getD n en0).ph.take d) = b at hb hbK
          have hup := atN_up (K := K) hd hb hbK htk
          have hkl : (osK l K (vs.set a z) n (d + 1)).length = K.length := osK_len
          have hka := osK_at (l := l) (vs := vs.set a z) (n := n) (c := d + 1) hb
          have hbl2 : (K.getD b []).length = d := by rw [hbK, List.length_take]; omega
          have e2 : bsC l (K.getD b []) n (d + 1) = bsN l (K.getD b []) n := if_neg (by omega)
          rw [e2] at hka
          obtain ⟨f1, f2⟩ := bsN_ok hem (K.getD b []) n
          haveI : FtF ((osK l K (vs.set a z) n (d + 1)).getD b ndo0).f := by rw [hka]; exact ⟨f1⟩
          have hbb : bf ((osK l K (vs.set a z) n (d + 1)).getD b ndo0).f ≤ 1000 := by rw [hka]; exact f2
          have hstep := osK_step hnd (vs := vs.set a z) c3 hd hb hbK
          have hka2 := osK_at (l := l) (vs := vs.set a z) (n := n) (c := d) hb
          have hbs := bsN_succ (p := K.getD b []) c3
          repeat first | refine nx ?_ | intro _
          refine gIf (fun c5 => ?_) fun c5 => ?_
          · repeat first | refine nx ?_ | intro _
            rw [hka] at c5
            have hf : bsN l (K.getD b []) (n + 1) = frK (l.getD n en0).f.rat := by
              rw [hbs]
              exact if_pos ⟨by rw [hbl2]; exact hbK.symm, c5⟩
            rw [hf] at hstep
            rw [hka]
            dsimp only
            rw [hstep, hka2]
            dsimp only
            rw [hup]
            exact gBk d (by omega) (by omega)
          · repeat first | refine nx ?_ | intro _
            rw [hka] at c5
            have hf : bsN l (K.getD b []) (n + 1) = bsN l (K.getD b []) n := by
              rw [hbs]
              exact if_neg fun x => c5 x.2
            have hse : (osK l K (vs.set a z) n (d + 1)).set b ((osK l K (vs.set a z) n (d + 1)).getD b ndo0) = osK l K (vs.set a z) n (d + 1) := set_self (by omega)
            rw [hka, ← hf, hstep] at hse
            rw [← hse, hka2]
            dsimp only
            rw [hup]
            exact gBk d (by omega) (by omega)
        · have hc0 : c = 0 := by
            rcases Nat.eq_zero_or_pos c with h | h
            · exact h
            · exfalso
              apply c4
              unfold atN
              rw [if_neg (by omega)]
              exact Int.natCast_nonneg _
          subst hc0
          rw [show osK l K (vs.set a z) n 0 = osN l K (vs.set a z) (n + 1) from osK_end]
          repeat first | refine nx ?_ | intro _
          exact gBk (n + 1, vs.set a z) ⟨by dsimp only; omega, hvz⟩ (by dsimp only; omega) (h2 := by refine ⟨mk, ?_⟩; repeat' (first | trivial | refine And.intro ?_ ?_))
      · have en : n = l.length := by omega
        subst en
        have hz := zip_tree (l := l) (K := K) hvs
        rw [← hz]
        refine gFzN u (osN_v hvs) ?_
        repeat first | refine nx ?_ | intro _
        trivial
end
end Go.E3
