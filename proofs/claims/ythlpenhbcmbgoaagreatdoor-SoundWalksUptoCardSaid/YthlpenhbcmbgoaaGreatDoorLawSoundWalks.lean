/- LawSoundWalks: a part of the proofs about what is clipped and stored: how the program's functions run, and what they compute, for every input. -/
import Derived.Test.YthlpenhbcmbgoaaGreatDoorA51
set_option linter.all false
set_option linter.unusedVariables false
set_option maxRecDepth 20000
set_option maxHeartbeats 4000000
set_option synthInstance.maxSize 1000
namespace Go.E3
open Go Go.Ear Go.Proofs
theorem soundWalks_c {l : List En} {q : List Int} {B : List Res} [hg : HG B] (u : UpE l) (uq : q.length ≤ 1048576 ∧ ∀ z ∈ q, -9223372036854775808 ≤ z ∧ z ≤ 9223372036854775807) : CtB Tryz.prog 11 [lxv l, lv rI q] B True (bv true) := by
  refine (ctB Tryz.call11 Tryz.func11 Tryz.ntmps11 rfl Tryz.results11 rfl [] fun h0 w0 _ => ?_)
  have hlen := u.1
  have hq0 := uq.1
  repeat first | refine nx ?_ | intro _
  refine gIf (fun c => ?_) fun c => ?_
  · repeat first | refine nx ?_ | intro _
    trivial
  · have c1 : fitB l 12 = true := Classical.byContradiction fun h => c (.inl h)
    have c0 : ¬ 60 < q.length := fun h => c (.inr h)
    obtain ⟨hlx, hb⟩ := fit_lx c1 u
    have hsd0 : LxS l ∧ q.length ≤ 1000000 := ⟨hlx, by omega⟩
    repeat first | refine nx ?_ | intro _
    refine gIf (fun c2 => ?_) fun c2 => ?_
    · have hv : ¬ (valB l = true ∧ phB q 400 = true) := fun ⟨x, y⟩ => c2.elim (fun h => h x) fun h => h y
      have e1 : wkI l q = 0 := if_neg fun x => hv ⟨x.1, x.2.1⟩
      have e2 : wkE l q = 2 := if_neg hv
      rw [e1, e2]
      repeat first | refine nx ?_ | intro _
      rfl
    · have hv : valB l = true := Classical.byContradiction fun h => c2 (.inl h)
      have hq : phB q 400 = true := Classical.byContradiction fun h => c2 (.inr h)
      obtain ⟨v1, v2⟩ := val_ent hv
      have hph : ∀ e ∈ l, e.ph.length ≤ 100 := fun e he => by have := (phB_gd (v2 e he).1).2; omega
      have hsd : (l.length ≤ 2000 ∧ ∀ e ∈ l, e.ph.length ≤ 100) ∧ q.length ≤ 1000000 := ⟨⟨hlx.1, hph⟩, by omega⟩
      have hs1 := (begS_ok hlx.1 hph).1.1
      have hst := fun n => trL_at hlx.2 (k := n)
      have hKl := trL_len (l := l)
      have hnd := begS_nd l
      have htk := fun p (hp : p ∈ begS l) n => begS_take hp n
      have hem : ∀ e ∈ l, EnS e := hlx.2
      have hl12 : l.length ≤ 2000 := hlx.1
      repeat first | refine nx ?_ | intro _
      refine gJ [] (fun c3 => ?_) (fun c3 => ?_) ?_
      · have hq2 : q ∉ begS l := fun h => by rw [idxP_K h] at c3; omega
        obtain ⟨e1, e2, e3⟩ := wk_out hv hq hq2
        rw [e1, e2]
        repeat first | refine nx ?_ | intro _
        refine gIf (fun c4 => absurd c4 (by simp)) fun c4 => ?_
        repeat first | refine nx ?_ | intro _
        exact gM
      · have hq2 : q ∈ begS l := Classical.byContradiction fun h => c3 (by rw [(wk_out hv hq h).2.2]; decide)
        obtain ⟨e1, e2⟩ := wk_in hv hq hq2
        rw [e1, e2, idxP_K hq2]
        repeat first | refine nx ?_ | intro _
        refine gIf (fun c4 => absurd c4 (by simp)) fun c4 => ?_
        repeat first | refine nx ?_ | intro _
        exact gM
      · repeat first | refine nx ?_ | intro _
        rw [if_pos hv, if_pos hv]
        refine gIf (fun c3 => absurd c3 (by simp)) fun c3 => ?_
        repeat first | refine nx ?_ | intro _
        rename_i v10
        have hget := fun b (hb : b < (begS l).length) => trL_get (l := l) hb
        have hent := fun e (he : e ∈ l) n => begS_ent he n
        have hwk := fun e (he : e ∈ l) => wk_in (l := l) hv (q := e.ph) (by
          have := v2 e he
          exact phB_sub (m := 400) (p := e.ph) (q := e.ph) (by
            have h1 := phB_gd this.1
            unfold phB
            rw [Bool.and_eq_true, decide_eq_true_iff, Bool.not_eq_true', List.any_eq_false]
            refine ⟨by omega, fun y hy => ?_⟩
            have := h1.1 y hy
            unfold badP
            simp; omega) (fun x h => h) (Nat.le_refl _)) (by have := hent e he e.ph.length; rwa [List.take_length] at this)
        have hTl : (trL l).length = (begS l).length := hKl
        have hidx := fun q (h : q ∈ begS l) => idxK_mem h
        have hz : List.replicate (trL l).length fr0 = brL l (begS l) 0 := by rw [hTl]; exact brL_zero
        rw [hz]
        obtain ⟨K, hK⟩ : ∃ K, begS l = K := ⟨_, rfl⟩
        rw [hK] at hs1 hnd hTl
        simp only [hK] at htk hget hent hwk hidx
        rw [hK]
        refine gLp (fun n : Nat => [(11, iv n)]) (fun n => [rA rF 32 v10 (brL l K n)]) (fun n => n ≤ l.length) (fun n => l.length - n) 0 (Nat.zero_le _) (fun n hn => ?_)
        repeat first | refine nx ?_ | intro _
        refine gIf (fun c4 => ?_) fun c4 => ?_
        · have hen := getD_in en0 c4
          have hes := hem _ hen
          haveI : FtF (l.getD n en0).f := ⟨hes.2.2⟩
          have hbf := hes.2.1
          have hpk := hph _ hen
          obtain ⟨w1, w2⟩ := hwk _ hen
          have hek : (l.getD n en0).ph ∈ K := by have := hent _ hen (l.getD n en0).ph.length; rwa [List.take_length] at this
          obtain ⟨ha, haK⟩ := hidx _ hek
          have hga := hget _ ha
          have hsd2 : LxS l ∧ (l.getD n en0).ph.length ≤ 1000000 := ⟨hlx, by omega⟩
          have hs9 : ((trL l).getD (wkI l (l.getD n en0).ph).toNat nd0).ends_.length ≤ 1000000 := by have := (hst (wkI l (l.getD n en0).ph).toNat).1.1; omega
          repeat first | refine gDs 13 13 (by rfl) (by kernel_rfl) ?_ | refine nx ?_ | intro _
          rw [w1, w2]
          obtain ⟨a, hae⟩ : ∃ a, idxK K (l.getD n en0).ph = a := ⟨_, rfl⟩
          rw [hae] at ha haK hga
          rw [hae]
          have hhas : (((trL l).getD a nd0).ends_.any fun x => decide (x = (n : Int))) = true := by
            rw [hga]
            exact enN_has c4 haK.symm
          refine gIf (fun c5 => ?_) fun c5 => ?_
          · exfalso
            rcases c5 with ((c5 | c5) | c5) | c5
            · exact c5 rfl
            · omega
            · omega
            · rw [show ((a : Int)).toNat = a from rfl, hhas] at c5
              exact absurd c5 (by simp)
          · repeat first | refine nx ?_ | intro _
            have hat : (a : Int) = atN K (l.getD n en0).ph ((l.getD n en0).ph.length + 1 - 0) := by
              unfold atN
              rw [if_neg (by omega), Nat.sub_zero, Nat.add_sub_cancel, List.take_length, hae]
            rw [hat, ← brK_top (K := K) c4]
            refine gLp (fun j : Nat => [(14, iv j), (12, iv (atN K (l.getD n en0).ph ((l.getD n en0).ph.length + 1 - j)))]) (fun j => [rA rF 32 v10 (brK l K n ((l.getD n en0).ph.length + 1 - j))]) (fun j => j ≤ (l.getD n en0).ph.length + 1) (fun j => (l.getD n en0).ph.length + 1 - j) 0 (Nat.zero_le _) (fun j hj => ?_)
            have hlen2 : (l.getD n en0).ph.length ≤ 1000000 := by omega
            repeat first | refine nx ?_ | intro _
            refine gIf (fun c6 => ?_) fun c6 => ?_
            · have c61 : j ≤ (l.getD n en0).ph.length := c6.1.1
              obtain ⟨d, hd⟩ : ∃ d, (l.getD n en0).ph.length + 1 - j = d + 1 := ⟨(l.getD n en0).ph.length - j, by omega⟩
              have hd2 : (l.getD n en0).ph.length + 1 - (j + 1) = d := by omega
              have hdl : d ≤ (l.getD n en0).ph.length := by omega
              rw [hd]
              obtain ⟨hb, hbK⟩ := hidx _ (hent _ hen d)
              have e1 : atN K (l.getD n en0).ph (d + 1) = ((idxK K ((l.getD n en0).ph.take d) : Nat) : Int) := by
                unfold atN
                rw [if_neg (by omega), Nat.add_sub_cancel]
              rw [e1]
              have hgb := hget _ hb
              generalize idxK K ((l.getD n en0).ph.take d) = b at hb hbK hgb
              have hup := atN_up (K := K) hdl hb hbK htk
              have hkl : (brK l K n (d + 1)).length = K.length := brK_len
              have hka := brK_at (l := l) (n := n) (c := d + 1) hb
              have hbl2 : (K.getD b []).length = d := by rw [hbK, List.length_take]; omega
              have e2 : brC l (K.getD b []) n (d + 1) = brN l (K.getD b []) n := if_neg (by omega)
              rw [e2] at hka
              obtain ⟨f1, f2⟩ := brN_ok hem (K.getD b []) n
              haveI : FtF ((brK l K n (d + 1)).getD b fr0) := by rw [hka]; exact ⟨f1⟩
              have hbb : bf ((brK l K n (d + 1)).getD b fr0) ≤ 1000 := by rw [hka]; exact f2
              have hstep := brK_step hnd c4 hdl hb hbK
              have hbs := brN_succ (p := K.getD b []) c4
              have hpar : ((trL l).getD b nd0).parent = atN K (l.getD n en0).ph d := by rw [hgb]; exact hup
              repeat first | refine gDs 12 12 (by rfl) (by kernel_rfl) ?_ | refine nx ?_ | intro _
              refine gIf (fun c7 => ?_) fun c7 => ?_
              · rw [hka] at c7
                have hf : brN l (K.getD b []) (n + 1) = (l.getD n en0).f := by
                  rw [hbs]
                  exact if_pos ⟨by rw [hbl2]; exact hbK.symm, c7⟩
                rw [hf] at hstep
                repeat first | refine nx ?_ | intro _
                rw [hpar, hstep, ← hd2]
                exact gBk (j + 1) (by omega) (by omega)
              · rw [hka] at c7
                have hf : brN l (K.getD b []) (n + 1) = brN l (K.getD b []) n := by
                  rw [hbs]
                  exact if_neg fun x => c7 x.2
                have hse : (brK l K n (d + 1)).set b ((brK l K n (d + 1)).getD b fr0) = brK l K n (d + 1) := set_self (by omega)
                rw [hka, ← hf, hstep] at hse
                repeat first | refine nx ?_ | intro _
                rw [hpar, ← hse, ← hd2]
                exact gBk (j + 1) (by omega) (by omega)
            · have hje : j = (l.getD n en0).ph.length + 1 := by
                rcases Nat.lt_or_ge (l.getD n en0).ph.length j with h | h
                · omega
                · exfalso
                  apply c6
                  have e1 : atN K (l.getD n en0).ph ((l.getD n en0).ph.length + 1 - j) = ((idxK K ((l.getD n en0).ph.take ((l.getD n en0).ph.length - j)) : Nat) : Int) := by
                    unfold atN
                    rw [if_neg (by omega), show (l.getD n en0).ph.length + 1 - j - 1 = (l.getD n en0).ph.length - j by omega]
                  have hb := (hidx _ (hent _ hen ((l.getD n en0).ph.length - j))).1
                  rw [e1]
                  exact ⟨⟨h, Int.natCast_nonneg _⟩, by omega⟩
              rw [hje, Nat.sub_self, brK_end]
              have e1 : atN K (l.getD n en0).ph 0 = -1 := if_pos rfl
              rw [e1]
              repeat first | refine nx ?_ | intro _
              refine gIf (fun c7 => absurd c7 (by simp)) fun c7 => ?_
              repeat first | refine nx ?_ | intro _
              exact gBk (n + 1) (by omega) (by omega)
        · have en : n = l.length := by omega
          subst en
          have hbl : (brL l K l.length).length = K.length := brL_len
          repeat first | refine nx ?_ | intro _
          refine gLp (fun k : Nat => [(15, iv k)]) (fun _ => []) (fun k => k ≤ (trL l).length) (fun k => (trL l).length - k) 0 (Nat.zero_le _) (fun k hk => ?_)
          obtain ⟨⟨a1, a2⟩, a3⟩ := hst k
          haveI : FtF ((trL l).getD k nd0).f := ⟨a3⟩
          repeat first | refine nx ?_ | intro _
          refine gIf (fun c5 => ?_) fun c5 => ?_
          · have hkK : k < K.length := by omega
            have hka := brL_at (l := l) (n := l.length) hkK
            obtain ⟨f1, f2⟩ := brN_ok hem (K.getD k []) l.length
            haveI : FtF ((brL l K l.length).getD k fr0) := by rw [hka]; exact ⟨f1⟩
            have hbb : bf ((brL l K l.length).getD k fr0) ≤ 1000 := by rw [hka]; exact f2
            have hgk := hget _ hkK
            have hse : ((brL l K l.length).getD k fr0).rat = ((trL l).getD k nd0).f.rat := by
              rw [hka, hgk]
              exact brN_rat l (K.getD k []) l.length
            repeat first | refine gDs 11 11 (by rfl) (by kernel_rfl) ?_ | refine nx ?_ | intro _
            rw [hse, Rat.sub_self]
            refine gIf (fun c7 => absurd c7 (by decide)) fun c7 => ?_
            repeat first | refine nx ?_ | intro _
            exact gBk (k + 1) (by omega) (by omega)
          · repeat first | refine nx ?_ | intro _
            trivial
end Go.E3
