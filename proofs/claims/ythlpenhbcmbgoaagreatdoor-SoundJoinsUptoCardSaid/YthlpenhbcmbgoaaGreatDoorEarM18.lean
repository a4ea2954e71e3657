/- EarM18: a part of the proofs about what is clipped and stored: how the program's functions run, and what they compute, for every input. -/
import Derived.Test.YthlpenhbcmbgoaaGreatDoorEarM17
import Derived.Test.YthlpenhbcmbgoaaGreatDoorK6
set_option linter.all false
set_option linter.unusedVariables false
set_option maxHeartbeats 4000000
namespace Go.E3
open Go Go.Ear
structure Ch3 where
  d1 : Nat
  T1 : Value → Res
section
variable (P : Program) (n : Nat) (X : Fix) (ms : List Nat) (env : EL) (ol : List Oper) (B : List Res) (k : Kt) (p r a s m : Nat) (c : Ch3) (fr : FrW)
def EvC (L : EL) (i : Nat) (o : Oper) : Option (Nat × SV) → Prop
  | some q => (i ≠ p ∧ i ≠ a ∧ i ≠ s) ∧ o.dst = some q.1 ∧ ((i ≠ r ∧ TriP P n X env B ol L o q.1 q.2) ∨
      (i = r ∧ ∀ F v, TriV P n X env (c.T1 v :: F) ol ((c.d1, ov v) :: L) o (some (q.1, fun _ => q.2)) (fun _ => F)))
  | none => (i = p ∧ i ≠ a ∧ i ≠ s ∧ i ≠ r ∧ o.dst = some c.d1 ∧ ∀ F, TriV P n X env F ol L o (some (c.d1, fun v => ov v)) (fun v => c.T1 v :: F)) ∨
    (i = a ∧ i ≠ p ∧ i ≠ s ∧ i ≠ r ∧ o.dst = some fr.d ∧ TriN P n X env B ol L o fr.d fr.S fr.T) ∨
    (i = s ∧ i ≠ p ∧ i ≠ a ∧ i ≠ r ∧ o.dst = none ∧ (∀ γ, (fr.T γ).bor = false) ∧ ∀ γ, TriS P n X env B ol ((fr.d, fr.S γ) :: L) o γ fr.T fr.T')
inductive GC3 : EL → Nat → List Oper → Prop
  | pure {L i o rest} (q : Nat × SV) (h : EvC P n X env ol B p r a s c fr L i o (some q)) (g : GC3 (q :: L) (i + 1) rest) : GC3 L i (o :: rest)
  | ev {L i o rest} (h : EvC P n X env ol B p r a s c fr L i o none) (g : GC3 L (i + 1) rest) : GC3 L i (o :: rest)
  | fin {L rest} (g : ∀ γ, GO P n X ms ((fr.d, fr.S γ) :: L) env (fr.T' γ :: B) ol rest k) : GC3 L m rest
open Classical in
noncomputable def bK (D : Nat → Prop) (ρ : Env) : List Res := if D r then [] else if D p then [c.T1 (ρ c.d1)] else []
end
section
variable {P : Program} {n : Nat} {X : Fix} {ms : List Nat} {env : EL} {ol : List Oper} {B : List Res} {k : Kt} {p r a s m : Nat} {c : Ch3} {fr : FrW}
theorem GC3.sem {L : EL} {i : Nat} {rest : List Oper} (g : GC3 P n X ms env ol B k p r a s m c fr L i rest) :
    ∃ res : List (Option (Nat × SV)), i + res.length = m ∧ res.length ≤ rest.length ∧ (∀ j e, res[j]? = some e → ∃ o, rest[j]? = some o ∧ EvC P n X env ol B p r a s c fr (lcs (res.take j) ++ L) (i + j) o e) ∧ ∀ γ, GO P n X ms ((fr.d, fr.S γ) :: (lcs res ++ L)) env (fr.T' γ :: B) ol (rest.drop res.length) k := by
  induction g with
  | @pure L i o rest q h g ih =>
    obtain ⟨res, e, hle, hr, hg⟩ := ih
    refine ⟨some q :: res, by simp only [List.length_cons]; omega, by simp only [List.length_cons]; omega, fun j e hj => ?_, by rw [lcs_some]; simpa using hg⟩
    cases j with
    | zero => have hj : some q = e := by simpa using hj
              subst hj
              exact ⟨o, rfl, by simpa [lcs] using h⟩
    | succ j =>
      obtain ⟨o', x, y⟩ := hr j e (by simpa using hj)
      refine ⟨o', by simpa using x, ?_⟩
      rw [List.take_succ_cons, lcs_some, show i + (j + 1) = i + 1 + j by omega]; exact y
  | @ev L i o rest h g ih =>
    obtain ⟨res, e, hle, hr, hg⟩ := ih
    refine ⟨none :: res, by simp only [List.length_cons]; omega, by simp only [List.length_cons]; omega, fun j e hj => ?_, by rw [lcs_none]; simpa using hg⟩
    cases j with
    | zero => have hj : none = e := by simpa using hj
              subst hj
              exact ⟨o, rfl, by simpa [lcs] using h⟩
    | succ j =>
      obtain ⟨o', x, y⟩ := hr j e (by simpa using hj)
      refine ⟨o', by simpa using x, ?_⟩
      rw [List.take_succ_cons, lcs_none, show i + (j + 1) = i + 1 + j by omega]; exact y
  | @fin L rest g => exact ⟨[], by simp, by simp, fun j e hj => by simp at hj, by simpa [lcs] using g⟩
theorem kdrop {w0 : World} {h : PH} {w : World} {D : Nat → Prop} {ρ : Env} {Bx : List Res} (o : OwnB w0 (bK p r c D ρ ++ Bx) h w) : OwnB w0 Bx h w := by
  unfold bK at o
  split at o
  · exact o
  · split at o
    · exact o.2.2.2
    · exact o
theorem c3_sound {loc : EL} {idn : Nat} (hmix : P.follows .mixedOrders = true) (hc : dagC ol m (env.map (·.1)) = true) (hnd : ol.all noDefer = true) (hpm : p < m) (hrm : r < m) (ham : a < m) (hsm : s < m) (hpr : p ≠ r)
    (hrp : reach ol 9 r p = true) (hsa : reach ol 9 s a = true) (g : GC3 P n X ms env ol B k p r a s m c fr [] 0 ol) : GW P n X ms loc env B (.region idn ol.toArray true) k := ⟨fun ρ0 h1 wi si => by
  obtain ⟨res, hm0, hlen, hr, hend⟩ := g.sem
  rw [Nat.zero_add] at hm0
  have hr : ∀ j e, res[j]? = some e → ∃ o, ol[j]? = some o ∧ EvC P n X env ol B p r a s c fr (lcs (res.take j) ++ []) j o e := fun j e hj => by have := hr j e hj; rwa [Nat.zero_add] at this
  unfold dagC at hc
  simp only [Bool.and_eq_true] at hc
  obtain ⟨⟨hok, hall⟩, htl⟩ := hc
  have hall := fun i (hi : i < m) => by have := List.all_eq_true.1 hall i (List.mem_range.2 hi); rw [Bool.and_eq_true, Bool.not_eq_true'] at this; exact this
  have htl := fun i (o : Oper) (ho : ol[i]? = some o) => by
    have := List.all_eq_true.1 htl i (List.mem_range.2 (List.getElem?_eq_some_iff.1 ho).1)
    rw [Bool.and_eq_true, opA_eq ho] at this; exact this
  have F := okR_facts hok
  have hat : ∀ i, i < m → ∃ e, res[i]? = some e := fun i hi => ⟨_, List.getElem?_eq_getElem (by omega)⟩
  have hA : ∃ o, ol[a]? = some o ∧ o.dst = some fr.d := by
    obtain ⟨e, he⟩ := hat a ham
    obtain ⟨o, ho, ev⟩ := hr a e he
    cases e with
    | some q => exact absurd rfl ev.1.2.1
    | none =>
      rcases ev with ⟨_, h, _⟩ | ⟨_, _, _, _, h, _⟩ | ⟨_, _, h, _⟩
      · exact absurd rfl h
      · exact ⟨o, ho, h⟩
      · exact absurd rfl h
  obtain ⟨oa, hoa, hda⟩ := hA
  have hP : ∃ o, ol[p]? = some o ∧ o.dst = some c.d1 := by
    obtain ⟨e, he⟩ := hat p hpm
    obtain ⟨o, ho, ev⟩ := hr p e he
    cases e with
    | some q => exact absurd rfl ev.1.1
    | none =>
      rcases ev with ⟨_, _, _, _, h, _⟩ | ⟨_, h, _⟩ | ⟨_, h, _⟩
      · exact ⟨o, ho, h⟩
      · exact absurd rfl h
      · exact absurd rfl h
  obtain ⟨op, hop, hod1⟩ := hP
  have hne : ∀ (i j : Nat) (o o' : Oper) (d : Nat), i ≠ j → ol[i]? = some o → ol[j]? = some o' → o.dst = some d → o'.dst ≠ some d := fun i j o o' d hij ho ho' hd hd' => by
    rcases Nat.lt_or_ge i j with a | a
    · exact (F j o' d ho' hd').2.2 i o a ho hd
    · exact (F i o d ho hd).2.2 j o' (by omega) ho' hd'
  have henv : ∀ i o, i < m → ol[i]? = some o → ∀ t S, (t, S) ∈ env → o.dst ≠ some t := fun i o hi ho t S ht e => by
    have a := hall i hi
    rw [opA_eq ho, e] at a
    have := a.1
    simp only at this
    rw [← Bool.not_eq_true, memN_iff] at this
    exact this (List.mem_map.2 ⟨_, ht, rfl⟩)
  refine WT.draw (K := fun ρ w => run X.c.round P X.T k .normal (mkX X.c n ρ) w) hnd ?_ fun _ _ x => x
  intro t
  unfold Region.schedule Region.linearise
  rw [hmix]
  simp only [Bool.true_or, if_true]
  generalize hw1 : ({ wi with drawn := _ } : World) = w1
  have sy0 : Sy X.h0 X.w0 loc env B ρ0 h1 w1 := by
    subst hw1
    exact si.grow ((Gr.refl si.gr.sat).drew _ (Nat.le_succ _))
  obtain ⟨ls, hl, hwp⟩ := lin_inv (P := P) (n := n) (m := m) (ops := ol.toArray) (Q := onlyN fun ρ w => run X.c.round P X.T k .normal (mkX X.c n ρ) w) (fun D ρ w => ∃ (h : PH) (γ : Gh), (Gr X.h0 X.w0 h w ∧ h1.le h) ∧ OwnB X.w0 (bK p r c D ρ ++ (bF fr a s D γ ++ B)) h w ∧
      (∀ i q, D i → res[i]? = some (some q) → den h q.2 (ρ q.1)) ∧ (∀ s, (∀ k o, D k → ol[k]? = some o → o.dst ≠ some s) → ρ s = ρ0 s) ∧ (D p → den h (ov (ρ c.d1)) (ρ c.d1)) ∧ (D a → den h (fr.S γ) (ρ fr.d))) (by simpa [← hm0] using hlen)
    (fun i o ho j hj => by
      have := List.all_eq_true.1 (htl i o (by simpa using ho)).1 j hj
      rw [blt_eq] at this; exact of_decide_eq_true this)
    (fun i o ho hmi j hj => by
      have ho : ol[i]? = some o := by simpa using ho
      have := (htl i o ho).2
      rw [Nat.ble_eq_true_of_le hmi] at this
      have := List.all_eq_true.1 this j (List.mem_range.2 hj)
      obtain ⟨x, hx, hxx⟩ := List.any_eq_true.1 this
      have hx := List.mem_range.1 hx
      have hsz := (List.getElem?_eq_some_iff.1 ho).1
      have ho' : ol[i - x]? = some (ol[i - x]'(by omega)) := List.getElem?_eq_getElem (by omega)
      rw [opA_eq ho'] at hxx
      exact ⟨i - x, ol[i - x]'(by omega), by omega, by omega, by rw [List.getElem?_toArray]; exact ho', by simpa using hxx⟩)
    (by
      rintro D ρ w i o ho him hi hd hcl hD ⟨h, γ, hg, how, hF, hold, hxS, hxA⟩
      have ho : ol[i]? = some o := by simpa using ho
      have hcl : ∀ (k : Nat) (o : Oper), ol[k]? = some o → D k → ∀ j ∈ deps o, D j := fun k o hk => hcl k o (by simpa using hk)
      have hsa' : D s → D a := fun h => reach_D hcl hsa h
      have hrp' : D r → D p := fun h => reach_D hcl hrp h
      have howB : OwnB X.w0 B h w := zdrop (kdrop how)
      have fx0 : ∀ x ∈ looks ol o, ∀ t S, x = .tmp t → ((t, S) ∈ lcs (res.take i) ++ [] ∨ (t, S) ∈ env) → den h S (ρ t) := fun x hx t S hxt hmem => by
        subst hxt
        rcases hmem with hmem | hmem
        · rw [List.append_nil, List.mem_reverse, List.mem_filterMap] at hmem
          obtain ⟨qo, hqm, hent⟩ := hmem
          have hent : qo = some (t, S) := hent
          subst hent
          obtain ⟨j, hj⟩ := List.getElem?_of_mem hqm
          have hji : j < i := by
            rcases Nat.lt_or_ge j i with a | a
            · exact a
            · rw [List.getElem?_eq_none (by simp; omega)] at hj; cases hj
          rw [List.getElem?_take, if_pos hji] at hj
          obtain ⟨oj, hoj, _, hsj, _⟩ := hr j _ hj
          have hr2 := (hall i him).2
          unfold rdOk at hr2
          rw [opA_eq ho] at hr2
          have h2 := List.all_eq_true.1 hr2 _ hx
          simp only at h2
          have h3 := List.all_eq_true.1 h2 j (List.mem_range.2 hji)
          rw [opA_eq hoj, hsj] at h3
          simp only [beq_self, Bool.not_true, Bool.false_or] at h3
          exact hF j _ (hd j (by simpa using h3)) hj
        · rw [hold t fun k o' hk hok' => henv k o' (hD k hk) hok' t S hmem]
          exact (sy0.en.mem hmem).mono hg.2
      have sx : Sx X.h0 X.w0 (lcs (res.take i) ++ []) env B (looks ol o) ρ h w := ⟨hg.1, fx0, howB⟩
      obtain ⟨e, he⟩ := hat i him
      obtain ⟨o', ho', ev⟩ := hr i e he
      rw [ho] at ho'; cases ho'
      have hbk : ∀ ρ' : Env, i ≠ p → i ≠ r → ρ' c.d1 = ρ c.d1 → bK p r c (fun k => k = i ∨ D k) ρ' = bK p r c D ρ := fun ρ' hip hir hd => by
        unfold bK
        rw [hd]
        by_cases hDr : D r
        · rw [if_pos (.inr hDr), if_pos hDr]
        · rw [if_neg (fun x => x.elim (fun e => hir e.symm) hDr), if_neg hDr]
          by_cases hDp : D p
          · rw [if_pos (.inr hDp), if_pos hDp]
          · rw [if_neg (fun x => x.elim (fun e => hip e.symm) hDp), if_neg hDp]
      have hbf : i ≠ a → i ≠ s → bF fr a s (fun k => k = i ∨ D k) γ = bF fr a s D γ := fun hia his => by
        unfold bF
        by_cases hDa : D a
        · rw [if_pos (.inr hDa), if_pos hDa]
          by_cases hDs : D s
          · rw [if_pos (.inr hDs), if_pos hDs]
          · rw [if_neg (fun x => x.elim (fun e => his e.symm) hDs), if_neg hDs]
        · rw [if_neg (fun x => x.elim (fun e => hia e.symm) hDa), if_neg hDa]
      have hw1' : ∀ (d : Nat), i ≠ p → o.dst = some d → c.d1 ≠ d := fun d hip hod e => hne i p o op d hip ho hop hod (by rw [hod1, e])
      have hrs : ∀ (d : Nat) (v : Value) (h' : PH), h.le h' → o.dst = some d → (∀ j q, D j → res[j]? = some (some q) → den h' q.2 (upd ρ d v q.1)) ∧ (∀ sl, (∀ k o', (k = i ∨ D k) → ol[k]? = some o' → o'.dst ≠ some sl) → upd ρ d v sl = ρ0 sl) := fun d v h' hle hod => by
        refine ⟨fun j q hDj hq => ?_, fun sl hs' => ?_⟩
        · have hji : i ≠ j := fun e => hi (e ▸ hDj)
          obtain ⟨oj, hoj, _, hsj, _⟩ := hr j _ hq
          rw [upd_ne _ _ fun e => hne i j o oj d hji ho hoj hod (by rw [hsj, e])]
          exact (hF j q hDj hq).mono hle
        · rw [upd_ne _ _ fun e => hs' i o (.inl rfl) ho (by rw [e]; exact hod)]
          exact hold sl fun k o' hk hok' => hs' k o' (.inr hk) hok'
      have hda' : ∀ (d : Nat), i ≠ a → o.dst = some d → fr.d ≠ d := fun d hia hod e => hne i a o oa d hia ho hoa hod (by rw [hda, e])
      cases e with
      | some q =>
        obtain ⟨⟨hip, hia, his⟩, hdq, hTq⟩ := ev
        have e1 : ∀ v, upd ρ q.1 v c.d1 = ρ c.d1 := fun v => upd_ne ρ v (hw1' q.1 hip hdq)
        have fin : ∀ (v : Value) (h' : PH) (w' : World), Gr X.h0 X.w0 h' w' → h.le h' → den h' q.2 v → OwnB X.w0 (bK p r c (fun k => k = i ∨ D k) (upd ρ q.1 v) ++ (bF fr a s (fun k => k = i ∨ D k) γ ++ B)) h' w' → ∃ (h' : PH) (γ : Gh), (Gr X.h0 X.w0 h' w' ∧ h1.le h') ∧ OwnB X.w0 (bK p r c (fun k => k = i ∨ D k) (upd ρ q.1 v) ++ (bF fr a s (fun k => k = i ∨ D k) γ ++ B)) h' w' ∧
            (∀ j q', (j = i ∨ D j) → res[j]? = some (some q') → den h' q'.2 (upd ρ q.1 v q'.1)) ∧ (∀ s, (∀ k o, (k = i ∨ D k) → ol[k]? = some o → o.dst ≠ some s) → upd ρ q.1 v s = ρ0 s) ∧ ((p = i ∨ D p) → den h' (ov (upd ρ q.1 v c.d1)) (upd ρ q.1 v c.d1)) ∧ ((a = i ∨ D a) → den h' (fr.S γ) (upd ρ q.1 v fr.d)) := fun v h' w' hgr hle hv hob => by
          obtain ⟨r1, r2⟩ := hrs q.1 v h' hle hdq
          refine ⟨h', γ, ⟨hgr, hg.2.trans hle⟩, hob, fun j q' hj hq' => ?_, r2, fun hDp => ?_, fun hDa => ?_⟩
          · by_cases hji : j = i
            · subst hji; rw [he] at hq'; cases hq'; rw [upd_at]; exact hv
            · exact r1 j q' (hj.resolve_left hji) hq'
          · rw [e1]; exact (hxS (hDp.resolve_left fun e => hip e.symm)).mono hle
          · rw [upd_ne _ _ (hda' q.1 hia hdq)]
            exact (hxA (hDa.resolve_left fun e => hia e.symm)).mono hle
        rcases hTq with ⟨hir, hT⟩ | ⟨rfl, hT⟩
        · refine (hT ρ h w sx).mono ?_
          rintro ρ' w' ⟨v, h', rfl, gr, hv⟩
          refine fin v h' w' (hg.1.trans gr) gr.le hv ?_
          rw [hbk _ hip hir (e1 v), hbf hia his]
          exact how.grow gr
        · have hDp : D p := reach_of_deps hcl ho hd hrp
          have hb1 : bK p i c D ρ = [c.T1 (ρ c.d1)] := by unfold bK; rw [if_neg hi, if_pos hDp]
          have hb2 : ∀ v, bK p i c (fun k => k = i ∨ D k) (upd ρ q.1 v) = [] := fun v => if_pos (Or.inl rfl)
          rw [hb1] at how
          refine (hT (bF fr a s D γ ++ B) (ρ c.d1) ρ h w ⟨hg.1, fun x hx t S hxt hmem => ?_, how⟩).mono ?_
          · rcases hmem with hmem | hmem
            · rcases List.mem_cons.1 hmem with e | hmem
              · cases e; exact hxS hDp
              · exact fx0 x hx t S hxt (.inl hmem)
            · exact fx0 x hx t S hxt (.inr hmem)
          rintro ρ' w' ⟨v, h', ⟨rfl, hv⟩, hgr, hle, _, _, hob⟩
          refine fin v h' w' hgr hle hv ?_
          rw [hb2, hbf hia his]; exact hob
      | none =>
        rcases ev with ⟨rfl, hia, his, hir, hdq, hT⟩ | ⟨rfl, hip, his, hir, hdq, hT⟩ | ⟨rfl, hip, hia, hir, hdq, hnb, hT⟩
        · -- the list is made
          have hDr : ¬ D r := fun x => hi (hrp' x)
          have hb1 : bK i r c D ρ = [] := by unfold bK; rw [if_neg hDr, if_neg hi]
          rw [hb1] at how
          refine (hT (bF fr a s D γ ++ B) ρ h w ⟨hg.1, fx0, how⟩).mono ?_
          rintro ρ' w' ⟨v, h', ⟨rfl, hv⟩, hgr, hle, _, _, hob⟩
          obtain ⟨r1, r2⟩ := hrs c.d1 v h' hle hdq
          have hb2 : bK i r c (fun k => k = i ∨ D k) (upd ρ c.d1 v) = [c.T1 v] := by
            unfold bK
            rw [if_neg (fun x => x.elim (fun e => hir e.symm) hDr), if_pos (Or.inl rfl), upd_at]
          refine ⟨h', γ, ⟨hgr, hg.2.trans hle⟩, (by rw [hb2, hbf hia his]; exact hob), fun j q hj hq => ?_, r2, fun _ => ?_, fun hDa => ?_⟩
          · have hji : j ≠ i := fun e => by rw [e, he] at hq; cases hq
            exact r1 j q (hj.resolve_left hji) hq
          · rw [upd_at]; exact hv
          · rw [upd_ne _ _ (hda' c.d1 hia hdq)]
            exact (hxA (hDa.resolve_left fun e => hia e.symm)).mono hle
        · -- the variable is made
          have hDs : ¬ D s := fun x => hi (hsa' x)
          have hb : bF fr i s D γ = [] := by unfold bF; rw [if_neg hi]
          rw [hb] at how
          refine (hT ρ h w sx).mono ?_
          rintro ρ' w' ⟨v, gl, h', rfl, gr, hv, hpr, hfp⟩
          obtain ⟨r1, r2⟩ := hrs fr.d v h' gr.le hdq
          have e1 := upd_ne ρ v (hw1' fr.d hip hdq)
          have hb2 : bF fr i s (fun k => k = i ∨ D k) ⟨v, gl⟩ = [fr.T ⟨v, gl⟩] := by
            unfold bF; rw [if_pos (Or.inl rfl), if_neg (fun x => x.elim (fun e => his e.symm) hDs)]
          refine ⟨h', ⟨v, gl⟩, ⟨hg.1.trans gr, hg.2.trans gr.le⟩, (by
            rw [hbk _ hip hir e1, hb2]
            exact (OwnB.new how gr hg.1.ext.size hpr hfp).perm List.perm_middle.symm), fun j q hj hq => ?_, r2, fun hDp => ?_, fun _ => ?_⟩
          · have hji : j ≠ i := fun e => by rw [e, he] at hq; cases hq
            exact r1 j q (hj.resolve_left hji) hq
          · rw [e1]; exact (hxS (hDp.resolve_left fun e => hip e.symm)).mono gr.le
          · rw [upd_at]; exact hv
        · -- it is filled
          have hDa : D a := reach_of_deps hcl ho hd hsa
          have hb : bF fr a i D γ = [fr.T γ] := by unfold bF; rw [if_pos hDa, if_neg hi]
          rw [hb] at how
          have how2 : OwnB X.w0 (fr.T γ :: (bK p r c D ρ ++ B)) h w := how.perm List.perm_middle
          have sx2 : Sx X.h0 X.w0 ((fr.d, fr.S γ) :: (lcs (res.take i) ++ [])) env B (looks ol o) ρ h w := ⟨hg.1, fun x hx t S hxt hmem => by
            rcases hmem with hmem | hmem
            · rcases List.mem_cons.1 hmem with e | hmem
              · cases e; exact hxA hDa
              · exact fx0 x hx t S hxt (.inl hmem)
            · exact fx0 x hx t S hxt (.inr hmem), howB⟩
          refine (hT γ ρ h w sx2 how2.1).mono ?_
          rintro ρ' w' ⟨rfl, b, ob, pt, hb1, hpr, hfp⟩
          have s2 := own_put (r' := fr.T' γ) (loc := []) (env := []) (ρ := ρ') (hnb γ) ⟨hg.1, trivial, trivial, how2⟩ pt hpr hb1 hfp
          have hb2 : bF fr a i (fun k => k = i ∨ D k) γ = [fr.T' γ] := by
            unfold bF; rw [if_pos (Or.inr hDa), if_pos (Or.inl rfl)]
          refine ⟨h, γ, ⟨s2.gr, hg.2⟩, (by rw [hbk _ hip hir rfl, hb2]; exact s2.ow.perm List.perm_middle.symm), fun j q hj hq => ?_, fun sl hs' => hold sl fun k o' hk hok' => hs' k o' (.inr hk) hok', fun hDp => hxS (hDp.resolve_left fun e => hip e.symm), fun _ => hxA hDa⟩
          have hji : j ≠ i := fun e => by rw [e, he] at hq; cases hq
          exact hF j q (hj.resolve_left hji) hq)
    (by
      rintro D D' ρ w hDD ⟨h, γ, a, b, c, d, e⟩
      have : D = D' := funext fun k => propext (hDD k)
      subst this
      exact ⟨h, γ, a, b, c, d, e⟩)
    (by
      rintro D ρ w hall2 hD ⟨h, γ, hg, how, hF, hold, hxS, hxA⟩
      have hDa := hall2 a ham
      have hDs := hall2 s hsm
      have hDr := hall2 r hrm
      have hb : bF fr a s D γ = [fr.T' γ] := by unfold bF; rw [if_pos hDa, if_pos hDs]
      have hb2 : bK p r c D ρ = [] := if_pos hDr
      rw [hb, hb2] at how
      have hlo : ∀ l : List (Option (Nat × SV)), (∀ q, some q ∈ l → den h q.2 (ρ q.1)) → EnvOk h ρ (l.filterMap id) := fun l => by
        induction l with
        | nil => exact fun _ => trivial
        | cons q l ih =>
          cases q with
          | none => exact fun a => by simpa using ih fun q hq => a q (List.mem_cons_of_mem _ hq)
          | some q =>
            intro a
            show EnvOk h ρ (q :: l.filterMap id)
            exact ⟨a q (List.mem_cons_self ..), ih fun q hq => a q (List.mem_cons_of_mem _ hq)⟩
      have hloc : EnvOk h ρ (lcs res ++ []) := by
        rw [List.append_nil]
        have : lcs res = (res.reverse.filterMap id) := by rw [List.filterMap_reverse]
        rw [this]
        refine hlo _ fun q hq => ?_
        obtain ⟨i, hi⟩ := List.getElem?_of_mem (List.mem_reverse.1 hq)
        have him : i < m := by rw [← hm0]; exact (List.getElem?_eq_some_iff.1 hi).1
        exact hF i q (hall2 i him) hi
      have hen : EnvOk h ρ env := (sy0.en.mono hg.2).ext fun p hp => (hold p.1 fun k o' hk hok' => henv k o' (hD k hk) hok' p.1 p.2 hp).symm
      have hds : ∀ (ex : List Nat), (∀ e ∈ ex, ∃ j o, j < m ∧ ol[j]? = some o ∧ o.dst = some e) → okR (ol.drop m) (ex ++ (lcs res).map (·.1)) (env.map (·.1)) = true := fun ex hex =>
        okR_tail hok (fun e he => by
          rcases List.mem_append.1 he with x | x
          · exact hex e x
          · obtain ⟨q, hq, rfl⟩ := List.mem_map.1 x
            rw [List.mem_reverse, List.mem_filterMap] at hq
            obtain ⟨qo, hqm, hq2⟩ := hq
            have hq2 : qo = some q := hq2
            subst hq2
            obtain ⟨j, hj⟩ := List.getElem?_of_mem hqm
            obtain ⟨o, ho, _, hod, _⟩ := hr j _ hj
            exact ⟨j, o, by rw [← hm0]; exact (List.getElem?_eq_some_iff.1 hj).1, ho, hod⟩)
      have close : ∀ {L : EL} {Bx : List Res}, GO P n X ms L env Bx ol (ol.drop res.length) k → okR (ol.drop m) (L.map (·.1)) (env.map (·.1)) = true → EnvOk h ρ L → OwnB X.w0 Bx h w → wpOps P ol.toArray (toQ n (onlyN fun ρ w => run X.c.round P X.T k .normal (mkX X.c n ρ) w)) (List.range' m (ol.toArray.size - m)) (mk n ρ) w := fun {L Bx} hgo hk hL hB => by
        have hG := hgo.p (by rw [hm0]; exact hk) ρ h w ⟨hg.1, hL, hen, hB⟩
        rw [hm0] at hG
        have := wpList_of_Ops (Q := onlyN fun ρ w => run X.c.round P X.T k .normal (mkX X.c n ρ) w) (fun _ _ h => h) (ol.drop m) ρ w hG
        rw [← wpOps_eq_wpList (ol.drop m) m (by intro j; simp)] at this
        simpa using this
      have exa : ∃ j o, j < m ∧ ol[j]? = some o ∧ o.dst = some fr.d := ⟨a, oa, ham, hoa, hda⟩
      refine close (hend γ) ?_ ⟨hxA hDa, hloc⟩ how
      have := hds [fr.d] fun e he => by rcases List.mem_singleton.1 he with rfl; exact exa
      simpa using this)
    ol.toArray.size t (Array.replicate ol.toArray.size false) [] (by simp) (by intro i o ho hi; simp [Array.getElem?_replicate] at hi) (by intro i hi; simp [Array.getElem?_replicate] at hi)
    (by unfold left; exact Nat.le_trans (List.length_filter_le _ _) (by simp))
  rw [hl]
  simp only [List.reverse_nil, List.nil_append]
  have hD0 : ∀ i, ¬ (Array.replicate ol.toArray.size false)[i]? = some true := fun i => by rw [Array.getElem?_replicate]; split <;> simp
  refine hwp ρ0 w1 ⟨h1, ⟨undef, []⟩, ⟨sy0.gr, PH.le.refl h1⟩, by
    have e1 : bF fr a s (fun i => (Array.replicate ol.toArray.size false)[i]? = some true) ⟨undef, []⟩ = [] := if_neg (hD0 a)
    have e2 : bK p r c (fun i => (Array.replicate ol.toArray.size false)[i]? = some true) ρ0 = [] := by
      unfold bK
      rw [if_neg (hD0 r), if_neg (hD0 p)]
    rw [e1, e2]; exact sy0.ow, (fun i q hi => absurd hi (hD0 i)), fun _ _ => rfl, fun h => absurd h (hD0 p), fun h => absurd h (hD0 a)⟩⟩
theorem gKs (sz p r a s m : Nat) (c : Ch3) (fr : FrW) {idn : Nat} {loc : EL} [mx : MixO P] (hs : Nat.beq ol.length sz = true) (cc : (dagC ol m (env.map (·.1)) && ol.all noDefer && Nat.blt p m && Nat.blt r m && Nat.blt a m && Nat.blt s m && Nat.blt p r && reach ol 9 r p && reach ol 9 s a) = true) (g : GC3 P n X ms env ol B k p r a s m c fr [] 0 ol) : GW P n X ms loc env B (.region idn ol.toArray true) k := by
  simp only [Bool.and_eq_true] at cc
  obtain ⟨⟨⟨⟨⟨⟨⟨⟨c1, c2⟩, c3⟩, c4⟩, c5⟩, c6⟩, c7⟩, c8⟩, c9⟩ := cc
  exact c3_sound mx.h c1 c2 (ltZ c3) (ltZ c4) (ltZ c5) (ltZ c6) (Nat.ne_of_lt (ltZ c7)) c8 c9 g
section
variable {L loc : EL} {i d : Nat} {op : Op} {t e et : TypeId} {ty : TypeId} {pos : String} {af : Array Edge} {rest : List Oper} {sd : Prop} {S : SV} {l l' cs : List SV} {T' : Gh → Res} {o2 : Operand}
instance [e1 : RflE (Nat.beq i p) false] [e2 : RflE (Nat.beq i r) false] [e3 : RflE (Nat.beq i a) false] [e4 : RflE (Nat.beq i s) false] [st : St P n true L env B ms d op sd S] : Nx (GC3 P n X ms env ol B k p r a s m c fr L i (⟨some d, op, ty, pos, af, none⟩ :: rest)) sd (GC3 P n X ms env ol B k p r a s m c fr ((d, S) :: L) (i + 1) rest) := ⟨fun hs g => .pure (d, S) ⟨⟨neZ e1.h, neZ e3.h, neZ e4.h⟩, rfl, .inl ⟨neZ e2.h, triQ (st := st) hs⟩⟩ g⟩
theorem gKn {α : Type} {q : Rp α} {bb : Nat} {d0 : α} {l : List α} {o2 : Operand} [e2 : RflE (Nat.beq i r) false] [e3 : RflE (Nat.beq i a) false] [e4 : RflE (Nat.beq i s) false] [ts : TS P t e] [rt : RT P e α q bb d0] [ly : Lu n true L env o2 (lv q l)] (hp : i = p) (hs : l.length ≤ 9223372036854775807 ∧ l.length * bb ≤ 140737488355328)
    (g : GC3 P n X ms env ol B k p r a s m ⟨d, fun v => rA q e v l⟩ fr L (i + 1) rest) : GC3 P n X ms env ol B k p r a s m ⟨d, fun v => rA q e v l⟩ fr L i (⟨some d, .call ⟨.builtin .append, [.const (.slice none 0 0), o2].toArray, [t, t].toArray⟩, ty, pos, af, none⟩ :: rest) := .ev (.inl ⟨hp, neZ e3.h, neZ e4.h, neZ e2.h, rfl, fun F ρ h w s => by
  obtain ⟨z, ti, el, hz⟩ := rt.e
  have s' : Sx X.h0 X.w0 L env F [o2] ρ h w := s.sub (fun x hx => by
    have := List.mem_singleton.1 hx
    subst this
    simp [looks, Op.operands, Call.operands]) fun _ h => h
  have hy := ly.h rfl (s'.fx o2 (by simp))
  have ow0 : OwnB X.w0 (rA q e (.slice none 0 0) [] :: F) h w := ⟨OwnL.nil q 0 h w e, (fun i hi => by cases hi), (fun r' hr' i hi => by cases hi), s.ow⟩
  refine OpG.plain (OpW.appendL (lo := 0) (v := .slice none 0 0) (l := []) ts.h el.hi el.hz el.hc el.hk s.gr.sat (Nat.zero_le _) rfl rfl (OwnL.nil ..) hy (by simpa using hs.1) (by rw [el.hb]; simpa using hs.2) fun v' w' own ow hbl => ?_)
  rw [List.nil_append] at own
  have sy := own_app (loc := []) (env := []) (ρ := ρ) ⟨s.gr, trivial, trivial, ow0⟩ own ow hbl
  exact ⟨v', h, ⟨rfl, rfl, own_one own⟩, sy.gr, PH.le.refl h, (fun e => by cases e), (fun e => by cases e), sy.ow⟩⟩) g
theorem gKb {α : Type} {q : Rp α} {bb : Nat} {d0 : α} {l l' : List α} {d1 : Nat} {o1 o2 : Operand} [e1 : RflE (Nat.beq i p) false] [e3 : RflE (Nat.beq i a) false] [e4 : RflE (Nat.beq i s) false] [ts : TS P t e] [rt : RT P e α q bb d0] [lx : ∀ v, Lu n true ((d1, ov v) :: L) env o1 (ov v)] [ly : ∀ v, Lu n true ((d1, ov v) :: L) env o2 (lv q l')] (hp : i = r) (hs : l.length + l'.length ≤ 9223372036854775807 ∧ (l.length + l'.length) * bb ≤ 140737488355328) (g : GC3 P n X ms env ol B k p r a s m ⟨d1, fun v => rA q e v l⟩ fr ((d, lv q (l ++ l')) :: L) (i + 1) rest) :
    GC3 P n X ms env ol B k p r a s m ⟨d1, fun v => rA q e v l⟩ fr L i (⟨some d, .call ⟨.builtin .append, [o1, o2].toArray, [t, t].toArray⟩, ty, pos, af, none⟩ :: rest) := .pure (d, lv q (l ++ l')) ⟨⟨neZ e1.h, neZ e3.h, neZ e4.h⟩, rfl, .inr ⟨hp, fun F v ρ h w s => by
  obtain ⟨z, ti, el, hz⟩ := rt.e
  have s' : Sx X.h0 X.w0 ((d1, ov v) :: L) env (rA q e v l :: F) [o1, o2] ρ h w := s.sub (fun x hx => by simpa [looks, Op.operands, Call.operands] using hx) fun _ h => h
  have hx := (lx v).h rfl (s'.fx o1 (by simp))
  have hy := (ly v).h rfl (s'.fx o2 (by simp))
  refine OpG.plain (OpW.appendL (lo := 0) ts.h el.hi el.hz el.hc el.hk s.gr.sat (Nat.zero_le _) hx.1 rfl (s.ow.at 0 rfl).1 hy hs.1 (by rw [el.hb]; exact hs.2) fun v' w' own ow hbl => ?_)
  have sy := own_app (loc := []) (env := []) (ρ := ρ) ⟨s.gr, trivial, trivial, s.ow⟩ own ow hbl
  obtain ⟨h', g', le, z', o'⟩ := OwnB.freeze (j := 0) sy.gr sy.ow rfl
  exact ⟨v', h', ⟨rfl, z'⟩, g', le, (fun e => by cases e), (fun e => by cases e), o'⟩⟩⟩ g
instance [e1 : RflE (Nat.beq i p) false] [e2 : RflE (Nat.beq i r) false] [e3 : RflE (Nat.beq i a) true] [e4 : RflE (Nat.beq i s) false] [zc : ZC P t l] : Nx (GC3 P n X ms env ol B k p r a s m c ⟨d, fun g => ov g.v, fun g => rV g.v l t, T'⟩ L i (⟨some d, .alloc t, ty, pos, af, none⟩ :: rest)) True (GC3 P n X ms env ol B k p r a s m c ⟨d, fun g => ov g.v, fun g => rV g.v l t, T'⟩ L (i + 1) rest) :=
  ⟨fun _ g => .ev (.inr (.inl ⟨Nat.eq_of_beq_eq_true e3.h, neZ e1.h, neZ e4.h, neZ e2.h, rfl, triNa (zc := zc)⟩)) g⟩
instance {sz : Nat} [e1 : RflE (Nat.beq i p) false] [e2 : RflE (Nat.beq i r) false] [e3 : RflE (Nat.beq i a) false] [e4 : RflE (Nat.beq i s) true] [bl : RflE (Nat.ble n d) false] [ly : Lu n true L env o2 (.ag cs)] [sp : Spl l 0 cs l'] [tz : TZ P t sz] [ml : RflE cs.length sz] [oc : O1L cs] : Nx (GC3 P n X ms env ol B k p r a s m c ⟨d, fun g => ov g.v, fun g => rV g.v l et, fun g => rV g.v l' et⟩ L i (⟨none, .store t (.tmp d) o2, ty, pos, af, none⟩ :: rest)) True (GC3 P n X ms env ol B k p r a s m c ⟨d, fun g => ov g.v, fun g => rV g.v l et, fun g => rV g.v l' et⟩ L (i + 1) rest) :=
  ⟨fun _ g => .ev (.inr (.inr ⟨Nat.eq_of_beq_eq_true e4.h, neZ e1.h, neZ e3.h, neZ e2.h, rfl, fun _ => rfl, fun γ => triSt (bl := bl) (ly := ly) (sp := sp) (tz := tz) (ml := ml) (oc := oc)⟩)) g⟩
instance (priority := high) {d2 : Nat} [e1 : RflE (Nat.beq i m) true] : Nx (GC3 P n X ms env ol B k p r a s m c ⟨d2, fun g => ov g.v, fun g => rV g.v l t, fun g => rV g.v l' et⟩ L i rest) True (∀ v, GO P n X ms ((d2, .cn true (ov v)) :: L) env (rV v l' et :: B) ol rest k) := ⟨fun _ g => by
  have e := Nat.eq_of_beq_eq_true e1.h
  subst e
  exact .fin fun γ => ⟨fun ok ρ h w s => (g γ.v).p ok ρ h w ⟨s.gr, ⟨⟨fun _ => s.lo.1, fun e => by cases e⟩, s.lo.2⟩, s.en, s.ow⟩⟩⟩
end
end
end Go.E3
