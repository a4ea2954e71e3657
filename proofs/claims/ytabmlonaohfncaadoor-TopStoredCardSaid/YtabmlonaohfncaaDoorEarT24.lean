/- EarT24: a part of the proofs about what is clipped and stored: how the program's functions run, and what they compute, for every input. -/
import Derived.Test.YtabmlonaohfncaaDoorEarT23
set_option linter.all false
set_option linter.unusedVariables false
namespace Go.E3
open Go Go.Ear
section
variable {P : Program} {n : Nat} {X : Fix} {ms : List Nat} {loc env : EL} {B : List Res} {k : Kt} {ol rest : List Oper} {d : Nat} {ty : TypeId} {pos : String} {af : Array Edge} {sd : Prop} {g : Option (Nat × Bool)}
theorem callRV {σ : Type} {S : σ → SV} {B' : σ → List Res} {h0 : PH} {w0 : World} {ρ : Env} {h : PH} {w : World} {K : Env → World → Prop} {dd : Option Tmp} {f : FuncId} {t : Operand} {xs : List Operand} {ts : Array TypeId} {as1 az cs l : List SV} [ap : App3 as1 az cs l] (ct : CtR P f l B sd σ S B') (hs : sd) (gr : Gr h0 w0 h w) (ow : OwnB w0 B h w) (hf : den h (fnv (.func f) as1 cs) (ev n ρ t)) (hx : denL h az (xs.map (ev n ρ)))
    (hk : ∀ v h' s w', Gr h0 w0 h' w' → h.le h' → OwnB w0 (B' s) h' w' → den h' (S s) v → K (updO ρ dd v) w') : OpW P n ⟨dd, .call ⟨.value t, xs.toArray, ts⟩, ty, pos, af, g⟩ ρ w K := by
  obtain ⟨us, ws, e, a1, a2⟩ := hf
  refine OpW.enter (f := f) (args := (us ++ xs.map (ev n ρ) ++ ws).toArray) (w' := w) ?_ (ct.h hs gr ow (by rw [← ap.h]; exact (a1.app hx).app a2)) ?_
  · simp only [execOp, resolve, e, Deferred.ofValue, Sem.run_bind, Sem.run_pure, Result.andThen, invoke, List.map_toArray, List.append_toArray, ct.fn _ w]
  · rintro e w'' ⟨v, rfl, h', s, g, le, o, d⟩
    exact ⟨v, rfl, hk v h' s w'' g le o d⟩
instance {σ : Type} {S : σ → SV} {B' : σ → List Res} {f : FuncId} {t : Nat} {xs : List Operand} {ts : Array TypeId} {as1 az cs l : List SV} [lf : Lu n true loc env (.tmp t) (fnv (.func f) as1 cs)] [lx : Lus n true loc env xs az] [ap : App3 as1 az cs l] [ct : CtR P f l B sd σ S B'] : Nx (GO P n X ms loc env B ol (⟨some d, .call ⟨.value (.tmp t), xs.toArray, ts⟩, ty, pos, af, none⟩ :: rest) k) sd (∀ s : σ, GO P n X ms ((d, S s) :: loc) env (B' s) ol rest k) := ⟨fun hs g => ⟨fun ok ρ h w sy => by
  obtain ⟨h1, h2, h3⟩ := okR_some rfl ok
  exact Ops.cons (callRV ct hs sy.gr sy.ow (lf.h rfl ((sy.x [.tmp t]).fx (.tmp t) (by simp))) (lx.h rfl fun x hx => (sy.x [x]).fx x (by simp)) fun v h' s w' gr le o u => (g s).p h3 _ _ _ ⟨gr, ⟨by show den h' (S s) (upd ρ d v d); rw [upd_at]; exact u, (sy.lo.upd (nIn_of h1)).mono le⟩, (sy.en.upd (nIn_of (h2 rfl))).mono le, o⟩)⟩⟩
end
section
variable (P : Program) (n : Nat) (X : Fix) (ms : List Nat) (env : EL) (ol : List Oper) (B : List Res) (k : Kt) (p m : Nat) (wv : MidW)
def Ev1 (L : EL) (i : Nat) (o : Oper) : Option (Nat × SV) → Prop
  | some q => i ≠ p ∧ o.dst = some q.1 ∧ ((TriP P n X env B ol L o q.1 q.2 ∧ (p < i → ∀ v, TriP P n X env (wv.B2 v) ol L o q.1 q.2)) ∨ (reach ol 9 i p = true ∧ ∀ v, TriP P n X env (wv.B2 v) ol ((wv.d, wv.S v) :: L) o q.1 q.2))
  | none => i = p ∧ o.dst = some wv.d ∧ TriV P n X env B ol L o (some (wv.d, wv.S)) wv.B2
inductive GW1 : EL → Nat → List Oper → Prop
  | pure {L i o rest} (q : Nat × SV) (h : Ev1 P n X env ol B p wv L i o (some q)) (g : GW1 (q :: L) (i + 1) rest) : GW1 L i (o :: rest)
  | ev {L i o rest} (h : Ev1 P n X env ol B p wv L i o none) (g : GW1 L (i + 1) rest) : GW1 L i (o :: rest)
  | fin {L rest} (g : ∀ v, GO P n X ms ((wv.d, wv.S v) :: L) env (wv.B2 v) ol rest k) : GW1 L m rest
end
section
variable {P : Program} {n : Nat} {X : Fix} {ms : List Nat} {env : EL} {ol : List Oper} {B : List Res} {k : Kt} {p m : Nat} {wv : MidW}
theorem GW1.sem {L : EL} {i : Nat} {rest : List Oper} (g : GW1 P n X ms env ol B k p m wv L i rest) :
    ∃ res : List (Option (Nat × SV)), i + res.length = m ∧ res.length ≤ rest.length ∧ (∀ j e, res[j]? = some e → ∃ o, rest[j]? = some o ∧ Ev1 P n X env ol B p wv (lcs (res.take j) ++ L) (i + j) o e) ∧ ∀ v, GO P n X ms ((wv.d, wv.S v) :: (lcs res ++ L)) env (wv.B2 v) ol (rest.drop res.length) k := by
  induction g with
  | @pure L i o rest q h g ih =>
    obtain ⟨res, e, hle, hr, hg⟩ := ih
    refine ⟨some q :: res, by simp only [List.length_cons]; omega, by simp only [List.length_cons]; omega, fun j e hj => ?_, by rw [lcs_some]; simpa using hg⟩
    cases j with
    | zero => have hj : some q = e := by simpa using hj
              subst hj
              exact ⟨o, rfl, by simpa [lcs] using h⟩
    | succ j =>
      obtain ⟨o', x, y⟩ := hr j e (by simpa using hj)
      refine ⟨o', by simpa using x, ?_⟩
      rw [List.take_succ_cons, lcs_some, show i + (j + 1) = i + 1 + j by omega]; exact y
  | @ev L i o rest h g ih =>
    obtain ⟨res, e, hle, hr, hg⟩ := ih
    refine ⟨none :: res, by simp only [List.length_cons]; omega, by simp only [List.length_cons]; omega, fun j e hj => ?_, by rw [lcs_none]; simpa using hg⟩
    cases j with
    | zero => have hj : none = e := by simpa using hj
              subst hj
              exact ⟨o, rfl, by simpa [lcs] using h⟩
    | succ j =>
      obtain ⟨o', x, y⟩ := hr j e (by simpa using hj)
      refine ⟨o', by simpa using x, ?_⟩
      rw [List.take_succ_cons, lcs_none, show i + (j + 1) = i + 1 + j by omega]; exact y
  | @fin L rest g => exact ⟨[], by simp, by simp, fun j e hj => by simp at hj, by simpa [lcs] using g⟩
theorem ws_sound {loc : EL} {idn : Nat} (hmix : P.follows .mixedOrders = true) (hc : dagC ol m (env.map (·.1)) = true) (hnd : ol.all noDefer = true) (hpm : p < m)
    (hpre : (List.range p).all (reach ol 9 p) = true) (g : GW1 P n X ms env ol B k p m wv [] 0 ol) : GW P n X ms loc env B (.region idn ol.toArray true) k := ⟨fun ρ0 h1 wi si => by
  obtain ⟨res, hm0, hlen, hr, hend⟩ := g.sem
  rw [Nat.zero_add] at hm0
  have hr : ∀ j e, res[j]? = some e → ∃ o, ol[j]? = some o ∧ Ev1 P n X env ol B p wv (lcs (res.take j) ++ []) j o e := fun j e hj => by have := hr j e hj; rwa [Nat.zero_add] at this
  unfold dagC at hc
  simp only [Bool.and_eq_true] at hc
  obtain ⟨⟨hok, hall⟩, htl⟩ := hc
  have hall := fun i (hi : i < m) => by have := List.all_eq_true.1 hall i (List.mem_range.2 hi); rw [Bool.and_eq_true, Bool.not_eq_true'] at this; exact this
  have htl := fun i (o : Oper) (ho : ol[i]? = some o) => by
    have := List.all_eq_true.1 htl i (List.mem_range.2 (List.getElem?_eq_some_iff.1 ho).1)
    rw [Bool.and_eq_true, opA_eq ho] at this; exact this
  have F := okR_facts hok
  have hpre := fun i (hi : i < p) => List.all_eq_true.1 hpre i (List.mem_range.2 hi)
  have hat : ∀ i, i < m → ∃ e, res[i]? = some e := fun i hi => ⟨_, List.getElem?_eq_getElem (by omega)⟩
  have hP : ∃ o, ol[p]? = some o ∧ o.dst = some wv.d := by
    obtain ⟨e, he⟩ := hat p hpm
    obtain ⟨o, ho, ev⟩ := hr p e he
    cases e with
    | some q => exact absurd rfl ev.1
    | none => exact ⟨o, ho, ev.2.1⟩
  obtain ⟨op, hop, hod⟩ := hP
  have hne : ∀ (i j : Nat) (o o' : Oper) (d : Nat), i ≠ j → ol[i]? = some o → ol[j]? = some o' → o.dst = some d → o'.dst ≠ some d := fun i j o o' d hij ho ho' hd hd' => by
    rcases Nat.lt_or_ge i j with a | a
    · exact (F j o' d ho' hd').2.2 i o a ho hd
    · exact (F i o d ho hd).2.2 j o' (by omega) ho' hd'
  have henv : ∀ i o, i < m → ol[i]? = some o → ∀ t S, (t, S) ∈ env → o.dst ≠ some t := fun i o hi ho t S ht e => by
    have a := hall i hi
    rw [opA_eq ho, e] at a
    have := a.1
    simp only at this
    rw [← Bool.not_eq_true, memN_iff] at this
    exact this (List.mem_map.2 ⟨_, ht, rfl⟩)
  refine WT.draw (K := fun ρ w => run X.c.round P X.T k .normal (mkX X.c n ρ) w) hnd ?_ fun _ _ x => x
  intro t
  unfold Region.schedule Region.linearise
  rw [hmix]
  simp only [Bool.true_or, if_true]
  generalize hw1 : ({ wi with drawn := _ } : World) = w1
  have sy0 : Sy X.h0 X.w0 loc env B ρ0 h1 w1 := by
    subst hw1
    exact si.grow ((Gr.refl si.gr.sat).drew _)
  obtain ⟨ls, hl, hwp⟩ := lin_inv (P := P) (n := n) (m := m) (ops := ol.toArray) (Q := onlyN fun ρ w => run X.c.round P X.T k .normal (mkX X.c n ρ) w) (fun D ρ w => ∃ (h : PH), (Gr X.h0 X.w0 h w ∧ h1.le h) ∧ OwnB X.w0 (bW (some wv) p B D ρ) h w ∧
      (∀ i q, D i → res[i]? = some (some q) → den h q.2 (ρ q.1)) ∧ (∀ s, (∀ k o, D k → ol[k]? = some o → o.dst ≠ some s) → ρ s = ρ0 s) ∧ (D p → den h (wv.S (ρ wv.d)) (ρ wv.d))) (by simpa [← hm0] using hlen)
    (fun i o ho j hj => by
      have := List.all_eq_true.1 (htl i o (by simpa using ho)).1 j hj
      rw [blt_eq] at this; exact of_decide_eq_true this)
    (fun i o ho hmi j hj => by
      have ho : ol[i]? = some o := by simpa using ho
      have := (htl i o ho).2
      rw [Nat.ble_eq_true_of_le hmi] at this
      have := List.all_eq_true.1 this j (List.mem_range.2 hj)
      obtain ⟨x, hx, hxx⟩ := List.any_eq_true.1 this
      have hx := List.mem_range.1 hx
      have hsz := (List.getElem?_eq_some_iff.1 ho).1
      have ho' : ol[i - x]? = some (ol[i - x]'(by omega)) := List.getElem?_eq_getElem (by omega)
      rw [opA_eq ho'] at hxx
      exact ⟨i - x, ol[i - x]'(by omega), by omega, by omega, by rw [List.getElem?_toArray]; exact ho', by simpa using hxx⟩)
    (by
      rintro D ρ w i o ho him hi hd hcl hD ⟨h, hg, how, hF, hold, hxS⟩
      have ho : ol[i]? = some o := by simpa using ho
      have hcl : ∀ (k : Nat) (o : Oper), ol[k]? = some o → D k → ∀ j ∈ deps o, D j := fun k o hk => hcl k o (by simpa using hk)
      have hnp : i < p → ¬ D p := fun hlt hDp => hi (reach_D hcl (hpre i hlt) hDp)
      have fx0 : ∀ x ∈ looks ol o, ∀ t S, x = .tmp t → ((t, S) ∈ lcs (res.take i) ++ [] ∨ (t, S) ∈ env) → den h S (ρ t) := fun x hx t S hxt hmem => by
        subst hxt
        rcases hmem with hmem | hmem
        · rw [List.append_nil, List.mem_reverse, List.mem_filterMap] at hmem
          obtain ⟨qo, hqm, hent⟩ := hmem
          have hent : qo = some (t, S) := hent
          subst hent
          obtain ⟨j, hj⟩ := List.getElem?_of_mem hqm
          have hji : j < i := by
            rcases Nat.lt_or_ge j i with a | a
            · exact a
            · rw [List.getElem?_eq_none (by simp; omega)] at hj; cases hj
          rw [List.getElem?_take, if_pos hji] at hj
          obtain ⟨oj, hoj, _, hsj, _⟩ := hr j _ hj
          have hr2 := (hall i him).2
          unfold rdOk at hr2
          rw [opA_eq ho] at hr2
          have h2 := List.all_eq_true.1 hr2 _ hx
          simp only at h2
          have h3 := List.all_eq_true.1 h2 j (List.mem_range.2 hji)
          rw [opA_eq hoj, hsj] at h3
          simp only [beq_self, Bool.not_true, Bool.false_or] at h3
          exact hF j _ (hd j (by simpa using h3)) hj
        · rw [hold t fun k o' hk hok' => henv k o' (hD k hk) hok' t S hmem]
          exact (sy0.en.mem hmem).mono hg.2
      have sx : Sx X.h0 X.w0 (lcs (res.take i) ++ []) env (bW (some wv) p B D ρ) (looks ol o) ρ h w := ⟨hg.1, fx0, how⟩
      obtain ⟨e, he⟩ := hat i him
      obtain ⟨o', ho', ev⟩ := hr i e he
      rw [ho] at ho'; cases ho'
      have hbw : ∀ (d : Nat) (v : Value), i ≠ p → wv.d ≠ d → bW (some wv) p B (fun k => k = i ∨ D k) (upd ρ d v) = bW (some wv) p B D ρ := fun d v hip hq => by
        unfold bW
        simp only
        by_cases hDp : D p
        · rw [if_pos (.inr hDp), if_pos hDp, upd_ne _ _ hq]
        · rw [if_neg (fun x => x.elim (fun e => hip e.symm) hDp), if_neg hDp]
      have hwd : ∀ (d : Nat), i ≠ p → o.dst = some d → wv.d ≠ d := fun d hip hod1 e => hne i p o op d hip ho hop hod1 (by rw [hod, e])
      have hrs : ∀ (d : Nat) (v : Value) (h' : PH), h.le h' → o.dst = some d → (∀ j q, D j → res[j]? = some (some q) → den h' q.2 (upd ρ d v q.1)) ∧ (∀ sl, (∀ k o', (k = i ∨ D k) → ol[k]? = some o' → o'.dst ≠ some sl) → upd ρ d v sl = ρ0 sl) := fun d v h' hle hod => by
        refine ⟨fun j q hDj hq => ?_, fun sl hs' => ?_⟩
        · have hji : i ≠ j := fun e => hi (e ▸ hDj)
          obtain ⟨oj, hoj, _, hsj, _⟩ := hr j _ hq
          rw [upd_ne _ _ fun e => hne i j o oj d hji ho hoj hod (by rw [hsj, e])]
          exact (hF j q hDj hq).mono hle
        · rw [upd_ne _ _ fun e => hs' i o (.inl rfl) ho (by rw [e]; exact hod)]
          exact hold sl fun k o' hk hok' => hs' k o' (.inr hk) hok'
      cases e with
      | some q =>
        obtain ⟨hip, hdq, hTq⟩ := ev
        have hTT : OpG P n ol.toArray o ρ w fun ρ' w' => ∃ v h', ρ' = upd ρ q.1 v ∧ Gr h w h' w' ∧ den h' q.2 v := by
          rcases hTq with ⟨hT1, hT2⟩ | ⟨hrp, hT2⟩
          · have hTT : TriP P n X env (bW (some wv) p B D ρ) ol (lcs (res.take i) ++ []) o q.1 q.2 := by
              unfold bW
              simp only
              split
              · rename_i hDp
                exact hT2 (by
                  rcases Nat.lt_trichotomy i p with x | x | x
                  · exact absurd hDp (hnp x)
                  · exact absurd x hip
                  · exact x) _
              · exact hT1
            exact hTT ρ h w sx
          · have hDp : D p := reach_of_deps hcl ho hd hrp
            have hbw1 : bW (some wv) p B D ρ = wv.B2 (ρ wv.d) := by unfold bW; exact if_pos hDp
            rw [hbw1] at sx
            refine hT2 (ρ wv.d) ρ h w ⟨sx.gr, fun x hx t S hxt hmem => ?_, sx.ow⟩
            rcases hmem with hmem | hmem
            · rcases List.mem_cons.1 hmem with e | hmem
              · cases e; exact hxS hDp
              · exact fx0 x hx t S hxt (.inl hmem)
            · exact fx0 x hx t S hxt (.inr hmem)
        refine hTT.mono ?_
        rintro ρ' w' ⟨v, h', rfl, gr, hv⟩
        obtain ⟨r1, r2⟩ := hrs q.1 v h' gr.le hdq
        refine ⟨h', ⟨hg.1.trans gr, hg.2.trans gr.le⟩, (by rw [hbw q.1 v hip (hwd q.1 hip hdq)]; exact how.grow gr), fun j q' hj hq' => ?_, r2, fun hDp => ?_⟩
        · by_cases hji : j = i
          · subst hji; rw [he] at hq'; cases hq'; rw [upd_at]; exact hv
          · exact r1 j q' (hj.resolve_left hji) hq'
        · rw [upd_ne _ _ (hwd q.1 hip hdq)]
          exact (hxS (hDp.resolve_left fun e => hip e.symm)).mono gr.le
      | none =>
        obtain ⟨rfl, hdq, hT1⟩ := ev
        have hbw1 : bW (some wv) i B D ρ = B := by unfold bW; exact if_neg hi
        have hbw2 : ∀ v, bW (some wv) i B (fun k => k = i ∨ D k) (upd ρ wv.d v) = wv.B2 v := fun v => by unfold bW; simp only; rw [if_pos (Or.inl rfl), upd_at]
        rw [hbw1] at how sx
        refine (hT1 ρ h w ⟨hg.1, sx.fx, how⟩).mono ?_
        rintro ρ' w' ⟨v, h', ⟨rfl, hv⟩, hgr, hle, _, _, hob⟩
        obtain ⟨r1, r2⟩ := hrs wv.d v h' hle hdq
        refine ⟨h', ⟨hgr, hg.2.trans hle⟩, (by rw [hbw2]; exact hob), fun j q hj hq => ?_, r2, fun _ => ?_⟩
        · have hji : j ≠ i := fun e => by rw [e, he] at hq; cases hq
          exact r1 j q (hj.resolve_left hji) hq
        · rw [upd_at]; exact hv)
    (by
      rintro D D' ρ w hDD ⟨h, a, b, c, d⟩
      have : D = D' := funext fun k => propext (hDD k)
      subst this
      exact ⟨h, a, b, c, d⟩)
    (by
      rintro D ρ w hall2 hD ⟨h, hg, how, hF, hold, hxS⟩
      have hlo : ∀ l : List (Option (Nat × SV)), (∀ q, some q ∈ l → den h q.2 (ρ q.1)) → EnvOk h ρ (l.filterMap id) := fun l => by
        induction l with
        | nil => exact fun _ => trivial
        | cons q l ih =>
          cases q with
          | none => exact fun a => by simpa using ih fun q hq => a q (List.mem_cons_of_mem _ hq)
          | some q =>
            intro a
            show EnvOk h ρ (q :: l.filterMap id)
            exact ⟨a q (List.mem_cons_self ..), ih fun q hq => a q (List.mem_cons_of_mem _ hq)⟩
      have hloc : EnvOk h ρ (lcs res ++ []) := by
        rw [List.append_nil]
        have : lcs res = (res.reverse.filterMap id) := by rw [List.filterMap_reverse]
        rw [this]
        refine hlo _ fun q hq => ?_
        obtain ⟨i, hi⟩ := List.getElem?_of_mem (List.mem_reverse.1 hq)
        have him : i < m := by rw [← hm0]; exact (List.getElem?_eq_some_iff.1 hi).1
        exact hF i q (hall2 i him) hi
      have hen : EnvOk h ρ env := (sy0.en.mono hg.2).ext fun p hp => (hold p.1 fun k o' hk hok' => henv k o' (hD k hk) hok' p.1 p.2 hp).symm
      have hds : ∀ (ex : List Nat), (∀ e ∈ ex, ∃ j o, j < m ∧ ol[j]? = some o ∧ o.dst = some e) → okR (ol.drop m) (ex ++ (lcs res).map (·.1)) (env.map (·.1)) = true := fun ex hex =>
        okR_tail hok (fun e he => by
          rcases List.mem_append.1 he with x | x
          · exact hex e x
          · obtain ⟨q, hq, rfl⟩ := List.mem_map.1 x
            rw [List.mem_reverse, List.mem_filterMap] at hq
            obtain ⟨qo, hqm, hq2⟩ := hq
            have hq2 : qo = some q := hq2
            subst hq2
            obtain ⟨j, hj⟩ := List.getElem?_of_mem hqm
            obtain ⟨o, ho, _, hod, _⟩ := hr j _ hj
            exact ⟨j, o, by rw [← hm0]; exact (List.getElem?_eq_some_iff.1 hj).1, ho, hod⟩)
      have close : ∀ {L : EL} {Bx : List Res}, GO P n X ms L env Bx ol (ol.drop res.length) k → okR (ol.drop m) (L.map (·.1)) (env.map (·.1)) = true → EnvOk h ρ L → OwnB X.w0 Bx h w → wpOps P ol.toArray (toQ n (onlyN fun ρ w => run X.c.round P X.T k .normal (mkX X.c n ρ) w)) (List.range' m (ol.toArray.size - m)) (mk n ρ) w := fun {L Bx} hgo hk hL hB => by
        have hG := hgo.p (by rw [hm0]; exact hk) ρ h w ⟨hg.1, hL, hen, hB⟩
        rw [hm0] at hG
        have := wpList_of_Ops (Q := onlyN fun ρ w => run X.c.round P X.T k .normal (mkX X.c n ρ) w) (fun _ _ h => h) (ol.drop m) ρ w hG
        rw [← wpOps_eq_wpList (ol.drop m) m (by intro j; simp)] at this
        simpa using this
      have hDp := hall2 p hpm
      have hbw : bW (some wv) p B D ρ = wv.B2 (ρ wv.d) := by unfold bW; exact if_pos hDp
      rw [hbw] at how
      refine close (hend (ρ wv.d)) ?_ ⟨hxS hDp, hloc⟩ how
      have := hds [wv.d] fun e he => by
        rcases List.mem_singleton.1 he with rfl
        exact ⟨p, op, hpm, hop, hod⟩
      simpa using this)
    ol.toArray.size t (Array.replicate ol.toArray.size false) [] (by simp) (by intro i o ho hi; simp [Array.getElem?_replicate] at hi) (by intro i hi; simp [Array.getElem?_replicate] at hi)
    (by unfold left; exact Nat.le_trans (List.length_filter_le _ _) (by simp))
  rw [hl]
  simp only [List.reverse_nil, List.nil_append]
  have hD0 : ∀ i, ¬ (Array.replicate ol.toArray.size false)[i]? = some true := fun i => by rw [Array.getElem?_replicate]; split <;> simp
  refine hwp ρ0 w1 ⟨h1, ⟨sy0.gr, PH.le.refl h1⟩, by
    have e2 : bW (some wv) p B (fun i => (Array.replicate ol.toArray.size false)[i]? = some true) ρ0 = B := by
      unfold bW
      exact if_neg (hD0 p)
    rw [e2]; exact sy0.ow, (fun i q hi => absurd hi (hD0 i)), fun _ _ => rfl, fun h => absurd h (hD0 p)⟩⟩
theorem gW1 (sz p m : Nat) (wv : MidW) {idn : Nat} {loc : EL} [mx : MixO P] (hs : Nat.beq ol.length sz = true) (c : (dagC ol m (env.map (·.1)) && ol.all noDefer && Nat.blt p m && (List.range p).all (reach ol 9 p)) = true) (g : GW1 P n X ms env ol B k p m wv [] 0 ol) : GW P n X ms loc env B (.region idn ol.toArray true) k := by
  simp only [Bool.and_eq_true] at c
  exact ws_sound mx.h c.1.1.1 c.1.1.2 (ltZ c.1.2) c.2 g
section
variable {L loc : EL} {i d : Nat} {op : Op} {t et : TypeId} {ty : TypeId} {pos : String} {af : Array Edge} {rest : List Oper} {sd : Prop} {S : SV} {x o2 : Operand}
theorem gWd {d3 : Nat} {S3 : SV} {B3 : List Res} [st : St P n true ((d3, S3) :: L) env B3 ms d op sd S] (hp : i ≠ p) (hr : reach ol 9 i p = true) (hs : sd) (g : GW1 P n X ms env ol B k p m ⟨d3, fun _ => S3, fun _ => B3⟩ ((d, S) :: L) (i + 1) rest) : GW1 P n X ms env ol B k p m ⟨d3, fun _ => S3, fun _ => B3⟩ L i (⟨some d, op, ty, pos, af, none⟩ :: rest) := .pure (d, S) ⟨hp, rfl, .inr ⟨hr, fun _ => triQ (st := st) hs⟩⟩ g
theorem gWi {d3 : Nat} {S3 : SV} {B3 : List Res} [st : St P n true L env B ms d op sd S] [st2 : St P n true L env B3 ms d op sd S] (hp : i ≠ p) (hs : sd) (g : GW1 P n X ms env ol B k p m ⟨d3, fun _ => S3, fun _ => B3⟩ ((d, S) :: L) (i + 1) rest) : GW1 P n X ms env ol B k p m ⟨d3, fun _ => S3, fun _ => B3⟩ L i (⟨some d, op, ty, pos, af, none⟩ :: rest) := .pure (d, S) ⟨hp, rfl, .inl ⟨triQ (st := st) hs, fun _ _ => triQ (st := st2) hs⟩⟩ g
theorem gWc {S : SV} {B' : List Res} {f : FuncId} {t : Nat} {xs : List Operand} {ts : Array TypeId} {as1 az cs l : List SV} [lf : Lu n true L env (.tmp t) (fnv (.func f) as1 cs)] [lx : Lus n true L env xs az] [ap : App3 as1 az cs l] [ct : CtR P f l B sd Unit (fun _ => S) (fun _ => B')] (hp : i = p) (hs : sd) (g : GW1 P n X ms env ol B k p m ⟨d, fun _ => S, fun _ => B'⟩ L (i + 1) rest) : GW1 P n X ms env ol B k p m ⟨d, fun _ => S, fun _ => B'⟩ L i (⟨some d, .call ⟨.value (.tmp t), xs.toArray, ts⟩, ty, pos, af, none⟩ :: rest) := .ev ⟨hp, rfl, fun ρ h w s => by
  have s' : Sx X.h0 X.w0 L env B (.tmp t :: xs) ρ h w := s.sub (fun x hx => by simpa [looks, Op.operands, Call.operands] using hx) fun _ h => h
  refine OpG.plain (callRV ct hs s.gr s.ow (lf.h rfl (s'.fx (.tmp t) (by simp))) (lx.h rfl fun x hx => s'.fx x (List.mem_cons_of_mem _ hx)) fun v h' u w' gr le o dn => ?_)
  exact ⟨v, h', ⟨rfl, dn⟩, gr, le, (fun e => by cases e), (fun e => by cases e), o⟩⟩ g
theorem gWe {d3 : Nat} {S3 : SV} {B3 : List Res} (h : i = m) (g : GO P n X ms ((d3, S3) :: L) env B3 ol rest k) : GW1 P n X ms env ol B k p m ⟨d3, fun _ => S3, fun _ => B3⟩ L i rest := by
  subst h
  exact .fin fun _ => g
end
end
end Go.E3
