/- K10: a part of the proofs about what is clipped and stored: how the program's functions run, and what they compute, for every input. -/
import Derived.Test.YthlpenhbcmbgoaaGreatDoorK9
import Derived.Test.YthlpenhbcmbgoaaGreatDoorK8
set_option linter.all false
set_option linter.unusedVariables false
namespace Go.E3
open Go Go.Ear
section
variable (P : Program) (n : Nat) (X : Fix) (ms : List Nat) (env : EL) (ol : List Oper) (B : List Res) (k : Kt) (m : Nat)
def TriQ (loc : EL) (o : Oper) (d : Nat) (S : SV) : Prop := ∀ ρ h w, Sx X.h0 X.w0 loc env B (looks ol o) ρ h w → OpG P n ol.toArray o ρ w fun ρ' w' => ∃ v h', ρ' = upd ρ d v ∧ Gr X.h0 X.w0 h' w' ∧ h.le h' ∧ OwnB X.w0 B h' w' ∧ den h' S v
def EvQ (L : EL) (o : Oper) : Option (Nat × SV) → Prop
  | some q => o.dst = some q.1 ∧ TriQ P n X env ol B L o q.1 q.2
  | none => False
inductive GCq : EL → Nat → List Oper → Prop
  | pure {L i o rest} (q : Nat × SV) (h : EvQ P n X env ol B L o (some q)) (g : GCq (q :: L) (i + 1) rest) : GCq L i (o :: rest)
  | fin {L rest} (g : GO P n X ms L env B ol rest k) : GCq L m rest
end
section
variable {P : Program} {n : Nat} {X : Fix} {ms : List Nat} {env : EL} {ol : List Oper} {B : List Res} {k : Kt} {m : Nat}
theorem GCq.sem {L : EL} {i : Nat} {rest : List Oper} (g : GCq P n X ms env ol B k m L i rest) :
    ∃ res : List (Option (Nat × SV)), i + res.length = m ∧ res.length ≤ rest.length ∧ (∀ j e, res[j]? = some e → ∃ o, rest[j]? = some o ∧ EvQ P n X env ol B (lcs (res.take j) ++ L) o e) ∧ GO P n X ms (lcs res ++ L) env B ol (rest.drop res.length) k := by
  induction g with
  | @pure L i o rest q h g ih =>
    obtain ⟨res, e, hle, hr, hg⟩ := ih
    refine ⟨some q :: res, by simp only [List.length_cons]; omega, by simp only [List.length_cons]; omega, fun j e hj => ?_, by rw [lcs_some]; simpa using hg⟩
    cases j with
    | zero => have hj : some q = e := by simpa using hj
              subst hj
              exact ⟨o, rfl, by simpa [lcs] using h⟩
    | succ j =>
      obtain ⟨o', x, y⟩ := hr j e (by simpa using hj)
      refine ⟨o', by simpa using x, ?_⟩
      rw [List.take_succ_cons, lcs_some]; exact y
  | @fin L rest g => exact ⟨[], by simp, by simp, fun j e hj => by simp at hj, by simpa [lcs] using g⟩
theorem cq_sound {loc : EL} {idn : Nat} (hmix : P.follows .mixedOrders = true) (hc : dagC ol m (env.map (·.1)) = true) (hnd : ol.all noDefer = true) (g : GCq P n X ms env ol B k m [] 0 ol) : GW P n X ms loc env B (.region idn ol.toArray true) k := ⟨fun ρ0 h1 wi si => by
  obtain ⟨res, hm0, hlen, hr, hend⟩ := g.sem
  rw [Nat.zero_add] at hm0
  have hr : ∀ j e, res[j]? = some e → ∃ o, ol[j]? = some o ∧ EvQ P n X env ol B (lcs (res.take j) ++ []) o e := fun j e hj => hr j e hj
  unfold dagC at hc
  simp only [Bool.and_eq_true] at hc
  obtain ⟨⟨hok, hall⟩, htl⟩ := hc
  have hall := fun i (hi : i < m) => by have := List.all_eq_true.1 hall i (List.mem_range.2 hi); rw [Bool.and_eq_true, Bool.not_eq_true'] at this; exact this
  have htl := fun i (o : Oper) (ho : ol[i]? = some o) => by
    have := List.all_eq_true.1 htl i (List.mem_range.2 (List.getElem?_eq_some_iff.1 ho).1)
    rw [Bool.and_eq_true, opA_eq ho] at this; exact this
  have F := okR_facts hok
  have hat : ∀ i, i < m → ∃ e, res[i]? = some e := fun i hi => ⟨_, List.getElem?_eq_getElem (by omega)⟩
  have hne : ∀ (i j : Nat) (o o' : Oper) (d : Nat), i ≠ j → ol[i]? = some o → ol[j]? = some o' → o.dst = some d → o'.dst ≠ some d := fun i j o o' d hij ho ho' hd hd' => by
    rcases Nat.lt_or_ge i j with a | a
    · exact (F j o' d ho' hd').2.2 i o a ho hd
    · exact (F i o d ho hd).2.2 j o' (by omega) ho' hd'
  have henv : ∀ i o, i < m → ol[i]? = some o → ∀ t S, (t, S) ∈ env → o.dst ≠ some t := fun i o hi ho t S ht e => by
    have a := hall i hi
    rw [opA_eq ho, e] at a
    have := a.1
    simp only at this
    rw [← Bool.not_eq_true, memN_iff] at this
    exact this (List.mem_map.2 ⟨_, ht, rfl⟩)
  refine WT.draw (K := fun ρ w => run X.c.round P X.T k .normal (mkX X.c n ρ) w) hnd ?_ fun _ _ x => x
  intro t
  unfold Region.schedule Region.linearise
  rw [hmix]
  simp only [Bool.true_or, if_true]
  generalize hw1 : ({ wi with drawn := _ } : World) = w1
  have sy0 : Sy X.h0 X.w0 loc env B ρ0 h1 w1 := by
    subst hw1
    exact si.grow ((Gr.refl si.gr.sat).drew _ (Nat.le_succ _))
  obtain ⟨ls, hl, hwp⟩ := lin_inv (P := P) (n := n) (m := m) (ops := ol.toArray) (Q := onlyN fun ρ w => run X.c.round P X.T k .normal (mkX X.c n ρ) w) (fun D ρ w => ∃ (h : PH), (Gr X.h0 X.w0 h w ∧ h1.le h) ∧ OwnB X.w0 B h w ∧
      (∀ i q, D i → res[i]? = some (some q) → den h q.2 (ρ q.1)) ∧ (∀ s, (∀ k o, D k → ol[k]? = some o → o.dst ≠ some s) → ρ s = ρ0 s)) (by simpa [← hm0] using hlen)
    (fun i o ho j hj => by
      have := List.all_eq_true.1 (htl i o (by simpa using ho)).1 j hj
      rw [blt_eq] at this; exact of_decide_eq_true this)
    (fun i o ho hmi j hj => by
      have ho : ol[i]? = some o := by simpa using ho
      have := (htl i o ho).2
      rw [Nat.ble_eq_true_of_le hmi] at this
      have := List.all_eq_true.1 this j (List.mem_range.2 hj)
      obtain ⟨x, hx, hxx⟩ := List.any_eq_true.1 this
      have hx := List.mem_range.1 hx
      have hsz := (List.getElem?_eq_some_iff.1 ho).1
      have ho' : ol[i - x]? = some (ol[i - x]'(by omega)) := List.getElem?_eq_getElem (by omega)
      rw [opA_eq ho'] at hxx
      exact ⟨i - x, ol[i - x]'(by omega), by omega, by omega, by rw [List.getElem?_toArray]; exact ho', by simpa using hxx⟩)
    (by
      rintro D ρ w i o ho him hi hd hcl hD ⟨h, hg, how, hF, hold⟩
      have ho : ol[i]? = some o := by simpa using ho
      have hcl : ∀ (k : Nat) (o : Oper), ol[k]? = some o → D k → ∀ j ∈ deps o, D j := fun k o hk => hcl k o (by simpa using hk)
      have fx0 : ∀ x ∈ looks ol o, ∀ t S, x = .tmp t → ((t, S) ∈ lcs (res.take i) ++ [] ∨ (t, S) ∈ env) → den h S (ρ t) := fun x hx t S hxt hmem => by
        subst hxt
        rcases hmem with hmem | hmem
        · rw [List.append_nil, List.mem_reverse, List.mem_filterMap] at hmem
          obtain ⟨qo, hqm, hent⟩ := hmem
          have hent : qo = some (t, S) := hent
          subst hent
          obtain ⟨j, hj⟩ := List.getElem?_of_mem hqm
          have hji : j < i := by
            rcases Nat.lt_or_ge j i with a | a
            · exact a
            · rw [List.getElem?_eq_none (by simp; omega)] at hj; cases hj
          rw [List.getElem?_take, if_pos hji] at hj
          obtain ⟨oj, hoj, hsj, _⟩ := hr j _ hj
          have hr2 := (hall i him).2
          unfold rdOk at hr2
          rw [opA_eq ho] at hr2
          have h2 := List.all_eq_true.1 hr2 _ hx
          simp only at h2
          have h3 := List.all_eq_true.1 h2 j (List.mem_range.2 hji)
          rw [opA_eq hoj, hsj] at h3
          simp only [beq_self, Bool.not_true, Bool.false_or] at h3
          exact hF j _ (hd j (by simpa using h3)) hj
        · rw [hold t fun k o' hk hok' => henv k o' (hD k hk) hok' t S hmem]
          exact (sy0.en.mem hmem).mono hg.2
      obtain ⟨e, he⟩ := hat i him
      obtain ⟨o', ho', ev⟩ := hr i e he
      rw [ho] at ho'; cases ho'
      have hrs : ∀ (d : Nat) (v : Value) (h' : PH), h.le h' → o.dst = some d → (∀ j q, D j → res[j]? = some (some q) → den h' q.2 (upd ρ d v q.1)) ∧ (∀ sl, (∀ k o', (k = i ∨ D k) → ol[k]? = some o' → o'.dst ≠ some sl) → upd ρ d v sl = ρ0 sl) := fun d v h' hle hod => by
        refine ⟨fun j q hDj hq => ?_, fun sl hs' => ?_⟩
        · have hji : i ≠ j := fun e => hi (e ▸ hDj)
          obtain ⟨oj, hoj, hsj, _⟩ := hr j _ hq
          rw [upd_ne _ _ fun e => hne i j o oj d hji ho hoj hod (by rw [hsj, e])]
          exact (hF j q hDj hq).mono hle
        · rw [upd_ne _ _ fun e => hs' i o (.inl rfl) ho (by rw [e]; exact hod)]
          exact hold sl fun k o' hk hok' => hs' k o' (.inr hk) hok'
      cases e with
      | some q =>
        obtain ⟨hdq, hTq⟩ := ev
        refine (hTq ρ h w ⟨hg.1, fx0, how⟩).mono ?_
        rintro ρ' w' ⟨v, h', rfl, gr, hle, hob, hv⟩
        obtain ⟨r1, r2⟩ := hrs q.1 v h' hle hdq
        refine ⟨h', ⟨gr, hg.2.trans hle⟩, hob, fun j q' hj hq' => ?_, r2⟩
        · by_cases hji : j = i
          · subst hji; rw [he] at hq'; cases hq'; rw [upd_at]; exact hv
          · exact r1 j q' (hj.resolve_left hji) hq'
      | none => exact ev.elim)
    (by
      rintro D D' ρ w hDD ⟨h, a, b, c⟩
      have : D = D' := funext fun k => propext (hDD k)
      subst this
      exact ⟨h, a, b, c⟩)
    (by
      rintro D ρ w hall2 hD ⟨h, hg, how, hF, hold⟩
      have hlo : ∀ l : List (Option (Nat × SV)), (∀ q, some q ∈ l → den h q.2 (ρ q.1)) → EnvOk h ρ (l.filterMap id) := fun l => by
        induction l with
        | nil => exact fun _ => trivial
        | cons q l ih =>
          cases q with
          | none => exact fun a => by simpa using ih fun q hq => a q (List.mem_cons_of_mem _ hq)
          | some q =>
            intro a
            show EnvOk h ρ (q :: l.filterMap id)
            exact ⟨a q (List.mem_cons_self ..), ih fun q hq => a q (List.mem_cons_of_mem _ hq)⟩
      have hloc : EnvOk h ρ (lcs res ++ []) := by
        rw [List.append_nil]
        have : lcs res = (res.reverse.filterMap id) := by rw [List.filterMap_reverse]
        rw [this]
        refine hlo _ fun q hq => ?_
        obtain ⟨i, hi⟩ := List.getElem?_of_mem (List.mem_reverse.1 hq)
        have him : i < m := by rw [← hm0]; exact (List.getElem?_eq_some_iff.1 hi).1
        exact hF i q (hall2 i him) hi
      have hen : EnvOk h ρ env := (sy0.en.mono hg.2).ext fun p hp => (hold p.1 fun k o' hk hok' => henv k o' (hD k hk) hok' p.1 p.2 hp).symm
      have hds : ∀ (ex : List Nat), (∀ e ∈ ex, ∃ j o, j < m ∧ ol[j]? = some o ∧ o.dst = some e) → okR (ol.drop m) (ex ++ (lcs res).map (·.1)) (env.map (·.1)) = true := fun ex hex =>
        okR_tail hok (fun e he => by
          rcases List.mem_append.1 he with x | x
          · exact hex e x
          · obtain ⟨q, hq, rfl⟩ := List.mem_map.1 x
            rw [List.mem_reverse, List.mem_filterMap] at hq
            obtain ⟨qo, hqm, hq2⟩ := hq
            have hq2 : qo = some q := hq2
            subst hq2
            obtain ⟨j, hj⟩ := List.getElem?_of_mem hqm
            obtain ⟨o, ho, hod, _⟩ := hr j _ hj
            exact ⟨j, o, by rw [← hm0]; exact (List.getElem?_eq_some_iff.1 hj).1, ho, hod⟩)
      have close : ∀ {L : EL} {Bx : List Res}, GO P n X ms L env Bx ol (ol.drop res.length) k → okR (ol.drop m) (L.map (·.1)) (env.map (·.1)) = true → EnvOk h ρ L → OwnB X.w0 Bx h w → wpOps P ol.toArray (toQ n (onlyN fun ρ w => run X.c.round P X.T k .normal (mkX X.c n ρ) w)) (List.range' m (ol.toArray.size - m)) (mk n ρ) w := fun {L Bx} hgo hk hL hB => by
        have hG := hgo.p (by rw [hm0]; exact hk) ρ h w ⟨hg.1, hL, hen, hB⟩
        rw [hm0] at hG
        have := wpList_of_Ops (Q := onlyN fun ρ w => run X.c.round P X.T k .normal (mkX X.c n ρ) w) (fun _ _ h => h) (ol.drop m) ρ w hG
        rw [← wpOps_eq_wpList (ol.drop m) m (by intro j; simp)] at this
        simpa using this
      refine close hend ?_ hloc how
      have := hds [] fun e he => by cases he
      simpa using this)
    ol.toArray.size t (Array.replicate ol.toArray.size false) [] (by simp) (by intro i o ho hi; simp [Array.getElem?_replicate] at hi) (by intro i hi; simp [Array.getElem?_replicate] at hi)
    (by unfold left; exact Nat.le_trans (List.length_filter_le _ _) (by simp))
  rw [hl]
  simp only [List.reverse_nil, List.nil_append]
  have hD0 : ∀ i, ¬ (Array.replicate ol.toArray.size false)[i]? = some true := fun i => by rw [Array.getElem?_replicate]; split <;> simp
  exact hwp ρ0 w1 ⟨h1, ⟨sy0.gr, PH.le.refl h1⟩, sy0.ow, (fun i q hi => absurd hi (hD0 i)), fun _ _ => rfl⟩⟩
theorem gDq (sz m : Nat) {idn : Nat} {loc : EL} [mx : MixO P] (hs : Nat.beq ol.length sz = true) (cc : (dagC ol m (env.map (·.1)) && ol.all noDefer) = true) (g : GCq P n X ms env ol B k m [] 0 ol) : GW P n X ms loc env B (.region idn ol.toArray true) k := by
  simp only [Bool.and_eq_true] at cc
  exact cq_sound mx.h cc.1 cc.2 g
section
variable {L loc : EL} {i d : Nat} {op : Op} {ty : TypeId} {pos : String} {af : Array Edge} {rest : List Oper} {sd : Prop} {S : SV}
theorem triPQ {L : EL} {o : Oper} (t : TriP P n X env B ol L o d S) : TriQ P n X env ol B L o d S := fun ρ h w s => (t ρ h w s).mono fun ρ' w' ⟨v, h', e, g, u⟩ => ⟨v, h', e, s.gr.trans g, g.le, s.ow.grow g, u⟩
instance [st : St P n true L env B ms d op sd S] : Nx (GCq P n X ms env ol B k m L i (⟨some d, op, ty, pos, af, none⟩ :: rest)) sd (GCq P n X ms env ol B k m ((d, S) :: L) (i + 1) rest) := ⟨fun hs g => .pure (d, S) ⟨rfl, triPQ (triQ (st := st) hs)⟩ g⟩
theorem gQc {f : FuncId} {xs : List Operand} {ts : Array TypeId} {Ss : List SV} {B' : List Res} {s2 : Prop} {kb : List Res} [lx : Lus n true L env xs Ss] [ct : CtR P f Ss B sd Unit (fun _ => S) (fun _ => B')] [mb : MtB B' B s2 kb] (hs : sd) (h2 : s2) (g : GCq P n X ms env ol B k m ((d, S) :: L) (i + 1) rest) : GCq P n X ms env ol B k m L i (⟨some d, .call ⟨.value (.func f), xs.toArray, ts⟩, ty, pos, af, none⟩ :: rest) := .pure (d, S) ⟨rfl, fun ρ h w s => by
  have s' : Sx X.h0 X.w0 L env B xs ρ h w := s.sub (fun x hx => by simp [looks, Op.operands, Call.operands, hx]) fun _ h => h
  have hx : denL h Ss (xs.map (ev n ρ)) := lx.h rfl fun x hx => s'.fx x hx
  refine OpG.plain (OpW.enter (f := f) (args := (xs.map (ev n ρ)).toArray) (w' := w) ?_ (ct.h hs s.gr s.ow hx) ?_)
  · simp only [execOp, resolve, ev, Deferred.ofValue, Sem.run_bind, Sem.run_pure, Result.andThen, invoke, List.map_toArray]
    have := ct.fn (#[] ++ (xs.map (ev n ρ)).toArray ++ #[]) w
    simpa using this
  · rintro e w'' ⟨v, rfl, h', u, gr, le, own, dn⟩
    exact ⟨v, rfl, v, h', rfl, gr, le, ((mb.h h2).own own).left, dn⟩⟩ g
theorem gQe (h : i = m) (g : GO P n X ms L env B ol rest k) : GCq P n X ms env ol B k m L i rest := by
  subst h
  exact .fin g
end
end
end Go.E3
set_option linter.unusedVariables false
set_option maxHeartbeats 4000000
namespace Go.E3
open Go Go.Ear
instance (priority := high) {v : Value} : EqS (.cv v) (ov v) (v.oneCell' = true) := ⟨fun e _ _ u => ⟨u, e⟩⟩
@[reducible] def mnil : Value := .map none
section
variable {α : Type}
abbrev Fam (α : Type) := Nat → Option (List (ByteArray × α) → Prop)
def cutR (Rs : Fam α) (i : Nat) : Fam α := fun j => if j = i then none else Rs j
def putR (Rs : Fam α) (i : Nat) (R : List (ByteArray × α) → Prop) : Fam α := fun j => if j = i then some R else Rs j
def rZM (f : α → SV) (vs : List Value) (Rs : Fam α) : Res where
  fp := fun i => ∃ k R, Rs k = some R ∧ vs.getD k vnil = .map (some i)
  pr := fun h w => (∀ k R, Rs k = some R → (rMp f (vs.getD k vnil) R).pr h w) ∧ ∀ k1 k2 R1 R2 b, Rs k1 = some R1 → Rs k2 = some R2 → vs.getD k1 vnil = .map (some b) → vs.getD k2 vnil = .map (some b) → k1 = k2
  st := fun {h w h' w'} le hw hn ⟨a, b⟩ => ⟨fun k R e => (rMp f (vs.getD k vnil) R).st le (fun i hi => hw i ⟨k, R, e, hi⟩) (fun i hi => hn i ⟨k, R, e, hi⟩) (a k R e), b⟩
  fz := fun _ => True
  fzm := fun _ _ => trivial
  frz := fun {h0 w0 h w} g _ _ => ⟨h, g, PH.le.refl h, fun _ x _ => x, trivial⟩
variable {f : α → SV} {vs : List Value} {Rs : Fam α} {R : List (ByteArray × α) → Prop} {B : List Res} {i : Nat} {m : Value}
theorem zm_nil : Sb B (rZM f vs (fun _ => none) :: B) := ⟨fun o => ⟨⟨fun k R e => absurd e (by simp), fun k1 k2 R1 R2 b e => absurd e (by simp)⟩, fun i ⟨k, R, e, _⟩ => absurd e (by simp), fun r' hr' i ⟨k, R, e, _⟩ => absurd e (by simp), o⟩, fun r hr i hi => by
  rcases List.mem_cons.1 hr with rfl | hr
  · obtain ⟨k, R, e, _⟩ := hi; cases e
  · exact ⟨r, hr, hi⟩⟩
theorem zm_take (hi : Rs i = some R) : Sb (rZM f vs Rs :: B) (rMp f (vs.getD i vnil) R :: rZM f vs (cutR Rs i) :: B) := ⟨fun {w0 h w} o => by
  obtain ⟨⟨a, b⟩, c, d, e⟩ := o
  have hc : ∀ k R', cutR Rs i k = some R' → k ≠ i ∧ Rs k = some R' := fun k R' x => by
    unfold cutR at x
    split at x
    · cases x
    · exact ⟨by assumption, x⟩
  refine ⟨a i R hi, fun j hj => c j ⟨i, R, hi, hj⟩, fun r' hr' j hj hj2 => ?_, ⟨fun k R' x => a k R' (hc k R' x).2, fun k1 k2 R1 R2 b' x1 x2 => b k1 k2 R1 R2 b' (hc _ _ x1).2 (hc _ _ x2).2⟩, fun j ⟨k, R', x, y⟩ => c j ⟨k, R', (hc k R' x).2, y⟩, fun r' hr' j ⟨k, R', x, y⟩ => d r' hr' j ⟨k, R', (hc k R' x).2, y⟩, e⟩
  rcases List.mem_cons.1 hr' with rfl | hr'
  · obtain ⟨k, R', x, y⟩ := hj2
    exact (hc k R' x).1 (b k i R' R j (hc k R' x).2 hi y hj)
  · exact d r' hr' j ⟨i, R, hi, hj⟩ hj2, fun r hr j hj => by
  rcases List.mem_cons.1 hr with rfl | hr
  · exact ⟨_, List.mem_cons_self .., i, R, hi, hj⟩
  · rcases List.mem_cons.1 hr with rfl | hr
    · obtain ⟨k, R', x, y⟩ := hj
      unfold cutR at x
      split at x
      · cases x
      · exact ⟨_, List.mem_cons_self .., k, R', x, y⟩
    · exact ⟨r, List.mem_cons_of_mem _ hr, hj⟩⟩
theorem zm_set (hi : Rs i = none) (hl : i < vs.length) : Sb (rMp f m R :: rZM f vs Rs :: B) (rZM f (vs.set i m) (putR Rs i R) :: B) := by
  have hg : ∀ k, (vs.set i m).getD k vnil = if k = i then m else vs.getD k vnil := fun k => getD_set' hl
  have hp : ∀ k R', putR Rs i R k = some R' → (k = i ∧ R' = R) ∨ (k ≠ i ∧ Rs k = some R') := fun k R' x => by
    unfold putR at x
    split at x
    · cases x; exact .inl ⟨by assumption, rfl⟩
    · exact .inr ⟨by assumption, x⟩
  refine ⟨fun {w0 h w} o => ?_, fun r hr j hj => ?_⟩
  · obtain ⟨a, c, d, ⟨a2, b2⟩, c2, d2, e2⟩ := o
    have hd : ∀ k R' j, Rs k = some R' → vs.getD k vnil = .map (some j) → m ≠ .map (some j) := fun k R' j x y z => d _ (List.mem_cons_self ..) j z ⟨k, R', x, y⟩
    refine ⟨⟨fun k R' x => ?_, fun k1 k2 R1 R2 b' x1 x2 y1 y2 => ?_⟩, fun j ⟨k, R', x, y⟩ => ?_, fun r' hr' j ⟨k, R', x, y⟩ => ?_, e2⟩
    · rw [hg]
      rcases hp k R' x with ⟨h1, rfl⟩ | ⟨h1, h2⟩
      · rw [if_pos h1]; exact a
      · rw [if_neg h1]; exact a2 k R' h2
    · rw [hg] at y1 y2
      rcases hp k1 R1 x1 with ⟨h1, rfl⟩ | ⟨h1, h2⟩ <;> rcases hp k2 R2 x2 with ⟨h3, rfl⟩ | ⟨h3, h4⟩
      · omega
      · rw [if_pos h1] at y1; rw [if_neg h3] at y2; exact absurd y1 (hd k2 R2 b' h4 y2)
      · rw [if_neg h1] at y1; rw [if_pos h3] at y2; exact absurd y2 (hd k1 R1 b' h2 y1)
      · rw [if_neg h1] at y1; rw [if_neg h3] at y2; exact b2 k1 k2 R1 R2 b' h2 h4 y1 y2
    · rw [hg] at y
      rcases hp k R' x with ⟨h1, rfl⟩ | ⟨h1, h2⟩
      · rw [if_pos h1] at y; exact c j y
      · rw [if_neg h1] at y; exact c2 j ⟨k, R', h2, y⟩
    · rw [hg] at y
      rcases hp k R' x with ⟨h1, rfl⟩ | ⟨h1, h2⟩
      · rw [if_pos h1] at y; exact d r' (List.mem_cons_of_mem _ hr') j y
      · rw [if_neg h1] at y; exact d2 r' hr' j ⟨k, R', h2, y⟩
  · rcases List.mem_cons.1 hr with rfl | hr
    · obtain ⟨k, R', x, y⟩ := hj
      rw [hg] at y
      rcases hp k R' x with ⟨h1, rfl⟩ | ⟨h1, h2⟩
      · rw [if_pos h1] at y; exact ⟨_, List.mem_cons_self .., y⟩
      · rw [if_neg h1] at y; exact ⟨_, List.mem_cons_of_mem _ (List.mem_cons_self ..), k, R', h2, y⟩
    · exact ⟨r, List.mem_cons_of_mem _ (List.mem_cons_of_mem _ hr), hj⟩
theorem set_same {i : Nat} (hl : i < vs.length) : vs.set i (vs.getD i vnil) = vs := by
  apply List.ext_getElem?
  intro k
  rw [List.getElem?_set]
  by_cases h : i = k
  · subst h; rw [if_pos rfl, if_pos hl, List.getD_eq_getElem?_getD, List.getElem?_eq_getElem hl]; rfl
  · rw [if_neg h]
theorem zm_put (hi : Rs i = none) (hl : i < vs.length) : Sb (rMp f (vs.getD i vnil) R :: rZM f vs Rs :: B) (rZM f vs (putR Rs i R) :: B) := by
  have := zm_set (f := f) (m := vs.getD i vnil) (R := R) (B := B) hi hl
  rwa [set_same hl] at this
theorem zm_free (x : Value) (hi : Rs i = none) (hl : i < vs.length) : Sb (rZM f vs Rs :: B) (rZM f (vs.set i x) Rs :: B) := by
  have hg : ∀ k R', Rs k = some R' → (vs.set i x).getD k vnil = vs.getD k vnil := fun k R' e => by
    rw [getD_set' hl, if_neg (by rintro rfl; rw [hi] at e; cases e)]
  refine ⟨fun {w0 h w} o => ?_, fun r hr j hj => ?_⟩
  · obtain ⟨⟨a2, b2⟩, c2, d2, e2⟩ := o
    refine ⟨⟨fun k R' e => by rw [hg k R' e]; exact a2 k R' e, fun k1 k2 R1 R2 b' x1 x2 y1 y2 => b2 k1 k2 R1 R2 b' x1 x2 (by rwa [hg _ _ x1] at y1) (by rwa [hg _ _ x2] at y2)⟩, fun j ⟨k, R', e, y⟩ => c2 j ⟨k, R', e, by rwa [hg _ _ e] at y⟩, fun r' hr' j ⟨k, R', e, y⟩ => d2 r' hr' j ⟨k, R', e, by rwa [hg _ _ e] at y⟩, e2⟩
  · rcases List.mem_cons.1 hr with rfl | hr
    · obtain ⟨k, R', e, y⟩ := hj
      exact ⟨_, List.mem_cons_self .., k, R', e, by rwa [hg _ _ e] at y⟩
    · exact ⟨r, List.mem_cons_of_mem _ hr, hj⟩
theorem zm_im {Rs' : Fam α} (h : ∀ k, Rs' k = Rs k ∨ ∃ R R', Rs k = some R ∧ Rs' k = some R' ∧ ∀ l, R l → R' l) : Sb (rZM f vs Rs :: B) (rZM f vs Rs' :: B) := by
  have hk : ∀ k R', Rs' k = some R' → ∃ R, Rs k = some R ∧ ∀ l, R l → R' l := fun k R' e => by
    rcases h k with x | ⟨R, R2, x, y, z⟩
    · exact ⟨R', by rw [← x]; exact e, fun _ a => a⟩
    · rw [y] at e; cases e; exact ⟨R, x, z⟩
  refine ⟨fun {w0 h w} o => ?_, fun r hr j hj => ?_⟩
  · obtain ⟨⟨a2, b2⟩, c2, d2, e2⟩ := o
    refine ⟨⟨fun k R' e => ?_, fun k1 k2 R1 R2 b' x1 x2 y1 y2 => ?_⟩, fun j ⟨k, R', e, y⟩ => ?_, fun r' hr' j ⟨k, R', e, y⟩ => ?_, e2⟩
    · obtain ⟨R, x, z⟩ := hk k R' e
      obtain ⟨l, m, p⟩ := a2 k R x
      exact ⟨l, z l m, p⟩
    · obtain ⟨_, x1, _⟩ := hk _ _ x1
      obtain ⟨_, x2, _⟩ := hk _ _ x2
      exact b2 k1 k2 _ _ b' x1 x2 y1 y2
    · obtain ⟨_, x, _⟩ := hk _ _ e
      exact c2 j ⟨k, _, x, y⟩
    · obtain ⟨_, x, _⟩ := hk _ _ e
      exact d2 r' hr' j ⟨k, _, x, y⟩
  · rcases List.mem_cons.1 hr with rfl | hr
    · obtain ⟨k, R', e, y⟩ := hj
      obtain ⟨_, x, _⟩ := hk _ _ e
      exact ⟨_, List.mem_cons_self .., k, _, x, y⟩
    · exact ⟨r, List.mem_cons_of_mem _ hr, hj⟩
end
class PZM (B : List Res) (vs : List Value) (α : outParam Type) (f : outParam (α → SV)) (Rs : outParam (Fam α)) (B' : outParam (List Res)) : Prop where h : Sb B (rZM f vs Rs :: B')
section
variable {α : Type} {f : α → SV} {vs : List Value} {Rs Rs' : Fam α} {B B' B1 L rest : List Res} {s2 : Prop}
instance : PZM (rZM f vs Rs :: B) vs α f Rs B := ⟨.refl _⟩
instance (priority := 50) {x : Res} [i : PZM B vs α f Rs B'] : PZM (x :: B) vs α f Rs (x :: B') := ⟨(i.h.cons x).trans (.perm (List.Perm.swap ..))⟩
instance [pm : PZM B vs α f Rs B1] [i : MtB B1 L s2 rest] : MtB B (rZM f vs Rs' :: L) ((∀ k, Rs' k = Rs k ∨ ∃ R R', Rs k = some R ∧ Rs' k = some R' ∧ ∀ l, R l → R' l) ∧ s2) rest := ⟨fun x => (pm.h.trans (zm_im x.1)).more (i.h x.2)⟩
end
section
variable {P : Program} {n : Nat} {X : Fix} {ms : List Nat} {loc env : EL} {B B1 B2 : List Res} {k : Kt} {c : Code} {α : Type} {f : α → SV} {R : List (ByteArray × α) → Prop} {vs : List Value} {Rs : Fam α} {ol rest : List Oper} {e : Exit}
theorem gSbO (s : Sb B B1) (g : GO P n X ms loc env B1 ol rest k) : GO P n X ms loc env B ol rest k := ⟨fun ok ρ h w sy => g.p ok ρ h w (sy.sb s)⟩
theorem gSbX (s : Sb B B1) (g : GX P n X ms loc env B1 e k) : GX P n X ms loc env B e k := ⟨fun ρ h w sy => g.p ρ h w (sy.sb s)⟩
theorem gTk (vs : List Value) (i : Nat) {R : List (ByteArray × α) → Prop} [pz : PZM B vs α f Rs B1] (hi : Rs i = some R) (g : GW P n X ms loc env (rMp f (vs.getD i vnil) R :: rZM f vs (cutR Rs i) :: B1) c k) : GW P n X ms loc env B c k := gSb (pz.h.trans (zm_take hi)) g
theorem gTkX (vs : List Value) (i : Nat) {R : List (ByteArray × α) → Prop} [pz : PZM B vs α f Rs B1] (hi : Rs i = some R) (g : GX P n X ms loc env (rMp f (vs.getD i vnil) R :: rZM f vs (cutR Rs i) :: B1) e k) : GX P n X ms loc env B e k := gSbX (pz.h.trans (zm_take hi)) g
theorem gPt (vs : List Value) (i : Nat) [pm : PMp B (vs.getD i vnil) α f R B1] [pz : PZM B1 vs α f Rs B2] (hi : Rs i = none) (hl : i < vs.length) (g : GW P n X ms loc env (rZM f vs (putR Rs i R) :: B2) c k) : GW P n X ms loc env B c k :=
  gSb ((pm.h.trans (pz.h.cons _)).trans (zm_put hi hl)) g
theorem gPtX (vs : List Value) (i : Nat) [pm : PMp B (vs.getD i vnil) α f R B1] [pz : PZM B1 vs α f Rs B2] (hi : Rs i = none) (hl : i < vs.length) (g : GX P n X ms loc env (rZM f vs (putR Rs i R) :: B2) e k) : GX P n X ms loc env B e k :=
  gSbX ((pm.h.trans (pz.h.cons _)).trans (zm_put hi hl)) g
theorem gStX (vs : List Value) (i : Nat) (m : Value) (R : List (ByteArray × α) → Prop) {l : List (ByteArray × α)} [pm : PM B m α f l B1] [pz : PZM B1 vs α f Rs B2] (hR : R l) (hi : Rs i = none) (hl : i < vs.length) (g : GX P n X ms loc env (rZM f (vs.set i m) (putR Rs i R) :: B2) e k) : GX P n X ms loc env B e k :=
  gSbX (((pm.h.trans (rMp_cl hR)).trans (pz.h.cons _)).trans (zm_set hi hl)) g
theorem gZn (f : α → SV) (vs : List Value) (g : GW P n X ms loc env (rZM f vs (fun _ => none) :: B) c k) : GW P n X ms loc env B c k := gSb zm_nil g
def r0 : Res where
  fp := fun _ => False
  pr := fun _ _ => True
  st := fun _ _ _ _ => trivial
  fz := fun _ => True
  fzm := fun _ _ => trivial
  frz := fun {h0 w0 h w} g _ _ => ⟨h, g, PH.le.refl h, fun _ x _ => x, trivial⟩
def rIf (b : Bool) (r : Res) : Res := match b with
  | true => r
  | false => r0
end
theorem r0_new {B : List Res} : Sb B (r0 :: B) := ⟨fun o => ⟨trivial, fun i hi => hi.elim, fun r' hr' i hi => hi.elim, o⟩, fun r hr i hi => by
  rcases List.mem_cons.1 hr with rfl | hr
  · exact hi.elim
  · exact ⟨r, hr, hi⟩⟩
instance {B L rest : List Res} {r : Res} {s2 : Prop} [i : MtB B (r :: L) s2 rest] : MtB B (rIf true r :: L) s2 rest := i
instance {B L rest : List Res} {r : Res} {s2 : Prop} [i : MtB B L s2 rest] : MtB B (rIf false r :: L) s2 rest := ⟨fun x => r0_new.more (i.h x)⟩
end Go.E3
set_option linter.unusedVariables false
set_option linter.unusedSectionVars false
namespace Go.Ear
theorem Wh.bqM {D M : Nat} {q : Rat} (h : Wh D q) (hD : 0 < D) (hM : 0 < M) (h0 : 0 ≤ q) (h1 : q ≤ M) : Go.Ear.bq q ≤ sz (D * M) := by
  obtain ⟨a, ha⟩ := h
  have hD0 : (D : Rat) ≠ 0 := fun e => by
    have : D = 0 := by exact_mod_cast e
    omega
  have hd : q.den ∣ D := by
    have e : q = (a : Rat) / (D : Rat) := by rw [← ha, Rat.div_def, Rat.mul_assoc, Rat.mul_inv_cancel _ hD0, Rat.mul_one]
    have e2 : q = mkRat a D := by rw [Rat.mkRat_eq_div]; exact e
    rw [e2, Rat.den_mkRat, if_neg (by omega)]
    exact Nat.div_dvd_of_dvd (Nat.gcd_dvd_left _ _)
  have hdl : q.den ≤ D := Nat.le_of_dvd hD hd
  have hn : q.num.natAbs ≤ q.den * M := by
    have hnn : 0 ≤ q.num := Rat.num_nonneg.2 h0
    have hle : q.num ≤ ((q.den * M : Nat) : Int) := by
      have h2 := num_eq q
      have h3 : (q.num : Rat) ≤ (((q.den * M : Nat) : Int) : Rat) := by
        rw [← h2]
        have hdp : (0 : Rat) ≤ (q.den : Rat) := Rat.natCast_nonneg
        have := Rat.mul_le_mul_of_nonneg_right h1 hdp
        rw [Rat.intCast_natCast, Rat.natCast_mul, Rat.mul_comm (q.den : Rat)]; exact this
      exact_mod_cast h3
    omega
  have h5 : q.den * M ≤ D * M := Nat.mul_le_mul_right _ hdl
  have h6 : q.den ≤ D * M := Nat.le_trans hdl (Nat.le_mul_of_pos_right _ hM)
  unfold Go.Ear.bq
  exact Nat.max_le.2 ⟨sz_mono (Nat.le_trans hn h5), sz_mono h6⟩
theorem Wh.one_sub {D : Nat} {q : Rat} (h : Wh D q) : Wh D (1 - q) := by
  obtain ⟨a, ha⟩ := h
  refine ⟨(D : Int) - a, ?_⟩
  have : ((1 : Rat) - q) * (D : Rat) = (D : Rat) - q * (D : Rat) := by grind
  rw [this, ha, Rat.intCast_sub, Rat.intCast_natCast]
theorem Wh.int1 (D : Nat) : Wh D 1 := ⟨D, by rw [Rat.one_mul, Rat.intCast_natCast]⟩
end Go.Ear
namespace Go.E3
open Go Go.Ear
def GdP (n : Nat) (p : List Int) : Prop := p.length ≤ n ∧ ∀ y ∈ p, 1 ≤ y ∧ y ≤ 200
theorem GdP.app {n m : Nat} {p q : List Int} (h : GdP n p) (k : GdP m q) : GdP (n + m) (p ++ q) := ⟨by rw [List.length_append]; have := h.1; have := k.1; omega, fun y hy => (List.mem_append.1 hy).elim (h.2 y) (k.2 y)⟩
theorem GdP.le {n m : Nat} {p : List Int} (h : GdP n p) (e : n ≤ m) : GdP m p := ⟨Nat.le_trans h.1 e, h.2⟩
structure WB (n D M : Nat) (b : Bag (List Int)) : Prop where
  e : ∀ x ∈ b, GdP n x.1 ∧ 0 < x.2 ∧ x.2 ≤ 1 ∧ Wh D x.2
  l : b.length ≤ M
theorem WB.app {n D M N : Nat} {a b : Bag (List Int)} (h : WB n D M a) (k : WB n D N b) : WB n D (M + N) (a ++ b) := ⟨fun x hx => (List.mem_append.1 hx).elim (h.e x) (k.e x), by rw [List.length_append]; have := h.l; have := k.l; omega⟩
theorem WB.nil {n D : Nat} : WB n D 0 [] := ⟨fun x hx => (List.not_mem_nil hx).elim, Nat.le_refl _⟩
theorem WB.le {n D M N n' : Nat} {b : Bag (List Int)} (h : WB n D M b) (e : M ≤ N) (e2 : n ≤ n') : WB n' D N b := ⟨fun x hx => ⟨(h.e x hx).1.le e2, (h.e x hx).2⟩, Nat.le_trans h.l e⟩
theorem WB.pos {n D M : Nat} {b : Bag (List Int)} (h : WB n D M b) : PosB b := fun x hx => (h.e x hx).2.1
theorem WB.has {n D M : Nat} {b : Bag (List Int)} (h : WB n D M b) {p : List Int} (hp : hasB b p) : GdP n p := by
  obtain ⟨w, hw⟩ := hp
  exact (h.e _ hw).1
theorem Wh.sQ {D : Nat} : ∀ {l : List Rat}, (∀ x ∈ l, Wh D x) → Wh D (sQ l)
  | [], _ => Wh.zero D
  | x :: l, h => (h x (List.mem_cons_self ..)).add (Wh.sQ fun y hy => h y (List.mem_cons_of_mem _ hy))
theorem sQ_len : ∀ {l : List Rat}, (∀ x ∈ l, x ≤ 1) → sQ l ≤ (l.length : Nat)
  | [], _ => Rat.le_refl
  | x :: l, h => by
    have h1 := h x (List.mem_cons_self ..)
    have h2 := sQ_len fun y hy => h y (List.mem_cons_of_mem x hy)
    show x + sQ l ≤ ((l.length + 1 : Nat) : Rat)
    rw [Rat.natCast_add]
    have : ((1 : Nat) : Rat) = 1 := rfl
    rw [this]; grind
theorem WB.tot {n D M : Nat} {b : Bag (List Int)} (h : WB n D M b) (p : List Int) : 0 ≤ tot b p ∧ tot b p ≤ (M : Rat) ∧ Wh D (tot b p) := by
  refine ⟨tot_nonneg h.pos p, ?_, ?_⟩
  · unfold Go.E3.tot
    have h1 := sQ_len (l := (b.filter fun x => decide (x.1 = p)).map (·.2)) fun x hx => by
      obtain ⟨y, hy, rfl⟩ := List.mem_map.1 hx
      exact (h.e y (List.mem_filter.1 hy).1).2.2.1
    refine Rat.le_trans h1 ?_
    have : ((b.filter fun x => decide (x.1 = p)).map (·.2)).length ≤ M := by
      rw [List.length_map]; exact Nat.le_trans (List.length_filter_le _ _) h.l
    exact Rat.natCast_le_natCast.2 this
  · refine Wh.sQ fun x hx => ?_
    obtain ⟨y, hy, rfl⟩ := List.mem_map.1 hx
    exact (h.e y (List.mem_filter.1 hy).1).2.2.2
theorem WB.bq {n D M : Nat} {b : Bag (List Int)} (h : WB n D M b) (hD : 0 < D) (hM : 0 < M) (p : List Int) : bq (Go.E3.tot b p) ≤ sz (D * M) := by
  obtain ⟨h0, h1, h2⟩ := h.tot p
  exact h2.bqM hD hM h0 h1
theorem WB.bm {n D E M : Nat} {b : Bag (List Int)} {q : List Int} {w : Rat} (h : WB n D M b) (hq : GdP 4 q) (w0 : 0 < w) (w1 : w ≤ 1) (we : Wh E w) : WB (n + 4) (D * E) M (bm (· ++ q) w b) := ⟨fun x hx => by
  obtain ⟨y, hy, rfl⟩ := List.mem_map.1 hx
  obtain ⟨a, b, c, d⟩ := h.e y hy
  refine ⟨a.app hq, Rat.mul_pos b w0, ?_, d.mul we⟩
  have := Rat.mul_le_mul_of_nonneg_right c (Rat.le_of_lt w0)
  rw [Rat.one_mul] at this
  exact Rat.le_trans this w1, by rw [Go.E3.bm, List.length_map]; exact h.l⟩
theorem WB.up {n D M : Nat} {b : Bag (List Int)} (h : WB n D M b) (E : Nat) : WB n (D * E) M b := ⟨fun x hx => ⟨(h.e x hx).1, (h.e x hx).2.1, (h.e x hx).2.2.1, (h.e x hx).2.2.2.up E⟩, h.l⟩
def rdn (r : List Rw) : Nat := (r.map fun x => x.f.rat.den).foldr (· * ·) 1
theorem rdn_pos : ∀ r : List Rw, 0 < rdn r
  | [] => Nat.one_pos
  | x :: r => Nat.mul_pos (Nat.pos_of_ne_zero x.f.rat.den_nz) (rdn_pos r)
theorem rdn_wh : ∀ {r : List Rw} {x : Rw}, x ∈ r → Wh (rdn r) x.f.rat
  | y :: r, x, h => by
    show Wh (y.f.rat.den * rdn r) _
    rcases List.mem_cons.1 h with rfl | h
    · exact (Wh.den _).up _
    · rw [Nat.mul_comm]; exact (rdn_wh h).up _
theorem rdn_sz : ∀ {r : List Rw} {b : Nat}, (∀ x ∈ r, Fit x.f.n ∧ Fit x.f.d ∧ bf x.f ≤ b) → sz (rdn r) ≤ r.length * b + 1
  | [], b, _ => by show sz 1 ≤ _; rw [sz_one]; omega
  | x :: r, b, h => by
    have h1 := h x (List.mem_cons_self ..)
    have h2 := rdn_sz (r := r) (b := b) fun y hy => h y (List.mem_cons_of_mem _ hy)
    have h3 : sz x.f.rat.den ≤ b := Nat.le_trans (bq_den _) (Nat.le_trans (bq_rat ⟨h1.1, h1.2.1⟩) h1.2.2)
    have h4 := sz_mul x.f.rat.den (rdn r)
    show sz (x.f.rat.den * rdn r) ≤ (r.length + 1) * b + 1
    rw [Nat.add_mul]; omega
structure ApOk (r : List Rw) (l : List Int) : Prop where
  hr : rulB r = true
  hl : phB l 400 = true
  n : l.length ≤ 25
  s : ∀ x ∈ r, RwS x ∧ bf x.f ≤ 1000
theorem phB_gd {l : List Int} {m : Int} (h : phB l m = true) : (∀ y ∈ l, 1 ≤ y ∧ y ≤ 200) ∧ (l.length : Int) ≤ m := by
  unfold phB at h
  rw [Bool.and_eq_true, decide_eq_true_iff, Bool.not_eq_true'] at h
  refine ⟨fun y hy => ?_, h.1⟩
  have := List.any_eq_false.1 h.2 y hy
  unfold badP at this
  simp at this; omega
theorem rul_gd {r : List Rw} (h : rulB r = true) : r.length ≤ 50 ∧ ∀ x ∈ r, 1 ≤ x.from_.length ∧ phB x.from_ 4 = true ∧ phB x.to 4 = true ∧ 0 < x.f.rat ∧ x.f.rat ≤ 1 := by
  unfold rulB at h
  rw [Bool.and_eq_true, decide_eq_true_iff, Bool.not_eq_true'] at h
  refine ⟨h.1, fun x hx => ?_⟩
  have := List.any_eq_false.1 h.2 x hx
  unfold badR at this
  simp only [Bool.or_eq_true, not_or, decide_eq_true_iff, Bool.not_eq_true', Bool.not_eq_false] at this
  obtain ⟨⟨⟨⟨⟨a, b⟩, c⟩, _⟩, _⟩, d⟩ := this
  unfold wtB at d
  rw [Bool.and_eq_true, decide_eq_true_iff, decide_eq_true_iff] at d
  refine ⟨by omega, b, c, sgQ_pos.1 d.1, ?_⟩
  have h2 := d.2
  have h3 : ¬ 0 < sgQ (x.f.rat - 1) := by omega
  rw [sgQ_pos] at h3
  grind
theorem optL_cases {r : List Rw} {l : List Int} {i : Nat} (P : List Op' → Prop) (h1 : idxP (mtR l i) r < 0 → P [⟨(l.take (i + 1)).drop i, 1, frK 1⟩])
    (h2 : ∀ x ∈ r, mtR l i x = true → x = r.getD (idxP (mtR l i) r).toNat rw0 → (0 < 1 - x.f.rat → P [⟨x.to, x.from_.length, x.f⟩, ⟨(l.take (i + 1)).drop i, 1, frK (1 - x.f.rat)⟩]) ∧ (¬ 0 < 1 - x.f.rat → P [⟨x.to, x.from_.length, x.f⟩])) : P (optL r l i) := by
  unfold optL
  split
  · rename_i c; exact h1 c
  · rename_i c
    have hlt := idxP_lt c
    have hi : idxP (mtR l i) r = (((idxP (mtR l i) r).toNat : Nat) : Int) := by omega
    have hm := (idxP_first (d := rw0) hi).2.1
    obtain ⟨a, b⟩ := h2 _ (getD_in rw0 hlt) hm rfl
    split
    · rename_i h; rw [sgQ_pos] at h; exact a h
    · rename_i h; rw [sgQ_pos] at h; exact b h
theorem mt_len {l : List Int} {i : Nat} {x : Rw} (hx : phB x.from_ 4 = true) (h1 : 1 ≤ x.from_.length) (h : mtR l i x = true) : i + x.from_.length ≤ l.length := by
  unfold mtR at h
  rw [Bool.and_eq_true, Bool.not_eq_true'] at h
  have h2 := List.any_eq_false.1 h.1 (x.from_.length - 1) (List.mem_range.2 (by omega))
  unfold frR at h2
  have h2 : nearI l ((i : Int) + ((x.from_.length - 1 : Nat) : Int)) = x.from_.getD (x.from_.length - 1) 0 := by simpa using h2
  have h3 := (phB_gd hx).1 _ (getD_in 0 (show x.from_.length - 1 < x.from_.length by omega))
  rw [← h2] at h3
  unfold nearI at h3
  split at h3
  · omega
  · omega
theorem stay_gd {l : List Int} {i : Nat} (hi : i < l.length) (hl : ∀ y ∈ l, 1 ≤ y ∧ y ≤ 200) : GdP 4 ((l.take (i + 1)).drop i) := ⟨by rw [List.length_drop, List.length_take]; omega, fun y hy => hl y (List.mem_of_mem_take (List.mem_of_mem_drop hy))⟩
theorem opts_ok {r : List Rw} {l : List Int} (hr : rulB r = true) (hl : ∀ y ∈ l, 1 ≤ y ∧ y ≤ 200) {i : Nat} (hi : i < l.length) :
    (∀ o ∈ optL r l i, (1 ≤ o.pass.toNat ∧ i + o.pass.toNat ≤ l.length ∧ o.pass = (o.pass.toNat : Int) ∧ o.pass.toNat ≤ 4) ∧ GdP 4 o.wr ∧ 0 < o.f.rat ∧ o.f.rat ≤ 1 ∧ Wh (rdn r) o.f.rat) ∧ sQ ((optL r l i).map fun o => o.f.rat) = 1 ∧ (optL r l i).length ≤ 2 := by
  have hst := stay_gd hi hl
  refine optL_cases (fun L => (∀ o ∈ L, (1 ≤ o.pass.toNat ∧ i + o.pass.toNat ≤ l.length ∧ o.pass = (o.pass.toNat : Int) ∧ o.pass.toNat ≤ 4) ∧ GdP 4 o.wr ∧ 0 < o.f.rat ∧ o.f.rat ≤ 1 ∧ Wh (rdn r) o.f.rat) ∧ sQ (L.map fun o => o.f.rat) = 1 ∧ L.length ≤ 2) ?_ ?_
  · intro _
    refine ⟨fun o ho => ?_, ?_, by simp⟩
    · rw [List.mem_singleton.1 ho]
      refine ⟨⟨Nat.le_refl _, by show i + 1 ≤ _; omega, rfl, by show 1 ≤ 4; omega⟩, hst, ?_⟩
      show 0 < (frK 1).rat ∧ (frK 1).rat ≤ 1 ∧ Wh _ (frK 1).rat
      rw [frK_rat]
      exact ⟨by decide, Rat.le_refl, Wh.int1 _⟩
    · show (frK 1).rat + 0 = 1
      rw [frK_rat, Rat.add_zero]
  · intro x hx hm _
    obtain ⟨f1, f2, f3, f4, f5⟩ := (rul_gd hr).2 x hx
    have hlen := mt_len f2 f1 hm
    have hfl := (phB_gd f2).2
    have hto := phB_gd f3
    have hx1 : (1 ≤ (x.from_.length : Int).toNat ∧ i + (x.from_.length : Int).toNat ≤ l.length ∧ (x.from_.length : Int) = ((x.from_.length : Int).toNat : Int) ∧ (x.from_.length : Int).toNat ≤ 4) ∧ GdP 4 x.to ∧ 0 < x.f.rat ∧ x.f.rat ≤ 1 ∧ Wh (rdn r) x.f.rat := ⟨by omega, ⟨by omega, hto.1⟩, f4, f5, rdn_wh hx⟩
    refine ⟨fun h => ⟨fun o ho => ?_, ?_, by simp⟩, fun h => ⟨fun o ho => ?_, ?_, by simp⟩⟩
    · rcases List.mem_cons.1 ho with rfl | ho
      · exact hx1
      · rw [List.mem_singleton.1 ho]
        refine ⟨⟨Nat.le_refl _, by show i + 1 ≤ _; omega, rfl, by show 1 ≤ 4; omega⟩, hst, ?_⟩
        show 0 < (frK (1 - x.f.rat)).rat ∧ (frK (1 - x.f.rat)).rat ≤ 1 ∧ Wh _ (frK (1 - x.f.rat)).rat
        rw [frK_rat]
        exact ⟨h, by grind, (rdn_wh hx).one_sub⟩
    · show x.f.rat + ((frK (1 - x.f.rat)).rat + 0) = 1
      rw [frK_rat]; grind
    · rw [List.mem_singleton.1 ho]; exact hx1
    · show x.f.rat + 0 = 1
      grind
theorem ApOk.op {r : List Rw} {l : List Int} (h : ApOk r l) : OpOk r l := ⟨fun i hi o ho => by
  obtain ⟨⟨a, b, c, d⟩, e, _⟩ := (opts_ok h.hr (phB_gd h.hl).1 hi).1 o ho
  exact ⟨a, b, c, d, e.1⟩, fun i hi o ho => ((opts_ok h.hr (phB_gd h.hl).1 hi).1 o ho).2.2.1, fun i hi => (opts_ok h.hr (phB_gd h.hl).1 hi).2.1⟩
theorem WB.fm {β : Type} {n D M : Nat} {f : β → Bag (List Int)} : ∀ {L : List β}, (∀ a ∈ L, WB n D M (f a)) → WB n D (L.length * M) (L.flatMap f)
  | [], _ => by rw [List.length_nil, Nat.zero_mul]; exact WB.nil
  | a :: L, h => by
    rw [List.flatMap_cons, List.length_cons, Nat.add_mul, Nat.one_mul, Nat.add_comm]
    exact (h a (List.mem_cons_self ..)).app (WB.fm fun b hb => h b (List.mem_cons_of_mem _ hb))
theorem ats_wb {r : List Rw} {l : List Int} (h : ApOk r l) : ∀ i j, i ≤ l.length → WB (4 * i) (rdn r ^ i) (3 ^ i) (ats r l i j)
  | 0, j, _ => by
    unfold ats
    split
    · refine ⟨fun x hx => ?_, Nat.le_refl _⟩
      rw [List.mem_singleton.1 hx]
      exact ⟨⟨Nat.zero_le _, fun y hy => (List.not_mem_nil hy).elim⟩, by show (0 : Rat) < 1; decide, Rat.le_refl, Wh.int1 _⟩
    · exact WB.nil.le (Nat.zero_le _) (Nat.zero_le _)
  | i + 1, j, hi => by
    have ih := fun j => ats_wb h i j (by omega)
    obtain ⟨ho, _, hl⟩ := opts_ok h.hr (phB_gd h.hl).1 (show i < l.length by omega)
    unfold ats
    split
    · exact WB.nil.le (Nat.zero_le _) (Nat.zero_le _)
    · have h1 := ((ih j).up (rdn r)).le (Nat.le_refl _) (show 4 * i ≤ 4 * (i + 1) by omega)
      have h2 : WB (4 * (i + 1)) (rdn r ^ i * rdn r) ((optL r l i).length * 3 ^ i) ((optL r l i).flatMap fun o => if i + o.pass.toNat = j then bm (· ++ o.wr) o.f.rat (ats r l i i) else []) := WB.fm fun o hoo => by
        obtain ⟨_, q1, q2, q3, q4⟩ := ho o hoo
        split
        · exact (ih i).bm q1 q2 q3 q4
        · exact WB.nil.le (Nat.zero_le _) (Nat.zero_le _)
      have h3 := h1.app h2
      rw [Nat.pow_succ, Nat.pow_succ]
      refine h3.le ?_ (Nat.le_refl _)
      have : (optL r l i).length * 3 ^ i ≤ 2 * 3 ^ i := Nat.mul_le_mul_right _ hl
      omega
theorem three_pow {i : Nat} (h : i ≤ 26) : 3 ^ i ≤ 2541865828329 := Nat.le_trans (Nat.pow_le_pow_right (by omega) h) (by decide)
theorem ap_sz {r : List Rw} {l : List Int} (h : ApOk r l) {i : Nat} (hi : i ≤ 26) : sz (rdn r ^ i * 3 ^ i) ≤ 1400000 := by
  have h1 := sz_mul (rdn r ^ i) (3 ^ i)
  have h2 := sz_pow (rdn r) i
  have h3 := rdn_sz (r := r) (b := 1000) fun x hx => ⟨(h.s x hx).1.2.2.2.2.2.1, (h.s x hx).1.2.2.2.2.2.2, (h.s x hx).2⟩
  have h4 := (rul_gd h.hr).1
  have h5 : sz (3 ^ i) ≤ 2 := sz_small (Nat.lt_of_le_of_lt (three_pow hi) (by decide))
  have h6 : r.length * 1000 ≤ 50 * 1000 := Nat.mul_le_mul_right _ h4
  have h7 : i * sz (rdn r) ≤ 26 * 50001 := Nat.mul_le_mul hi (by omega)
  omega
end Go.E3
set_option linter.unusedVariables false
namespace Go.E3
open Go Go.Ear
theorem tot_nd {g : List Int → Rat} (p : List Int) : ∀ {S : List (List Int)}, S.Nodup → tot (S.map fun q => (q, g q)) p = if p ∈ S then g p else 0
  | [], _ => rfl
  | q :: S, nd => by
    rw [List.nodup_cons] at nd
    rw [List.map_cons, tot_cons, tot_nd p nd.2]
    by_cases h : q = p
    · subst h
      rw [if_pos rfl, if_neg nd.1, if_pos (List.mem_cons_self ..), Rat.add_zero]
    · rw [if_neg h, Rat.zero_add]
      by_cases h2 : p ∈ S
      · rw [if_pos h2, if_pos (List.mem_cons_of_mem _ h2)]
      · rw [if_neg h2, if_neg (by rw [List.mem_cons]; exact fun e => e.elim (fun e => h e.symm) h2)]
theorem bag_dd (b : Bag (List Int)) : BE ((dd (b.map (·.1))).map fun p => (p, tot b p)) b := ⟨fun p => by
  constructor
  · rintro ⟨w, h⟩
    obtain ⟨q, hq, e⟩ := List.mem_map.1 h
    cases e
    exact mem_keys.1 hq
  · intro h
    exact ⟨_, List.mem_map.2 ⟨p, mem_keys.2 h, rfl⟩⟩, fun p => by
  rw [tot_nd p (nodup_dd _)]
  by_cases h : hasB b p
  · rw [if_pos (mem_keys.2 h)]
  · rw [if_neg fun e => h (mem_keys.1 e), tot_none h]⟩
theorem MF_bag {l : List (ByteArray × Fo)} {b : Bag (List Int)} (m : MK prtB (fun p x => (⟨p, frK x⟩ : Fo)) l b) : BE (l.map fun x => (x.2.ph, x.2.f.rat)) b := by
  have h := (MF_perm m).map fun x : Fo => (x.ph, x.f.rat)
  rw [List.map_map] at h
  refine (BE.perm h).trans ?_
  unfold fosB
  rw [List.map_map]
  refine BE.trans (.of_eq ?_) (bag_dd b)
  refine List.map_congr_left fun p _ => ?_
  show (p, (frK (tot b p)).rat) = _
  rw [frK_rat]
def vG (wr : List Int) (w : Rat) (vis : List (ByteArray × Fo)) : Bag (List Int) := vis.map fun x => (x.2.ph ++ wr, x.2.f.rat * w)
theorem vG_nil (wr : List Int) (w : Rat) : vG wr w [] = [] := rfl
theorem vG_bm (wr : List Int) (w : Rat) (vis : List (ByteArray × Fo)) : vG wr w vis = bm (· ++ wr) w (vis.map fun x => (x.2.ph, x.2.f.rat)) := by
  unfold vG bm
  rw [List.map_map]; rfl
theorem vG_app (wr : List Int) (w : Rat) (a b : List (ByteArray × Fo)) : vG wr w (a ++ b) = vG wr w a ++ vG wr w b := List.map_append
theorem vG_all {l vis : List (ByteArray × Fo)} {b : Bag (List Int)} (m : MK prtB (fun p x => (⟨p, frK x⟩ : Fo)) l b) (h : vis.Perm l) (wr : List Int) (w : Rat) : BE (vG wr w vis) (bm (· ++ wr) w b) := by
  rw [vG_bm]
  exact ((BE.perm (h.map _)).trans (MF_bag m)).bm _ _
theorem vG_le {l vis r : List (ByteArray × Fo)} {b : Bag (List Int)} (m : MK prtB (fun p x => (⟨p, frK x⟩ : Fo)) l b) (h : (vis ++ r).Perm l) {wr : List Int} {w : Rat} (hp : PosB b) (hw : 0 < w) (p : List Int) : tot (vG wr w vis) p ≤ tot (bm (· ++ wr) w b) p ∧ 0 ≤ tot (vG wr w vis) p := by
  have e := (vG_all m h wr w).t p
  rw [vG_app, tot_app] at e
  have hpos : ∀ x ∈ l, 0 < x.2.f.rat := fun x hx => by
    obtain ⟨q, hq, _, h2⟩ := (m.2 x.1 x.2).1 hx
    rw [h2, frK_rat]; exact (tot_pos hp).2 hq
  have h2 : ∀ s : List (ByteArray × Fo), (∀ x ∈ s, x ∈ l) → 0 ≤ tot (vG wr w s) p := fun s hs => tot_nonneg (fun y hy => by
    obtain ⟨x, hx, rfl⟩ := List.mem_map.1 hy
    exact Rat.mul_pos (hpos x (hs x hx)) hw) p
  have h3 := h2 r fun x hx => h.mem_iff.1 (List.mem_append_right _ hx)
  have h4 := h2 vis fun x hx => h.mem_iff.1 (List.mem_append_left _ hx)
  exact ⟨by rw [← e]; grind, h4⟩
section
variable {r : List Rw} {l : List Int} {i : Nat}
def bgO (r : List Rw) (l : List Int) (i m j : Nat) : Bag (List Int) := ats r l i j ++ ((optL r l i).take m).flatMap fun o => if i + o.pass.toNat = j then bm (· ++ o.wr) o.f.rat (ats r l i i) else []
theorem bgO_zero (j : Nat) : bgO r l i 0 j = ats r l i j := by unfold bgO; simp
theorem bgO_succ {m j : Nat} (hm : m < (optL r l i).length) : bgO r l i (m + 1) j = bgO r l i m j ++ if i + ((optL r l i).getD m op0).pass.toNat = j then bm (· ++ ((optL r l i).getD m op0).wr) ((optL r l i).getD m op0).f.rat (ats r l i i) else [] := by
  unfold bgO
  rw [List.take_succ_eq_append_getElem hm, List.flatMap_append, ← List.append_assoc, List.getD_eq_getElem?_getD, List.getElem?_eq_getElem hm]
  simp
theorem bgO_ne {m j : Nat} (hm : m < (optL r l i).length) (h : i + ((optL r l i).getD m op0).pass.toNat ≠ j) : bgO r l i (m + 1) j = bgO r l i m j := by rw [bgO_succ hm, if_neg h, List.append_nil]
theorem bgO_last {j : Nat} (h : i < j) : bgO r l i (optL r l i).length j = ats r l (i + 1) j := by unfold bgO; rw [List.take_length, ats_succ h]
theorem bgO_self (ok : OpOk r l) (hi : i < l.length) (m : Nat) : bgO r l i m i = ats r l i i := by
  unfold bgO
  have : ((optL r l i).take m).flatMap (fun o => if i + o.pass.toNat = i then bm (· ++ o.wr) o.f.rat (ats r l i i) else []) = [] := by
    rw [List.flatMap_eq_nil_iff]
    intro o ho
    have := (ok.p i hi o (List.mem_of_mem_take ho)).1
    rw [if_neg (by omega)]
  rw [this, List.append_nil]
theorem bgO_wb (h : ApOk r l) (hi : i < l.length) (m j : Nat) : WB (4 * (i + 1)) (rdn r ^ (i + 1)) (3 ^ (i + 1)) (bgO r l i m j) := by
  obtain ⟨ho, _, hl⟩ := opts_ok h.hr (phB_gd h.hl).1 hi
  have ih := fun j => ats_wb h i j (by omega)
  unfold bgO
  have h1 := ((ih j).up (rdn r)).le (Nat.le_refl _) (show 4 * i ≤ 4 * (i + 1) by omega)
  have h2 : WB (4 * (i + 1)) (rdn r ^ i * rdn r) (((optL r l i).take m).length * 3 ^ i) (((optL r l i).take m).flatMap fun o => if i + o.pass.toNat = j then bm (· ++ o.wr) o.f.rat (ats r l i i) else []) := WB.fm fun o hoo => by
    obtain ⟨_, q1, q2, q3, q4⟩ := ho o (List.mem_of_mem_take hoo)
    split
    · exact (ih i).bm q1 q2 q3 q4
    · exact WB.nil.le (Nat.zero_le _) (Nat.zero_le _)
  have h3 := h1.app h2
  rw [Nat.pow_succ, Nat.pow_succ]
  refine h3.le ?_ (Nat.le_refl _)
  have : ((optL r l i).take m).length * 3 ^ i ≤ 2 * 3 ^ i := Nat.mul_le_mul_right _ (by rw [List.length_take]; omega)
  omega
theorem cur_bq (h : ApOk r l) (hi : i < l.length) {m : Nat} (hm : m < (optL r l i).length) {l0 vis rs : List (ByteArray × Fo)} (mk : MK prtB (fun p x => (⟨p, frK x⟩ : Fo)) l0 (ats r l i i)) (hp : (vis ++ rs).Perm l0) {wr : List Int} {pn : Nat} {f : Fr} (hO : (optL r l i).getD m op0 = ⟨wr, (pn : Int), f⟩) (p : List Int) :
    bq (tot (bgO r l i m (i + pn) ++ vG wr f.rat vis) p) ≤ 1400000 := by
  obtain ⟨ho, _, hl⟩ := opts_ok h.hr (phB_gd h.hl).1 hi
  obtain ⟨_, q1, q2, q3, q4⟩ := ho _ (getD_in op0 hm)
  rw [hO] at q2 q4
  have q2 : 0 < f.rat := q2
  have q4 : Wh (rdn r) f.rat := q4
  have w1 := (bgO_wb h hi (m + 1) (i + pn)).tot p
  rw [bgO_succ hm, hO, tot_app] at w1
  have e1 : i + (pn : Int).toNat = i + pn := by omega
  rw [if_pos (show i + Int.toNat (Op'.pass ⟨wr, (pn : Int), f⟩) = i + pn from e1)] at w1
  have w1 : 0 ≤ tot (bgO r l i m (i + pn)) p + tot (bm (· ++ wr) f.rat (ats r l i i)) p ∧ tot (bgO r l i m (i + pn)) p + tot (bm (· ++ wr) f.rat (ats r l i i)) p ≤ ((3 ^ (i + 1) : Nat) : Rat) ∧ _ := w1
  obtain ⟨v1, v2⟩ := vG_le mk hp (wr := wr) (w := f.rat) (ats_wb h i i (by omega)).pos q2 p
  have w2 := (bgO_wb h hi m (i + pn)).tot p
  have w3 : Wh (rdn r ^ (i + 1)) (tot (vG wr f.rat vis) p) := by
    unfold tot
    refine Wh.sQ fun x hx => ?_
    obtain ⟨y, hy, rfl⟩ := List.mem_map.1 hx
    obtain ⟨z, hz, rfl⟩ := List.mem_map.1 (List.mem_filter.1 hy).1
    obtain ⟨q, hq, _, h2⟩ := (mk.2 z.1 z.2).1 (hp.mem_iff.1 (List.mem_append_left _ hz))
    show Wh _ (z.2.f.rat * f.rat)
    rw [h2, frK_rat, Nat.pow_succ]
    exact ((ats_wb h i i (by omega)).tot q).2.2.mul q4
  rw [tot_app]
  refine Nat.le_trans ((w2.2.2.add w3).bqM (Nat.pow_pos (rdn_pos r)) (Nat.pow_pos (by omega)) (M := 3 ^ (i + 1)) ?_ ?_) (ap_sz h (by have := h.n; omega))
  · have := w2.1; grind
  · have := w1.2.1; grind
theorem opts_ft (hr : rulB r = true) (hs : ∀ x ∈ r, RwS x ∧ bf x.f ≤ 1000) (hi : i < l.length) : ∀ o ∈ optL r l i, (Fit o.f.n ∧ Fit o.f.d) ∧ bf o.f ≤ 1200 := by
  have h1 : bq (1 : Rat) ≤ 100 := by decide +kernel
  refine optL_cases (fun L => ∀ o ∈ L, (Fit o.f.n ∧ Fit o.f.d) ∧ bf o.f ≤ 1200) ?_ ?_
  · intro _ o ho
    rw [List.mem_singleton.1 ho]
    have ft : FtF (frK 1) := inferInstance
    exact ⟨ft.h, by show bf (frK 1) ≤ _; rw [bf_frK]; omega⟩
  · intro x hx _ _
    obtain ⟨a, b⟩ := hs x hx
    have h2 := bq_rat a.2.2.2.2.2
    have h3 := bq_sub 1 x.f.rat
    have h4 : max (max x.f.n.length x.f.d.length) 1 ≤ bf x.f := Nat.le_refl _
    have hx1 : (Fit x.f.n ∧ Fit x.f.d) ∧ bf x.f ≤ 1200 := ⟨a.2.2.2.2.2, by omega⟩
    refine ⟨fun _ o ho => ?_, fun _ o ho => ?_⟩
    · rcases List.mem_cons.1 ho with rfl | ho
      · exact hx1
      · rw [List.mem_singleton.1 ho]
        have ft : FtF (frK (1 - x.f.rat)) := inferInstance
        exact ⟨ft.h, by show bf (frK (1 - x.f.rat)) ≤ _; rw [bf_frK]; omega⟩
    · rw [List.mem_singleton.1 ho]; exact hx1
end
end Go.E3
set_option linter.unusedVariables false
set_option maxHeartbeats 4000000
namespace Go.E3
open Go Go.Ear
def so (v : Value) (k a m : Nat) : SV := .kv ⟨fun _ x => ∃ b l c base c2, v = .slice (some ⟨b, 0, none⟩) l c ∧ x = .slice base m c2 ∧ (0 < m → base = some ⟨b, a * k, none⟩), fun ⟨_, _, _, _, _, _, e, _⟩ => e ▸ rfl, fun _ u => u⟩
section
variable {P : Program} {n : Nat} {c : Bool} {loc env : EL} {B : List Res} {ms : List Nat} {d : Nat} {x y : Operand} {t e u : TypeId} {m a j k2 : Nat} {k : IntKind} {i : Int} {v : Value} {α : Type} {r : Rp α} {q : List α}
instance {sd : Prop} [ts : TS P t e] [tz : TZ P e m] [lx : Lu n c loc env x (ov v)] [ha : HA B v α r u q] [ly : Lu n c loc env y (.cv (.int k i))] [tn : TN i a sd] [rk : Rk r m] : St P n c loc env B ms d (.slice t x (some y) none none) (sd ∧ a ≤ q.length ∧ 0 < q.length) (so v m a (q.length - a)) := .p fun qc hsd _ _ _ _ _ s _ _ _ _ _ k => by
  have ux := lx.h qc (s.f x)
  obtain ⟨b, cap, arr, e, _, _, hb, hcp, _⟩ := (ha.h s.ow).block (by intro e; rw [e] at hsd; exact absurd hsd.2.2 (by simp))
  refine OpW.sliceFrom ts.h tz.h (ux.1.trans e) ((cvE (ly.h qc (s.f y))).trans (by rw [tn.e hsd.1])) hsd.2.1 (k _ ⟨b, _, _, _, _, e, rfl, fun h => ?_⟩)
  have h2 := hcp
  rw [if_neg (by omega), Option.map_some]
  congr 1
  unfold Addr.add
  dsimp only
  cases a * m with
  | zero => rfl
  | succ k => simp
instance [ts : TS P t e] [lx : Lu n c loc env x (so v m a k2)] : St P n c loc env B ms d (.call ⟨.builtin .len, [x].toArray, [t].toArray⟩) True (.cv (.int .i64 (k2 : Int))) := .p fun qc _ _ _ _ _ _ s _ _ _ _ _ k => by
  obtain ⟨b, l, c, base, c2, e1, e2, e3⟩ := lx.h qc (s.f x)
  exact OpW.lenS ts.h e2 (k _ rfl)
instance {sd : Prop} [ts : TS P t e] [tz : TZ P e m] [lx : Lu n c loc env x (so v m a k2)] [ly : Lu n c loc env y (.cv (.int k i))] [tn : TN i j sd] : St P n c loc env B ms d (.indexAddr t x y) (sd ∧ j < k2) (pa v m (a + j) 0) := .p fun qc hsd _ _ _ _ _ s _ _ _ _ _ k => by
  obtain ⟨b, l, c, base, c2, e1, e2, e3⟩ := lx.h qc (s.f x)
  have hi := tn.e hsd.1
  have := hsd.2
  rw [e3 (by omega)] at e2
  exact OpW.indexAddr ts.h tz.h e2 (cvE (ly.h qc (s.f y))) (by omega) rfl (k _ ⟨b, _, _, e1, by rw [hi]; simp [Nat.add_mul]⟩)
end
section
variable {P : Program} {n : Nat} {X : Fix} {ms : List Nat} {loc env : EL} {B B1 B2 : List Res} {k : Kt} {c : Code} {α : Type} {f : α → SV} {vs : List Value} {Rs : Fam α} {ol rest : List Oper} {e : Exit} {v : Value} {l : List (ByteArray × α)} {R : List (ByteArray × α) → Prop}
theorem gClX (v : Value) (R : List (ByteArray × α) → Prop) [pm : PM B v α f l B1] (m : R l) (g : GX P n X ms loc env (rMp f v R :: B1) e k) : GX P n X ms loc env B e k := gSbX (pm.h.trans (rMp_cl m)) g
theorem gImX (v : Value) (R' : List (ByteArray × α) → Prop) [pm : PMp B v α f R B1] (m : ∀ l, R l → R' l) (g : GX P n X ms loc env (rMp f v R' :: B1) e k) : GX P n X ms loc env B e k := gSbX (pm.h.trans (rMp_im m)) g
theorem zm_cut (x : Value) {i : Nat} (hl : i < vs.length) : Sb (rZM f vs Rs :: B) (rZM f (vs.set i x) (cutR Rs i) :: B) := by
  cases hR : Rs i with
  | none =>
    have e : cutR Rs i = Rs := by
      funext j
      unfold cutR
      split
      · rename_i e; rw [e, hR]
      · rfl
    rw [e]; exact zm_free x hR hl
  | some R =>
    have h1 := zm_take (f := f) (vs := vs) (B := B) hR
    have h2 : Sb (rMp f (vs.getD i vnil) R :: rZM f vs (cutR Rs i) :: B) (rZM f vs (cutR Rs i) :: B) := ⟨fun o => o.2.2.2, fun r hr j hj => ⟨r, List.mem_cons_of_mem _ hr, hj⟩⟩
    exact (h1.trans h2).trans (zm_free x (if_pos rfl) hl)
theorem gCt (vs : List Value) (i : Nat) (x : Value) [pz : PZM B vs α f Rs B1] (hl : i < vs.length) (g : GW P n X ms loc env (rZM f (vs.set i x) (cutR Rs i) :: B1) c k) : GW P n X ms loc env B c k := gSb (pz.h.trans (zm_cut x hl)) g
end
end Go.E3
set_option linter.unusedVariables false
set_option maxRecDepth 20000
set_option maxHeartbeats 4000000
set_option synthInstance.maxSize 1000
namespace Go.E3
open Go Go.Ear Go.Proofs
instance : RT Tryz.prog 121 Value rW 8 mnil := ⟨Tryz.sizeOf121, _, _, ⟨Tryz.type121, rfl, rfl, rfl, rfl⟩, fun _ => ⟨⟨rfl, rfl⟩, trivial⟩⟩
instance : Rd rW (.cv (.map none)) mnil := ⟨fun {h v} u => by
  have e : v = .map none := u
  subst e
  exact ⟨⟨rfl, rfl⟩, trivial⟩⟩
theorem cloneI_o {S : SV} {l : List Int} [i : Vw (lv rI) S l] : CtO Tryz.prog 90 [S] (l.length ≤ 1000000000000) (fun g => [rA rI 3 g.v l]) := by
  refine cO1 i (ctO Tryz.call90 Tryz.func90 Tryz.ntmps90 rfl Tryz.results90 rfl [5] fun h0 w0 hl => ?_)
  repeat first | refine nx ?_ | intro _
  rename_i b hb
  refine gIf (fun c => ?_) fun c => ?_ <;> repeat first | refine nx ?_ | intro _
  · exact hb c
  · rfl
instance addF_c {v : Value} {T F : SV} {p : List Int} {f : Fr} {b : Bag (List Int)} {B B1 : List Res} [hg : HG B1] [ft : FtF f] [i : Vw (lv rI) T p] [j : Vw fv F f] [pm : PMp B v Fo fov (MF b) B1] : CtR Tryz.prog 70 [ov v, T, F] B (PhI p ∧ bq (tot b p) + bf f ≤ 134217000) Unit (fun _ => .tp []) (fun _ => rMp fov v (MF (b ++ [(p, f.rat)])) :: B1) :=
  (CtR.to add_b pm.h).az fun {h vs} u => by
    match vs, u with
    | _ :: _ :: _ :: _, u => exact ⟨u.1, i.h u.2.1, j.h u.2.2.1, u.2.2.2⟩
instance {v : Value} {B B1 : List Res} {α : Type} {f : α → SV} {R R' : List (ByteArray × α) → Prop} [pm : PMp B v α f R B1] : FpS (rMp f v R' :: B1) B := ⟨fun r' hr' i hi => by
  rcases List.mem_cons.1 hr' with rfl | hr'
  · exact pm.h.fp _ (List.mem_cons_self ..) i hi
  · exact pm.h.fp _ (List.mem_cons_of_mem _ hr') i hi⟩
def apB (r : List Rw) (l : List Int) : Bool := ((List.range l.length).all fun i => (List.range (l.length - i)).all fun k => bndB (ats r l (i + 1) (i + 1 + k))) && bndB (ats r l l.length l.length)
def famA (r : List Rw) (l : List Int) (i : Nat) : Fam Fo := fun j => if i ≤ j ∧ j ≤ l.length then some (MF (ats r l i j)) else none
def famO (r : List Rw) (l : List Int) (i m : Nat) : Fam Fo := fun j => if i ≤ j ∧ j ≤ l.length then some (MF (bgO r l i m j)) else none
theorem famO_zero {r : List Rw} {l : List Int} {i : Nat} : famO r l i 0 = famA r l i := by
  funext j
  unfold famO famA
  rw [bgO_zero]
theorem famO_last {r : List Rw} {l : List Int} {i : Nat} (hi : i ≤ l.length) : cutR (famO r l i (optL r l i).length) i = famA r l (i + 1) := by
  funext j
  unfold cutR famO famA
  by_cases h : j = i
  · rw [if_pos h, if_neg (by omega)]
  · rw [if_neg h]
    by_cases h2 : i + 1 ≤ j ∧ j ≤ l.length
    · rw [if_pos (by omega), if_pos h2, bgO_last (by omega)]
    · rw [if_neg (by omega), if_neg h2]
theorem famO_step {r : List Rw} {l : List Int} {i m pn : Nat} (c3 : m < (optL r l i).length) (hpn : ((optL r l i).getD m op0).pass = (pn : Int)) (h1 : 1 ≤ pn) (h2 : i + pn ≤ l.length) :
    putR (putR (cutR (cutR (famO r l i m) i) (i + pn)) (i + pn) (MF (bgO r l i (m + 1) (i + pn)))) i (MF (bgO r l i (m + 1) i)) = famO r l i (m + 1) := by
  funext j
  unfold putR cutR famO
  by_cases e : j = i
  · rw [if_pos e, if_pos (by omega), e]
  · rw [if_neg e]
    by_cases e2 : j = i + pn
    · rw [if_pos e2, if_pos (by omega), e2]
    · rw [if_neg e2, if_neg e2, if_neg e]
      by_cases e3 : i ≤ j ∧ j ≤ l.length
      · rw [if_pos e3, if_pos e3, bgO_ne c3 (by rw [hpn]; omega)]
      · rw [if_neg e3, if_neg e3]
theorem apply_c' {r : List Rw} {l : List Int} {S T : SV} {B1 : List Res} [a : Vw (lv rR) S r] [b : Vw (lv rI) T l] [hg : HG B1] : CtR Tryz.prog 69 [lv rR r, lv rI l] B1 (ApOk r l) Value (fun v => .tp [ov v, bv (apB r l)]) (fun v => rIf (apB r l) (rMp fov v (MF (ats r l l.length l.length))) :: B1) := by
  refine (ctR Tryz.call69 Tryz.func69 Tryz.ntmps69 rfl Tryz.results69 rfl [] fun h0 w0 ap => ?_)
  have hn := ap.n
  repeat first | refine nx ?_ | intro _
  rename_i v
  have hrl : (List.replicate (l.length + 1) mnil).length = l.length + 1 := List.length_replicate
  refine gZn fov (List.replicate (l.length + 1) mnil) ?_
  refine gLp (fun s : Nat × List Value => [(21, iv s.1)]) (fun s => [rA rW 121 v s.2, rZM fov s.2 (fun j => if j < s.1 then some (MF []) else none)]) (fun s => s.1 ≤ l.length + 1 ∧ s.2.length = l.length + 1) (fun s => l.length + 1 - s.1) (0, List.replicate (l.length + 1) mnil) ⟨Nat.zero_le _, List.length_replicate⟩ (fun ⟨k, vs⟩ ⟨hk, hv⟩ => ?_) (h2 := ?_)
  · dsimp only at hk hv ⊢
    repeat first | refine nx ?_ | intro _
    refine gIf (fun c => ?_) fun c => ?_
    · repeat first | refine nx ?_ | intro _
      rename_i m
      refine gStX vs k m (MF []) MK.nil (if_neg (Nat.lt_irrefl _)) (by omega) ?_
      refine gBk (k + 1, vs.set k m) ⟨by dsimp only; omega, by dsimp only; rw [List.length_set]; exact hv⟩ (by dsimp only; omega) (h2 := ⟨trivial, fun j => .inl ?_, trivial⟩)
      unfold putR
      dsimp only
      by_cases e : j = k
      · rw [if_pos e, if_pos (by omega)]
      · rw [if_neg e]
        by_cases e2 : j < k
        · rw [if_pos e2, if_pos (by omega)]
        · rw [if_neg e2, if_neg (by omega)]
    · have hph0 : PhI [] := ⟨Nat.zero_le _, fun x hx => (List.not_mem_nil hx).elim⟩
      have hb0 : bq (tot ([] : Bag (List Int)) []) ≤ 1 := by decide +kernel
      have hb1 : bf (frK ((1 : Int) : Rat)) ≤ 100 := by decide +kernel
      refine nx ?_
      refine nx ?_
      refine gTkX (f := fov) (Rs := fun j => if j < k then some (MF []) else none) vs 0 (R := MF []) (if_pos (by omega)) ?_
      repeat first | refine gDs 5 5 (by rfl) (by kernel_rfl) ?_ | refine nx ?_ | intro _
      refine gPt vs 0 (if_pos rfl) (by omega) ?_
      have hfam : ∀ j, famA r l 0 j = putR (cutR (fun j => if j < k then some (MF []) else none) 0) 0 (MF ([] ++ [([], (frK ((1 : Int) : Rat)).rat)])) j ∨ ∃ R R', putR (cutR (fun j => if j < k then some (MF []) else none) 0) 0 (MF ([] ++ [([], (frK ((1 : Int) : Rat)).rat)])) j = some R ∧ famA r l 0 j = some R' ∧ ∀ l, R l → R' l := fun j => .inl (by
        unfold famA putR cutR
        dsimp only
        by_cases e : j = 0
        · rw [if_pos (by omega), if_pos e, frK_rat, e]; rfl
        · rw [if_neg e, if_neg e]
          by_cases e2 : j < k
          · rw [if_pos (by omega), if_pos e2]
            unfold ats
            rw [if_neg e]
          · rw [if_neg (by omega), if_neg e2])
      refine gLp (fun s : Nat × List Value => [(36, iv s.1)]) (fun s => [rA rW 121 v s.2, rZM fov s.2 (famA r l s.1)]) (fun s => s.1 ≤ l.length ∧ s.2.length = l.length + 1 ∧ ∀ i, i < s.1 → ∀ k, k < l.length - i → bndB (ats r l (i + 1) (i + 1 + k)) = true) (fun s => l.length - s.1) (0, vs) ⟨Nat.zero_le _, hv, fun i hi => absurd hi (Nat.not_lt_zero _)⟩ (fun ⟨i, us⟩ ⟨hi, hu, hck⟩ => ?_) (h2 := ⟨trivial, hfam, trivial⟩)
      clear hfam hb0 hb1 hph0 hk hv
      dsimp only at hi hu hck ⊢
      repeat first | refine nx ?_ | intro _
      refine gIf (fun c2 => ?_) fun c2 => ?_
      · have hRw := fun x hx => (ap.s x hx).1
        have hrl := (rul_gd ap.hr).1
        repeat first | refine nx ?_ | intro _
        refine gLp (fun m : Nat => [(44, iv m)]) (fun m => [rA rW 121 v us, rZM fov us (famO r l i m)]) (fun m => m ≤ (optL r l i).length) (fun m => (optL r l i).length - m) 0 (Nat.zero_le _) (fun m hm => ?_) (h2 := ⟨trivial, fun j => .inl (by rw [famO_zero]), trivial⟩)
        repeat first | refine nx ?_ | intro _
        refine gIf (fun c3 => ?_) fun c3 => ?_
        · obtain ⟨pn, hpn, hp1, hp2, hgw⟩ : ∃ pn : Nat, ((optL r l i).getD m op0).pass = (pn : Int) ∧ 1 ≤ pn ∧ i + pn ≤ l.length ∧ GdP 4 ((optL r l i).getD m op0).wr := by
            obtain ⟨⟨a1, a2, a3, _⟩, a5, _⟩ := (opts_ok ap.hr (phB_gd ap.hl).1 c2).1 _ (getD_in op0 c3)
            exact ⟨_, a3, a1, a2, a5⟩
          have hol := (opts_ok ap.hr (phB_gd ap.hl).1 c2).2.2
          obtain ⟨hft, hbf⟩ := opts_ft (l := l) (i := i) ap.hr ap.s c2 _ (getD_in op0 c3)
          have hOp : (optL r l i).getD m op0 = ⟨((optL r l i).getD m op0).wr, (pn : Int), ((optL r l i).getD m op0).f⟩ := by rw [← hpn]
          haveI : FtF ((optL r l i).getD m op0).f := ⟨hft⟩
          haveI : IN ((optL r l i).getD m op0).pass pn := ⟨hpn⟩
          refine gTk us i (R := MF (bgO r l i m i)) (if_pos ⟨Nat.le_refl _, hi⟩) ?_
          refine gTk us (i + pn) (R := MF (bgO r l i m (i + pn))) ((if_neg (by omega)).trans (if_pos ⟨by omega, by omega⟩)) ?_
          refine gOp (us.getD i vnil) fun l0 m0 => ?_
          rw [bgO_self ap.op c2] at m0
          have hcur := fun vis rs p h => cur_bq ap c2 c3 (vis := vis) (rs := rs) m0 h hOp p
          have hwb0 := ats_wb ap i i hi
          repeat first | refine nx ?_ | intro _
          rename_i vo pI
          refine gLp (fun vis : List (ByteArray × Fo) => [(52, ov pI)]) (fun vis => [rMI fov pI (us.getD i vnil) l0 vis, rMp fov (us.getD (i + pn) vnil) (MF (bgO r l i m (i + pn) ++ vG ((optL r l i).getD m op0).wr ((optL r l i).getD m op0).f.rat vis))]) (fun vis => vis.length ≤ l0.length) (fun vis => l0.length - vis.length) [] (Nat.zero_le _) (fun vis hv => ?_) (h2 := ⟨trivial, trivial, fun _ h => by rw [vG_nil, List.append_nil]; exact h, trivial⟩)
          repeat first | refine nx ?_ | intro _
          refine gNxt (fun hd => ?_) fun s a ⟨rs, hr⟩ => ?_
          · repeat first | refine nx ?_ | intro _
            have hbe : ∀ l', MF (bgO r l i m (i + pn) ++ vG ((optL r l i).getD m op0).wr ((optL r l i).getD m op0).f.rat vis) l' → MF (bgO r l i (m + 1) (i + pn)) l' := fun l' h => by
              have e : BE (bgO r l i m (i + pn) ++ vG ((optL r l i).getD m op0).wr ((optL r l i).getD m op0).f.rat vis) (bgO r l i (m + 1) (i + pn)) := by
                rw [bgO_succ c3, hpn, if_pos (by omega)]
                exact (BE.refl _).app (vG_all m0 hd _ _)
              exact h.same e.h e.t
            refine gImX (us.getD (i + pn) vnil) (MF (bgO r l i (m + 1) (i + pn))) hbe ?_
            refine gPtX us (i + pn) (if_pos rfl) (by omega) ?_
            refine gClX (us.getD i vnil) (MF (bgO r l i (m + 1) i)) (by rw [bgO_self ap.op c2]; exact m0) ?_
            refine gPtX us i ?_ (by omega) ?_
            · unfold putR cutR
              rw [if_neg (by omega), if_neg (by omega), if_pos rfl]
            rw [famO_step c3 hpn hp1 hp2]
            exact gBk (m + 1) (by omega) (by omega) (h2 := ⟨trivial, fun _ => .inl rfl, trivial⟩)
          · obtain ⟨p, hp, rfl⟩ := MF_mem m0 (s := s) (a := a) (hr.mem_iff.1 (by simp))
            have hgp := hwb0.has hp
            have hbx : bf (mkF p (tot (ats r l i i) p)).f ≤ 1400000 := by
              show bf (frK _) ≤ _
              rw [bf_frK]
              exact Nat.le_trans (hwb0.bq (Nat.pow_pos (rdn_pos r)) (Nat.pow_pos (by omega)) p) (ap_sz ap (by omega))
            haveI : FtF (mkF p (tot (ats r l i i) p)).f := inferInstanceAs (FtF (frK _))
            have hphl : (mkF p (tot (ats r l i i) p)).ph = p := rfl
            generalize hax : mkF p (tot (ats r l i i) p) = a at *
            have hgp2 := hgp.app hgw
            rw [← hphl] at hgp hgp2
            have hphi : PhI (a.ph ++ ((optL r l i).getD m op0).wr) := ⟨by have := hgp2.1; omega, fun y hy => by have := hgp2.2 y hy; omega⟩
            have hq := hcur vis ((s, a) :: rs) (a.ph ++ ((optL r l i).getD m op0).wr) hr
            have hmul : bf (frK (a.f.rat * ((optL r l i).getD m op0).f.rat)) ≤ 2000000 := by
              rw [bf_frK]
              have h1 := bq_mul a.f.rat ((optL r l i).getD m op0).f.rat
              have h2 := bq_rat (f := a.f) (FtF.h)
              have h3 := bq_rat hft
              have h4 : max (max a.f.n.length a.f.d.length) 1 ≤ bf a.f := Nat.le_refl _
              have h5 : max (max ((optL r l i).getD m op0).f.n.length ((optL r l i).getD m op0).f.d.length) 1 ≤ bf ((optL r l i).getD m op0).f := Nat.le_refl _
              omega
            have hal := hgp.1
            have hwl := hgw.1
            repeat first | refine gDc 19 9 12 18 ⟨66, 69, fun v => rA rI 3 v a.ph, fun v => rA rI 3 v (a.ph ++ ((optL r l i).getD m op0).wr)⟩ (by rfl) (by kernel_rfl) ?_ | refine nx ?_ | intro _
            refine gCa (ct := cloneI_o) rfl rfl (by omega) ?_
            repeat first | refine nx ?_ | intro _
            refine gCb rfl ⟨by omega, by omega⟩ ?_
            repeat first | refine nx ?_ | intro _
            refine gCe rfl fun v69 => ?_
            refine gFzO v69 ?_
            repeat first | refine nx ?_ | intro _
            have hl2 := hr.length_eq
            rw [List.length_append, List.length_cons] at hl2
            have hl3 : (vis ++ [(s, a)]).length = vis.length + 1 := by simp
            exact gBk (vis ++ [(s, a)]) (by omega) (by omega) (h2 := ⟨trivial, trivial, fun l' h => by
              rw [vG_app, ← List.append_assoc]
              rw [frK_rat] at h
              exact h, ⟨trivial, trivial, trivial, trivial, trivial⟩, fun _ => .inl rfl, trivial, trivial⟩)
        · rw [show m = (optL r l i).length by omega]
          refine gCt us i mnil (by omega) ?_
          rw [famO_last hi]
          repeat first | refine nx ?_ | intro _
          have hul : (us.set i mnil).length = l.length + 1 := by rw [List.length_set]; exact hu
          generalize us.set i mnil = us' at *
          refine gLp (fun k : Nat => [(85, iv k)]) (fun _ => []) (fun k => k ≤ l.length - i ∧ ∀ j, j < k → bndB (ats r l (i + 1) (i + 1 + j)) = true) (fun k => l.length - i - k) 0 ⟨Nat.zero_le _, fun j hj => absurd hj (Nat.not_lt_zero _)⟩ fun k2 ⟨hk2, hb2⟩ => ?_
          repeat first | refine nx ?_ | intro _
          refine gIf (fun c4 => ?_) fun c4 => ?_
          · have hcn : cnt (ats r l (i + 1) (i + 1 + k2)) ≤ 1099511627776 := by
              have h1 := cnt_le (ats r l (i + 1) (i + 1 + k2))
              have h2 := (ats_wb ap (i + 1) (i + 1 + k2) (by omega)).l
              have h3 : 3 ^ (i + 1) ≤ 3 ^ 25 := Nat.pow_le_pow_right (by omega) (by omega)
              have h4 : 3 ^ 25 ≤ 1099511627776 := by decide
              omega
            refine gTk us' (i + 1 + k2) (R := MF (ats r l (i + 1) (i + 1 + k2))) (if_pos ⟨by omega, by omega⟩) ?_
            repeat first | refine nx ?_ | intro _
            refine gIf (fun c5 => ?_) fun c5 => ?_ <;> repeat first | refine nx ?_ | intro _
            · have e : apB r l = false := by
                unfold apB
                rw [Bool.and_eq_false_iff]
                refine .inl (List.all_eq_false.2 ⟨i, List.mem_range.2 c2, ?_⟩)
                rw [Bool.not_eq_true]
                exact List.all_eq_false.2 ⟨k2, List.mem_range.2 (by omega), by simpa using c5⟩
              rw [e]
              exact gEr mnil (h1 := ⟨rfl, trivial⟩) (h2 := trivial)
            · refine gPtX us' (i + 1 + k2) (if_pos rfl) (by omega) ?_
              have hfm : putR (cutR (famA r l (i + 1)) (i + 1 + k2)) (i + 1 + k2) (MF (ats r l (i + 1) (i + 1 + k2))) = famA r l (i + 1) := by
                funext j
                unfold putR cutR famA
                by_cases e : j = i + 1 + k2
                · rw [if_pos e, if_pos (by omega), e]
                · rw [if_neg e, if_neg e]
              rw [hfm]
              refine gBk (k2 + 1) ⟨by omega, fun j hj => ?_⟩ (by omega) (h2 := ⟨fun _ => .inl rfl, trivial, trivial⟩)
              by_cases e : j = k2
              · rw [e]; exact Classical.not_not.1 c5
              · exact hb2 j (by omega)
          · repeat first | refine nx ?_ | intro _
            refine gBk (i + 1, us') ⟨by dsimp only; omega, hul, fun j hj k hk => ?_⟩ (by dsimp only; omega) (h2 := ⟨trivial, fun _ => .inl rfl, trivial⟩)
            by_cases e : j = i
            · subst e; exact hb2 k (by omega)
            · exact hck j (by dsimp only at hj; omega) k hk
      · have hil : i = l.length := by omega
        subst hil
        have hcn : cnt (ats r l l.length l.length) ≤ 1099511627776 := by
          have h1 := cnt_le (ats r l l.length l.length)
          have h2 := (ats_wb ap l.length l.length (Nat.le_refl _)).l
          have h3 : 3 ^ l.length ≤ 3 ^ 25 := Nat.pow_le_pow_right (by omega) (by omega)
          have h4 : 3 ^ 25 ≤ 1099511627776 := by decide
          omega
        have e : apB r l = bndB (ats r l l.length l.length) := by
          unfold apB
          have : ((List.range l.length).all fun i => (List.range (l.length - i)).all fun k => bndB (ats r l (i + 1) (i + 1 + k))) = true := List.all_eq_true.2 fun i hi => List.all_eq_true.2 fun k hk => hck i (List.mem_range.1 hi) k (List.mem_range.1 hk)
          rw [this, Bool.true_and]
        rw [e]
        refine gTk us l.length (R := MF (ats r l l.length l.length)) (if_pos ⟨Nat.le_refl _, Nat.le_refl _⟩) ?_
        repeat first | refine gDq 13 11 (by rfl) (by kernel_rfl) ?_ | refine nx ?_ | intro _
        refine gQc hcn ⟨fun _ h => h, fun _ => .inl rfl, trivial, trivial⟩ ?_
        refine gQe rfl ?_
        repeat first | refine nx ?_ | intro _
        generalize bndB (ats r l l.length l.length) = bb
        cases bb with
        | true => exact gEr (us.getD l.length vnil) (h2 := ⟨fun _ h => h, trivial⟩)
        | false => exact gEr (us.getD l.length vnil) (h2 := trivial)
  · exact ⟨trivial, fun j => .inl (if_neg (Nat.not_lt_zero _)), trivial⟩
end Go.E3
set_option linter.unusedVariables false
set_option maxRecDepth 20000
set_option maxHeartbeats 4000000
set_option synthInstance.maxSize 1000
namespace Go.E3
open Go Go.Ear Go.Proofs
instance apply_c {r : List Rw} {l : List Int} {S T : SV} {B1 : List Res} [a : Vw (lv rR) S r] [b : Vw (lv rI) T l] [hg : HG B1] : CtR Tryz.prog 69 [S, T] B1 (ApOk r l) Value (fun v => .tp [ov v, bv (apB r l)]) (fun v => rIf (apB r l) (rMp fov v (MF (ats r l l.length l.length))) :: B1) :=
  (apply_c' (S := lv rR r) (T := lv rI l)).az fun {h vs} u => by
    match vs, u with
    | _ :: _ :: _, u => exact ⟨a.h u.1, b.h u.2.1, u.2.2⟩
def appL (r : List Rw) (l : List Int) : List Fo := if rulB r = true ∧ phB l 400 = true ∧ apB r l = true then srtF (ats r l l.length l.length) else []
def appE (r : List Rw) (l : List Int) : Int := if rulB r = true ∧ phB l 400 = true then (if apB r l = true then 0 else 5) else 2
theorem bnd_list {r : List Rw} {l : List Int} (ap : ApOk r l) (h : bndB (ats r l l.length l.length) = true) : cnt (ats r l l.length l.length) ≤ 1000000 ∧ ∀ p, hasB (ats r l l.length l.length) p → p.length ≤ 1099511627776 ∧ bq (tot (ats r l l.length l.length) p) ≤ 60000000 := by
  obtain ⟨h1, h2⟩ := bndB_iff.1 h
  refine ⟨by omega, fun p hp => ⟨by have := h1 p hp; omega, ?_⟩⟩
  have := (ats_wb ap l.length l.length (Nat.le_refl _)).bq (Nat.pow_pos (rdn_pos r)) (Nat.pow_pos (by omega)) p
  exact Nat.le_trans this (Nat.le_trans (ap_sz ap (by have := ap.n; omega)) (by omega))
instance Apply_c {r : List Rw} {l : List Int} {S T : SV} {B : List Res} [a : Vw (lv rR) S r] [b : Vw (lv rI) T l] [hg : HG B] : CtB Tryz.prog 28 [S, T] B (r.length ≤ 1000000 ∧ l.length ≤ 25 ∧ ∀ x ∈ r, RwS x ∧ bf x.f ≤ 1000) (.tp [lv rO' (appL r l), iv (appE r l)]) := by
  refine cB2 a b (ctB Tryz.call28 Tryz.func28 Tryz.ntmps28 rfl Tryz.results28 rfl [] fun h0 w0 ⟨h1, h2, h3⟩ => ?_)
  have hRw := fun x hx => (h3 x hx).1
  repeat first | refine nx ?_ | intro _
  refine gIf (fun c => ?_) fun c => ?_ <;> repeat first | refine nx ?_ | intro _
  · have hc : ¬ (rulB r = true ∧ phB l 400 = true) := fun ⟨x, y⟩ => c.elim (fun h => h x) fun h => h y
    exact ⟨if_neg fun ⟨x, y, _⟩ => hc ⟨x, y⟩, (if_neg hc).symm⟩
  · have c1 : rulB r = true := Classical.byContradiction fun h => c (.inl h)
    have c2 : phB l 400 = true := Classical.byContradiction fun h => c (.inr h)
    have ap : ApOk r l := ⟨c1, c2, h2, h3⟩
    have hbl : apB r l = true → bndB (ats r l l.length l.length) = true := fun h => by
      unfold apB at h
      exact (Bool.and_eq_true_iff.1 h).2
    repeat first | refine nx ?_ | intro _
    refine gIf (fun c3 => ?_) fun c3 => ?_ <;> repeat first | refine nx ?_ | intro _
    · exact ⟨if_neg fun x => c3 x.2.2, ((if_pos ⟨c1, c2⟩).trans (if_neg c3)).symm⟩
    · have c3 := Classical.not_not.1 c3
      obtain ⟨g1, g2⟩ := bnd_list ap (hbl c3)
      have e1 : appL r l = srtF (ats r l l.length l.length) := if_pos ⟨c1, c2, c3⟩
      have e2 : appE r l = 0 := (if_pos ⟨c1, c2⟩).trans (if_pos c3)
      rw [c3, e1, e2]
      refine gSbO (B1 := rMp fov _ (MF (ats r l l.length l.length)) :: B.map bo) (.refl _) ?_
      repeat first | refine nx ?_ | intro _
      exact ⟨trivial, trivial⟩
end Go.E3
set_option linter.unusedVariables false
namespace Go.E3
open Go Go.Ear
def IterV (P : Program) (gf : Nat) (lb : Array Value) (V : Nat → PH → Value → Prop) (len : Nat) (hi : PH) : Prop :=
  ∀ (l : Nat) (J : Nat → PH → World → Prop), (∀ k h W, J k h W → Sat h W ∧ hi.le h) → (∀ k h W h' W', J k h W → Gr h W h' W' → J k h' W') →
    (∀ k h W v, k < len → J k h W → V k h v → YieldAt Fence.wide 0 P l #[v] W fun e W' => e = .returned (.bool true) ∧ ∃ h', h.le h' ∧ J (k + 1) h' W') →
    ∀ h W, J 0 h W → CallsIn Fence.wide 0 P gf (#[.func (.yield l) #[] #[]] ++ lb) W fun e W' => (∃ v, e = .returned v) ∧ ∃ h', J len h' W'
class ItV (P : Program) (F : SV) (S : outParam (Nat → SV)) (len : outParam Nat) (sd : outParam Prop) : Prop where
  h : sd → ∀ {h x}, den h F x → ∃ (gf : FuncId) (lb : Array Value), x = .func (.func gf) #[] lb ∧ IsFn P gf ∧ IterV P gf lb (fun k h v => den h (S k) v) len h
section
variable {P : Program} {n : Nat} {X : Fix} {ms : List Nat} {loc env kept : EL} {B kb : List Res} {x y : Code} {k : Kt} {σ : Type} {s1 s2 : Prop}
end
theorem WT.yield {P : Program} {n : Nat} {T : Exit → Act → World → Prop} {ρ : Env} {w : World} {l : Nat} {x : Value} {d1 d2 d3 : Tmp} {o1 o2 f2 : Operand} {ty1 ty2 ty3 : TypeId} {p1 p2 p3 : String} {a1 a2 a3 : Array Edge} {ts : Array TypeId} {id : Nat} {rest : List Oper}
    {R : Ending → World → Prop} (hr : rest.all noDefer = true) (e1 : ev n ρ o1 = .func (.yield l) #[] #[]) (e2 : ev n (upd ρ d1 (.func (.yield l) #[] #[])) o2 = x)
    (hf : ev n (upd (upd ρ d1 (.func (.yield l) #[] #[])) d2 x) f2 = .func (.yield l) #[] #[]) (hx : ev n (upd (upd ρ d1 (.func (.yield l) #[] #[])) d2 x) (.tmp d2) = x)
    (hy : YieldAt Fence.wide 0 P l #[x] w R)
    (hk : ∀ e w', R e w' → ∃ v, e = .returned v ∧ Ops P n (⟨some d1, .move o1, ty1, p1, a1, none⟩ :: ⟨some d2, .move o2, ty2, p2, a2, none⟩ :: ⟨some d3, .call ⟨.value f2, #[.tmp d2], ts⟩, ty3, p3, a3, none⟩ :: rest).toArray (fun ρ w => T .normal (mkX X0 n ρ) w) rest (upd (upd (upd ρ d1 (.func (.yield l) #[] #[])) d2 x) d3 v) w') :
    WT X0 P n (.region id (⟨some d1, .move o1, ty1, p1, a1, none⟩ :: ⟨some d2, .move o2, ty2, p2, a2, none⟩ :: ⟨some d3, .call ⟨.value f2, #[.tmp d2], ts⟩, ty3, p3, a3, none⟩ :: rest).toArray false) T ρ w :=
  wpIn_mono (WpX.yield (Q := fun e ρ w => T e (mkX X0 n ρ) w) hr e1 e2 hf hx hy hk) (by rintro e a w ⟨ρ, rfl, q⟩; exact q)
end Go.E3
set_option linter.unusedVariables false
set_option maxHeartbeats 4000000
namespace Go.E3
open Go Go.Ear
def IterS (P : Program) (gf : Nat) (lb : Array Value) (V : Nat → PH → Value → Prop) (len : Nat) (hi : PH) : Prop :=
  ∀ (l : Nat) (σ τ : Type) (h0 : PH) (w0 : World) (Bs : Nat → σ → List Res) (I : Nat → σ → Prop) (Bx : τ → List Res) (Ix : τ → Prop),
    (∀ k s h W v, k < len → I k s → Gr h0 w0 h W → OwnB w0 (Bs k s) h W → hi.le h → V k h v → YieldAt Fence.wide 0 P l #[v] W fun e W' => ∃ h', Gr h0 w0 h' W' ∧ h.le h' ∧ ((e = .returned (.bool true) ∧ ∃ s', I (k + 1) s' ∧ OwnB w0 (Bs (k + 1) s') h' W') ∨ (e = .returned (.bool false) ∧ ∃ x, Ix x ∧ OwnB w0 (Bx x) h' W'))) →
    ∀ s h W, I 0 s → Gr h0 w0 h W → OwnB w0 (Bs 0 s) h W → hi.le h → CallsIn Fence.wide 0 P gf (#[.func (.yield l) #[] #[]] ++ lb) W fun e W' => (∃ v, e = .returned v) ∧ ∃ h', Gr h0 w0 h' W' ∧ h.le h' ∧ ((∃ s', I len s' ∧ OwnB w0 (Bs len s') h' W') ∨ ∃ x, Ix x ∧ OwnB w0 (Bx x) h' W')
class ItS (P : Program) (F : SV) (S : outParam (Nat → SV)) (len : outParam Nat) (sd : outParam Prop) : Prop where
  h : sd → ∀ {h x}, den h F x → ∃ (gf : FuncId) (lb : Array Value), x = .func (.func gf) #[] lb ∧ IsFn P gf ∧ IterS P gf lb (fun k h v => den h (S k) v) len h
def Stp {τ : Type} (h0 : PH) (w0 : World) (Ix : τ → Prop) (Bx : τ → List Res) : Exit → Act → World → Prop := fun e _ w => e = .ret ∧ ∃ x h, Ix x ∧ Gr h0 w0 h w ∧ OwnB w0 (Bx x) h w
section
variable {P : Program} {n : Nat} {X : Fix} {ms : List Nat} {loc env kept : EL} {B kb : List Res} {x y : Code} {k : Kt} {σ : Type} {s1 s2 : Prop}
theorem gRgS {g : Operand} {p : Tmp} {assign body : Code} {F : SV} {S : Nat → SV} {len : Nat} {sdI : Prop} {T : Exit → Act → World → Prop} {h0 : PH} {w0 : World} {τ : Type} (I : Nat → σ → Prop) (rs : Nat → σ → List Res) (s0 : σ) (Ix : τ → Prop) (Bx : τ → List Res) [lg : Lu n true loc env g F] [it : ItS P F S len sdI]
    [mb : MtB B (rs 0 s0) s2 kb] {Bs : Nat → σ → List Res} [ab : ∀ k s, AppL (rs k s) kb (Bs k s)] (hI : I 0 s0) (hp : nIn p env = true)
    (round : ∀ hr k s l o o' D, k < len → I k s → GW P n ⟨Stp hr w0 Ix (fun x => rO l o' :: rO D (.deferred (some [])) :: Bx x), hr, w0, ⟨some l, []⟩⟩ ms [] ((p, S k) :: env) (rO l o :: rO D (.deferred (some [])) :: Bs k s) assign (.asg l o o' body (.cut (Me ⟨some l, []⟩ n hr w0 (fun _ => []) (fun s => rO l o' :: rO D (.deferred (some [])) :: Bs (k + 1) s) (I (k + 1))) .fin)))
    (after : ∀ D s, I len s → GX P n ⟨T, h0, w0, ⟨none, [{ target := .collected D, args := #[] }]⟩⟩ ms [] env (rO D (.deferred (some [])) :: Bs len s) .normal k)
    (leave : ∀ D x, Ix x → GX P n ⟨T, h0, w0, ⟨none, [{ target := .collected D, args := #[] }]⟩⟩ ms [] env (rO D (.deferred (some [])) :: Bx x) .ret k)
    (hs : sdI := by first | trivial | (repeat' (first | refine And.intro ?_ ?_ | rfl | trivial | omega))) (h2 : s2 := by first | trivial | ((try dsimp only); (try simp only [List.length_replicate, List.length_set]); repeat' (first | refine And.intro ?_ ?_ | rfl | trivial | omega))) :
    GW P n ⟨T, h0, w0, X0⟩ ms loc env B (.rangeFunc g #[p] assign body) k := ⟨fun ρ hi w sy => by
  obtain ⟨gf, lb, hg, eg, hit⟩ := it.h hs (lg.h rfl ((sy.x [g]).fx g (by simp)))
  have ow0 : OwnB w0 (Bs 0 s0) hi w := by rw [← (ab 0 s0).h]; exact (mb.h h2).own sy.ow
  refine wpIn_rangeFunc ?_
  intro fn hfn
  obtain ⟨rec, hrec⟩ : ∃ rec : LoopState → Option Code → Loop, rec = fun st pe => { state := st, pending := pe, fn, tmps := (mkX X0 n ρ).tmps, params := #[p], assign, body, defers := w.heap.size } := ⟨_, rfl⟩
  obtain ⟨W1, hW1⟩ : ∃ W1, newW (newW w (.deferred (some []))) (.loop (rec .ready none)) = W1 := ⟨_, rfl⟩
  have s1 := Gr.new sy.gr.sat (.deferred (some []))
  have s2 := Gr.new s1.sat (.loop (rec .ready none))
  have gr1 : Gr hi w hi W1 := by rw [← hW1]; exact s1.trans s2
  have hsz : (newW w (.deferred (some []))).heap.size = w.heap.size + 1 := by unfold newW; simp
  have hsz2 : W1.heap.size = w.heap.size + 2 := by rw [← hW1]; unfold newW; simp
  have hK1 : W1.heap[w.heap.size]? = some (.deferred (some [])) := by rw [← hW1]; exact s2.ext.keep (newW_at w _)
  have hL1 : W1.heap[w.heap.size + 1]? = some (.loop (rec .ready none)) := by
    have := newW_at (newW w (.deferred (some []))) (.loop (rec .ready none))
    rw [hsz] at this
    rw [← hW1]; exact this
  have hw0 : w0.heap.size ≤ w.heap.size := sy.gr.ext.size
  have n1 : hi w.heap.size = none := sy.gr.sat.fresh
  have n2 : hi (w.heap.size + 1) = none := by have := s1.sat.fresh; rwa [hsz] at this
  have hJ0 : OwnB w0 (rO (w.heap.size + 1) (.loop (rec .ready none)) :: rO w.heap.size (.deferred (some [])) :: Bs 0 s0) hi W1 := by
    refine ⟨hL1, fun i e => by cases e; exact ⟨n2, fun _ => by omega, by omega⟩, fun r hr i e => ?_, hK1, fun i e => by cases e; exact ⟨n1, fun _ => sy.gr.ext.size, by omega⟩, fun r hr i e q => ?_, ow0.grow gr1⟩
    · cases e
      rcases List.mem_cons.1 hr with rfl | hr
      · intro e; have : w.heap.size + 1 = w.heap.size := e; omega
      · intro q; have := (ow0.foot r hr _ q).2.2; omega
    · cases e; have := (ow0.foot r hr _ q).2.2; omega
  refine ⟨w.heap.size + 1, [{ target := .collected w.heap.size, args := #[] }], W1, { target := .fn (.func gf) lb, args := #[.func (.yield (w.heap.size + 1)) #[] #[]] }, W1, gf,
    #[.func (.yield (w.heap.size + 1)) #[] #[]] ++ lb, W1, ?_, ?_, fun _ _ => trivial, ?_, (fun h => by cases h), ?_⟩
  · rw [← hW1, hrec]; exact run_enterLoop_outer _ _ _ _ _
  · simp only [resolve, eval_mkX, hg]
    simp [go_sem, ev]
  · simp [invoke, go_sem]
    exact eg _ _
  · have hc := hit (w.heap.size + 1) σ τ h0 w0 (fun k s => rO (w.heap.size + 1) (.loop (rec .ready none)) :: rO w.heap.size (.deferred (some [])) :: Bs k s) I (fun x => rO (w.heap.size + 1) (.loop (rec .done (some .ret))) :: rO w.heap.size (.deferred (some [])) :: Bx x) Ix ?_ s0 hi W1 hI (sy.gr.trans gr1) hJ0 (PH.le.refl hi)
    · refine CallsIn.mono (F := FX X0) hc ?_
      rintro e W2 ⟨⟨v, rfl⟩, h2, gr, le, ⟨s, hi2, ob⟩ | ⟨s, hi2, ob⟩⟩
      · have hend := run_endLoop (P := P) ob.1 (by rw [hrec]; simp)
        refine ⟨_, _, hend, ?_⟩
        have hlt := (ob.2.1 _ rfl).2.2
        have hpt : Put W2 (W2.putObj (w.heap.size + 1) (.loop { rec .ready none with state := .exhausted })) _ _ := Put.obj hlt
        have ob2 := ob.obj hpt
        have hf := ob.2.1 (w.heap.size + 1) rfl
        subst hrec
        exact (after w.heap.size s hi2).p ρ h2 _ ⟨gr.put hpt hf.1 (hf.2.1 rfl), trivial, sy.en.mono le, ob2.2.2.2⟩
      · have hend := run_endLoop (P := P) ob.1 (by rw [hrec]; simp)
        refine ⟨_, _, hend, ?_⟩
        have hlt := (ob.2.1 _ rfl).2.2
        have hpt : Put W2 (W2.putObj (w.heap.size + 1) (.loop { rec .done (some .ret) with state := .exhausted })) _ _ := Put.obj hlt
        have ob2 := ob.obj hpt
        have hf := ob.2.1 (w.heap.size + 1) rfl
        subst hrec
        exact wpIn_ret ((leave w.heap.size s hi2).p ρ h2 _ ⟨gr.put hpt hf.1 (hf.2.1 rfl), trivial, sy.en.mono le, ob2.2.2.2⟩)
    · rintro k s h W v hk hI gr ob le hv
      have hy := run_yield (P := P) (args := #[v]) ob.1 (by rw [hrec]; rfl)
      refine ⟨_, _, _, _, hy, ?_⟩
      rw [hrec]
      refine roundIn_of_wpIn (F := Fence.wide) trivial ?_
      have hact : ((#[p].zip #[v]).foldl (fun tmps (x : Tmp × Value) => tmps.setIfInBounds x.1 x.2) (mkX X0 n ρ).tmps) = (mkX ⟨some (w.heap.size + 1), []⟩ n (upd ρ p v)).tmps := by
        have := put_mkX (X := X0) (n := n) (ρ := ρ) (d := some p) (v := v)
        have := congrArg Act.tmps this
        refine Eq.trans ?_ this
        simp [Act.put]
      have hr := (round h k s (w.heap.size + 1) (.loop (rec .ready none)) (.loop { rec .ready none with state := .busy }) w.heap.size hk hI).p (upd ρ p v) h W ⟨Gr.base gr gr (PH.le.refl h), trivial, ⟨by rw [upd_at]; exact hv, (sy.en.mono le).upd hp⟩, ob⟩
      have e : (⟨_, []⟩ : Act) = mkX ⟨some (w.heap.size + 1), []⟩ n (upd ρ p v) := congrArg (fun t => (⟨t, []⟩ : Act)) hact
      refine wpIn_mono (F := FX ⟨some (w.heap.size + 1), []⟩) (by rw [e]; exact hr) ?_
      rintro e a Wa hq
      cases e with
      | normal =>
        obtain ⟨hla, hq⟩ := hq
        have hlt := blk_lt hla
        refine ⟨_, run_beginRound hla (by rw [hrec]), ?_⟩
        have hp2 := Put.obj (o := .loop { rec .ready none with state := .busy }) hlt
        refine wpIn_mono (hq _ hp2 rfl) ?_
        rintro e a3 W3 hq
        cases e with
        | normal =>
          obtain ⟨ρ3, rfl, s3, hI3, h3, sy3⟩ := Me.p hq
          have ob3 := sy3.ow
          have hlt3 := blk_lt ob3.1
          refine ⟨_, _, run_endRound none ob3.1, ?_⟩
          have hp3 := Put.obj (o := .loop (rec .ready none)) hlt3
          have he2 : ({ { rec .ready none with state := .busy } with state := if (none : Option Code).isNone then .ready else .done, pending := none } : Loop) = rec .ready none := by rw [hrec]; rfl
          rw [he2]
          have hf := ob3.2.1 (w.heap.size + 1) rfl
          subst hrec
          exact ⟨h3, (Gr.unbase gr sy3.gr).put hp3 hf.1 (hf.2.1 rfl), sy3.gr.le, .inl ⟨rfl, s3, hI3, ob3.obj hp3⟩⟩
        | ret =>
          obtain ⟨_, s3, h3, hI3, gr3, ob3⟩ := hq
          have hlt3 := blk_lt ob3.1
          refine ⟨_, _, run_endRound (some .ret) ob3.1, ?_⟩
          have hp3 := Put.obj (o := .loop (rec .done (some .ret))) hlt3
          have he2 : ({ { rec .ready none with state := .busy } with state := if (some Code.ret : Option Code).isNone then .ready else .done, pending := some .ret } : Loop) = rec .done (some .ret) := by rw [hrec]; rfl
          rw [he2]
          have hf := ob3.2.1 (w.heap.size + 1) rfl
          subst hrec
          exact ⟨h3, (Gr.unbase gr gr3).put hp3 hf.1 (hf.2.1 rfl), gr3.le, .inr ⟨rfl, s3, hI3, ob3.obj hp3⟩⟩
        | _ => exact nomatch hq.1
      | _ => exact hq.elim⟩
end
structure CtX (P : Program) (f : FuncId) (args : List SV) (H0 : PH) (w0 : World) (B : List Res) (sd : Prop) (σ : Type) (S : σ → SV) (B' : σ → List Res) : Prop where
  fn : IsFn P f
  h : sd → ∀ {h w vs}, Gr H0 w0 h w → OwnB w0 B h w → denL h args vs → Calls P f vs.toArray w fun e w' => ∃ v, e = .returned v ∧ ∃ (h' : PH) (s : σ), Gr H0 w0 h' w' ∧ h.le h' ∧ OwnB w0 (B' s) h' w' ∧ den h' (S s) v
section
variable {P : Program} {n : Nat} {X : Fix} {ms : List Nat} {loc env : EL} {B B1 : List Res} {c : Code} {k : Kt} {sd : Prop} {ol rest : List Oper} {d : Nat} {ty : TypeId} {pos : String} {af : Array Edge}
theorem ctX {σ : Type} {S : σ → SV} {B' : σ → List Res} {f : FuncId} {fn : Func} {args : List SV} {rs : List ResultVar} {H0 : PH} {w0 : World} (call : IsFn P f) (hf : P.funcs[f]? = some fn) (hn : fn.ntmps = n) (hb : fn.body = some c) (hr : fn.results = rs.toArray) (hl : Nat.ble args.length n = true) [ae : ArgE 0 args env] (ms : List Nat) (body : ∀ hE wE, sd → Gr H0 w0 hE wE → GW P n ⟨fE n (fR P n rs hE w0 S B'), hE, w0, X0⟩ ms [] env B c .fin) : CtX P f args H0 w0 B sd σ S B' := ⟨call, fun hs h w vs gr ow u => by
  subst hn
  refine (callsE hf hb (by rw [u.length]; exact hl) ((body h w hs gr).p (env0 0 vs) h w ⟨Gr.base gr gr (PH.le.refl h), trivial, ae.h u, ow⟩) (R' := fun v w' => ∃ h' s, Gr h w0 h' w' ∧ OwnB w0 (B' s) h' w' ∧ den h' (S s) v) ?_).mono ?_
  · rintro ρ w' ⟨vs, h', s, hres, x⟩
    exact ⟨_, res_run hr hres, h', s, x⟩
  · rintro e w' ⟨v, rfl, h', s, g, o, d⟩
    exact ⟨v, rfl, h', s, Gr.unbase gr g, g.le, o, d⟩⟩
theorem gCx {σ : Type} {S : σ → SV} {B' : σ → List Res} {T : Exit → Act → World → Prop} {hE H0 : PH} {w0 wE : World} {C : Ctx} {f : FuncId} {t : Nat} {xs : List Operand} {ts : Array TypeId} {as1 az cs l : List SV} (ct : CtX P f l H0 w0 B sd σ S B') (g0 : Gr H0 w0 hE wE) (hs : sd) [lf : Lu n true loc env (.tmp t) (fnv (.func f) as1 cs)] [lx : Lus n true loc env xs az] [ap : App3 as1 az cs l]
    (g : ∀ s : σ, GO P n ⟨T, hE, w0, C⟩ ms ((d, S s) :: loc) env (B' s) ol rest k) : GO P n ⟨T, hE, w0, C⟩ ms loc env B ol (⟨some d, .call ⟨.value (.tmp t), xs.toArray, ts⟩, ty, pos, af, none⟩ :: rest) k := ⟨fun ok ρ h w sy => by
  obtain ⟨h1, h2, h3⟩ := okR_some rfl ok
  obtain ⟨us, ws, e, a1, a2⟩ := lf.h rfl ((sy.x [.tmp t]).fx (.tmp t) (by simp))
  have hx := lx.h rfl fun x hx => (sy.x [x]).fx x (by simp)
  refine Ops.cons (OpW.enter (f := f) (args := (us ++ xs.map (ev n ρ) ++ ws).toArray) (w' := w) ?_ (ct.h hs (Gr.unbase g0 sy.gr) sy.ow (by rw [← ap.h]; exact (a1.app hx).app a2)) ?_)
  · simp only [execOp, resolve, e, Deferred.ofValue, Sem.run_bind, Sem.run_pure, Result.andThen, invoke, List.map_toArray, List.append_toArray, ct.fn _ w]
  · rintro e w'' ⟨v, rfl, h', s, gr, le, o, u⟩
    exact ⟨v, rfl, (g s).p h3 _ _ _ ⟨Gr.base g0 gr (sy.gr.le.trans le), ⟨by show den h' (S s) (upd ρ d v d); rw [upd_at]; exact u, (sy.lo.upd (nIn_of h1)).mono le⟩, (sy.en.upd (nIn_of (h2 rfl))).mono le, o⟩⟩⟩
end
end Go.E3
set_option linter.unusedVariables false
set_option maxHeartbeats 4000000
namespace Go.E3
open Go Go.Ear
section
variable {P : Program} {n : Nat}
theorem uponIn_mono {F : Fence} {m : Nat} {o : Oper} {a : Act} {N1 N2 : Act → World → Prop} {Q : Exit → Act → World → Prop} (hN : ∀ a w, N1 a w → N2 a w) {r : Result Next} (h : o.uponIn F m P a N1 Q r) : o.uponIn F m P a N2 Q r := by
  cases r with
  | halt hh w' => cases hh <;> exact h
  | ok nx w' =>
    cases nx with
    | value v => exact hN _ _ h
    | skip => exact hN _ _ h
    | defer d => exact hN _ _ h
    | enter f args =>
      refine ⟨h.1, CallsIn.mono h.2 fun e w' he => ?_⟩
      cases e with
      | returned v => exact hN _ _ he
      | _ => exact he
    | row rw args => exact ⟨h.1, Go.RowsIn.mono h.2 fun v w' he => hN _ _ he⟩
    | round l f tmps assign body =>
      refine ⟨h.1, RoundIn.mono h.2 fun e w' he => ?_⟩
      cases e with
      | returned v => exact hN _ _ he
      | _ => exact he
    | _ => exact h
theorem wl_cons {X : Ctx} {ops : Array Oper} {K : Env → World → Prop} {Q : Exit → Act → World → Prop} {o : Oper} {rest : List Oper} {ρ : Env} {w : World} (hg : o.guard = none) (hp : noDefer o = true) (h : OpW P n o ρ w K) (hk : ∀ ρ w, K ρ w → wpListIn (FX X) 0 P ops Q rest (mkX X n ρ) w) : wpListIn (FX X) 0 P ops Q (o :: rest) (mkX X n ρ) w := by
  unfold wpListIn
  rw [if_pos (by unfold Region.wanted; rw [hg])]
  have := opX_of (X := X) (Q := Q) hp h
  exact ⟨this.1, uponIn_mono (fun a w' ⟨ρ', e, k⟩ => by rw [e]; exact hk _ _ k) this.2⟩
theorem wl_yield {X : Ctx} {ops : Array Oper} {Q : Exit → Act → World → Prop} {rest : List Oper} {ρ : Env} {w : World} {l : Nat} {x : Value} {d3 : Tmp} {f2 a2 : Operand} {ty : TypeId} {pos : String} {af : Array Edge} {ts : Array TypeId} {R : Ending → World → Prop} (hf : ev n ρ f2 = .func (.yield l) #[] #[]) (hx : ev n ρ a2 = x)
    (hy : YieldAt Fence.wide 0 P l #[x] w R) (hk : ∀ e w', R e w' → ∃ v, e = .returned v ∧ wpListIn (FX X) 0 P ops Q rest (mkX X n (upd ρ d3 v)) w') : wpListIn (FX X) 0 P ops Q (⟨some d3, .call ⟨.value f2, #[a2], ts⟩, ty, pos, af, none⟩ :: rest) (mkX X n ρ) w := by
  unfold wpListIn
  rw [if_pos (show Region.wanted ⟨some d3, .call ⟨.value f2, #[a2], ts⟩, ty, pos, af, none⟩ _ = true from rfl)]
  refine ⟨fun _ _ => trivial, ?_⟩
  obtain ⟨fn, tmps, assign, body, hyr, hround⟩ := hy
  rw [eval_mkX]
  rw [show (Oper.semAt (FX X).round (ev n ρ) ⟨some d3, .call ⟨.value f2, #[a2], ts⟩, ty, pos, af, none⟩).run P w = .ok (.round l fn tmps assign body) w from by
    rw [semAt_plain rfl]
    simp [execOp, resolve, hf, hx, invoke, hyr, go_sem]]
  refine ⟨(fun h => by cases h), RoundIn.mono (F := FX X) hround ?_⟩
  intro e w' he
  obtain ⟨v, rfl, hkk⟩ := hk e w' he
  show wpListIn _ _ _ _ _ _ ((mkX X n _).put (some d3) v) w'
  rw [put_mkX]
  exact hkk
end
section
variable {P : Program} {n : Nat} {ms : List Nat} {loc env env' : EL} {B : List Res} {k : Kt} {c : Code}
def noT (x : Operand) (d : Nat) : Bool := match x with | .tmp t => Nat.beq t d | _ => false
theorem gYr {T : Exit → Act → World → Prop} {hE : PH} {w0 : World} {σ : Type} {bb : σ → Bool} {B2 : σ → List Res} {id l d1 d2 d3 d4 : Nat} {t1 ty1 ty2 ty3 ty4 : TypeId} {x1 x2 : Operand} {ts : Array TypeId} {p1 p2 p3 p4 : String} {a1 a2 a3 a4 : Array Edge} {S : SV}
    [ta : TA P t1 false] [lf : Lu n true loc env x1 (.pk [.cv (.func (.yield l) #[] #[])] 0)] [lx : Lu n true loc env x2 S] [dl : Dl env d4 env']
    (hne : (Nat.beq d1 d2 || noT x2 d1 || memN d1 (env.map (·.1)) || memN d2 (env.map (·.1)) || memN d3 (env.map (·.1))) = false) (hb : (Nat.blt d1 n && Nat.blt d2 n && Nat.blt d3 n) = true)
    (hY : ∀ h w v, Gr hE w0 h w → OwnB w0 B h w → den h S v → YieldAt Fence.wide 0 P l #[v] w fun e W' => ∃ (s : σ) (h' : PH), e = .returned (.bool (bb s)) ∧ Gr hE w0 h' W' ∧ h.le h' ∧ OwnB w0 (B2 s) h' W')
    (g : ∀ s, GX P n ⟨T, hE, w0, X0⟩ ms [] ((d4, .cv (.bool (bb s))) :: env') (B2 s) .normal k) :
    GW P n ⟨T, hE, w0, X0⟩ ms loc env B (.region id [⟨some d1, .load t1 x1, ty1, p1, a1, none⟩, ⟨some d2, .move x2, ty2, p2, a2, none⟩, ⟨some d3, .call ⟨.value (.tmp d1), #[.tmp d2], ts⟩, ty3, p3, a3, none⟩, ⟨some d4, .assign (.tmp d3), ty4, p4, a4, none⟩].toArray false) k := ⟨fun ρ h w sy => by
  simp only [Bool.or_eq_false_iff] at hne
  simp only [Bool.and_eq_true] at hb
  obtain ⟨⟨⟨⟨n1, n2⟩, m1⟩, m2⟩, m3⟩ := hne
  have n1 : d1 ≠ d2 := fun e => by subst e; rw [beq_self] at n1; cases n1
  refine wpIn_region_lit ?_
  generalize hops : (⟨some d1, .load t1 x1, ty1, p1, a1, none⟩ :: ⟨some d2, .move x2, ty2, p2, a2, none⟩ :: ⟨some d3, .call ⟨.value (.tmp d1), #[.tmp d2], ts⟩, ty3, p3, a3, none⟩ :: [⟨some d4, .assign (.tmp d3), ty4, p4, a4, none⟩] : List Oper).toArray = ops
  obtain ⟨b, off, arr, t, fz, hbb, e1, _, u1⟩ := lf.h rfl ((sy.x [x1]).fx x1 (by simp))
  have hv := lx.h rfl ((sy.x [x2]).fx x2 (by simp))
  have hat : arr[off]? = some (.func (.yield l) #[] #[]) := by
    match hc : cut arr off 1, u1 with
    | [y], u1 =>
      have hy : y = .func (.yield l) #[] #[] := u1.1
      rw [← hy]
      simpa using cut_cell hc 0 (by simp) (c := y) rfl
  refine wl_cons rfl rfl (OpW.load1 (v := .func (.yield l) #[] #[]) ta.h (e1.trans (by rw [Nat.add_zero])) (sy.gr.sat _ _ hbb) hat (K := fun ρ' w' => ρ' = upd ρ d1 (.func (.yield l) #[] #[]) ∧ w = w') ⟨rfl, rfl⟩) ?_
  rintro _ _ ⟨rfl, rfl⟩
  have hx2 : ev n (upd ρ d1 (.func (.yield l) #[] #[])) x2 = ev n ρ x2 := by
    cases x2 with
    | tmp t =>
      have ht : t ≠ d1 := fun e => by
        subst e
        have n2 : Nat.beq t t = false := n2
        rw [beq_self] at n2; cases n2
      simp only [ev]
      rw [upd_ne _ _ ht]
    | _ => rfl
  refine wl_cons rfl rfl (OpW.move (v := ev n ρ x2) hx2 (K := fun ρ' w' => ρ' = upd (upd ρ d1 (.func (.yield l) #[] #[])) d2 (ev n ρ x2) ∧ w = w') ⟨rfl, rfl⟩) ?_
  rintro _ _ ⟨rfl, rfl⟩
  refine wl_yield (l := l) (x := ev n ρ x2) ?_ ?_ (hY h _ _ sy.gr sy.ow hv) ?_
  · simp only [ev, hb.1.1, cond_true]
    rw [upd_ne _ _ n1, upd_at]
  · simp only [ev, hb.1.2, cond_true]
    rw [upd_at]
  · rintro e w' ⟨s, h', rfl, gr, le, ob⟩
    refine ⟨_, rfl, ?_⟩
    refine wl_cons rfl rfl (OpW.assign (v := .bool (bb s)) ?_ (K := fun ρ' w2 => ρ' = upd (upd (upd (upd ρ d1 (.func (.yield l) #[] #[])) d2 (ev n ρ x2)) d3 (.bool (bb s))) d4 (.bool (bb s)) ∧ w' = w2) ⟨rfl, rfl⟩) ?_
    · simp only [ev, hb.2, cond_true]
      rw [upd_at]
    · rintro _ _ ⟨rfl, rfl⟩
      show run _ P T k .normal _ _
      refine (g s).p _ h' _ ⟨gr, trivial, ⟨by rw [upd_at]; rfl, ?_⟩, ob⟩
      have e0 := sy.en.mono le
      have k1 := ((e0.upd (v := .func (.yield l) #[] #[]) (nIn_of m1)).upd (v := ev n ρ x2) (nIn_of m2)).upd (v := .bool (bb s)) (nIn_of m3)
      exact (dl.h.2.1 k1).upd dl.h.1⟩
theorem gLpB {X : Fix} {σ : Type} {kept : EL} {s1 : Prop} {x : Code} (es : σ → EL) (Bs : σ → List Res) (I : σ → Prop) (μ : σ → Nat) (s0 : σ) [kp : KpE (es s0) env kept] [me : MtE env (es s0) s1] {E : σ → EL} [ae : ∀ s, AppL (es s) kept (E s)] (hB : Sb B (Bs s0))
    (hI : I s0) (round : ∀ s, I s → GW P n X ms [] (E s) (Bs s) x (.cut (Bk X.c n X.h0 X.w0 E Bs I μ s) k)) (h1 : s1 := by first | trivial | ((try dsimp only); repeat' (first | refine And.intro ?_ ?_ | rfl | trivial | omega))) : GW P n X ms loc env B (.loop x) k := ⟨fun ρ h w s => by
  refine WT.loop (fun s ρ w => I s ∧ ∃ h, Sy X.h0 X.w0 [] (E s) (Bs s) ρ h w) μ s0 ⟨hI, h, s.gr, trivial, ?_, ?_⟩ ?_
  · rw [← (ae s0).h]; exact (me.h h1 s.en).app (kp.h s.en)
  · exact hB.own s.ow
  · rintro s' ρ' w' ⟨hi, h', sy⟩
    refine ((round s' hi).p ρ' h' w' sy).mono fun e a2 w2 hq => ?_
    cases e with
    | normal =>
      obtain ⟨ρ2, rfl, s2, a1, a2, a3⟩ := Bk.p hq
      exact ⟨ρ2, rfl, s2, ⟨a1, a3⟩, a2⟩
    | _ => exact hq⟩
theorem gBkB {X : Fix} {σ : Type} {s1 : Prop} {E : σ → EL} {Bs : σ → List Res} {I : σ → Prop} {μ : σ → Nat} {s : σ} (s' : σ) [me : MtE env (E s') s1] (hB : Sb B (Bs s')) (hI : I s') (hm : μ s' < μ s) (h1 : s1 := by first | trivial | ((try dsimp only); repeat' (first | refine And.intro ?_ ?_ | rfl | trivial | omega))) :
    GX P n X ms loc env B .normal (.cut (Bk X.c n X.h0 X.w0 E Bs I μ s) k) := ⟨fun ρ h w sy => ⟨⟨ρ, rfl, s', hI, hm, h, sy.gr, trivial, me.h h1 sy.en, hB.own sy.ow⟩⟩⟩
def slf (f : FuncId) (Ss : List SV) (v : Value) : SV := .kv ⟨fun h x => x = v ∧ den h (.pk [fnv (.func f) [] (Ss ++ [ov v])] 0) v, fun ⟨e, _, _, _, _, _, _, e2, _⟩ => by rw [e, e2]; rfl, fun le ⟨e, u⟩ => ⟨e, u.mono le⟩⟩
theorem denL_snoc {h : PH} {S T : SV} : ∀ {Ss : List SV} {vs : List Value}, (∀ v, den h S v → den h T v) → denL h (Ss ++ [S]) vs → denL h (Ss ++ [T]) vs
  | [], [], _, u => u.elim
  | [], [_], q, u => ⟨q _ u.1, trivial⟩
  | [], _ :: _ :: _, _, u => u.2.elim
  | _ :: _, [], _, u => u.elim
  | _ :: _, _ :: _, q, u => ⟨u.1, denL_snoc q u.2⟩
instance {c : Bool} {f : FuncId} {Ss : List SV} {v : Value} {t : TypeId} {x : Operand} {d : Nat} [ta : TA P t false] [lx : Lu n c loc env x (slf f Ss v)] : St P n c loc env B ms d (.load t x) True (fnv (.func f) [] (Ss ++ [slf f Ss v])) := .p fun q _ _ _ _ _ _ s _ _ _ _ _ k => by
  obtain ⟨e, u⟩ := lx.h q (s.f x)
  obtain ⟨b, off, vs, e2, a, ul⟩ := pkE s.gr u
  refine a.load1 (o := 0) (l := [fnv (.func f) [] (Ss ++ [ov v])]) (S := fnv (.func f) [] (Ss ++ [ov v])) ul ta.h (e.trans e2) fun y' hy => ?_
  obtain ⟨us, ws, e3, a1, a2⟩ := hy
  exact k _ ⟨us, ws, e3, a1, denL_snoc (S := ov v) (T := slf f Ss v) (fun x hx => ⟨hx.1, u⟩) a2⟩
theorem gSlfH {X : Fix} {f : FuncId} (Ss : List SV) {t : TypeId} {env' : EL} {v : Value} [se : SbE v (slf f Ss v) env env'] (g : GW P n X ms [] env' B c k) : GW P n X ms loc env (rV v [fnv (.func f) [] (Ss ++ [ov v])] t :: B) c k := ⟨fun ρ h w s => by
  obtain ⟨h', gr, le, z, o⟩ := OwnB.freeze (j := 0) s.gr s.ow rfl
  exact g.p ρ h' w ⟨gr, trivial, se.h (fun x e => ⟨e, z⟩) (s.en.mono le), o⟩⟩
end
end Go.E3
