/- EarT19: a part of the proofs about package model: how the program's functions run, and what they compute, for every input. -/
import Derived.Test.YtpmndikbfalfoaaGreatEarT18
set_option linter.all false
set_option linter.unusedVariables false
set_option maxHeartbeats 4000000
namespace Go.E3
open Go Go.Ear
section
variable (P : Program) (n : Nat) (X : Fix) (ms : List Nat) (env : EL) (B : List Res) (ol : List Oper)
inductive GDk (k : Kt) (late : Nat → Bool) (Kp : List Res → Prop) : ((Nat → Gh) → EL) → List (Nat × (Gh → Res)) → Nat → List Oper → Nat → Prop
  | nil {L R i rest} (h : ∀ ν, GO P n X ms (L ν) env (rv B R ν) ol rest k) : GDk k late Kp L R i rest 0
  | sto {L R i o rest} (a : Nat) (T T' : Gh → Res) (hd : o.dst = none) (hm : (a, T) ∈ R) (hdd : depOk ol i a = true) (nb : ∀ γ, (T γ).bor = false) (h : ∀ ν, TriS P n X env B ol (L ν) o (ν a) T T') (g : ∀ ν, GO P n X ms (L ν) env (rv B (R.map (eR (.own a T'))) ν) ol rest k) : GDk k late Kp L R i (o :: rest) 1
  | stm {L R i o rest} (x : Option (Nat × SV)) (B2 : List Res) (hd : o.dst = x.map (·.1)) (hx : x = none ∨ R = []) (h : ∀ ν, TriM P n X env B ol (L ν) o x B2) (hl : ∀ j, j < i → reach ol 9 i j = true ∨ late j = true) (hf : ∀ r ∈ B2, ∀ i, r.fp i → ∃ r ∈ B, r.fp i) (hK : Kp B2) (g : ∀ ν, GO P n X ms (xLc x ++ L ν) env (rv B2 R ν) ol rest k) : GDk k late Kp L R i (o :: rest) 1
  | app {L R i o rest} (d : Nat) (S : Value → SV) (B2 : Value → List Res) (hd : o.dst = some d) (hR : R = []) (hK : ∀ v, Kp (B2 v)) (h : ∀ ν, TriV P n X env B ol (L ν) o (some (d, S)) B2) (hl : ∀ j, j < i → reach ol 9 i j = true ∨ late j = true) (g : ∀ ν v, GO P n X ms ((d, S v) :: L ν) env (rv (B2 v) R ν) ol rest k) : GDk k late Kp L R i (o :: rest) 1
  | new {L R i o rest m} (d : Nat) (S : Gh → SV) (T : Gh → Res) (hd : o.dst = some d) (h : ∀ ν, TriN P n X env B ol (L ν) o d S T) (hl : late i = false) (g : GDk k late Kp (fun ν => (d, S (ν d)) :: L ν) ((d, T) :: R) (i + 1) rest m) : GDk k late Kp L R i (o :: rest) (m + 1)
  | st {L R i o rest m} (d : Nat) (SS : (Nat → Gh) → SV) (dd : List Nat) (hd : o.dst = some d) (hs : ∀ ν ν', (∀ e ∈ dd, ν e = ν' e) → SS ν = SS ν') (hdd : dd.all (depOk ol i) = true) (h : ∀ ν, TriP P n X env B ol (L ν) o d (SS ν)) (hl : late i = true → ∀ B' ν, Kp B' → TriP P n X env B' ol (L ν) o d (SS ν))
      (g : GDk k late Kp (fun ν => (d, SS ν) :: L ν) R (i + 1) rest m) : GDk k late Kp L R i (o :: rest) (m + 1)
  | own {L R i o rest m} (d : Nat) (T : Gh → Res) (hd : o.dst = some d) (h : ∀ ν, TriO P n X env B ol (L ν) o d T) (hl : late i = false) (g : GDk k late Kp (fun ν => (d, ov (ν d).v) :: L ν) ((d, T) :: R) (i + 1) rest m) : GDk k late Kp L R i (o :: rest) (m + 1)
def StepK (late : Nat → Bool) (Kp : List Res → Prop) (loc : (Nat → Gh) → EL) (i : Nat) (o : Oper) (q : Nat × Kd) : Prop := o.dst = some q.1 ∧ match q.2 with
  | .p SS dd => (∀ ν ν', (∀ e ∈ dd, ν e = ν' e) → SS ν = SS ν') ∧ dd.all (depOk ol i) = true ∧ (∀ ν, TriP P n X env B ol (loc ν) o q.1 (SS ν)) ∧ (late i = true → ∀ B' ν, Kp B' → TriP P n X env B' ol (loc ν) o q.1 (SS ν))
  | .o S T => (∀ ν, TriN P n X env B ol (loc ν) o q.1 S T) ∧ late i = false
def FinK (late : Nat → Bool) (Kp : List Res → Prop) (loc : (Nat → Gh) → EL) (R : List (Nat × (Gh → Res))) (i m0 m : Nat) (rest : List Oper) : Sw → Prop
  | .no => m = m0
  | .own a T' => m = m0 + 1 ∧ ∃ o T, rest[m0]? = some o ∧ o.dst = none ∧ (a, T) ∈ R ∧ depOk ol (i + m0) a = true ∧ (∀ γ, (T γ).bor = false) ∧ ∀ ν, TriS P n X env B ol (loc ν) o (ν a) T T'
  | .mem x B2 => m = m0 + 1 ∧ ∃ o, rest[m0]? = some o ∧ o.dst = x.map (·.1) ∧ (x = none ∨ R = []) ∧ (∀ ν, TriV P n X env B ol (loc ν) o x B2) ∧ (∀ j, j < i + m0 → reach ol 9 (i + m0) j = true ∨ late j = true) ∧ (x = none → ∀ v, ∀ r ∈ B2 v, ∀ i, r.fp i → ∃ r ∈ B, r.fp i) ∧ ∀ v, Kp (B2 v)
end
section
variable {P : Program} {n : Nat} {X : Fix} {ms : List Nat} {env : EL} {B : List Res} {ol : List Oper} {k : Kt}
theorem GDk.sem {late : Nat → Bool} {Kp : List Res → Prop} {L : (Nat → Gh) → EL} {R : List (Nat × (Gh → Res))} {i : Nat} {rest : List Oper} {m : Nat} (g : GDk P n X ms env B ol k late Kp L R i rest m) :
    ∃ (res : List (Nat × Kd)) (sw : Sw), m ≤ rest.length ∧ FinK P n X env B ol late Kp (fun ν => ((res.map (ent · ν)).reverse ++ L ν)) (rscs res ++ R) i res.length m rest sw ∧ (∀ j, j < res.length → ∃ o q, rest[j]? = some o ∧ res[j]? = some q ∧ StepK P n X env B ol late Kp (fun ν => ((res.take j).map (ent · ν)).reverse ++ L ν) (i + j) o q) ∧
      ∀ ν v, GO P n X ms (xL sw v ++ ((res.map (ent · ν)).reverse ++ L ν)) env (rv (bS sw v B) ((rscs res ++ R).map (eR sw)) ν) ol (rest.drop m) k := by
  have fin : ∀ {q : Nat × Kd} {L L' : (Nat → Gh) → EL} {R R' : List (Nat × (Gh → Res))} {res : List (Nat × Kd)} {i m : Nat} {o : Oper} {rest : List Oper} {sw : Sw}, (∀ ν, L' ν = ent q ν :: L ν) → R' = rsc q ++ R → FinK P n X env B ol late Kp (fun ν => ((res.map (ent · ν)).reverse ++ L' ν)) (rscs res ++ R') (i + 1) res.length m rest sw → FinK P n X env B ol late Kp (fun ν => (((q :: res).map (ent · ν)).reverse ++ L ν)) (rscs (q :: res) ++ R) i (q :: res).length (m + 1) (o :: rest) sw := by
    intro q L L' R R' res i m o rest sw hL hR hf
    have e1 : (fun ν => (((q :: res).map (ent · ν)).reverse ++ L ν)) = (fun ν => ((res.map (ent · ν)).reverse ++ L' ν)) := by funext ν; rw [hL]; simp
    have e2 : rscs (q :: res) ++ R = rscs res ++ R' := by rw [hR]; simp [rscs]
    rw [e1, e2]
    cases sw with
    | no => simp only [FinK, List.length_cons] at hf ⊢; omega
    | own a T' =>
      obtain ⟨e1, o', T, e2, e3, e4, e5, e6, e7⟩ := hf
      exact ⟨by simp only [List.length_cons]; omega, o', T, by simpa using e2, e3, e4, by rw [List.length_cons, show i + (res.length + 1) = i + 1 + res.length by omega]; exact e5, e6, e7⟩
    | mem x B2 =>
      obtain ⟨e1, o', e2, e3, ex, e4, e5⟩ := hf
      exact ⟨by simp only [List.length_cons]; omega, o', by simpa using e2, e3, ex, e4, by rw [List.length_cons, show i + (res.length + 1) = i + 1 + res.length by omega]; exact e5⟩
  induction g with
  | nil h => exact ⟨[], .no, Nat.zero_le _, rfl, fun j hj => by simp at hj, fun ν v => by simpa [rscs, eR_id (f := .no) (fun _ _ => rfl), bS, xL] using h ν⟩
  | @sto L R i o rest a T T' hd hm hdd nb h g => exact ⟨[], .own a T', by simp, ⟨rfl, o, T, rfl, hd, by simpa [rscs] using hm, by simpa using hdd, nb, by simpa using h⟩, fun j hj => by simp at hj, fun ν v => by simpa [rscs, bS, xL] using g ν⟩
  | @stm L R i o rest x B2 hd hx h hl hff hK g =>
    refine ⟨[], .mem (x.map fun p => (p.1, fun _ => p.2)) (fun _ => B2), by simp, ⟨rfl, o, rfl, ?_, ?_, fun ν => by simpa using (h ν).v, by simpa using hl, fun _ _ => hff, fun _ => hK⟩, fun j hj => by simp at hj, fun ν v => ?_⟩
    · rw [hd]; cases x <;> rfl
    · rcases hx with rfl | hx
      · exact .inl rfl
      · exact .inr (by simpa [rscs] using hx)
    · have := g ν
      cases x <;> simpa [rscs, bS, xL, xLc, eR_id (f := .mem _ _) (fun _ _ => rfl)] using this
  | @app L R i o rest d S B2 hd hR hK h hl g =>
    refine ⟨[], .mem (some (d, S)) B2, by simp, ⟨rfl, o, rfl, hd, .inr (by simpa [rscs] using hR), fun ν => by simpa using h ν, by simpa using hl, (fun e => by cases e), hK⟩, fun j hj => by simp at hj, fun ν v => ?_⟩
    simpa [rscs, bS, xL, eR_id (f := .mem _ _) (fun _ _ => rfl)] using g ν v
  | @st L R i o rest m d SS dd hd hs hdd h hl g ih =>
    obtain ⟨res, sw, h2, hf, h3, h4⟩ := ih
    refine ⟨(d, .p SS dd) :: res, sw, by simp; omega, fin (fun ν => rfl) rfl hf, fun j hj => ?_, fun ν v => by simpa [ent, rsc, rscs] using h4 ν v⟩
    cases j with
    | zero => exact ⟨o, _, rfl, rfl, hd, hs, hdd, by simpa using h, by simpa using hl⟩
    | succ j =>
      obtain ⟨o', q, e1, e2, e3⟩ := h3 j (by simpa using hj)
      refine ⟨o', q, by simpa using e1, by simpa using e2, ?_⟩
      have : (fun ν => ((((d, Kd.p SS dd) :: res).take (j + 1)).map (ent · ν)).reverse ++ L ν) = (fun ν => ((res.take j).map (ent · ν)).reverse ++ ((d, SS ν) :: L ν)) := by funext ν; simp [ent]
      rw [this, show i + (j + 1) = i + 1 + j by omega]; exact e3
  | @own L R i o rest m d T hd h hl g ih =>
    obtain ⟨res, sw, h2, hf, h3, h4⟩ := ih
    refine ⟨(d, .o (fun g => ov g.v) T) :: res, sw, by simp; omega, fin (fun ν => rfl) rfl hf, fun j hj => ?_, fun ν v => by simpa [ent, rsc, rscs] using h4 ν v⟩
    cases j with
    | zero => exact ⟨o, _, rfl, rfl, hd, fun ν => by simpa using (h ν).nn, by simpa using hl⟩
    | succ j =>
      obtain ⟨o', q, e1, e2, e3⟩ := h3 j (by simpa using hj)
      refine ⟨o', q, by simpa using e1, by simpa using e2, ?_⟩
      have : (fun ν => ((((d, Kd.o (fun g => ov g.v) T) :: res).take (j + 1)).map (ent · ν)).reverse ++ L ν) = (fun ν => ((res.take j).map (ent · ν)).reverse ++ ((d, ov (ν d).v) :: L ν)) := by funext ν; simp [ent]
      rw [this, show i + (j + 1) = i + 1 + j by omega]; exact e3
  | @new L R i o rest m d S T hd h hl g ih =>
    obtain ⟨res, sw, h2, hf, h3, h4⟩ := ih
    refine ⟨(d, .o S T) :: res, sw, by simp; omega, fin (fun ν => rfl) rfl hf, fun j hj => ?_, fun ν v => by simpa [ent, rsc, rscs] using h4 ν v⟩
    cases j with
    | zero => exact ⟨o, _, rfl, rfl, hd, by simpa using h, by simpa using hl⟩
    | succ j =>
      obtain ⟨o', q, e1, e2, e3⟩ := h3 j (by simpa using hj)
      refine ⟨o', q, by simpa using e1, by simpa using e2, ?_⟩
      have : (fun ν => ((((d, Kd.o S T) :: res).take (j + 1)).map (ent · ν)).reverse ++ L ν) = (fun ν => ((res.take j).map (ent · ν)).reverse ++ ((d, S (ν d)) :: L ν)) := by funext ν; simp [ent]
      rw [this, show i + (j + 1) = i + 1 + j by omega]; exact e3
theorem dag_late {late : Nat → Bool} {Kp : List Res → Prop} (hKB : Kp B) {loc : EL} {m id : Nat} (hmix : P.follows .mixedOrders = true) (hc : dagC ol m (env.map (·.1)) = true) (hnd : ol.all noDefer = true) (g : GDk P n X ms env B ol k late Kp (fun _ => []) [] 0 ol m) : GW P n X ms loc env B (.region id ol.toArray true) k := ⟨fun ρ0 h1 wi si => by
  obtain ⟨res, sw, hm, hfo, hst, hend⟩ := g.sem
  generalize hm0 : res.length = m0 at hfo hst
  have hmm : m0 ≤ m ∧ m ≤ m0 + 1 := by cases sw with
    | no => simp only [FinK] at hfo; omega
    | own a T' => have := hfo.1; omega
    | mem x B2 => have := hfo.1; omega
  unfold dagC at hc
  simp only [Bool.and_eq_true] at hc
  obtain ⟨⟨hok, hall⟩, htl⟩ := hc
  have hall := fun i (hi : i < m) => by have := List.all_eq_true.1 hall i (List.mem_range.2 hi); rw [Bool.and_eq_true, Bool.not_eq_true'] at this; exact this
  have htl := fun i (o : Oper) (ho : ol[i]? = some o) => by
    have := List.all_eq_true.1 htl i (List.mem_range.2 (List.getElem?_eq_some_iff.1 ho).1)
    rw [Bool.and_eq_true, opA_eq ho] at this; exact this
  have F := okR_facts hok
  have hres : ∀ i, i < m0 → ∃ o q, ol[i]? = some o ∧ res[i]? = some q ∧ StepK P n X env B ol late Kp (fun ν => ((res.take i).map (ent · ν)).reverse ++ []) (0 + i) o q := hst
  have hdst : ∀ i o q, i < m0 → ol[i]? = some o → res[i]? = some q → o.dst = some q.1 := fun i o q hi ho hq => by
    obtain ⟨o', q', a, b, c⟩ := hres i hi
    rw [ho] at a; rw [hq] at b; cases a; cases b; exact c.1
  have hrsc : ∀ a T, (a, T) ∈ rscs res ++ [] → ∃ q ∈ res, q.1 = a ∧ ∃ S, q.2 = .o S T := fun a T h => by rw [List.append_nil] at h; exact mem_rscs h
  have hne : ∀ i j o q o' q', i < m0 → j < m0 → i ≠ j → ol[i]? = some o → res[i]? = some q → ol[j]? = some o' → res[j]? = some q' → q.1 ≠ q'.1 := fun i j o q o' q' hi hj hij ho hq ho' hq' e => by
    have d1 := hdst i o q hi ho hq
    have d2 := hdst j o' q' hj ho' hq'
    rcases Nat.lt_or_ge i j with a | a
    · exact (F j o' q'.1 ho' d2).2.2 i o a ho (by rw [d1, e])
    · exact (F i o q.1 ho d1).2.2 j o' (by omega) ho' (by rw [d2, e])
  have henv : ∀ i o, i < m → ol[i]? = some o → ∀ t S, (t, S) ∈ env → o.dst ≠ some t := fun i o hi ho t S ht e => by
    have a := hall i hi
    rw [opA_eq ho, e] at a
    have := a.1
    simp only at this
    rw [← Bool.not_eq_true, memN_iff] at this
    exact this (List.mem_map.2 ⟨_, ht, rfl⟩)
  refine WT.draw (K := fun ρ w => run X.c.round P X.T k .normal (mkX X.c n ρ) w) hnd ?_ fun _ _ x => x
  intro t
  unfold Region.schedule Region.linearise
  rw [hmix]
  simp only [Bool.true_or, if_true]
  generalize hw1 : ({ wi with drawn := _ } : World) = w1
  have s : Sy X.h0 X.w0 loc env B ρ0 h1 w1 := by
    subst hw1
    exact si.grow ((Gr.refl si.gr.sat).drew _)
  obtain ⟨ls, hl, hwp⟩ := lin_inv (P := P) (n := n) (m := m) (ops := ol.toArray) (Q := onlyN fun ρ w => run X.c.round P X.T k .normal (mkX X.c n ρ) w) (fun D ρ w => ∃ (h : PH) (lab : Nat → Option Nat) (g : Nat → List Value), (Gr X.h0 X.w0 h w ∧ h1.le h ∧ (rscs res ≠ [] → w1.heap.size ≤ w.heap.size)) ∧ OwnB X.w0 (bS (swD sw m0 D) (swv sw ρ) B) h w ∧ (∀ b i, lab b = some i → w1.heap.size ≤ b ∧ b < w.heap.size ∧ h b = none ∧ D i ∧ i < m0) ∧
      (∀ i q, D i → i < m0 → res[i]? = some q → Fact (swD sw m0 D) i q ρ g h lab w) ∧ (∀ s, (∀ k o, D k → ol[k]? = some o → o.dst ≠ some s) → ρ s = ρ0 s) ∧ (D m0 → ∀ d S B2, sw = .mem (some (d, S)) B2 → den h (S (ρ d)) (ρ d))) (by simpa using hm)
    (fun i o ho j hj => by
      have := List.all_eq_true.1 (htl i o (by simpa using ho)).1 j hj
      rw [blt_eq] at this; exact of_decide_eq_true this)
    (fun i o ho hmi j hj => by
      have ho : ol[i]? = some o := by simpa using ho
      have := (htl i o ho).2
      rw [Nat.ble_eq_true_of_le hmi] at this
      have := List.all_eq_true.1 this j (List.mem_range.2 hj)
      obtain ⟨x, hx, hxx⟩ := List.any_eq_true.1 this
      have hx := List.mem_range.1 hx
      have hsz := (List.getElem?_eq_some_iff.1 ho).1
      have ho' : ol[i - x]? = some (ol[i - x]'(by omega)) := List.getElem?_eq_getElem (by omega)
      rw [opA_eq ho'] at hxx
      exact ⟨i - x, ol[i - x]'(by omega), by omega, by omega, by rw [List.getElem?_toArray]; exact ho', by simpa using hxx⟩)
    (by
      rintro D ρ w i o ho him hi hd hcl hD ⟨h, lab, g, hg, how, hlab, hF, hold, hxS⟩
      have ho : ol[i]? = some o := by simpa using ho
      have hcl : ∀ (k : Nat) (o : Oper), ol[k]? = some o → D k → ∀ j ∈ deps o, D j := fun k o hk => hcl k o (by simpa using hk)
      have sx : Sx X.h0 X.w0 (((res.take i).map (ent · (gh ρ g))).reverse ++ []) env (bS (swD sw m0 D) (swv sw ρ) B) (looks ol o) ρ h w := by
        refine ⟨hg.1, fun x hx t S hxt hmem => ?_, how⟩
        subst hxt
        rcases hmem with hmem | hmem
        · rw [List.append_nil, List.mem_reverse] at hmem
          obtain ⟨qj, hqm, hent⟩ := List.mem_map.1 hmem
          obtain ⟨j, hj⟩ := List.getElem?_of_mem hqm
          have hji : j < i ∧ j < m0 := by
            rcases Nat.lt_or_ge j (min i m0) with a | a
            · omega
            · rw [List.getElem?_eq_none (by simp; omega)] at hj; cases hj
          rw [List.getElem?_take, if_pos hji.1] at hj
          obtain ⟨oj, qj', hoj, hqj', hsj⟩ := hres j hji.2
          rw [hj] at hqj'; cases hqj'
          have ht1 : qj.1 = t := by have := congrArg Prod.fst hent; unfold ent at this; split at this <;> exact this
          have hr := (hall i him).2
          unfold rdOk at hr
          rw [opA_eq ho] at hr
          have h2 := List.all_eq_true.1 hr _ hx
          simp only at h2
          have h3 := List.all_eq_true.1 h2 j (List.mem_range.2 hji.1)
          rw [opA_eq hoj, hsj.1] at h3
          simp only [ht1, beq_self, Bool.not_true, Bool.false_or] at h3
          have hDj := hd j (by simpa using h3)
          have hf := hF j qj hDj hji.2 hj
          unfold Fact at hf
          unfold ent at hent
          cases hk : qj.2 with
          | p SS dd =>
            simp only [hk] at hf hent
            cases hent
            exact hf
          | o S T =>
            simp only [hk] at hf hent
            cases hent
            exact hf.1
        · rw [hold t fun k o' hk hok' => henv k o' (hD k hk) hok' t S hmem]
          exact (s.en.mem hmem).mono hg.2.1
      rcases Nat.lt_or_ge i m0 with him0 | him0
      case inr =>
        have e : i = m0 := by omega
        subst e
        have hbB : ∀ v, bS (swD sw i D) v B = B := fun v => bS_ne fun _ _ _ => hi
        rw [hbB] at how sx
        have htk : res.take i = res := List.take_of_length_le (by omega)
        rw [htk] at sx
        cases hsw : sw with
        | no => rw [hsw] at hfo; simp only [FinK] at hfo; omega
        | mem x B2 =>
          rw [hsw] at hfo
          obtain ⟨_, o', ho', hod, hxR, hT, hlt, hff⟩ := hfo
          rw [ho] at ho'; cases ho'
          refine (hT (gh ρ g) ρ h w sx).mono ?_
          rintro ρ' w' ⟨v, h', hρ, hgr, hle, hsz, hfr, hob⟩
          have hsw2 : swD (.mem x B2) i (fun k => k = i ∨ D k) = .mem x B2 := by unfold swD; rw [if_pos (.inl rfl)]
          have hnD : ∀ T2 : Gh → Res, ∀ x, tt (swD sw i D) x T2 = T2 := fun T2 x => tt_ne fun _ _ _ hh => absurd hh hi
          rw [hsw2]
          have hD2 : ∀ j2, j2 < i → (j2 = i ∨ D j2) → D j2 := fun j2 h1 h2 => h2.elim (fun e => by omega) fun x => x
          cases x with
          | none =>
            obtain ⟨rfl, rfl⟩ : ρ' = ρ ∧ v = undef := hρ
            have hfrm : ∀ b, w1.heap.size ≤ b → b < w.heap.size → w'.heap[b]? = w.heap[b]? ∧ (h b = none → h' b = none) := fun b h1b h2b => hfr rfl b h2b fun r hr hrb => by have := (s.ow.foot r hr b hrb).2.2; omega
            have hsz := hsz rfl
            refine ⟨h', lab, g, ⟨hgr, hg.2.1.trans hle, fun hne => Nat.le_trans (hg.2.2 hne) hsz⟩, hob, fun x y hxy => ?_, fun j2 q2 hj2 hj2m hq2 => ?_, fun sl hs' => hold sl fun k o' hk hok' => hs' k o' (.inr hk) hok', fun _ _ _ _ e => by cases e⟩
            · have l := hlab x y hxy
              exact ⟨l.1, Nat.lt_of_lt_of_le l.2.1 hsz, (hfrm x l.1 l.2.1).2 l.2.2.1, .inr l.2.2.2.1, l.2.2.2.2⟩
            · have hf2 := hF j2 q2 (hD2 j2 hj2m hj2) hj2m hq2
              unfold Fact at hf2 ⊢
              cases hk : q2.2 with
              | p SS dd => simp only [hk] at hf2 ⊢; exact hf2.mono hle
              | o S2 T2 =>
                simp only [hk, hnD] at hf2 ⊢
                exact ⟨hf2.1.mono hle, (T2 _).st hle (fun x hx => (hfrm x (hlab x j2 (hf2.2.2 x hx)).1 (hlab x j2 (hf2.2.2 x hx)).2.1).1) (fun x hx => (hfrm x (hlab x j2 (hf2.2.2 x hx)).1 (hlab x j2 (hf2.2.2 x hx)).2.1).2 (hlab x j2 (hf2.2.2 x hx)).2.2.1) hf2.2.1, hf2.2.2⟩
          | some p =>
            obtain ⟨d, S⟩ := p
            obtain ⟨rfl, hv⟩ : ρ' = upd ρ d v ∧ den h' (S v) v := hρ
            have hod : o.dst = some d := hod
            have hR0 : rscs res ++ [] = [] := hxR.resolve_left (by simp)
            rw [List.append_nil] at hR0
            refine ⟨h', fun _ => none, g, ⟨hgr, hg.2.1.trans hle, fun hne => absurd hR0 hne⟩, (by show OwnB X.w0 (B2 (upd ρ d v d)) h' w'; rw [upd_at]; exact hob), (fun x y hxy => by cases hxy), fun j2 q2 hj2 hj2m hq2 => ?_, fun sl hs' => ?_, (fun _ d2 S2 B3 e => by cases e; rw [upd_at]; exact hv)⟩
            · have hf2 := hF j2 q2 (hD2 j2 hj2m hj2) hj2m hq2
              obtain ⟨o2, q2', ho2, hq2', hs2⟩ := hres j2 hj2m
              rw [hq2] at hq2'; cases hq2'
              have hd2 := hdst j2 o2 q2 hj2m ho2 hq2
              have hne2 : q2.1 ≠ d := fun e => (F i o d ho hod).2.2 j2 o2 hj2m ho2 (by rw [hd2, e])
              unfold Fact at hf2 ⊢
              cases hk : q2.2 with
              | p SS dd =>
                simp only [hk] at hf2 ⊢
                unfold StepK at hs2
                simp only [hk] at hs2
                have hinv : SS (gh (upd ρ d v) g) = SS (gh ρ g) := hs2.2.1 _ _ fun e he => by
                  have hdo := List.all_eq_true.1 hs2.2.2.1 e he
                  rw [Nat.zero_add] at hdo
                  obtain ⟨k, ok, hk, hok', hdk, hkj⟩ := dep_of hdo (fun o3 ho3 => by rw [ho2] at ho3; cases ho3; exact hcl j2 o2 ho2 (hD2 j2 hj2m hj2)) hcl
                  have hed : e ≠ d := fun e2 => (F i o d ho hod).2.2 k ok (by omega) hok' (by rw [hdk, e2])
                  unfold gh; rw [upd_ne _ _ hed]
                rw [upd_ne _ _ hne2, hinv]
                exact hf2.mono hle
              | o S2 T2 =>
                have hm : (q2.1, T2) ∈ rscs res := List.mem_flatten.2 ⟨[(q2.1, T2)], List.mem_reverse.2 (List.mem_map.2 ⟨q2, List.mem_of_getElem? hq2, by unfold rsc; simp only [hk]⟩), List.mem_singleton.2 rfl⟩
                rw [hR0] at hm; cases hm
            · rw [upd_ne _ _ (fun e => hs' i o (.inl rfl) ho (by rw [e]; exact hod))]
              exact hold sl fun k o' hk hok' => hs' k o' (.inr hk) hok'
        | own a T' =>
          rw [hsw] at hfo
          obtain ⟨_, o', T, ho', hod, hmT, hdep, hnb, hT⟩ := hfo
          rw [ho] at ho'; cases ho'
          rw [Nat.zero_add] at hdep
          obtain ⟨j, oj, hDj, hoj, hja, _⟩ := dep_of hdep (fun o' ho' x hx => by rw [ho] at ho'; cases ho'; exact hd x hx) hcl
          have hjm : j < i := by
            have := hD j hDj
            rcases Nat.lt_or_ge j i with x | x
            · exact x
            · have : j = i := by omega
              subst this; rw [ho] at hoj; cases hoj; rw [hod] at hja; cases hja
          obtain ⟨q, hq, hqa, Sq, hqT⟩ := hrsc a T (by simpa using hmT)
          obtain ⟨jq, hjq⟩ := List.getElem?_of_mem hq
          have hjqm : jq < i := by rw [← hm0]; exact (List.getElem?_eq_some_iff.1 hjq).1
          obtain ⟨oq, q', hoq, hq', _⟩ := hres jq hjqm
          rw [hjq] at hq'; cases hq'
          have ejq : jq = j := Classical.byContradiction fun hne' => by
            obtain ⟨oj', qj, hoj', hqj, _⟩ := hres j hjm
            have := hne jq j oq q oj' qj hjqm hjm hne' hoq hjq hoj' hqj
            rw [hoj] at hoj'; cases hoj'
            have d2 := hdst j oj qj hjm hoj hqj
            rw [hja] at d2; cases d2
            exact this hqa
          subst ejq
          have hfa := hF jq q hDj hjm hjq
          have hnD : ∀ T2 : Gh → Res, ∀ x, tt (swD sw i D) x T2 = T2 := fun T2 x => tt_ne fun _ _ _ hh => absurd hh hi
          unfold Fact at hfa
          simp only [hqT, hnD] at hfa
          rw [hqa] at hfa
          have hsw2 : swD (.own a T') i (fun k => k = i ∨ D k) = .own a T' := by unfold swD; rw [if_pos (.inl rfl)]
          refine (hT (gh ρ g) ρ h w sx hfa.2.1).mono ?_
          rintro ρ' w' ⟨rfl, b, ob, p, hb, hpr, hfp⟩
          have hlb := hlab b jq (hfa.2.2 b hb)
          have sow : OwnB X.w0 (T (gh ρ' g a) :: B) h w := ⟨hfa.2.1, fun x hx => by
            have l := hlab x jq (hfa.2.2 x hx)
            exact ⟨l.2.2.1, fun _ => Nat.le_trans s.gr.ext.size l.1, l.2.1⟩, fun r' hr' x hx hx' => by
            have l := hlab x jq (hfa.2.2 x hx)
            have := (s.ow.foot r' hr' x hx').2.2
            omega, how⟩
          have s2 := own_put (r' := T' (gh ρ' g a)) (loc := []) (env := []) (ρ := ρ') (hnb _) ⟨hg.1, trivial, trivial, sow⟩ p hpr hb hfp
          rw [hsw2]
          refine ⟨h, lab, g, ⟨s2.gr, hg.2.1, fun hne => by rw [p.size]; exact hg.2.2 hne⟩, s2.ow.2.2.2, fun x y hxy => ?_, fun j2 q2 hj2 hj2m hq2 => ?_, fun sl hs' => hold sl fun k o' hk hok' => hs' k o' (.inr hk) hok', fun _ _ _ _ e => by cases e⟩
          · have l := hlab x y hxy
            exact ⟨l.1, by rw [p.size]; exact l.2.1, l.2.2.1, .inr l.2.2.2.1, l.2.2.2.2⟩
          · have hj2D : D j2 := by rcases hj2 with rfl | x; · omega
                                   · exact x
            have hf2 := hF j2 q2 hj2D hj2m hq2
            unfold Fact at hf2 ⊢
            cases hk : q2.2 with
            | p SS dd => simp only [hk] at hf2 ⊢; exact hf2
            | o S2 T2 =>
              simp only [hk, hnD] at hf2 ⊢
              by_cases hjj : j2 = jq
              · subst hjj
                rw [hjq] at hq2; cases hq2
                rw [hqT] at hk; cases hk
                rw [hqa] at hf2 ⊢
                simp only [tt, beq_self, cond_true]
                exact ⟨hf2.1, hpr, fun x hx => hf2.2.2 x (hfp x hx)⟩
              · obtain ⟨o2, q2', ho2, hq2', _⟩ := hres j2 hj2m
                rw [hq2] at hq2'; cases hq2'
                have hna := hne j2 jq o2 q2 oq q hj2m hjm hjj ho2 hq2 hoq hjq
                rw [hqa] at hna
                simp only [tt, beq_ne hna, cond_false]
                refine ⟨hf2.1, (T2 _).st (PH.le.refl h) (fun x hx => p.other x ?_) (fun x hx => (hlab x j2 (hf2.2.2 x hx)).2.2.1) hf2.2.1, hf2.2.2⟩
                rintro rfl
                have e1 := hf2.2.2 x hx
                rw [hfa.2.2 x hb] at e1
                exact hjj (by simpa using e1.symm)
      obtain ⟨o', q, ho', hq, hs⟩ := hres i him0
      rw [ho] at ho'; cases ho'
      rw [Nat.zero_add] at hs
      have hswD : swD sw m0 (fun k => k = i ∨ D k) = swD sw m0 D := by
        unfold swD
        by_cases hh : D m0
        · rw [if_pos hh, if_pos (Or.inr hh)]
        · rw [if_neg hh, if_neg fun x => x.elim (fun e => by omega) hh]
      have hKp : ∀ v, Kp (bS (swD sw m0 D) v B) := fun v => by
        unfold swD
        split
        · rw [show ∀ s : Sw, bS s v B = bS s v B from fun _ => rfl]
          cases hsw : sw with
          | no => exact hKB
          | own a T' => exact hKB
          | mem x B2 =>
            rw [hsw] at hfo
            exact hfo.2.choose_spec.2.2.2.2.2.2 v
        · exact hKB
      have hbB : ∀ v, late i = false → bS (swD sw m0 D) v B = B := fun v hl => bS_ne fun x B2 hsw hD0 => by
        rw [hsw] at hfo
        obtain ⟨_, o', ho', hod, _, _, hlt, _⟩ := hfo
        rcases hlt i (by omega) with h | h
        · exact hi (reach_D hcl (by simpa using h) hD0)
        · rw [hl] at h; cases h
      have keep : ∀ j qj, D j → j < m0 → res[j]? = some qj → qj.1 ≠ q.1 := fun j qj hj hjm hqj => by
        obtain ⟨oj, qj', hoj, hqj', _⟩ := hres j hjm
        exact hne j i oj qj o q hjm him0 (fun e => hi (e ▸ hj)) hoj hqj ho hq
      have inv : ∀ (v : Value) (g' : Nat → List Value) j (SS : (Nat → Gh) → SV) (dd : List Nat), j < m0 → (∀ x, x ≠ q.1 → g' x = g x) → (∀ ν ν', (∀ e ∈ dd, ν e = ν' e) → SS ν = SS ν') → dd.all (depOk ol j) = true → (∀ o, ol[j]? = some o → ∀ x ∈ deps o, D x) → SS (gh (upd ρ q.1 v) g') = SS (gh ρ g) := fun v g' j SS dd hjm hgg a b c => by
        refine a _ _ fun e he => ?_
        obtain ⟨k, ok, hk, hok', hdk, hkj⟩ := dep_of (List.all_eq_true.1 b e he) c hcl
        suffices hne : e ≠ q.1 by unfold gh; rw [upd_ne _ _ hne, hgg e hne]
        intro ee
        have hkm : k < m0 := Nat.lt_trans hkj hjm
        obtain ⟨ok2, qk, hok2, hqk, _⟩ := hres k hkm
        rw [hok'] at hok2; cases hok2
        have := hdst k ok qk hkm hok' hqk
        rw [hdk] at this; cases this
        exact keep k qk hk hkm hqk ee
      have hbv : ∀ v, bS (swD sw m0 D) (swv sw (upd ρ q.1 v)) B = bS (swD sw m0 D) (swv sw ρ) B := fun v => by
        by_cases hD0 : D m0
        · have e : swD sw m0 D = sw := by unfold swD; rw [if_pos hD0]
          rw [e]
          cases hsw : sw with
          | no => rfl
          | own a T' => rfl
          | mem x B2 =>
            cases x with
            | none => rfl
            | some p =>
              have hfo2 := hfo
              rw [hsw] at hfo2
              obtain ⟨_, o2, ho2, hod2, _⟩ := hfo2
              have hod2 : o2.dst = some p.1 := hod2
              have hdq : p.1 ≠ q.1 := fun e => (F m0 o2 p.1 ho2 hod2).2.2 i o him0 ho (by rw [hs.1, e])
              show B2 (upd ρ q.1 v p.1) = B2 (ρ p.1)
              rw [upd_ne _ _ hdq]
        · have e : swD sw m0 D = .no := by unfold swD; rw [if_neg hD0]
          rw [e]; rfl
      have done : ∀ v h' w' lab' (g' : Nat → List Value), (∀ x, x ≠ q.1 → g' x = g x) → Gr h w h' w' → (∀ b j, lab b = some j → lab' b = some j) → (∀ b j, lab' b = some j → w1.heap.size ≤ b ∧ b < w'.heap.size ∧ h' b = none ∧ (j = i ∨ D j) ∧ j < m0) → Fact (swD sw m0 D) i q (upd ρ q.1 v) g' h' lab' w' →
          ∃ (h2 : PH) (lab2 : Nat → Option Nat) (g2 : Nat → List Value), (Gr X.h0 X.w0 h2 w' ∧ h1.le h2 ∧ (rscs res ≠ [] → w1.heap.size ≤ w'.heap.size)) ∧ OwnB X.w0 (bS (swD sw m0 (fun k => k = i ∨ D k)) (swv sw (upd ρ q.1 v)) B) h2 w' ∧ (∀ b j, lab2 b = some j → w1.heap.size ≤ b ∧ b < w'.heap.size ∧ h2 b = none ∧ (j = i ∨ D j) ∧ j < m0) ∧ (∀ j qj, (j = i ∨ D j) → j < m0 → res[j]? = some qj → Fact (swD sw m0 (fun k => k = i ∨ D k)) j qj (upd ρ q.1 v) g2 h2 lab2 w') ∧ (∀ s, (∀ k o, (k = i ∨ D k) → ol[k]? = some o → o.dst ≠ some s) → upd ρ q.1 v s = ρ0 s) ∧ ((m0 = i ∨ D m0) → ∀ d S B2, sw = .mem (some (d, S)) B2 → den h2 (S (upd ρ q.1 v d)) (upd ρ q.1 v d)) := by
        intro v h' w' lab' g' hgg gr hl1 hl2 hfi
        rw [hswD]
        refine ⟨h', lab', g', ⟨hg.1.trans gr, hg.2.1.trans gr.le, fun hne => Nat.le_trans (hg.2.2 hne) gr.ext.size⟩, (by rw [hbv]; exact how.grow gr), hl2, fun j qj hj hjm hqj => ?_, fun s hs' => ?_, fun hD0 d S B2 hsw => ?_⟩
        · rcases hj with rfl | hj
          · rw [hq] at hqj; cases hqj; exact hfi
          · have hf := hF j qj hj hjm hqj
            have hn := keep j qj hj hjm hqj
            obtain ⟨oj, qj', hoj, hqj', hsj⟩ := hres j hjm
            rw [hqj] at hqj'; cases hqj'
            unfold Fact at hf ⊢
            cases hk : qj.2 with
            | p SS dd =>
              simp only [hk] at hf ⊢
              unfold StepK at hsj
              simp only [hk] at hsj
              rw [upd_ne _ _ hn, inv v g' j SS dd hjm hgg hsj.2.1 (by have := hsj.2.2.1; rwa [Nat.zero_add] at this) (fun o ho => hcl j o ho hj)]
              exact hf.mono gr.le
            | o S T =>
              simp only [hk] at hf ⊢
              have hgh : gh (upd ρ q.1 v) g' qj.1 = gh ρ g qj.1 := by unfold gh; rw [upd_ne _ _ hn, hgg _ hn]
              rw [upd_ne _ _ hn, hgh]
              exact ⟨hf.1.mono gr.le, (tt _ _ T _).st gr.le (fun b hb => gr.ext.block b (hlab b j (hf.2.2 b hb)).2.1) (fun b hb => gr.noneAt (hlab b j (hf.2.2 b hb)).2.1 (hlab b j (hf.2.2 b hb)).2.2.1) hf.2.1, fun b hb => hl1 b j (hf.2.2 b hb)⟩
        · rw [upd_ne _ _ (fun e => hs' i o (.inl rfl) ho (by rw [e]; exact hs.1))]
          exact hold s fun k o' hk hok' => hs' k o' (.inr hk) hok'
        · have hD0 := hD0.resolve_left (by omega)
          have hx0 := hxS hD0 d S B2 hsw
          have hfo2 := hfo
          rw [hsw] at hfo2
          obtain ⟨_, o2, ho2, hod2, _⟩ := hfo2
          have hod2 : o2.dst = some d := hod2
          have hdq : d ≠ q.1 := fun e => (F m0 o2 d ho2 hod2).2.2 i o him0 ho (by rw [hs.1, e])
          rw [upd_ne _ _ hdq]
          exact hx0.mono gr.le
      unfold StepK at hs
      obtain ⟨hs1, hs2⟩ := hs
      cases hk : q.2 with
      | p SS dd =>
        simp only [hk] at hs2
        have hT : TriP P n X env (bS (swD sw m0 D) (swv sw ρ) B) ol (((res.take i).map (ent · (gh ρ g))).reverse ++ []) o q.1 (SS (gh ρ g)) := by
          cases hl : late i with
          | false => rw [hbB _ hl]; exact hs2.2.2.1 _
          | true => exact hs2.2.2.2 hl _ _ (hKp _)
        refine (hT ρ h w sx).mono ?_
        rintro ρ' w' ⟨v, h', rfl, gr, hv⟩
        refine done v h' w' lab g (fun _ _ => rfl) gr (fun _ _ x => x) (fun b j x => ?_) ?_
        · have a := hlab b j x
          exact ⟨a.1, Nat.lt_of_lt_of_le a.2.1 gr.ext.size, gr.noneAt a.2.1 a.2.2.1, .inr a.2.2.2.1, a.2.2.2.2⟩
        · unfold Fact
          simp only [hk]
          rw [upd_at, inv v g i SS dd him0 (fun _ _ => rfl) hs2.1 hs2.2.1 (fun o' ho' j hj => by rw [ho] at ho'; cases ho'; exact hd j hj)]
          exact hv
      | o S T =>
        simp only [hk] at hs2
        rw [hbB _ hs2.2] at sx
        refine (hs2.1 (gh ρ g) ρ h w sx).mono ?_
        rintro ρ' w' ⟨v, gl, h', rfl, gr, h1c, hpr, hfp⟩
        classical
        have hgh : gh (upd ρ q.1 v) (fun x => if x = q.1 then gl else g x) q.1 = ⟨v, gl⟩ := by simp [gh, upd_at]
        refine done v h' w' (fun b => if (T ⟨v, gl⟩).fp b then some i else lab b) (fun x => if x = q.1 then gl else g x) (fun x hx => if_neg hx) gr (fun b j x => ?_) (fun b j x => ?_) ?_
        · have a := hlab b j x
          have : ¬ (T ⟨v, gl⟩).fp b := fun q => by have := (hfp b q).1; omega
          simp only [this, if_false]; exact x
        · by_cases hb : (T ⟨v, gl⟩).fp b
          · simp only [hb, if_true, Option.some.injEq] at x
            have a := hfp b hb
            exact ⟨Nat.le_trans (hg.2.2 (fun e => by
              have hm : (q.1, T) ∈ rscs res := List.mem_flatten.2 ⟨[(q.1, T)], List.mem_reverse.2 (List.mem_map.2 ⟨q, List.mem_of_getElem? hq, by unfold rsc; simp only [hk]⟩), List.mem_singleton.2 rfl⟩
              rw [e] at hm; cases hm)) a.1, a.2.1, a.2.2, .inl x.symm, x ▸ him0⟩
          · simp only [hb, if_false] at x
            have a := hlab b j x
            exact ⟨a.1, Nat.lt_of_lt_of_le a.2.1 gr.ext.size, gr.noneAt a.2.1 a.2.2.1, .inr a.2.2.2.1, a.2.2.2.2⟩
        · unfold Fact
          simp only [hk]
          have htt : tt (swD sw m0 D) q.1 T = T := tt_ne fun a T' hsw hD0 ha => by
            rw [hsw] at hfo
            obtain ⟨_, o', T2, ho', hod, hmT, hdep, _⟩ := hfo
            rw [Nat.zero_add] at hdep
            obtain ⟨j, oj, hDj, hoj, hja, hjm⟩ := dep_of hdep (fun o2 ho2 x hx => by rw [ho'] at ho2; cases ho2; exact hcl m0 o' ho' hD0 x hx) hcl
            obtain ⟨oj', qj, hoj', hqj, _⟩ := hres j hjm
            rw [hoj] at hoj'; cases hoj'
            have d2 := hdst j oj qj hjm hoj hqj
            rw [hja] at d2; cases d2
            exact keep j qj hDj hjm hqj ha.symm
          rw [htt, upd_at, hgh]
          exact ⟨h1c, hpr, fun b hb => by simp [hb]⟩)
    (by
      rintro D D' ρ w hDD ⟨h, lab, g, a, b, c, d, e, f⟩
      have : D = D' := funext fun k => propext (hDD k)
      subst this
      exact ⟨h, lab, g, a, b, c, d, e, f⟩)
    (by
      rintro D ρ w hall2 hD ⟨h, lab, gg, hg, how, hlab, hF, hold, hxS⟩
      have hswf : swD sw m0 D = sw := by
        unfold swD
        cases hsw : sw with
        | no => split <;> rfl
        | own a T' => rw [hsw] at hfo; rw [if_pos (hall2 m0 (by have := hfo.1; omega))]
        | mem x B2 => rw [hsw] at hfo; rw [if_pos (hall2 m0 (by have := hfo.1; omega))]
      rw [hswf] at how
      have hbS : rscs res ++ [] ≠ [] → ∀ r ∈ bS sw (swv sw ρ) B, ∀ i, r.fp i → i < w1.heap.size := fun hne r hr i hi => by
        cases hsw : sw with
        | no => rw [hsw] at hr; exact (s.ow.foot r hr i hi).2.2
        | own a T' => rw [hsw] at hr; exact (s.ow.foot r hr i hi).2.2
        | mem x B2 =>
          rw [hsw] at hr hfo
          obtain ⟨_, _, _, _, hxR, _, _, hff⟩ := hfo
          obtain ⟨r2, hr2, hi2⟩ := hff.1 (hxR.resolve_right hne) _ r hr i hi
          exact (s.ow.foot r2 hr2 i hi2).2.2
      rw [hswf] at hF
      have hF := fun i q (hi : i < m0) (hq : res[i]? = some q) => hF i q (hall2 i (by omega)) hi hq
      have hds : ∀ (i : Nat) (d : Nat), (res.map (·.1))[i]? = some d → ∃ o, ol[i]? = some o ∧ o.dst = some d := fun i d e => by
        rw [List.getElem?_map] at e
        obtain ⟨q, hq, rfl⟩ := Option.map_eq_some_iff.1 e
        have hi : i < m0 := by rw [← hm0]; exact (List.getElem?_eq_some_iff.1 hq).1
        obtain ⟨o, q', ho, hq', _⟩ := hres i hi
        exact ⟨o, ho, hdst i o q hi ho hq⟩
      have hok2 : okR (ol.drop m) ((xL sw (swv sw ρ)).map (·.1) ++ (res.map (·.1)).reverse) (env.map (·.1)) = true := by
        have h2 := okR_drop (res.map (·.1)) hok (by simp; omega) hds
        simp only [List.length_map, hm0, List.append_nil] at h2
        have key : ∀ o', ol[m0]? = some o' → m = m0 + 1 → ol.drop m0 = o' :: ol.drop m := fun o' ho' e1 => by
          have hl := (List.getElem?_eq_some_iff.1 ho').1
          rw [List.drop_eq_getElem_cons hl, (List.getElem?_eq_some_iff.1 ho').2, e1]
        cases hsw : sw with
        | no => rw [hsw] at hfo; simp only [FinK] at hfo; rw [hfo]; exact h2
        | own a T' =>
          rw [hsw] at hfo
          obtain ⟨e1, o', T, ho', hod, _⟩ := hfo
          rw [key o' ho' e1] at h2
          exact okR_none hod h2
        | mem x B2 =>
          rw [hsw] at hfo
          obtain ⟨e1, o', ho', hod, _⟩ := hfo
          rw [key o' ho' e1] at h2
          cases x with
          | none => exact okR_none hod h2
          | some p => obtain ⟨d, S⟩ := p; exact (okR_some hod h2).2.2
      have hent : ∀ q, (ent q (gh ρ gg)).1 = q.1 := fun q => by unfold ent; split <;> rfl
      have hdom : ((xL sw (swv sw ρ) ++ ((res.map (ent · (gh ρ gg))).reverse ++ []) : EL)).map (fun p => p.1) = (xL sw (swv sw ρ)).map (fun p => p.1) ++ (res.map (fun p => p.1)).reverse := by
        rw [List.map_append, List.append_nil, List.map_reverse, List.map_map]; congr 2; exact List.map_congr_left fun q _ => hent q
      have hlo : ∀ l : List (Nat × Kd), (∀ q ∈ l, den h (ent q (gh ρ gg)).2 (ρ q.1)) → EnvOk h ρ (l.map (ent · (gh ρ gg))) := fun l => by
        induction l with
        | nil => exact fun _ => trivial
        | cons q l ih => exact fun a => ⟨by show den h (ent q (gh ρ gg)).2 (ρ (ent q (gh ρ gg)).1); rw [hent]; exact a q (List.mem_cons_self ..), ih fun q hq => a q (List.mem_cons_of_mem _ hq)⟩
      have hlx : EnvOk h ρ (xL sw (swv sw ρ)) := by
        cases hsw : sw with
        | no => trivial
        | own a T' => trivial
        | mem x B2 =>
          cases x with
          | none => trivial
          | some p =>
            rw [hsw] at hfo
            exact ⟨hxS (hall2 m0 (by have := hfo.1; omega)) p.1 p.2 B2 hsw, trivial⟩
      have sy : Sy X.h0 X.w0 (xL sw (swv sw ρ) ++ ((res.map (ent · (gh ρ gg))).reverse ++ [])) env (rv (bS sw (swv sw ρ) B) ((rscs res ++ []).map (eR sw)) (gh ρ gg)) ρ h w := by
        refine ⟨hg.1, ?_, ?_, ?_⟩
        · refine hlx.app ?_
          rw [List.append_nil, ← List.map_reverse]
          refine hlo _ fun q hq => ?_
          obtain ⟨i, hi⟩ := List.getElem?_of_mem (List.mem_reverse.1 hq)
          have him : i < m0 := by rw [← hm0]; exact (List.getElem?_eq_some_iff.1 hi).1
          have hf := hF i q him hi
          unfold Fact at hf
          unfold ent
          cases hk : q.2 with
          | p SS dd => simp only [hk] at hf ⊢; exact hf
          | o S T => simp only [hk] at hf ⊢; exact hf.1
        · refine (s.en.mono hg.2.1).ext fun p hp => ?_
          exact (hold p.1 fun k o' hk hok' => henv k o' (hD k hk) hok' p.1 p.2 hp).symm
        · have hft : ∀ i q S T, i < m0 → res[i]? = some q → q.2 = .o S T → (tt sw q.1 T (gh ρ gg q.1)).pr h w ∧ ∀ b, (tt sw q.1 T (gh ρ gg q.1)).fp b → lab b = some i := fun i q S T hi hq hk => by
            have hf := hF i q hi hq
            unfold Fact at hf
            simp only [hk] at hf
            exact hf.2
          have hrs : ∀ r ∈ ((rscs res ++ []).map (eR sw)).map (fun p : Nat × (Gh → Res) => p.2 (gh ρ gg p.1)), ∃ i q S T, i < m0 ∧ res[i]? = some q ∧ q.2 = .o S T ∧ r = tt sw q.1 T (gh ρ gg q.1) := fun r hr => by
            obtain ⟨p, hp, rfl⟩ := List.mem_map.1 hr
            obtain ⟨p', hp', rfl⟩ := List.mem_map.1 hp
            obtain ⟨q, hq, hqa, Sq, hqT⟩ := hrsc p'.1 p'.2 hp'
            obtain ⟨i, hi⟩ := List.getElem?_of_mem hq
            exact ⟨i, q, Sq, p'.2, by rw [← hm0]; exact (List.getElem?_eq_some_iff.1 hi).1, hi, hqT, by unfold eR; rw [hqa]⟩
          refine OwnB.add (fun r hr => ?_) ?_ (fun r hr r' hr' i hi hi' => ?_) how
          · obtain ⟨i, q, Sq, T, hi, hq, hk, rfl⟩ := hrs r hr
            have hf := hft i q Sq T hi hq hk
            exact ⟨hf.1, fun b hb => ⟨(hlab b i (hf.2 b hb)).2.2.1, fun _ => Nat.le_trans s.gr.ext.size (hlab b i (hf.2 b hb)).1, (hlab b i (hf.2 b hb)).2.1⟩⟩
          · have key : ∀ (l : List (Nat × Kd)) (off : Nat), (∀ j q, l[j]? = some q → off + j < m0 ∧ res[off + j]? = some q) → (((rscs l).map (eR sw)).map (fun p : Nat × (Gh → Res) => p.2 (gh ρ gg p.1))).Pairwise (fun r r' => ∀ i, r.fp i → ¬ r'.fp i) := by
              intro l
              induction l with
              | nil => intro _ _; simp [rscs]
              | cons q l ih =>
                intro off hl
                have hcons : rscs (q :: l) = rscs l ++ rsc q := by simp [rscs]
                rw [hcons, List.map_append, List.map_append, List.pairwise_append]
                refine ⟨ih (off + 1) fun j q' hj => by rw [show off + 1 + j = off + (j + 1) by omega]; exact hl (j + 1) q' (by simpa using hj), ?_, ?_⟩
                · unfold rsc; cases q.2 <;> simp
                · intro r hr r' hr' b hb hb'
                  obtain ⟨p, hp, rfl⟩ := List.mem_map.1 hr
                  obtain ⟨p2, hp2, rfl⟩ := List.mem_map.1 hp
                  obtain ⟨q2, hq2, hq2a, Sq2, hq2T⟩ := mem_rscs hp2
                  obtain ⟨j, hj⟩ := List.getElem?_of_mem hq2
                  have h1' := hl (j + 1) q2 (by simpa using hj)
                  have h0' := hl 0 q rfl
                  unfold rsc at hr'
                  cases hk1 : q.2 with
                  | p SS dd => simp only [hk1, List.map_nil] at hr'; cases hr'
                  | o S1 T1 =>
                    simp only [hk1, List.map_cons, List.map_nil] at hr'
                    rw [List.mem_singleton.1 hr'] at hb'
                    have e1 := (hft _ q2 Sq2 p2.2 h1'.1 h1'.2 hq2T).2 b (by rw [hq2a]; exact hb)
                    have e2 := (hft _ q S1 T1 h0'.1 h0'.2 hk1).2 b hb'
                    rw [e1] at e2; simp at e2
            have hk0 := key res 0 fun j q hj => ⟨by rw [Nat.zero_add, ← hm0]; exact (List.getElem?_eq_some_iff.1 hj).1, by rw [Nat.zero_add]; exact hj⟩
            rw [List.append_nil]; exact hk0
          · have hne : rscs res ++ [] ≠ [] := fun e => by rw [e] at hr; cases hr
            obtain ⟨j, q, Sq, T, hj, hq, hk, rfl⟩ := hrs r hr
            have hf := hft j q Sq T hj hq hk
            have := (hlab i j (hf.2 i hi)).1
            have := hbS hne r' hr' i hi'
            omega
      have hG := (hend (gh ρ gg) (swv sw ρ)).p (by rw [hdom]; exact hok2) ρ h w sy
      have := wpList_of_Ops (Q := onlyN fun ρ w => run X.c.round P X.T k .normal (mkX X.c n ρ) w) (fun _ _ h => h) (ol.drop m) ρ w hG
      rw [← wpOps_eq_wpList (ol.drop m) m (by intro j; simp)] at this
      simpa using this)
    ol.toArray.size t (Array.replicate ol.toArray.size false) [] (by simp) (by intro i o ho hi; simp [Array.getElem?_replicate] at hi) (by intro i hi; simp [Array.getElem?_replicate] at hi)
    (by unfold left; exact Nat.le_trans (List.length_filter_le _ _) (by simp))
  rw [hl]
  simp only [List.reverse_nil, List.nil_append]
  refine hwp ρ0 w1 ⟨h1, fun _ => none, fun _ => [], ⟨s.gr, PH.le.refl h1, fun _ => Nat.le_refl _⟩, by
    have : swD sw m0 (fun i => (Array.replicate ol.toArray.size false)[i]? = some true) = .no := by unfold swD; rw [if_neg (by simp [Array.getElem?_replicate])]
    rw [this]; exact s.ow, (fun b i e => by cases e), (fun i q hi => by simp [Array.getElem?_replicate] at hi), fun _ _ => rfl, fun hD0 => by simp [Array.getElem?_replicate] at hD0⟩⟩
end
structure GEk (P : Program) (n : Nat) (X : Fix) (ms : List Nat) (Ls env : EL) (B : List Res) (ol rest : List Oper) (k : Kt) (lt : Nat → Bool) (Kp : List Res → Prop) (m i : Nat) (L : (Nat → Gh) → EL) (R : List (Nat × (Gh → Res))) : Prop where
  p : (∀ ν e, e ∈ Ls → e ∈ L ν) → GDk P n X ms env B ol k lt Kp L R i rest m
section
variable {P : Program} {n : Nat} {X : Fix} {ms : List Nat} {loc env : EL} {B : List Res} {ol rest : List Oper} {k : Kt} {Ls : EL} {lt : Nat → Bool} {Kp : List Res → Prop} {d : Nat} {op : Op} {m i : Nat} {L : (Nat → Gh) → EL} {R : List (Nat × (Gh → Res))} {ty t e : TypeId} {pos : String} {af : Array Edge} {sd : Prop} {S : SV}
theorem gLt (Kp : List Res → Prop) (lt : Nat → Bool) (m : Nat) {id : Nat} [mx : MixO P] (hK : Kp B) (c : (dagC ol m (env.map (·.1)) && ol.all noDefer) = true) (g : GEk P n X ms [] env B ol ol k lt Kp m 0 (fun _ => []) []) : GW P n X ms loc env B (.region id ol.toArray true) k :=
  dag_late hK mx.h (Bool.and_eq_true_iff.1 c).1 (Bool.and_eq_true_iff.1 c).2 (g.p fun _ _ h => h)
theorem gLl (S : SV) (st : ∀ B', Kp B' → St P n true Ls env B' ms d op True S) (hB : Kp B) (g : GEk P n X ms ((d, S) :: Ls) env B ol rest k lt Kp m (i + 1) (fun ν => (d, S) :: L ν) R) : GEk P n X ms Ls env B ol (⟨some d, op, ty, pos, af, none⟩ :: rest) k lt Kp (m + 1) i L R :=
  ⟨fun q => .st d (fun _ => S) [] rfl (fun _ _ _ => rfl) rfl (fun ν => triP (st := st B hB) trivial (q ν)) (fun _ B' ν hb => triP (st := st B' hb) trivial (q ν)) (g.p (subL q))⟩
instance (priority := low) [lf : RflE (lt i) false] [st : St P n true Ls env B ms d op sd S] : Nx (GEk P n X ms Ls env B ol (⟨some d, op, ty, pos, af, none⟩ :: rest) k lt Kp (m + 1) i L R) sd (GEk P n X ms ((d, S) :: Ls) env B ol rest k lt Kp m (i + 1) (fun ν => (d, S) :: L ν) R) := ⟨fun hs g => ⟨fun q => .st d (fun _ => S) [] rfl (fun _ _ _ => rfl) rfl (fun ν => triP (st := st) hs (q ν)) (lfT lf) (g.p (subL q))⟩⟩
instance {R1 R' : (Nat → Gh) → List Res} [rl : ∀ ν, RL B R ν (R1 ν)] [fl : ∀ ν, FlB (R1 ν) (R' ν)] : Nx (GEk P n X ms Ls env B ol rest k lt Kp 0 i L R) True (∀ ν, GO P n X ms (L ν) env (R' ν) ol rest k) := ⟨fun _ g => ⟨fun _ => .nil fun ν => ⟨fun ok ρ h w s => (g ν).p ok ρ h w (s.sb (by rw [(rl ν).h]; exact (fl ν).h))⟩⟩⟩
instance (priority := high) {x : Operand} [lf : RflE (lt i) true] [st : ∀ B', St P n true Ls env B' ms d (.move x) sd S] : Nx (GEk P n X ms Ls env B ol (⟨some d, .move x, ty, pos, af, none⟩ :: rest) k lt Kp (m + 1) i L R) sd (GEk P n X ms ((d, S) :: Ls) env B ol rest k lt Kp m (i + 1) (fun ν => (d, S) :: L ν) R) := ⟨fun hs g => ⟨fun q => .st d (fun _ => S) [] rfl (fun _ _ _ => rfl) rfl (fun ν => triP (st := st B) hs (q ν)) (fun _ B' ν _ => triP (st := st B') hs (q ν)) (g.p (subL q))⟩⟩
instance {α : Type} {v : Value} {r : Rp α} {q : List α} {x' : α} {a sz : Nat} {o1 o2 : Operand} {mk : List α → List Res} {R1 R' : (Nat → Gh) → List Res} [lx : Lu n true Ls env o1 (pa v sz a 0)] [ua : UA B v α r e q mk] [rk : Rk r sz] [ly : Lu n true Ls env o2 S] [rd : Rd r S x'] [tz : TZ P t sz] [rl : ∀ ν, RL (mk (q.set a x')) R ν (R1 ν)] [fl : ∀ ν, FlB (R1 ν) (R' ν)] :
    Nx (GEk P n X ms Ls env B ol (⟨none, .store t o1 o2, ty, pos, af, none⟩ :: rest) k lt Kp 1 i L R) (((List.range i).all fun j => reach ol 9 i j || lt j) = true ∧ a < q.length ∧ Kp (mk (q.set a x'))) (∀ ν, GO P n X ms (L ν) env (R' ν) ol rest k) := ⟨fun hs g => ⟨fun ql => .stm none (mk (q.set a x')) rfl (.inl rfl) (fun ν ρ h w s => by
  obtain ⟨_, hj, _⟩ := hs
  have hx := lx.h rfl ((s.sub (os' := [o1]) (fun x hx => by simp [looks, Op.operands] at hx ⊢; exact .inl hx) (ql ν)).fx o1 (by simp))
  have hy := ly.h rfl ((s.sub (os' := [o2]) (fun x hx => by simp [looks, Op.operands] at hx ⊢; exact .inr hx) (ql ν)).fx o2 (by simp))
  obtain ⟨b, cap, arr, ev_, _, hnb, hb, hle, ur⟩ := OwnL.block (ua.own s.ow).1 (by intro e; rw [e] at hj; cases hj)
  obtain ⟨b', l', c', e1, e2⟩ := hx
  rw [ev_] at e1; cases e1
  have hr := rd.h hy
  have hfit := ur.fit rk.h.symm hj
  have hlen := r.len hr
  rw [rk.h] at hlen
  have sy : Sy X.h0 X.w0 [] [] B ρ h w := ⟨s.gr, trivial, trivial, s.ow⟩
  obtain ⟨y, hy2, hfm⟩ := ua.fpm
  have hbf : ∃ r ∈ B, r.fp b := ⟨y, hy2, hfm b (by rw [ev_]; rfl)⟩
  have hfb := (ua.own s.ow).2 b (by rw [ev_]; rfl)
  cases hv : ev n ρ o2 with
  | agg vs =>
    rw [hv] at hr hlen
    have h1 := r.one hr
    exact OpG.plain (OpW.storeA (cs := vs.toList) tz.h hlen e2 (by rw [hv]) h1 hb (by omega) fun w' p => triM_put s p hfb.2 hfb.1 hbf (own_elem ua sy hj rk.h hr ev_ hb p).ow)
  | _ =>
    rw [hv] at hr hlen
    have hm : sz = 1 := by rw [← hlen]; rfl
    subst hm
    exact OpG.plain (OpW.store1 tz.h e2 hv (r.one hr _ (by simp [Value.cells])) hb (by omega) fun w' p => triM_put s p hfb.2 hfb.1 hbf (own_elem ua sy hj rk.h hr ev_ hb (by simpa [putIn, Value.cells] using p)).ow)) (fun j hj => by
  have := List.all_eq_true.1 hs.1 j (List.mem_range.2 hj)
  simpa using this) (fun r' hr' i hi => by obtain ⟨y, hy, f⟩ := ua.sub _ r' hr'; exact ⟨y, hy, f i hi⟩) hs.2.2 fun ν => ⟨fun ok ρ h w s => (g ν).p ok ρ h w (s.sb (by rw [(rl ν).h]; exact (fl ν).h))⟩⟩⟩
end
end Go.E3
