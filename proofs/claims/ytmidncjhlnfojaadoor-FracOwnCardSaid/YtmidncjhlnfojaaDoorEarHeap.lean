/- About package frac: EarHeap. -/
import Derived.Test.YtmidncjhlnfojaaDoorEarCore
set_option linter.all false
namespace Go.Ear
abbrev PH := Nat → Option Obj
def PH.le (h k : PH) : Prop := ∀ b o, h b = some o → k b = some o
theorem PH.le.refl (h : PH) : h.le h := fun _ _ e => e
theorem PH.le.trans {a b c : PH} (h : a.le b) (k : b.le c) : a.le c := fun i o e => k i o (h i o e)
def Sat (h : PH) (w : World) : Prop := ∀ b o, h b = some o → w.heap[b]? = some o
theorem Sat.lt {h : PH} {w : World} (s : Sat h w) {b : Nat} (hb : h b ≠ none) : b < w.heap.size := by
  cases e : h b with
  | none => exact absurd e hb
  | some o => exact (Array.getElem?_eq_some_iff.1 (s b o e)).1
structure Ext (w w' : World) : Prop where
  os : w'.os = w.os
  tape : w'.tape = w.tape
  output : w'.output = w.output
  size : w.heap.size ≤ w'.heap.size
  block : ∀ b, b < w.heap.size → w'.heap[b]? = w.heap[b]?
theorem Ext.refl (w : World) : Ext w w := ⟨rfl, rfl, rfl, Nat.le_refl _, fun _ _ => rfl⟩
theorem Ext.trans {a b c : World} (h : Ext a b) (k : Ext b c) : Ext a c :=
  ⟨k.os.trans h.os, k.tape.trans h.tape, k.output.trans h.output, Nat.le_trans h.size k.size, fun i hi => (k.block i (Nat.lt_of_lt_of_le hi h.size)).trans (h.block i hi)⟩
structure Gr (h : PH) (w : World) (h' : PH) (w' : World) : Prop where
  sat : Sat h' w'
  ext : Ext w w'
  le : h.le h'
  fresh : ∀ b, h' b ≠ none → h b ≠ none ∨ w.heap.size ≤ b
theorem Gr.refl {h : PH} {w : World} (s : Sat h w) : Gr h w h w := ⟨s, Ext.refl w, PH.le.refl h, fun _ hb => .inl hb⟩
theorem Gr.trans {h0 h h' : PH} {w0 w w' : World} (a : Gr h0 w0 h w) (b : Gr h w h' w') : Gr h0 w0 h' w' :=
  ⟨b.sat, a.ext.trans b.ext, a.le.trans b.le, fun i hi => by
    rcases b.fresh i hi with h1 | h1
    · exact a.fresh i h1
    · exact .inr (Nat.le_trans a.ext.size h1)⟩
theorem Gr.noneAt {h0 h : PH} {w0 w : World} (a : Gr h0 w0 h w) {b : Nat} (hb : b < w0.heap.size) (hn : h0 b = none) : h b = none := by
  cases e : h b with
  | none => rfl
  | some o =>
    rcases a.fresh b (by rw [e]; exact fun h => nomatch h) with h1 | h1
    · exact absurd hn h1
    · omega
theorem Gr.drew {h0 h : PH} {w0 w : World} (a : Gr h0 w0 h w) (k : Nat) : Gr h0 w0 h { w with drawn := k } :=
  ⟨a.sat, ⟨a.ext.os, a.ext.tape, a.ext.output, a.ext.size, a.ext.block⟩, a.le, a.fresh⟩
def PH.put (h : PH) (b : Nat) (o : Obj) : PH := fun i => bif Nat.beq i b then some o else h i
theorem PH.put_at (h : PH) (b : Nat) (o : Obj) : h.put b o b = some o := by simp [PH.put]
theorem PH.le_put {h : PH} {b : Nat} (o : Obj) (hn : h b = none) : h.le (h.put b o) := by
  intro i x e
  unfold PH.put
  by_cases hb : i = b
  · subst hb; rw [hn] at e; cases e
  · rw [beq_ne hb]; exact e
theorem Sat.put {h : PH} {w : World} (s : Sat h w) {b : Nat} {o : Obj} (hb : w.heap[b]? = some o) : Sat (h.put b o) w := by
  intro i x e
  unfold PH.put at e
  by_cases hi : i = b
  · subst hi; simp at e; rw [hb, e]
  · rw [beq_ne hi] at e; exact s i x e
theorem PH.put_ne {h : PH} {b i : Nat} (o : Obj) (hi : i ≠ b) : (h.put b o) i = h i := by unfold PH.put; rw [beq_ne hi]; rfl
theorem Gr.freeze {h0 h : PH} {w0 w : World} (a : Gr h0 w0 h w) {b : Nat} {o : Obj} (hb : w.heap[b]? = some o) (hn : h b = none) (h0b : w0.heap.size ≤ b) : Gr h0 w0 (h.put b o) w :=
  ⟨a.sat.put hb, a.ext, a.le.trans (PH.le_put o hn), fun i hi => by
    by_cases e : i = b
    · subst e; exact .inr h0b
    · rw [PH.put_ne o e] at hi; exact a.fresh i hi⟩
def newW (w : World) (o : Obj) : World := { w with heap := w.heap.push o }
theorem newW_at (w : World) (o : Obj) : (newW w o).heap[w.heap.size]? = some o := by unfold newW; exact Array.getElem?_push_size
theorem Ext.new (w : World) (o : Obj) : Ext w (newW w o) :=
  ⟨rfl, rfl, rfl, by unfold newW; show _ ≤ (w.heap.push o).size; simp, fun b hb => by unfold newW; show (w.heap.push o)[b]? = _; rw [Array.getElem?_push, if_neg (by omega)]⟩
theorem Gr.new {h : PH} {w : World} (s : Sat h w) (o : Obj) : Gr h w h (newW w o) :=
  ⟨fun b x e => by rw [(Ext.new w o).block b (s.lt (by rw [e]; exact fun h => nomatch h))]; exact s b x e, Ext.new w o, PH.le.refl h, fun _ hb => .inl hb⟩
theorem Sat.fresh {h : PH} {w : World} (s : Sat h w) : h w.heap.size = none := by
  cases e : h w.heap.size with
  | none => rfl
  | some o => exact absurd (s.lt (by rw [e]; exact fun h => nomatch h)) (Nat.lt_irrefl _)
structure Put (w w' : World) (b : Nat) (o : Obj) : Prop where
  os : w'.os = w.os
  tape : w'.tape = w.tape
  output : w'.output = w.output
  size : w'.heap.size = w.heap.size
  at_ : w'.heap[b]? = some o
  other : ∀ i, i ≠ b → w'.heap[i]? = w.heap[i]?
theorem Gr.put {h0 h : PH} {w0 w w' : World} {b : Nat} {o : Obj} (a : Gr h0 w0 h w) (p : Put w w' b o) (hn : h b = none) (h0b : w0.heap.size ≤ b) : Gr h0 w0 h w' :=
  ⟨fun i x e => by
      rw [p.other i (by rintro rfl; rw [hn] at e; cases e)]; exact a.sat i x e,
    ⟨p.os.trans a.ext.os, p.tape.trans a.ext.tape, p.output.trans a.ext.output, by rw [p.size]; exact a.ext.size,
      fun i hi => by rw [p.other i (by omega)]; exact a.ext.block i hi⟩, a.le, a.fresh⟩
def Ret (h : PH) (w : World) (Q : PH → Value → Prop) : Ending → World → Prop :=
  fun e w' => ∃ v h', e = .returned v ∧ Gr h w h' w' ∧ Q h' v
theorem OpW.call {P : Program} {n : Nat} {o : Oper} {ρ : Env} {h : PH} {w : World} {K : Env → World → Prop} {f : FuncId} {args : Array Value} {Q : PH → Value → Prop}
    (hr : (execOp (ev n ρ) o).run P w = .ok (.enter f args) w) (hc : Calls P f args w (Ret h w Q))
    (hk : ∀ v h' w', Gr h w h' w' → Q h' v → K (updO ρ o.dst v) w') : OpW P n o ρ w K :=
  OpW.enter hr hc (fun _ _ ⟨v, h', e, g, q⟩ => ⟨v, e, hk v h' _ g q⟩)
def deps (o : Oper) : List Nat := (o.after.toList.filter (Region.binds .any)).map (·.on)
theorem mem_deps {o : Oper} {j : Nat} (hj : j ∈ deps o) : ∃ (k : Nat) (h : k < o.after.size), Region.binds .any o.after[k] = true ∧ o.after[k].on = j := by
  unfold deps at hj
  obtain ⟨e, he, rfl⟩ := List.mem_map.1 hj
  obtain ⟨he1, he2⟩ := List.mem_filter.1 he
  obtain ⟨k, hk, rfl⟩ := Array.mem_iff_getElem.1 (Array.mem_toList_iff.1 he1)
  exact ⟨k, hk, he2, rfl⟩
theorem deps_mem {o : Oper} {k : Nat} (h : k < o.after.size) (hb : Region.binds .any o.after[k] = true) : o.after[k].on ∈ deps o := by
  unfold deps
  exact List.mem_map.2 ⟨o.after[k], List.mem_filter.2 ⟨Array.getElem_mem_toList h, hb⟩, rfl⟩
theorem listed_iff {listed : Array Bool} {j : Nat} (h : j < listed.size) : listed.getD j true = true ↔ listed[j]? = some true := by
  rw [Array.getD_eq_getD_getElem?, Array.getElem?_eq_getElem h]; simp
theorem listed_iff' {listed : Array Bool} {j : Nat} : listed.getD j false = true ↔ listed[j]? = some true := by
  rw [Array.getD_eq_getD_getElem?]
  cases listed[j]? <;> simp
def Ready (ops : Array Oper) (listed : Array Bool) (i : Nat) : Prop := i < ops.size ∧ listed[i]? = some false ∧ ∃ o, ops[i]? = some o ∧ ∀ j ∈ deps o, listed[j]? = some true
theorem ready_iff {ops : Array Oper} {listed : Array Bool} (hsz : listed.size = ops.size) (i : Nat) :
    i ∈ ((List.range ops.size).filter fun i => !listed.getD i true && ((ops[i]?).map (·.after.all fun e => !Region.binds .any e || listed.getD e.on false)).getD false) ↔ Ready ops listed i := by
  simp only [List.mem_filter, List.mem_range, Bool.and_eq_true, Bool.not_eq_true']
  constructor
  · rintro ⟨hi, hnl, hready⟩
    obtain ⟨o, ho⟩ : ∃ o, ops[i]? = some o := ⟨ops[i], by rw [Array.getElem?_eq_getElem hi]⟩
    rw [ho] at hready
    simp only [Option.map_some, Option.getD_some, Array.all_eq_true] at hready
    refine ⟨hi, ?_, o, ho, fun j hj => ?_⟩
    · rw [Array.getD_eq_getD_getElem?] at hnl
      rw [Array.getElem?_eq_getElem (by omega)] at hnl ⊢
      simpa using hnl
    · obtain ⟨k, hk, hb, rfl⟩ := mem_deps hj
      have := hready k hk
      rw [hb] at this
      simp only [Bool.not_true, Bool.false_or] at this
      exact listed_iff'.1 this
  · rintro ⟨hi, hnl, o, ho, hd⟩
    refine ⟨hi, ?_, ?_⟩
    · rw [Array.getD_eq_getD_getElem?, hnl]; rfl
    · rw [ho]
      simp only [Option.map_some, Option.getD_some, Array.all_eq_true]
      intro k hk
      cases hbd : Region.binds .any o.after[k] with
      | false => rfl
      | true =>
        simp only [Bool.not_true, Bool.false_or]
        exact listed_iff'.2 (hd _ (deps_mem hk hbd))
theorem go_succ (ops : Array Oper) (fuel t : Nat) (listed : Array Bool) (acc : List Nat) (hsz : listed.size = ops.size) :
    (∃ i t', Ready ops listed i ∧ Region.linearise.go .any ops (fuel + 1) t listed acc = Region.linearise.go .any ops fuel t' (listed.setIfInBounds i true) (i :: acc)) ∨
    ((∀ i, ¬ Ready ops listed i) ∧ Region.linearise.go .any ops (fuel + 1) t listed acc = acc.reverse) := by
  rw [show Region.linearise.go .any ops (fuel + 1) t listed acc = (let rs := (List.range ops.size).filter fun i => !listed.getD i true && ((ops[i]?).map (·.after.all fun e => !Region.binds .any e || listed.getD e.on false)).getD false
    match rs[t % rs.length]? with
    | some i => Region.linearise.go .any ops fuel (t / rs.length) (listed.setIfInBounds i true) (i :: acc)
    | none => acc.reverse) from rfl]
  simp only
  generalize hrs : ((List.range ops.size).filter fun i => !listed.getD i true && ((ops[i]?).map (·.after.all fun e => !Region.binds .any e || listed.getD e.on false)).getD false) = rs
  cases hp : rs[t % rs.length]? with
  | none =>
    refine .inr ⟨fun i hi => ?_, rfl⟩
    have hm := (ready_iff hsz i).2 hi
    rw [hrs] at hm
    cases rs with
    | nil => cases hm
    | cons x xs =>
      have : t % (x :: xs).length < (x :: xs).length := Nat.mod_lt _ (by simp)
      rw [List.getElem?_eq_getElem this] at hp; cases hp
  | some i =>
    refine .inl ⟨i, _, ?_, rfl⟩
    rw [← ready_iff hsz i, hrs]
    exact List.mem_of_getElem? hp
theorem set_iff {listed : Array Bool} {i : Nat} (hi : i < listed.size) (k : Nat) : (listed.setIfInBounds i true)[k]? = some true ↔ (k = i ∨ listed[k]? = some true) := by
  rw [Array.getElem?_setIfInBounds]
  by_cases hk : i = k
  · subst hk; simp [hi]
  · simp [hk]; intro e; exact absurd e.symm hk
def left (listed : Array Bool) : Nat := (listed.toList.filter (! ·)).length
theorem left_set {listed : Array Bool} {i : Nat} (h : listed[i]? = some false) : left (listed.setIfInBounds i true) + 1 = left listed := by
  unfold left
  simp only [Array.toList_setIfInBounds]
  have : listed.toList[i]? = some false := by simpa using h
  clear h
  generalize listed.toList = l at *
  induction l generalizing i with
  | nil => simp at this
  | cons b l ih =>
    cases i with
    | zero => simp at this; subst this; simp
    | succ i =>
      simp only [List.set_cons_succ]
      have := ih (i := i) (by simpa using this)
      cases b <;> simp only [List.filter_cons, Bool.not_true, Bool.not_false, if_true, Bool.false_eq_true, if_false, List.length_cons] <;> omega
theorem left_pos {listed : Array Bool} {i : Nat} (h : listed[i]? = some false) : 0 < left listed := by have := left_set h; omega
theorem exists_ready {ops : Array Oper} {listed : Array Bool} (hsz : listed.size = ops.size) (hback : ∀ (i : Nat) (o : Oper), ops[i]? = some o → ∀ j ∈ deps o, j < i)
    (hno : ∀ i, ¬ Ready ops listed i) : ∀ i, i < ops.size → listed[i]? = some true := by
  intro i
  induction i using Nat.strongRecOn with
  | _ i ih =>
    intro hi
    have hl : listed[i]? = some (listed[i]'(by omega)) := Array.getElem?_eq_getElem (by omega)
    cases hb : listed[i]'(by omega) with
    | true => rw [hl, hb]
    | false =>
      rw [hb] at hl
      refine absurd ⟨hi, hl, ops[i], Array.getElem?_eq_getElem hi, fun j hj => ?_⟩ (hno i)
      have := hback i _ (Array.getElem?_eq_getElem hi) j hj
      exact ih j this (by omega)
theorem chain_all {ops : Array Oper} {L : Nat → Prop} {k : Nat} {o : Oper} (ho : ops[k]? = some o) (hd : ∀ j ∈ deps o, L j) (hcl : ∀ (i : Nat) (o : Oper), ops[i]? = some o → L i → ∀ j ∈ deps o, L j)
    (hch : ∀ j, j < k → ∃ (k' : Nat) (o' : Oper), j < k' ∧ k' ≤ k ∧ ops[k']? = some o' ∧ j ∈ deps o') : ∀ j, j < k → L j := by
  have key : ∀ (n j : Nat), k - j = n → j < k → L j := by
    intro n
    induction n using Nat.strongRecOn with
    | _ n ih =>
      intro j hn hj
      obtain ⟨k', o', h1, h2, h3, h4⟩ := hch j hj
      rcases Nat.lt_or_ge k' k with h | h
      · exact hcl k' o' h3 (ih (k - k') (by omega) k' rfl h) j h4
      · have : k' = k := by omega
        subst this
        rw [ho] at h3; cases h3
        exact hd j h4
  exact fun j hj => key (k - j) j rfl hj
theorem go_tail {ops : Array Oper} (hback : ∀ (i : Nat) (o : Oper), ops[i]? = some o → ∀ j ∈ deps o, j < i) {m : Nat}
    (htail : ∀ (i : Nat) (o : Oper), ops[i]? = some o → m ≤ i → ∀ j, j < i → ∃ (k : Nat) (o' : Oper), j < k ∧ k ≤ i ∧ ops[k]? = some o' ∧ j ∈ deps o') :
    ∀ (fuel t : Nat) (listed : Array Bool) (acc : List Nat) (i : Nat), listed.size = ops.size → m ≤ i → i ≤ ops.size → (∀ j, j < ops.size → (listed[j]? = some true ↔ j < i)) → ops.size ≤ i + fuel →
      Region.linearise.go .any ops fuel t listed acc = acc.reverse ++ List.range' i (ops.size - i) := by
  intro fuel
  induction fuel with
  | zero =>
    intro t listed acc i hsz hm hi hl hf
    have : ops.size - i = 0 := by omega
    simp [Region.linearise.go, this]
  | succ fuel ih =>
    intro t listed acc i hsz hm hi hl hf
    rcases go_succ ops fuel t listed acc hsz with ⟨k, t', hr, he⟩ | ⟨hno, he⟩
    · obtain ⟨hk, hkf, o, ho, hd⟩ := hr
      have hki : k = i := by
        have h1 : ¬ k < i := fun h => by have := (hl k hk).2 h; rw [hkf] at this; cases this
        rcases Nat.lt_or_ge i k with h2 | h2
        · have hh := chain_all (L := fun j => j < i) ho (fun j hj => (hl j (by have := hback k o ho j hj; omega)).1 (hd j hj)) (fun a b hab hai j hj => by have := hback a b hab j hj; omega) (htail k o ho (by omega)) i h2; omega
        · omega
      subst hki
      rw [he, ih t' _ _ (k + 1) (by simpa using hsz) (by omega) (by omega) ?_ (by omega)]
      · have : ops.size - k = (ops.size - (k + 1)) + 1 := by omega
        rw [this, List.range'_succ]
        simp
      · intro j hj
        rw [set_iff (by omega), hl j hj]; omega
    · have hall := exists_ready hsz hback hno
      have : ops.size - i = 0 := by
        rcases Nat.lt_or_ge i ops.size with h | h
        · have := (hl i h).1 (hall i h); omega
        · omega
      simp [he, this]
def dagOk (ops : Array Oper) (σ : Nat → Nat) (m : Nat) : Bool :=
  (List.range ops.size).all fun i => match ops[i]? with
    | none => true
    | some o => (deps o).all (fun j => Nat.blt j i) &&
      (match o.dst with | some d => Nat.ble m i || Nat.beq (σ i) d | none => true) &&
      (match o.dst with
        | none => true
        | some d => Nat.ble m i || (List.range m).all fun j => bif Nat.beq i j then true else
            bif Nat.beq (σ j) d then (match ops[j]? with | none => true | some oj => (deps oj).contains i) else true) &&
      (bif Nat.ble m i then (List.range i).all fun j => (List.range (i - j)).any fun x => match ops[i - x]? with | none => false | some o' => (deps o').contains j else true)
def okOld (ops : Array Oper) (i s : Nat) : Bool :=
  (List.range ops.size).all fun k => match ops[k]? with
    | none => true
    | some o => match o.dst with
      | none => true
      | some d => bif Nat.beq d s then (Nat.beq k i || (deps o).contains i) else true
section dag
variable {P : Program} {n : Nat} {ops : Array Oper} {σ : Nat → Nat} {m : Nat} {Φ : Nat → PH → World → Value → Prop} {ρ0 : Env} {h1 : PH} {w1 : World}
def DagInv (ops : Array Oper) (σ : Nat → Nat) (m : Nat) (Φ : Nat → PH → World → Value → Prop) (ρ0 : Env) (h1 : PH) (w1 : World) (D : Nat → Prop) (ρ : Env) (w : World) : Prop :=
  ∃ h, Gr h1 w1 h w ∧ (∀ j, D j → j < m → Φ j h w (ρ (σ j))) ∧ (∀ s : Nat, (∀ (k : Nat) (o : Oper), ops[k]? = some o → D k → o.dst ≠ some s) → ρ s = ρ0 s)
def OpG (P : Program) (n : Nat) (ops : Array Oper) (o : Oper) (ρ : Env) (w : World) (K : Env → World → Prop) : Prop :=
  if Region.wanted o (yielded ops (mk n ρ).tmps) then OpW P n o ρ w K else K (updO ρ o.dst undef) w
theorem OpG.mono {o : Oper} {ρ : Env} {w : World} {K K' : Env → World → Prop} (h : OpG P n ops o ρ w K) (hk : ∀ ρ w, K ρ w → K' ρ w) : OpG P n ops o ρ w K' := by
  unfold OpG at *
  split
  · rename_i hw; rw [if_pos hw] at h; exact h.mono hk
  · rename_i hw; rw [if_neg hw] at h; exact hk _ _ h
theorem wpOps_of_OpG {Q : Exit → Env → World → Prop} {i : Nat} {l : List Nat} {o : Oper} (ho : ops[i]? = some o) {ρ : Env} {w : World}
    (h : OpG P n ops o ρ w (fun ρ' w' => wpOps P ops (toQ n Q) l (mk n ρ') w')) : wpOps P ops (toQ n Q) (i :: l) (mk n ρ) w := by
  simp only [wpOps, ho]
  unfold OpG at h
  split
  · rename_i hw
    rw [if_pos hw] at h
    unfold OpW Oper.wp at h
    refine .inl ?_
    unfold Oper.wp
    exact upon_mono (fun a w ⟨ρ', e, hk⟩ => e ▸ hk) (fun _ _ _ h => h.elim) h
  · rename_i hw
    rw [if_neg hw] at h
    rw [put_mk]
    exact h
def Owes (P : Program) (n : Nat) (ops : Array Oper) (σ : Nat → Nat) (Φ : Nat → PH → World → Value → Prop) (ρ0 : Env) (h1 : PH) (w1 : World) (i : Nat) (o : Oper) : Prop :=
  ∀ ρ h w, Gr h1 w1 h w → (∀ j, j ∈ deps o → Φ j h w (ρ (σ j))) → (∀ s, okOld ops i s = true → ρ s = ρ0 s) →
    OpG P n ops o ρ w fun ρ' w' => ∃ v h', ρ' = updO ρ o.dst v ∧ Gr h1 w1 h' w' ∧ (∀ j x, j ≠ i → Φ j h w x → Φ j h' w' x) ∧ Φ i h' w' (updO ρ o.dst v (σ i))
theorem linearise_go {Q : Exit → Env → World → Prop} (hok : dagOk ops σ m = true) (hm : m ≤ ops.size)
    (step : ∀ (i : Nat) (o : Oper), ops[i]? = some o → i < m → Owes P n ops σ Φ ρ0 h1 w1 i o)
    (last : ∀ ρ h w, Gr h1 w1 h w → (∀ j, j < m → Φ j h w (ρ (σ j))) → (∀ s : Nat, (∀ (k : Nat) (o : Oper), ops[k]? = some o → k < m → o.dst ≠ some s) → ρ s = ρ0 s) →
      wpOps P ops (toQ n Q) (List.range' m (ops.size - m)) (mk n ρ) w) :
    ∀ (fuel t : Nat) (listed : Array Bool) (acc : List Nat),
      listed.size = ops.size → (∀ (i : Nat) (o : Oper), ops[i]? = some o → listed[i]? = some true → ∀ j ∈ deps o, listed[j]? = some true) →
      (∀ i, listed[i]? = some true → i < m) → left listed ≤ fuel →
      ∃ l, Region.linearise.go .any ops fuel t listed acc = acc.reverse ++ l ∧
        ∀ ρ w, DagInv ops σ m Φ ρ0 h1 w1 (fun i => listed[i]? = some true) ρ w → wpOps P ops (toQ n Q) l (mk n ρ) w := by
  have hokU : ∀ (i : Nat) (o : Oper), ops[i]? = some o → ((deps o).all (fun j => Nat.blt j i) = true ∧
      (match o.dst with | some d => Nat.ble m i || Nat.beq (σ i) d | none => true) = true) ∧
      (match o.dst with
        | none => true
        | some d => Nat.ble m i || (List.range m).all fun j => bif Nat.beq i j then true else
            bif Nat.beq (σ j) d then (match ops[j]? with | none => true | some oj => (deps oj).contains i) else true) = true ∧
      (bif Nat.ble m i then (List.range i).all fun j => (List.range (i - j)).any fun x => match ops[i - x]? with | none => false | some o' => (deps o').contains j else true) = true := by
    intro i o ho
    unfold dagOk at hok
    have := List.all_eq_true.1 hok i (List.mem_range.2 (Array.getElem?_eq_some_iff.1 ho).1)
    simp only [ho, Bool.and_eq_true] at this
    exact ⟨⟨this.1.1.1, this.1.1.2⟩, this.1.2, this.2⟩
  have hback : ∀ (i : Nat) (o : Oper), ops[i]? = some o → ∀ j ∈ deps o, j < i := by
    intro i o ho j hj
    have := List.all_eq_true.1 (hokU i o ho).1.1 j hj
    rw [blt_eq] at this
    exact of_decide_eq_true this
  have htail : ∀ (i : Nat) (o : Oper), ops[i]? = some o → m ≤ i → ∀ j, j < i → ∃ (k : Nat) (o' : Oper), j < k ∧ k ≤ i ∧ ops[k]? = some o' ∧ j ∈ deps o' := by
    intro i o ho hmi j hj
    have := (hokU i o ho).2.2
    rw [Nat.ble_eq_true_of_le hmi] at this
    have := List.all_eq_true.1 this j (List.mem_range.2 hj)
    obtain ⟨x, hx, hxx⟩ := List.any_eq_true.1 this
    have hx := List.mem_range.1 hx
    split at hxx
    · cases hxx
    · rename_i o' ho'
      exact ⟨i - x, o', by omega, by omega, ho', by simpa using hxx⟩
  have hdone : ∀ (listed : Array Bool), (∀ i, i < m → listed[i]? = some true) → (∀ i, listed[i]? = some true → i < m) → ∀ ρ w,
      DagInv ops σ m Φ ρ0 h1 w1 (fun i => listed[i]? = some true) ρ w → wpOps P ops (toQ n Q) (List.range' m (ops.size - m)) (mk n ρ) w := by
    intro listed hall honly ρ w ⟨h, hg, hΦ, hold⟩
    exact last ρ h w hg (fun j hj => hΦ j (hall j hj) hj) (fun s hs => hold s fun k o ho hk => hs k o ho (honly k hk))
  intro fuel
  induction fuel with
  | zero =>
    intro t listed acc hsz hcl honly hf
    have hall : ∀ i, i < ops.size → listed[i]? = some true := by
      intro i hi
      have hl : listed[i]? = some (listed[i]'(by omega)) := Array.getElem?_eq_getElem (by omega)
      cases hb : listed[i]'(by omega) with
      | true => rw [hl, hb]
      | false => rw [hb] at hl; have := left_pos hl; omega
    have hz : ops.size - m = 0 := by
      rcases Nat.lt_or_ge m ops.size with h | h
      · have := honly m (hall m h); omega
      · omega
    refine ⟨[], by simp [Region.linearise.go], fun ρ w hI => ?_⟩
    have := hdone listed (fun i hi => hall i (by omega)) honly ρ w hI
    rwa [hz] at this
  | succ fuel ih =>
    intro t listed acc hsz hcl honly hf
    rcases go_succ ops fuel t listed acc hsz with ⟨i, t', ⟨hi, hni, o, ho, hdeps⟩, he⟩ | ⟨hno, he⟩
    · rcases Nat.lt_or_ge i m with him | him
      · obtain ⟨l, hl, hwp⟩ := ih t' (listed.setIfInBounds i true) (i :: acc) (by simpa using hsz)
          (by
            intro k ok hok' hk j hj
            rw [set_iff (by omega)] at hk ⊢
            rcases hk with rfl | hk
            · rw [ho] at hok'; cases hok'
              exact .inr (hdeps j hj)
            · exact .inr (hcl k ok hok' hk j hj))
          (by
            intro k hk
            rw [set_iff (by omega)] at hk
            rcases hk with rfl | hk
            · exact him
            · exact honly k hk)
          (by have := left_set hni; omega)
        refine ⟨i :: l, ?_, ?_⟩
        · rw [he, hl]; simp
        · intro ρ w ⟨h, hg, hΦ, hold⟩
          refine wpOps_of_OpG ho ?_
          have hoki := hokU i o ho
          refine (step i o ho him ρ h w hg (fun j hj => ?_) (fun s hs => ?_)).mono ?_
          · exact hΦ j (hdeps j hj) (honly j (hdeps j hj))
          · refine hold s ?_
            intro k ok hok' hk hdst
            have hks := (Array.getElem?_eq_some_iff.1 hok').1
            have := List.all_eq_true.1 hs k (List.mem_range.2 hks)
            simp only [hok', hdst] at this
            rw [beq_self] at this
            simp only [cond_true, Bool.or_eq_true] at this
            rcases this with this | this
            · have := Nat.eq_of_beq_eq_true this; subst this
              rw [hni] at hk; cases hk
            · have hc := hcl k ok hok' hk i (by simpa using this)
              rw [hni] at hc; cases hc
          · rintro ρ' w' ⟨v, h', rfl, hg', hpres, hΦi⟩
            refine hwp _ _ ⟨h', hg', ?_, ?_⟩
            · intro j hj hjs
              rw [set_iff (by omega)] at hj
              by_cases hji : j = i
              · subst hji; exact hΦi
              · have hj := hj.resolve_left hji
                have hne : ∀ d, o.dst = some d → σ j ≠ d := by
                  intro d hd e
                  have h3 := hoki.2.1
                  rw [hd] at h3
                  have hmi : Nat.ble m i = false := by
                    cases hb : Nat.ble m i with
                    | false => rfl
                    | true => have := Nat.le_of_ble_eq_true hb; omega
                  simp only [hmi, Bool.false_or] at h3
                  have := List.all_eq_true.1 h3 j (List.mem_range.2 hjs)
                  rw [beq_ne (fun e => hji e.symm), e, beq_self] at this
                  obtain ⟨oj, hoj⟩ : ∃ o, ops[j]? = some o := ⟨ops[j]'(by omega), Array.getElem?_eq_getElem (by omega)⟩
                  simp only [cond_false, cond_true, hoj] at this
                  have hc := hcl j oj hoj hj i (by simpa using this)
                  rw [hni] at hc; cases hc
                have he : updO ρ o.dst v (σ j) = ρ (σ j) := by
                  cases hd : o.dst with
                  | none => rfl
                  | some d => exact upd_ne ρ v (hne d hd)
                rw [he]
                exact hpres j _ hji (hΦ j hj hjs)
            · intro s hs
              have hsi : o.dst ≠ some s := hs i o ho ((set_iff (by omega) i).2 (.inl rfl))
              have he : updO ρ o.dst v s = ρ s := by
                cases hd : o.dst with
                | none => rfl
                | some d => exact upd_ne ρ v (fun e => hsi (by rw [hd, e]))
              rw [he]
              exact hold s fun k ok hok' hk => hs k ok hok' ((set_iff (by omega) k).2 (.inr hk))
      · -- the tail begins
        have him' : i = m := by
          rcases Nat.lt_or_ge m i with h | h
          · have := honly m (chain_all (L := fun j => listed[j]? = some true) ho hdeps hcl (htail i o ho him) m h); omega
          · omega
        subst him'
        have hex : ∀ j, j < ops.size → (listed[j]? = some true ↔ j < i) := fun j _ => ⟨honly j, fun h => chain_all (L := fun j => listed[j]? = some true) ho hdeps hcl (htail i o ho (Nat.le_refl _)) j h⟩
        have hlen : ops.size ≤ i + (fuel + 1) := by
          have key : ∀ (l : List Bool) (k : Nat), (∀ j, j < l.length → (l[j]? = some true → j < k)) → l.length ≤ k + (l.filter (! ·)).length := by
            intro l
            induction l with
            | nil => intro k _; simp
            | cons b l ihl =>
              intro k hk
              cases k with
              | zero =>
                have hb : b = false := by
                  cases b with
                  | false => rfl
                  | true => have := hk 0 (by simp) rfl; omega
                subst hb
                have := ihl 0 (fun j hj e => by have := hk (j + 1) (by simp; omega) (by simpa using e); omega)
                simp only [List.filter_cons, Bool.not_false, if_true, List.length_cons]; omega
              | succ k =>
                have := ihl k (fun j hj e => by have := hk (j + 1) (by simp; omega) (by simpa using e); omega)
                cases b <;> simp only [List.filter_cons, Bool.not_true, Bool.not_false, if_true, Bool.false_eq_true, if_false, List.length_cons] <;> omega
          have := key listed.toList i (fun j _ e => honly j (by simpa using e))
          simp only [Array.length_toList] at this
          unfold left at hf
          omega
        refine ⟨List.range' i (ops.size - i), go_tail hback htail _ _ _ _ i hsz (Nat.le_refl _) hm hex hlen, fun ρ w hI => ?_⟩
        exact hdone listed (fun j hj => (hex j (by omega)).2 hj) honly ρ w hI
    · have hall := exists_ready hsz hback hno
      have hz : ops.size - m = 0 := by
        rcases Nat.lt_or_ge m ops.size with h | h
        · have := honly m (hall m h); omega
        · omega
      refine ⟨[], by simp [he], fun ρ w hI => ?_⟩
      have := hdone listed (fun i hi => hall i (by omega)) honly ρ w hI
      rwa [hz] at this
def OwesAll (P : Program) (n : Nat) (ops : Array Oper) (σ : Nat → Nat) (Φ : Nat → PH → World → Value → Prop) (ρ0 : Env) (h1 : PH) (w1 : World) : List Oper → Nat → Nat → Prop
  | o :: l, i, m + 1 => Owes P n ops σ Φ ρ0 h1 w1 i o ∧ OwesAll P n ops σ Φ ρ0 h1 w1 l (i + 1) m
  | _, _, _ => True
theorem OwesAll.at : ∀ {l : List Oper} {i m : Nat}, OwesAll P n ops σ Φ ρ0 h1 w1 l i m → ∀ (j : Nat) (o : Oper), l[j]? = some o → j < m → Owes P n ops σ Φ ρ0 h1 w1 (i + j) o
  | [], _, _, _, j, o, ho, _ => by simp at ho
  | _ :: _, _, 0, _, _, _, _, hj => by omega
  | o' :: l, i, m + 1, h, 0, o, ho, _ => by simp at ho; subst ho; exact h.1
  | o' :: l, i, m + 1, h, j + 1, o, ho, hj => by
    have := OwesAll.at h.2 j o (by simpa using ho) (by omega)
    rwa [show i + 1 + j = i + (j + 1) by omega] at this
def okNever (l : List Oper) (m s : Nat) : Bool := (l.take m).all fun o => match o.dst with | none => true | some d => bif Nat.beq d s then false else true
def Stab (φ : PH → World → Value → Prop) : Prop := ∀ h w h' w' x, Gr h w h' w' → φ h w x → φ h' w' x
def StabL : List (PH → World → Value → Prop) → Prop
  | [] => True
  | φ :: l => Stab φ ∧ StabL l
def phiOf (l : List (PH → World → Value → Prop)) (j : Nat) : PH → World → Value → Prop := l.getD j fun _ _ _ => True
theorem StabL.at : ∀ {l : List (PH → World → Value → Prop)}, StabL l → ∀ j, Stab (phiOf l j)
  | [], _, j => fun _ _ _ _ _ _ _ => trivial
  | φ :: l, h, 0 => h.1
  | φ :: l, h, j + 1 => by
    have := StabL.at h.2 j
    simpa [phiOf] using this
theorem sQ (v : Value) : Stab fun _ _ x => x = v := fun _ _ _ _ _ _ h => h
theorem stab_true : Stab fun _ _ _ => True := fun _ _ _ _ _ _ h => h
theorem gP {d : Option Tmp} {op : Op} {ty : TypeId} {pos : String} {af : Array Edge} {ρ : Env} {w : World} {K : Env → World → Prop} (h : OpW P n ⟨d, op, ty, pos, af, none⟩ ρ w K) :
    OpG P n ops ⟨d, op, ty, pos, af, none⟩ ρ w K := by
  unfold OpG
  have hw : Region.wanted ⟨d, op, ty, pos, af, none⟩ (yielded ops (mk n ρ).tmps) = true := rfl
  rw [if_pos hw]; exact h
theorem gL {dd : Option Tmp} {op : Op} {ty : TypeId} {pos : String} {af : Array Edge} {ρ : Env} {w : World} {K : Env → World → Prop} {j d : Nat} {b : Bool}
    (hd : (ops[j]?).bind (·.dst) = some d) (hn : Nat.blt d n = true) (hv : ρ d = .bool b) (h : OpW P n ⟨dd, op, ty, pos, af, some (j, b)⟩ ρ w K) : OpG P n ops ⟨dd, op, ty, pos, af, some (j, b)⟩ ρ w K := by
  unfold OpG
  have hw : Region.wanted ⟨dd, op, ty, pos, af, some (j, b)⟩ (yielded ops (mk n ρ).tmps) = true := by simp [Region.wanted, yielded_of hd hn hv]
  rw [if_pos hw]; exact h
theorem OpG.dead {dd : Tmp} {op : Op} {ty : TypeId} {pos : String} {af : Array Edge} {ρ : Env} {w : World} {K : Env → World → Prop} {j d : Nat} {b b' : Bool}
    (hd : (ops[j]?).bind (·.dst) = some d) (hn : Nat.blt d n = true) (hv : ρ d = .bool b') (hb : (b' == b) = false) (h : K (upd ρ dd undef) w) : OpG P n ops ⟨some dd, op, ty, pos, af, some (j, b)⟩ ρ w K := by
  unfold OpG
  have hw : ¬ Region.wanted ⟨some dd, op, ty, pos, af, some (j, b)⟩ (yielded ops (mk n ρ).tmps) = true := by
    simp only [Region.wanted, yielded_of hd hn hv]
    cases b <;> cases b' <;> simp_all
  rw [if_neg hw]; exact h
theorem Wp.dag {Q : Exit → Env → World → Prop} {id : Nat} {l : List Oper} (m : Nat) (σ : Nat → Nat) (Φ : Nat → PH → World → Value → Prop) (hmix : P.follows .mixedOrders = true) (s1 : Sat h1 w1)
    (hm : Nat.ble m l.length = true) (hok : dagOk l.toArray σ m = true)
    (step : ∀ (i : Nat) (o : Oper), l[i]? = some o → i < m → Owes P n l.toArray σ Φ ρ0 h1 w1 i o)
    (last : ∀ ρ h w, Gr h1 w1 h w → (∀ j, j < m → Φ j h w (ρ (σ j))) → (∀ s : Nat, (∀ (k : Nat) (o : Oper), l[k]? = some o → k < m → o.dst ≠ some s) → ρ s = ρ0 s) →
      Ops P n l.toArray (Q .normal) (l.drop m) ρ w) :
    Wp P n (.region id l.toArray true) Q ρ0 w1 := by
  refine Wp.of (wp_region_draw ?_)
  intro t
  unfold Region.schedule Region.linearise
  rw [hmix]
  simp only [Bool.true_or, if_true]
  have hm' : m ≤ l.length := Nat.le_of_ble_eq_true hm
  obtain ⟨ls, hl, hwp⟩ := linearise_go (Q := Q) (n := n) (P := P) (m := m) (Φ := Φ) (ρ0 := ρ0) (h1 := h1) (w1 := w1) hok (by simpa using hm') (fun i o ho => step i o (by simpa using ho))
    (fun ρ h w hg hΦ hold => by
      have := wpList_of_Ops (Q := Q) (fun _ _ h => h) (l.drop m) ρ w (last ρ h w hg hΦ (fun s hs => hold s fun k o ho => hs k o (by simpa using ho)))
      rw [← wpOps_eq_wpList (l.drop m) m (by intro j; simp)] at this
      simpa using this)
    l.toArray.size t (Array.replicate l.toArray.size false) [] (by simp)
    (by intro i o ho hi; simp [Array.getElem?_replicate] at hi)
    (by intro i hi; simp [Array.getElem?_replicate] at hi)
    (by unfold left; exact Nat.le_trans (List.length_filter_le _ _) (by simp))
  rw [hl]
  refine hwp ρ0 _ ⟨h1, (Gr.refl s1).drew _, ?_, fun _ _ => rfl⟩
  intro j hj
  simp [Array.getElem?_replicate] at hj
theorem Wp.dagL {Q : Exit → Env → World → Prop} {id : Nat} {l : List Oper} (m : Nat) (σs : List Nat) (phis : List (PH → World → Value → Prop)) (hmix : P.follows .mixedOrders = true) (s1 : Sat h1 w1)
    (hm : Nat.ble m l.length = true) (hok : dagOk l.toArray (fun i => σs.getD i 0) m = true) (hst : StabL phis)
    (step : (∀ j h w h' w' x, Gr h w h' w' → phiOf phis j h w x → phiOf phis j h' w' x) → OwesAll P n l.toArray (fun i => σs.getD i 0) (phiOf phis) ρ0 h1 w1 l 0 m)
    (last : ∀ ρ h w, Gr h1 w1 h w → (∀ j, Nat.blt j m = true → phiOf phis j h w (ρ (σs.getD j 0))) → (∀ s : Nat, okNever l m s = true → ρ s = ρ0 s) →
      Ops P n l.toArray (Q .normal) (l.drop m) ρ w) :
    Wp P n (.region id l.toArray true) Q ρ0 w1 := by
  refine Wp.dag m _ (phiOf phis) hmix s1 hm hok (fun i o ho him => by
    have := (step fun j h w h' w' x g => hst.at j h w h' w' x g).at i o ho him
    rwa [Nat.zero_add] at this) ?_
  intro ρ h w g hΦ hold
  refine last ρ h w g (fun j hj => hΦ j (by rw [blt_eq] at hj; exact of_decide_eq_true hj)) (fun s hs => hold s ?_)
  intro k o ho hk hd
  unfold okNever at hs
  have hmem : o ∈ l.take m := by
    refine List.mem_of_getElem? (i := k) ?_
    rw [List.getElem?_take, if_pos hk]; exact ho
  have := List.all_eq_true.1 hs o hmem
  simp only [hd] at this
  rw [beq_self] at this
  cases this
end dag
section dead0
variable {P : Program} {n : Nat} {ops : Array Oper} {ρ : Env} {w : World}
theorem yielded_undef {j d : Nat} (hd : (ops[j]?).bind (·.dst) = some d) (hn : Nat.blt d n = true) (hv : ρ d = undef) : yielded ops (mk n ρ).tmps j = none := by
  rw [blt_eq] at hn
  have hn := of_decide_eq_true hn
  simp only [yielded, hd, Option.bind_some, mk, Array.getElem?_ofFn, hn, dite_true, hv]
  rfl
theorem not_wanted_undef {dd : Option Tmp} {op : Op} {ty : TypeId} {pos : String} {af : Array Edge} {j d : Nat} {b : Bool} (hd : (ops[j]?).bind (·.dst) = some d) (hn : Nat.blt d n = true) (hv : ρ d = undef) :
    ¬ Region.wanted ⟨dd, op, ty, pos, af, some (j, b)⟩ (yielded ops (mk n ρ).tmps) = true := by
  simp [Region.wanted, yielded_undef hd hn hv]
theorem Ops.dead0 {K : Env → World → Prop} {dd : Tmp} {op : Op} {ty : TypeId} {pos : String} {af : Array Edge} {rest : List Oper} {j d : Nat} {b : Bool}
    (hd : (ops[j]?).bind (·.dst) = some d) (hn : Nat.blt d n = true) (hv : ρ d = undef)
    (h : Ops P n ops K rest (upd ρ dd undef) w) : Ops P n ops K (⟨some dd, op, ty, pos, af, some (j, b)⟩ :: rest) ρ w := by
  unfold Ops
  rw [if_neg (not_wanted_undef hd hn hv)]; exact h
theorem OpG.dead0 {K : Env → World → Prop} {dd : Tmp} {op : Op} {ty : TypeId} {pos : String} {af : Array Edge} {j d : Nat} {b : Bool}
    (hd : (ops[j]?).bind (·.dst) = some d) (hn : Nat.blt d n = true) (hv : ρ d = undef) (h : K (upd ρ dd undef) w) : OpG P n ops ⟨some dd, op, ty, pos, af, some (j, b)⟩ ρ w K := by
  unfold OpG
  rw [if_neg (not_wanted_undef hd hn hv)]; exact h
end dead0
attribute [irreducible] OpG
end Go.Ear
