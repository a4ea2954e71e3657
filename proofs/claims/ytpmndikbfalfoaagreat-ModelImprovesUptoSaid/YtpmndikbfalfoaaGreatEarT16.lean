/- EarT16: a part of the proofs about package model: how the program's functions run, and what they compute, for every input. -/
import Derived.Test.YtpmndikbfalfoaaGreatEarT15
set_option linter.all false
set_option linter.unusedVariables false
namespace Go.E3
open Go Go.Ear Go.Proofs
structure MidW where
  d : Nat
  S : Value → SV
  B2 : Value → List Res
section
variable (P : Program) (n : Nat) (X : Fix) (ms : List Nat) (env : EL) (ol : List Oper)
inductive GM (B : List Res) (k : Kt) (p m : Nat) : Option MidW → EL → Nat → List Oper → Prop
  | st {L i o rest} (d : Nat) (S : SV) (hi : i < p) (hd : o.dst = some d) (h : TriP P n X env B ol L o d S) (g : GM B k p m none ((d, S) :: L) (i + 1) rest) : GM B k p m none L i (o :: rest)
  | wr {L o rest} (w : MidW) (hd : o.dst = some w.d) (h : TriV P n X env B ol L o (some (w.d, w.S)) w.B2) (g : GM B k p m (some w) L (p + 1) rest) : GM B k p m none L p (o :: rest)
  | mid {w L i o rest} (d : Nat) (S : SV) (hp : p < i) (hd : o.dst = some d) (h : TriP P n X env B ol L o d S) (h2 : ∀ v, TriP P n X env (w.B2 v) ol L o d S) (g : GM B k p m (some w) ((d, S) :: L) (i + 1) rest) : GM B k p m (some w) L i (o :: rest)
  | fin {w L rest} (g : ∀ v, GO P n X ms ((w.d, w.S v) :: L) env (w.B2 v) ol rest k) : GM B k p m (some w) L m rest
end
section
variable {P : Program} {n : Nat} {X : Fix} {ms : List Nat} {env : EL} {ol : List Oper} {B : List Res} {k : Kt} {p m : Nat}
abbrev lcs (res : List (Option (Nat × SV))) : EL := (res.filterMap id).reverse
theorem lcs_some (q : Nat × SV) (res : List (Option (Nat × SV))) (L : EL) : lcs (some q :: res) ++ L = lcs res ++ (q :: L) := by simp [lcs]
theorem lcs_none (res : List (Option (Nat × SV))) : lcs (none :: res) = lcs res := by simp [lcs]
theorem GM.sem {ws : Option MidW} {L : EL} {i : Nat} {rest : List Oper} (g : GM P n X ms env ol B k p m ws L i rest) :
    ∃ (res : List (Option (Nat × SV))) (w : MidW), i + res.length = m ∧ (ws = some w ∨ (ws = none ∧ i ≤ p ∧ ∃ o, rest[p - i]? = some o ∧ res[p - i]? = some none ∧ o.dst = some w.d ∧ TriV P n X env B ol (lcs (res.take (p - i)) ++ L) o (some (w.d, w.S)) w.B2)) ∧
      (∀ j q, res[j]? = some (some q) → ∃ o, rest[j]? = some o ∧ o.dst = some q.1 ∧ TriP P n X env B ol (lcs (res.take j) ++ L) o q.1 q.2 ∧ (p < i + j → ∀ v, TriP P n X env (w.B2 v) ol (lcs (res.take j) ++ L) o q.1 q.2)) ∧
      (∀ j, res[j]? = some none → i + j = p) ∧ res.length ≤ rest.length ∧ ∀ v, GO P n X ms ((w.d, w.S v) :: (lcs res ++ L)) env (w.B2 v) ol (rest.drop res.length) k := by
  induction g with
  | @st L i o rest d S hi hd h g ih =>
    obtain ⟨res, w, e, hw, hr, hn, hle, hg⟩ := ih
    refine ⟨some (d, S) :: res, w, by simp only [List.length_cons]; omega, .inr ⟨rfl, by omega, ?_⟩, fun j q hj => ?_, fun j hj => ?_, by simp only [List.length_cons]; omega, fun v => by rw [lcs_some]; simpa using hg v⟩
    · rcases hw with hw | ⟨_, h1, o', h2, h3, h4, h5⟩
      · cases hw
      · rw [show p - i = p - (i + 1) + 1 by omega]
        refine ⟨o', by simpa using h2, by simpa using h3, h4, ?_⟩
        rw [List.take_succ_cons, lcs_some]; exact h5
    · cases j with
      | zero =>
        have hj : (d, S) = q := by simpa using hj
        subst hj
        exact ⟨o, rfl, hd, by simpa [lcs] using h, fun hh => by omega⟩
      | succ j =>
        obtain ⟨o', a, b, c, d'⟩ := hr j q (by simpa using hj)
        refine ⟨o', by simpa using a, b, ?_, fun hh => ?_⟩
        · rw [List.take_succ_cons, lcs_some]; exact c
        · rw [List.take_succ_cons, lcs_some]; exact d' (by omega)
    · cases j with
      | zero => simp at hj
      | succ j => have := hn j (by simpa using hj); omega
  | @wr L o rest w hd h g ih =>
    obtain ⟨res, w', e, hw, hr, hn, hle, hg⟩ := ih
    have hw : w = w' := by
      rcases hw with hw | ⟨hw, _⟩
      · exact Option.some.inj hw
      · cases hw
    subst hw
    refine ⟨none :: res, w, by simp only [List.length_cons]; omega, .inr ⟨rfl, Nat.le_refl _, o, by simp, by simp, hd, by simpa [lcs] using h⟩, fun j q hj => ?_, fun j hj => ?_, by simp only [List.length_cons]; omega, fun v => by rw [lcs_none]; simpa using hg v⟩
    · cases j with
      | zero => simp at hj
      | succ j =>
        obtain ⟨o', a, b, c, d'⟩ := hr j q (by simpa using hj)
        refine ⟨o', by simpa using a, b, ?_, fun hh => ?_⟩
        · rw [List.take_succ_cons, lcs_none]; exact c
        · rw [List.take_succ_cons, lcs_none]; exact d' (by omega)
    · cases j with
      | zero => rfl
      | succ j => have := hn j (by simpa using hj); omega
  | @mid w L i o rest d S hp hd h h2 g ih =>
    obtain ⟨res, w', e, hw, hr, hn, hle, hg⟩ := ih
    have hw : w = w' := by
      rcases hw with hw | ⟨hw, _⟩
      · exact Option.some.inj hw
      · cases hw
    subst hw
    refine ⟨some (d, S) :: res, w, by simp only [List.length_cons]; omega, .inl rfl, fun j q hj => ?_, fun j hj => ?_, by simp only [List.length_cons]; omega, fun v => by rw [lcs_some]; simpa using hg v⟩
    · cases j with
      | zero =>
        have hj : (d, S) = q := by simpa using hj
        subst hj
        exact ⟨o, rfl, hd, by simpa [lcs] using h, fun _ v => by simpa [lcs] using h2 v⟩
      | succ j =>
        obtain ⟨o', a, b, c, d'⟩ := hr j q (by simpa using hj)
        refine ⟨o', by simpa using a, b, ?_, fun hh => ?_⟩
        · rw [List.take_succ_cons, lcs_some]; exact c
        · rw [List.take_succ_cons, lcs_some]; exact d' (by omega)
    · cases j with
      | zero => simp at hj
      | succ j => have := hn j (by simpa using hj); omega
  | @fin w L rest g => exact ⟨[], w, by simp, .inl rfl, fun j q hj => by simp at hj, fun j hj => by simp at hj, by simp, fun v => by simpa [lcs] using g v⟩
open Classical in
noncomputable def bM (w : MidW) (p : Nat) (B : List Res) (D : Nat → Prop) (ρ : Env) : List Res := if D p then w.B2 (ρ w.d) else B
end
theorem ltf {a b : Nat} (h : Nat.ble a b = false) : b < a := by
  rcases Nat.lt_or_ge b a with x | x
  · exact x
  · rw [Nat.ble_eq_true_of_le x] at h; cases h
theorem Sb.tl (r : Res) (B : List Res) : Sb (r :: B) B := ⟨fun o => o.2.2.2, fun r' hr i hi => ⟨r', List.mem_cons_of_mem _ hr, hi⟩⟩
section
variable {P : Program} {n : Nat} {X : Fix} {ms : List Nat} {loc env : EL} {B Bm B1 : List Res} {k : Kt} {ol rest : List Oper} {d p m i : Nat} {op : Op} {ty : TypeId} {pos : String} {af : Array Edge} {sd : Prop} {S : SV} {t e : TypeId}
theorem TriP.sb {o : Oper} (sb : Sb B B1) (h : TriP P n X env B1 ol loc o d S) : TriP P n X env B ol loc o d S := fun ρ h1 w s => h ρ h1 w ⟨s.gr, s.fx, sb.own s.ow⟩
structure GF (P : Program) (n : Nat) (X : Fix) (ms : List Nat) (loc env : EL) (B : List Res) (ol rest : List Oper) (k : Kt) (p m i : Nat) : Prop where
  p : GM P n X ms env ol B k p m none loc i rest
structure GFm (P : Program) (n : Nat) (X : Fix) (ms : List Nat) (loc env : EL) (Bm : List Res) (ol rest : List Oper) (k : Kt) (p m i d : Nat) (S : Value → SV) (B2 : Value → List Res) : Prop where
  p : ∀ B, Sb B Bm → (∀ v, Sb (B2 v) Bm) → GM P n X ms env ol B k p m (some ⟨d, S, B2⟩) loc i rest
instance [lt : RflE (Nat.ble p i) false] [st : St P n true loc env B ms d op sd S] : Nx (GF P n X ms loc env B ol (⟨some d, op, ty, pos, af, none⟩ :: rest) k p m i) sd (GF P n X ms ((d, S) :: loc) env B ol rest k p m (i + 1)) := ⟨fun hs g => ⟨.st d S (ltf lt.h) rfl (triP (st := st) hs fun _ h => h) g.p⟩⟩
instance [eq : RflE (Nat.beq i p) true] {α : Type} {r : Rp α} {bb : Nat} {d0 : α} {q q' : List α} {v : Value} {o1 o2 : Operand} [ts : TS P t e] [rt : RT P e α r bb d0] [lx : Lu n true loc env o1 (ov v)] [pa : PA B v α r e q B1] [ly : Lu n true loc env o2 (lv r q')] : Nx (GF P n X ms loc env B ol (⟨some d, .call ⟨.builtin .append, [o1, o2].toArray, [t, t].toArray⟩, ty, pos, af, none⟩ :: rest) k p m i) (q.length + q'.length ≤ 9223372036854775807 ∧ (q.length + q'.length) * bb ≤ 140737488355328) (GFm P n X ms loc env B1 ol rest k p m (i + 1) d ov (fun v' => rA r e v' (q ++ q') :: B1)) := ⟨fun hs g => ⟨by
  have e := Nat.eq_of_beq_eq_true eq.h
  subst e
  refine .wr ⟨d, ov, fun v' => rA r _ v' (q ++ q') :: B1⟩ rfl (fun ρ h w s => ?_) (g.p B (pa.h.trans (.tl _ _)) fun v => .tl _ _)
  obtain ⟨z, ti, el, hz⟩ := rt.e
  have s' : Sx X.h0 X.w0 loc env B [o1, o2] ρ h w := s.sub (fun x hx => by simp [looks, Op.operands, Call.operands] at hx ⊢; exact hx) (fun _ h => h)
  have hx := lx.h rfl (s'.fx o1 (by simp))
  have hy := ly.h rfl (s'.fx o2 (by simp))
  have sy : Sy X.h0 X.w0 [] [] B ρ h w := ⟨s.gr, trivial, trivial, s.ow⟩
  have sb := sy.sb pa.h
  refine OpG.plain (OpW.appendL (lo := 0) ts.h el.hi el.hz el.hc el.hk s.gr.sat (Nat.zero_le _) hx.1 rfl (sb.ow.at 0 rfl).1 hy hs.1 (by rw [el.hb]; exact hs.2) fun v' w' own ow hbl => ?_)
  have sn := own_app sb own ow hbl
  exact ⟨v', h, ⟨rfl, rfl, own_one own⟩, sn.gr, PH.le.refl h, (fun e => by cases e), (fun e => by cases e), sn.ow⟩⟩⟩
instance {S0 : Value → SV} {B2 : Value → List Res} {dw : Nat} [lt : RflE (Nat.ble m i) false] [lp : RflE (Nat.ble i p) false] [st : St P n true loc env Bm ms d op sd S] : Nx (GFm P n X ms loc env Bm ol (⟨some d, op, ty, pos, af, none⟩ :: rest) k p m i dw S0 B2) sd (GFm P n X ms ((d, S) :: loc) env Bm ol rest k p m (i + 1) dw S0 B2) := ⟨fun hs g => ⟨fun B sb sb2 => .mid d S (ltf lp.h) rfl (TriP.sb sb (triP (st := st) hs fun _ h => h)) (fun v => TriP.sb (sb2 v) (triP (st := st) hs fun _ h => h)) (g.p B sb sb2)⟩⟩
instance {S0 : Value → SV} {B2 : Value → List Res} {dw : Nat} [eq : RflE (Nat.beq i m) true] : Nx (GFm P n X ms loc env Bm ol rest k p m i dw S0 B2) True (∀ v, GO P n X ms ((dw, S0 v) :: loc) env (B2 v) ol rest k) := ⟨fun _ g => ⟨fun B sb sb2 => by
  have e := Nat.eq_of_beq_eq_true eq.h
  subst e
  exact .fin (w := ⟨dw, S0, B2⟩) g⟩⟩
end
structure MidV where
  d1 : Nat
  S1 : Value → SV
  B1 : Value → List Res
  d2 : Nat
  S2 : Value → SV
  B2 : Value → Value → List Res
section
variable (P : Program) (n : Nat) (X : Fix) (ms : List Nat) (env : EL) (ol : List Oper)
inductive GV (B : List Res) (k : Kt) (w : MidV) (p r m : Nat) : EL → Nat → List Oper → Prop
  | st {L i o rest} (d : Nat) (S : SV) (hi : i < p) (hd : o.dst = some d) (h : TriP P n X env B ol L o d S) (g : GV B k w p r m ((d, S) :: L) (i + 1) rest) : GV B k w p r m L i (o :: rest)
  | wr {L o rest} (hd : o.dst = some w.d1) (h : TriV P n X env B ol L o (some (w.d1, w.S1)) w.B1) (g : GV B k w p r m L (p + 1) rest) : GV B k w p r m L p (o :: rest)
  | wr2 {L o rest} (hp : p < r) (hd : o.dst = some w.d2) (h : ∀ v, TriV P n X env (w.B1 v) ol ((w.d1, w.S1 v) :: L) o (some (w.d2, w.S2)) (w.B2 v)) (g : GV B k w p r m L (r + 1) rest) : GV B k w p r m L r (o :: rest)
  | mid {L i o rest} (d : Nat) (S : SV) (hp : p < i) (hr : i ≠ r) (hd : o.dst = some d) (h : TriP P n X env B ol L o d S) (h2 : ∀ v, TriP P n X env (w.B1 v) ol L o d S) (h3 : ∀ v v', TriP P n X env (w.B2 v v') ol L o d S) (g : GV B k w p r m ((d, S) :: L) (i + 1) rest) : GV B k w p r m L i (o :: rest)
  | fin {L rest} (g : ∀ v v', GO P n X ms ((w.d2, w.S2 v') :: (w.d1, w.S1 v) :: L) env (w.B2 v v') ol rest k) : GV B k w p r m L m rest
end
section
variable {P : Program} {n : Nat} {X : Fix} {ms : List Nat} {env : EL} {ol : List Oper} {B : List Res} {k : Kt} {p r m : Nat} {w : MidV}
theorem GV.sem (hpr : p < r) {L : EL} {i : Nat} {rest : List Oper} (g : GV P n X ms env ol B k w p r m L i rest) :
    ∃ (res : List (Option (Nat × SV))), i + res.length = m ∧
      (∀ j, res[j]? = some none → ∃ o, rest[j]? = some o ∧ ((i + j = p ∧ o.dst = some w.d1 ∧ TriV P n X env B ol (lcs (res.take j) ++ L) o (some (w.d1, w.S1)) w.B1) ∨ (i + j = r ∧ p < r ∧ o.dst = some w.d2 ∧ ∀ v, TriV P n X env (w.B1 v) ol ((w.d1, w.S1 v) :: (lcs (res.take j) ++ L)) o (some (w.d2, w.S2)) (w.B2 v)))) ∧
      (∀ j q, res[j]? = some (some q) → i + j ≠ p ∧ i + j ≠ r ∧ ∃ o, rest[j]? = some o ∧ o.dst = some q.1 ∧ TriP P n X env B ol (lcs (res.take j) ++ L) o q.1 q.2 ∧ (p < i + j → (∀ v, TriP P n X env (w.B1 v) ol (lcs (res.take j) ++ L) o q.1 q.2) ∧ ∀ v v', TriP P n X env (w.B2 v v') ol (lcs (res.take j) ++ L) o q.1 q.2)) ∧
      res.length ≤ rest.length ∧ ∀ v v', GO P n X ms ((w.d2, w.S2 v') :: (w.d1, w.S1 v) :: (lcs res ++ L)) env (w.B2 v v') ol (rest.drop res.length) k := by
  induction g with
  | @st L i o rest d S hi hd h g ih =>
    obtain ⟨res, e, hn, hr, hle, hg⟩ := ih
    refine ⟨some (d, S) :: res, by simp only [List.length_cons]; omega, fun j hj => ?_, fun j q hj => ?_, by simp only [List.length_cons]; omega, fun v v' => by rw [lcs_some]; simpa using hg v v'⟩
    · cases j with
      | zero => simp at hj
      | succ j =>
        obtain ⟨o', a, b⟩ := hn j (by simpa using hj)
        refine ⟨o', by simpa using a, ?_⟩
        rw [List.take_succ_cons, lcs_some, show i + (j + 1) = i + 1 + j by omega]; exact b
    · cases j with
      | zero =>
        have hj : (d, S) = q := by simpa using hj
        subst hj
        exact ⟨by omega, by omega, o, rfl, hd, by simpa [lcs] using h, fun hh => by omega⟩
      | succ j =>
        obtain ⟨x, y, o', a, b⟩ := hr j q (by simpa using hj)
        refine ⟨by omega, by omega, o', by simpa using a, ?_⟩
        rw [List.take_succ_cons, lcs_some, show i + (j + 1) = i + 1 + j by omega]; exact b
  | @wr L o rest hd h g ih =>
    obtain ⟨res, e, hn, hr, hle, hg⟩ := ih
    refine ⟨none :: res, by simp only [List.length_cons]; omega, fun j hj => ?_, fun j q hj => ?_, by simp only [List.length_cons]; omega, fun v v' => by rw [lcs_none]; simpa using hg v v'⟩
    · cases j with
      | zero => exact ⟨o, rfl, .inl ⟨rfl, hd, by simpa [lcs] using h⟩⟩
      | succ j =>
        obtain ⟨o', a, b⟩ := hn j (by simpa using hj)
        refine ⟨o', by simpa using a, ?_⟩
        rw [List.take_succ_cons, lcs_none, show p + (j + 1) = p + 1 + j by omega]; exact b
    · cases j with
      | zero => simp at hj
      | succ j =>
        obtain ⟨x, y, o', a, b⟩ := hr j q (by simpa using hj)
        refine ⟨by omega, by omega, o', by simpa using a, ?_⟩
        rw [List.take_succ_cons, lcs_none, show p + (j + 1) = p + 1 + j by omega]; exact b
  | @wr2 L o rest hp hd h g ih =>
    obtain ⟨res, e, hn, hr, hle, hg⟩ := ih
    refine ⟨none :: res, by simp only [List.length_cons]; omega, fun j hj => ?_, fun j q hj => ?_, by simp only [List.length_cons]; omega, fun v v' => by rw [lcs_none]; simpa using hg v v'⟩
    · cases j with
      | zero => exact ⟨o, rfl, .inr ⟨rfl, hp, hd, by simpa [lcs] using h⟩⟩
      | succ j =>
        obtain ⟨o', a, b⟩ := hn j (by simpa using hj)
        refine ⟨o', by simpa using a, ?_⟩
        rw [List.take_succ_cons, lcs_none, show r + (j + 1) = r + 1 + j by omega]; exact b
    · cases j with
      | zero => simp at hj
      | succ j =>
        obtain ⟨x, y, o', a, b⟩ := hr j q (by simpa using hj)
        refine ⟨by omega, by omega, o', by simpa using a, ?_⟩
        rw [List.take_succ_cons, lcs_none, show r + (j + 1) = r + 1 + j by omega]; exact b
  | @mid L i o rest d S hp hir hd h h2 h3 g ih =>
    obtain ⟨res, e, hn, hr, hle, hg⟩ := ih
    refine ⟨some (d, S) :: res, by simp only [List.length_cons]; omega, fun j hj => ?_, fun j q hj => ?_, by simp only [List.length_cons]; omega, fun v v' => by rw [lcs_some]; simpa using hg v v'⟩
    · cases j with
      | zero => simp at hj
      | succ j =>
        obtain ⟨o', a, b⟩ := hn j (by simpa using hj)
        refine ⟨o', by simpa using a, ?_⟩
        rw [List.take_succ_cons, lcs_some, show i + (j + 1) = i + 1 + j by omega]; exact b
    · cases j with
      | zero =>
        have hj : (d, S) = q := by simpa using hj
        subst hj
        exact ⟨by omega, by omega, o, rfl, hd, by simpa [lcs] using h, fun _ => ⟨fun v => by simpa [lcs] using h2 v, fun v v' => by simpa [lcs] using h3 v v'⟩⟩
      | succ j =>
        obtain ⟨x, y, o', a, b⟩ := hr j q (by simpa using hj)
        refine ⟨by omega, by omega, o', by simpa using a, ?_⟩
        rw [List.take_succ_cons, lcs_some, show i + (j + 1) = i + 1 + j by omega]; exact b
  | @fin L rest g => exact ⟨[], by simp, fun j hj => by simp at hj, fun j q hj => by simp at hj, by simp, fun v v' => by simpa [lcs] using g v v'⟩
open Classical in
noncomputable def bV (w : MidV) (p r : Nat) (B : List Res) (D : Nat → Prop) (ρ : Env) : List Res := if D r then w.B2 (ρ w.d1) (ρ w.d2) else if D p then w.B1 (ρ w.d1) else B
theorem two_sound {loc : EL} {idn : Nat} (hmix : P.follows .mixedOrders = true) (hc : dagC ol m (env.map (·.1)) = true) (hnd : ol.all noDefer = true) (hpr : p < r) (hrm : r < m) (hpre : (List.range p).all (reach ol 9 p) = true) (hrp : reach ol 9 r p = true) (g : GV P n X ms env ol B k w p r m [] 0 ol) : GW P n X ms loc env B (.region idn ol.toArray true) k := ⟨fun ρ0 h1 wi si => by
  obtain ⟨res, hm0, hn, hr, hlen, hend⟩ := g.sem hpr
  rw [Nat.zero_add] at hm0
  have hat : ∀ i, i < m → ∃ x, res[i]? = some x := fun i hi => ⟨_, List.getElem?_eq_getElem (by omega)⟩
  obtain ⟨op, hop, hod, hT⟩ : ∃ o, ol[p]? = some o ∧ o.dst = some w.d1 ∧ TriV P n X env B ol (lcs (res.take p) ++ []) o (some (w.d1, w.S1)) w.B1 := by
    obtain ⟨x, hx⟩ := hat p (by omega)
    cases x with
    | some q => exact absurd (Nat.zero_add p) (hr p q hx).1
    | none =>
      obtain ⟨o, a, b⟩ := hn p hx
      rcases b with b | b
      · exact ⟨o, a, b.2⟩
      · have := b.1; omega
  obtain ⟨oq, hoq, hqd, hT2⟩ : ∃ o, ol[r]? = some o ∧ o.dst = some w.d2 ∧ ∀ v, TriV P n X env (w.B1 v) ol ((w.d1, w.S1 v) :: (lcs (res.take r) ++ [])) o (some (w.d2, w.S2)) (w.B2 v) := by
    obtain ⟨x, hx⟩ := hat r hrm
    cases x with
    | some q => exact absurd (Nat.zero_add r) (hr r q hx).2.1
    | none =>
      obtain ⟨o, a, b⟩ := hn r hx
      rcases b with b | b
      · have := b.1; omega
      · exact ⟨o, a, b.2.2⟩
  have hnone : ∀ i, i = p ∨ i = r → res[i]? = some none := fun i hi => by
    obtain ⟨x, hx⟩ := hat i (by omega)
    cases x with
    | some q => have := hr i q hx; omega
    | none => exact hx
  unfold dagC at hc
  simp only [Bool.and_eq_true] at hc
  obtain ⟨⟨hok, hall⟩, htl⟩ := hc
  have hall := fun i (hi : i < m) => by have := List.all_eq_true.1 hall i (List.mem_range.2 hi); rw [Bool.and_eq_true, Bool.not_eq_true'] at this; exact this
  have htl := fun i (o : Oper) (ho : ol[i]? = some o) => by
    have := List.all_eq_true.1 htl i (List.mem_range.2 (List.getElem?_eq_some_iff.1 ho).1)
    rw [Bool.and_eq_true, opA_eq ho] at this; exact this
  have F := okR_facts hok
  have hpre := fun i (hi : i < p) => List.all_eq_true.1 hpre i (List.mem_range.2 hi)
  have hne : ∀ (i j : Nat) (o o' : Oper) (d : Nat), i ≠ j → ol[i]? = some o → ol[j]? = some o' → o.dst = some d → o'.dst ≠ some d := fun i j o o' d hij ho ho' hd hd' => by
    rcases Nat.lt_or_ge i j with a | a
    · exact (F j o' d ho' hd').2.2 i o a ho hd
    · exact (F i o d ho hd).2.2 j o' (by omega) ho' hd'
  have hd12 : w.d1 ≠ w.d2 := fun e => hne p r op oq w.d1 (by omega) hop hoq hod (by rw [hqd, e])
  have henv : ∀ i o, i < m → ol[i]? = some o → ∀ t S, (t, S) ∈ env → o.dst ≠ some t := fun i o hi ho t S ht e => by
    have a := hall i hi
    rw [opA_eq ho, e] at a
    have := a.1
    simp only at this
    rw [← Bool.not_eq_true, memN_iff] at this
    exact this (List.mem_map.2 ⟨_, ht, rfl⟩)
  refine WT.draw (K := fun ρ w => run X.c.round P X.T k .normal (mkX X.c n ρ) w) hnd ?_ fun _ _ x => x
  intro t
  unfold Region.schedule Region.linearise
  rw [hmix]
  simp only [Bool.true_or, if_true]
  generalize hw1 : ({ wi with drawn := _ } : World) = w1
  have s : Sy X.h0 X.w0 loc env B ρ0 h1 w1 := by
    subst hw1
    exact si.grow ((Gr.refl si.gr.sat).drew _)
  obtain ⟨ls, hl, hwp⟩ := lin_inv (P := P) (n := n) (m := m) (ops := ol.toArray) (Q := onlyN fun ρ w => run X.c.round P X.T k .normal (mkX X.c n ρ) w) (fun D ρ w' => ∃ (h : PH), (Gr X.h0 X.w0 h w' ∧ h1.le h) ∧ OwnB X.w0 (bV w p r B D ρ) h w' ∧
      (∀ i q, D i → res[i]? = some (some q) → den h q.2 (ρ q.1)) ∧ (∀ s, (∀ k o, D k → ol[k]? = some o → o.dst ≠ some s) → ρ s = ρ0 s) ∧ (D p → den h (w.S1 (ρ w.d1)) (ρ w.d1)) ∧ (D r → den h (w.S2 (ρ w.d2)) (ρ w.d2))) (by simpa [← hm0] using hlen)
    (fun i o ho j hj => by
      have := List.all_eq_true.1 (htl i o (by simpa using ho)).1 j hj
      rw [blt_eq] at this; exact of_decide_eq_true this)
    (fun i o ho hmi j hj => by
      have ho : ol[i]? = some o := by simpa using ho
      have := (htl i o ho).2
      rw [Nat.ble_eq_true_of_le hmi] at this
      have := List.all_eq_true.1 this j (List.mem_range.2 hj)
      obtain ⟨x, hx, hxx⟩ := List.any_eq_true.1 this
      have hx := List.mem_range.1 hx
      have hsz := (List.getElem?_eq_some_iff.1 ho).1
      have ho' : ol[i - x]? = some (ol[i - x]'(by omega)) := List.getElem?_eq_getElem (by omega)
      rw [opA_eq ho'] at hxx
      exact ⟨i - x, ol[i - x]'(by omega), by omega, by omega, by rw [List.getElem?_toArray]; exact ho', by simpa using hxx⟩)
    (by
      rintro D ρ w' i o ho him hi hd hcl hD ⟨h, hg, how, hF, hold, hxS, hxS2⟩
      have ho : ol[i]? = some o := by simpa using ho
      have hcl : ∀ (k : Nat) (o : Oper), ol[k]? = some o → D k → ∀ j ∈ deps o, D j := fun k o hk => hcl k o (by simpa using hk)
      have hDrp : D r → D p := fun e => reach_D hcl hrp e
      have sx : Sx X.h0 X.w0 (lcs (res.take i) ++ []) env (bV w p r B D ρ) (looks ol o) ρ h w' := by
        refine ⟨hg.1, fun x hx t S hxt hmem => ?_, how⟩
        subst hxt
        rcases hmem with hmem | hmem
        · rw [List.append_nil, List.mem_reverse, List.mem_filterMap] at hmem
          obtain ⟨qo, hqm, hent⟩ := hmem
          have hent : qo = some (t, S) := hent
          subst hent
          obtain ⟨j, hj⟩ := List.getElem?_of_mem hqm
          have hji : j < i := by
            rcases Nat.lt_or_ge j i with a | a
            · exact a
            · rw [List.getElem?_eq_none (by simp; omega)] at hj; cases hj
          rw [List.getElem?_take, if_pos hji] at hj
          obtain ⟨_, _, oj, hoj, hsj, _⟩ := hr j _ hj
          have hr2 := (hall i him).2
          unfold rdOk at hr2
          rw [opA_eq ho] at hr2
          have h2 := List.all_eq_true.1 hr2 _ hx
          simp only at h2
          have h3 := List.all_eq_true.1 h2 j (List.mem_range.2 hji)
          rw [opA_eq hoj, hsj] at h3
          simp only [beq_self, Bool.not_true, Bool.false_or] at h3
          exact hF j _ (hd j (by simpa using h3)) hj
        · rw [hold t fun k o' hk hok' => henv k o' (hD k hk) hok' t S hmem]
          exact (s.en.mem hmem).mono hg.2
      by_cases hip : i = p
      · subst hip
        rw [hop] at ho; cases ho
        have hnr : ¬ D r := fun e => hi (hDrp e)
        have hb0 : bV w i r B D ρ = B := by unfold bV; rw [if_neg hnr, if_neg hi]
        rw [hb0] at sx how
        refine (hT ρ h w' sx).mono ?_
        rintro ρ' w'' ⟨v, h', ⟨rfl, hv⟩, hgr, hle, _, _, hob⟩
        have hb1 : bV w i r B (fun k => k = i ∨ D k) (upd ρ w.d1 v) = w.B1 v := by unfold bV; rw [if_neg (fun x => x.elim (fun e => by omega) hnr), if_pos (.inl rfl), upd_at]
        refine ⟨h', ⟨hgr, hg.2.trans hle⟩, (by rw [hb1]; exact hob), fun j q hj hq => ?_, fun sl hs' => ?_, fun _ => by rw [upd_at]; exact hv, fun e => absurd (e.resolve_left (by omega)) hnr⟩
        · have hji : j ≠ i := fun e => by rw [e, hnone i (.inl rfl)] at hq; cases hq
          have hDj : D j := hj.resolve_left hji
          obtain ⟨_, _, oj, hoj, hsj, _⟩ := hr j q hq
          rw [upd_ne _ _ fun e => hne i j op oj w.d1 (fun e => hji e.symm) hop hoj hod (by rw [hsj, e])]
          exact (hF j q hDj hq).mono hle
        · rw [upd_ne _ _ fun e => hs' i op (.inl rfl) hop (by rw [e]; exact hod)]
          exact hold sl fun k o' hk hok' => hs' k o' (.inr hk) hok'
      by_cases hir : i = r
      · subst hir
        rw [hoq] at ho; cases ho
        have hDp : D p := by
          have h0 : reach ol 9 i p = true := hrp
          unfold reach at h0
          obtain ⟨x, hx, hxx⟩ := List.any_eq_true.1 h0
          rw [opA_eq hoq] at hx
          rcases Bool.or_eq_true_iff.1 hxx with e | e
          · rw [← Nat.eq_of_beq_eq_true e]; exact hd x hx
          · exact reach_D hcl e (hd x hx)
        have hb0 : bV w p i B D ρ = w.B1 (ρ w.d1) := by unfold bV; rw [if_neg hi, if_pos hDp]
        rw [hb0] at sx how
        have sx2 : Sx X.h0 X.w0 ((w.d1, w.S1 (ρ w.d1)) :: (lcs (res.take i) ++ [])) env (w.B1 (ρ w.d1)) (looks ol oq) ρ h w' := ⟨sx.gr, fun x hx t S hxt hmem => by
          rcases hmem with hmem | hmem
          · rcases List.mem_cons.1 hmem with e | hmem
            · cases e; exact hxS hDp
            · exact sx.fx x hx t S hxt (.inl hmem)
          · exact sx.fx x hx t S hxt (.inr hmem), sx.ow⟩
        refine (hT2 (ρ w.d1) ρ h w' sx2).mono ?_
        rintro ρ' w'' ⟨v, h', ⟨rfl, hv⟩, hgr, hle, _, _, hob⟩
        have hb1 : bV w p i B (fun k => k = i ∨ D k) (upd ρ w.d2 v) = w.B2 (ρ w.d1) v := by unfold bV; rw [if_pos (.inl rfl), upd_at, upd_ne _ _ hd12]
        refine ⟨h', ⟨hgr, hg.2.trans hle⟩, (by rw [hb1]; exact hob), fun j q hj hq => ?_, fun sl hs' => ?_, fun _ => by rw [upd_ne _ _ hd12]; exact (hxS hDp).mono hle, fun _ => by rw [upd_at]; exact hv⟩
        · have hji : j ≠ i := fun e => by rw [e, hnone i (.inr rfl)] at hq; cases hq
          have hDj : D j := hj.resolve_left hji
          obtain ⟨_, _, oj, hoj, hsj, _⟩ := hr j q hq
          rw [upd_ne _ _ fun e => hne i j oq oj w.d2 (fun e => hji e.symm) hoq hoj hqd (by rw [hsj, e])]
          exact (hF j q hDj hq).mono hle
        · rw [upd_ne _ _ fun e => hs' i oq (.inl rfl) hoq (by rw [e]; exact hqd)]
          exact hold sl fun k o' hk hok' => hs' k o' (.inr hk) hok'
      obtain ⟨q, hq⟩ : ∃ q, res[i]? = some (some q) := by
        obtain ⟨x, hx⟩ := hat i him
        cases x with
        | some q => exact ⟨q, hx⟩
        | none =>
          obtain ⟨_, _, b⟩ := hn i hx
          rw [Nat.zero_add] at b
          exact (b.elim (fun e => hip e.1) fun e => hir e.1).elim
      obtain ⟨_, _, o', ho', hdq, hT1, hT2'⟩ := hr i q hq
      rw [ho] at ho'; cases ho'
      rw [Nat.zero_add] at hT2'
      have hTT : TriP P n X env (bV w p r B D ρ) ol (lcs (res.take i) ++ []) o q.1 q.2 := by
        have key : D p → p < i := fun hDp => by
          rcases Nat.lt_trichotomy i p with a | a | a
          · exact absurd (reach_D hcl (hpre i a) hDp) hi
          · exact absurd a hip
          · exact a
        unfold bV
        split
        · rename_i hDr
          exact (hT2' (key (hDrp hDr))).2 _ _
        · split
          · rename_i hDp
            exact (hT2' (key hDp)).1 _
          · exact hT1
      refine (hTT ρ h w' sx).mono ?_
      rintro ρ' w'' ⟨v, h', rfl, gr, hv⟩
      have hq1 : w.d1 ≠ q.1 := fun e => hne i p o op q.1 hip ho hop hdq (by rw [hod, e])
      have hq2 : w.d2 ≠ q.1 := fun e => hne i r o oq q.1 hir ho hoq hdq (by rw [hqd, e])
      have hbe : bV w p r B (fun k => k = i ∨ D k) (upd ρ q.1 v) = bV w p r B D ρ := by
        unfold bV
        by_cases hDr : D r
        · rw [if_pos (.inr hDr), if_pos hDr, upd_ne _ _ hq1, upd_ne _ _ hq2]
        · rw [if_neg (fun x => x.elim (fun e => hir e.symm) hDr), if_neg hDr]
          by_cases hDp : D p
          · rw [if_pos (.inr hDp), if_pos hDp, upd_ne _ _ hq1]
          · rw [if_neg (fun x => x.elim (fun e => hip e.symm) hDp), if_neg hDp]
      refine ⟨h', ⟨hg.1.trans gr, hg.2.trans gr.le⟩, (by rw [hbe]; exact how.grow gr), fun j q' hj hq' => ?_, fun sl hs' => ?_, fun hDp => ?_, fun hDr => ?_⟩
      · by_cases hji : j = i
        · subst hji; rw [hq] at hq'; cases hq'; rw [upd_at]; exact hv
        · have hDj : D j := hj.resolve_left hji
          obtain ⟨_, _, oj, hoj, hsj, _⟩ := hr j q' hq'
          rw [upd_ne _ _ fun e => hne i j o oj q.1 (fun e => hji e.symm) ho hoj hdq (by rw [hsj, e])]
          exact (hF j q' hDj hq').mono gr.le
      · rw [upd_ne _ _ fun e => hs' i o (.inl rfl) ho (by rw [e]; exact hdq)]
        exact hold sl fun k o' hk hok' => hs' k o' (.inr hk) hok'
      · rw [upd_ne _ _ hq1]
        exact (hxS (hDp.resolve_left fun e => hip e.symm)).mono gr.le
      · rw [upd_ne _ _ hq2]
        exact (hxS2 (hDr.resolve_left fun e => hir e.symm)).mono gr.le)
    (by
      rintro D D' ρ w' hDD ⟨h, a, b, c, d, e⟩
      have : D = D' := funext fun k => propext (hDD k)
      subst this
      exact ⟨h, a, b, c, d, e⟩)
    (by
      rintro D ρ w' hall2 hD ⟨h, hg, how, hF, hold, hxS, hxS2⟩
      have hDr := hall2 r hrm
      have hb : bV w p r B D ρ = w.B2 (ρ w.d1) (ρ w.d2) := if_pos hDr
      rw [hb] at how
      have hlo : ∀ l : List (Option (Nat × SV)), (∀ q, some q ∈ l → den h q.2 (ρ q.1)) → EnvOk h ρ (l.filterMap id) := fun l => by
        induction l with
        | nil => exact fun _ => trivial
        | cons q l ih =>
          cases q with
          | none => exact fun a => by simpa using ih fun q hq => a q (List.mem_cons_of_mem _ hq)
          | some q =>
            intro a
            show EnvOk h ρ (q :: l.filterMap id)
            exact ⟨a q (List.mem_cons_self ..), ih fun q hq => a q (List.mem_cons_of_mem _ hq)⟩
      have hds : okR (ol.drop m) (w.d2 :: w.d1 :: (lcs res).map (·.1)) (env.map (·.1)) = true := by
        have h2 := okR_drop ((List.range m).map fun i => ((opA ol i).dst).getD 0) hok (by simp; omega) fun i d e => by
          rw [List.getElem?_map] at e
          obtain ⟨j, hj, rfl⟩ := Option.map_eq_some_iff.1 e
          have hjm := List.mem_range.1 (List.mem_of_getElem? hj)
          have hi : i < m := by have := (List.getElem?_eq_some_iff.1 hj).1; simpa using this
          rw [List.getElem?_range hi] at hj
          cases hj
          obtain ⟨x, hx⟩ := hat i hi
          cases x with
          | none =>
            obtain ⟨o, a, b⟩ := hn i hx
            refine ⟨o, a, ?_⟩
            rw [opA_eq a]
            rcases b with b | b
            · rw [b.2.1]; rfl
            · rw [b.2.2.1]; rfl
          | some q =>
            obtain ⟨_, _, o, a, b, _⟩ := hr i q hx
            exact ⟨o, a, by rw [opA_eq a, b]; rfl⟩
        rw [List.length_map, List.length_range] at h2
        refine okR_swap (fun e he => ?_) (fun e _ he => he) h2
        rw [← Bool.not_eq_true, memN_iff] at he ⊢
        refine fun hme => he ?_
        rw [List.append_nil, List.mem_reverse, List.mem_map]
        rcases List.mem_cons.1 hme with rfl | hme
        · exact ⟨r, List.mem_range.2 hrm, by rw [opA_eq hoq, hqd]; rfl⟩
        rcases List.mem_cons.1 hme with rfl | hme
        · exact ⟨p, List.mem_range.2 (by omega), by rw [opA_eq hop, hod]; rfl⟩
        · obtain ⟨q, hq, rfl⟩ := List.mem_map.1 hme
          rw [List.mem_reverse, List.mem_filterMap] at hq
          obtain ⟨a, ha, rfl⟩ := hq
          obtain ⟨i, hi⟩ := List.getElem?_of_mem ha
          obtain ⟨_, _, o, a, b, _⟩ := hr i q hi
          exact ⟨i, List.mem_range.2 (by rw [← hm0]; exact (List.getElem?_eq_some_iff.1 hi).1), by rw [opA_eq a, b]; rfl⟩
      have sy : Sy X.h0 X.w0 ((w.d2, w.S2 (ρ w.d2)) :: (w.d1, w.S1 (ρ w.d1)) :: (lcs res ++ [])) env (w.B2 (ρ w.d1) (ρ w.d2)) ρ h w' := by
        refine ⟨hg.1, ⟨hxS2 hDr, hxS (hall2 p (by omega)), ?_⟩, ?_, how⟩
        · rw [List.append_nil]
          have : lcs res = (res.reverse.filterMap id) := by rw [List.filterMap_reverse]
          rw [this]
          refine hlo _ fun q hq => ?_
          obtain ⟨i, hi⟩ := List.getElem?_of_mem (List.mem_reverse.1 hq)
          have him : i < m := by rw [← hm0]; exact (List.getElem?_eq_some_iff.1 hi).1
          exact hF i q (hall2 i him) hi
        · refine (s.en.mono hg.2).ext fun p hp => ?_
          exact (hold p.1 fun k o' hk hok' => henv k o' (hD k hk) hok' p.1 p.2 hp).symm
      have hG := (hend (ρ w.d1) (ρ w.d2)).p (by rw [hm0]; simpa using hds) ρ h w' sy
      rw [hm0] at hG
      have := wpList_of_Ops (Q := onlyN fun ρ w => run X.c.round P X.T k .normal (mkX X.c n ρ) w) (fun _ _ h => h) (ol.drop m) ρ w' hG
      rw [← wpOps_eq_wpList (ol.drop m) m (by intro j; simp)] at this
      simpa using this)
    ol.toArray.size t (Array.replicate ol.toArray.size false) [] (by simp) (by intro i o ho hi; simp [Array.getElem?_replicate] at hi) (by intro i hi; simp [Array.getElem?_replicate] at hi)
    (by unfold left; exact Nat.le_trans (List.length_filter_le _ _) (by simp))
  rw [hl]
  simp only [List.reverse_nil, List.nil_append]
  refine hwp ρ0 w1 ⟨h1, ⟨s.gr, PH.le.refl h1⟩, by
    have : bV w p r B (fun i => (Array.replicate ol.toArray.size false)[i]? = some true) ρ0 = B := by unfold bV; rw [if_neg (by simp [Array.getElem?_replicate]), if_neg (by simp [Array.getElem?_replicate])]
    rw [this]; exact s.ow, (fun i q hi => by simp [Array.getElem?_replicate] at hi), fun _ _ => rfl, (fun hD0 => by simp [Array.getElem?_replicate] at hD0), fun hD0 => by simp [Array.getElem?_replicate] at hD0⟩⟩
end
section
class OnlyV (B : List Res) (B' : outParam (List Res)) : Prop where h : Sb B B'
instance : OnlyV [] [] := ⟨.refl _⟩
instance {v : Value} {q : List SV} {t : TypeId} {B B' : List Res} [i : OnlyV B B'] : OnlyV (rV v q t :: B) (rV v q t :: B') := ⟨i.h.cons _⟩
instance (priority := low) {r : Res} {B B' : List Res} [i : OnlyV B B'] : OnlyV (r :: B) B' := ⟨(Sb.tl r B).trans i.h⟩
variable {P : Program} {n : Nat} {X : Fix} {ms : List Nat} {loc env : EL} {B Bm : List Res} {k : Kt} {ol rest : List Oper} {d p r m i d1 d2 : Nat} {op : Op} {ty : TypeId} {pos : String} {af : Array Edge} {sd : Prop} {S : SV} {t e : TypeId} {S1 S2 : Value → SV} {B1 : Value → List Res} {B2 : Value → Value → List Res}
structure GT (P : Program) (n : Nat) (X : Fix) (ms : List Nat) (loc env : EL) (B Bm : List Res) (ol rest : List Oper) (k : Kt) (p r m i : Nat) : Prop where
  p : Sb B Bm → ∃ w, GV P n X ms env ol B k w p r m loc i rest
structure GT1 (P : Program) (n : Nat) (X : Fix) (ms : List Nat) (loc env : EL) (Bm : List Res) (ol rest : List Oper) (k : Kt) (p r m i d1 : Nat) (S1 : Value → SV) (B1 : Value → List Res) : Prop where
  p : ∀ B, Sb B Bm → ∃ d2 S2 B2, (∀ v v', Sb (B2 v v') Bm) ∧ GV P n X ms env ol B k ⟨d1, S1, B1, d2, S2, B2⟩ p r m loc i rest
structure GT2 (P : Program) (n : Nat) (X : Fix) (ms : List Nat) (loc env : EL) (Bm : List Res) (ol rest : List Oper) (k : Kt) (p r m i d1 d2 : Nat) (S1 S2 : Value → SV) (B1 : Value → List Res) (B2 : Value → Value → List Res) : Prop where
  p : ∀ B, Sb B Bm → (∀ v, Sb (B1 v) Bm) → GV P n X ms env ol B k ⟨d1, S1, B1, d2, S2, B2⟩ p r m loc i rest
theorem gDv (sz p r m : Nat) {idn : Nat} [mx : MixO P] [ov : OnlyV B Bm] (hs : Nat.beq ol.length sz = true) (c : (dagC ol m (env.map (·.1)) && ol.all noDefer && (List.range p).all (reach ol 9 p) && (Nat.blt p r && Nat.blt r m && reach ol 9 r p)) = true) (g : GT P n X ms [] env B Bm ol ol k p r m 0) : GW P n X ms loc env B (.region idn ol.toArray true) k := by
  simp only [Bool.and_eq_true, blt_eq, decide_eq_true_eq] at c
  obtain ⟨w, hw⟩ := g.p ov.h
  exact two_sound mx.h c.1.1.1 c.1.1.2 c.2.1.1 c.2.1.2 c.1.2 c.2.2 hw
instance [lt : RflE (Nat.ble p i) false] [st : St P n true loc env B ms d op sd S] : Nx (GT P n X ms loc env B Bm ol (⟨some d, op, ty, pos, af, none⟩ :: rest) k p r m i) sd (GT P n X ms ((d, S) :: loc) env B Bm ol rest k p r m (i + 1)) := ⟨fun hs g => ⟨fun sb => by
  obtain ⟨w, hw⟩ := g.p sb
  exact ⟨w, .st d S (ltf lt.h) rfl (triP (st := st) hs fun _ h => h) hw⟩⟩⟩
theorem app_triv {B C : List Res} {loc' : EL} {α : Type} {rp : Rp α} {bb : Nat} {d0 : α} {q q' : List α} {v : Value} {o1 o2 : Operand} [ts : TS P t e] [rt : RT P e α rp bb d0] (lx : ∀ {h ρ}, Fx loc' env h ρ o1 → ev n ρ o1 = v) (pa : ∀ {w0 h w}, OwnB w0 B h w → OwnB w0 (rA rp e v q :: C) h w) [ly : Lu n true loc env o2 (lv rp q')] (ql : ∀ e ∈ loc, e ∈ loc') (hs : q.length + q'.length ≤ 9223372036854775807 ∧ (q.length + q'.length) * bb ≤ 140737488355328) : TriV P n X env B ol loc' ⟨some d, .call ⟨.builtin .append, [o1, o2].toArray, [t, t].toArray⟩, ty, pos, af, none⟩ (some (d, ov)) (fun v' => rA rp e v' (q ++ q') :: C) := fun ρ h w s => by
  obtain ⟨z, ti, el, hz⟩ := rt.e
  have s' : Sx X.h0 X.w0 loc' env B [o1, o2] ρ h w := s.sub (fun x hx => by simp [looks, Op.operands, Call.operands] at hx ⊢; exact hx) (fun _ h => h)
  have s2 : Sx X.h0 X.w0 loc env B [o1, o2] ρ h w := s'.sub (fun _ h => h) ql
  have hx := lx (s'.fx o1 (by simp))
  have hy := ly.h rfl (s2.fx o2 (by simp))
  have sb : Sy X.h0 X.w0 [] [] (rA rp e v q :: C) ρ h w := ⟨s.gr, trivial, trivial, pa s.ow⟩
  refine OpG.plain (OpW.appendL (lo := 0) ts.h el.hi el.hz el.hc el.hk s.gr.sat (Nat.zero_le _) hx rfl (sb.ow.at 0 rfl).1 hy hs.1 (by rw [el.hb]; exact hs.2) fun v' w' own ow hbl => ?_)
  have sn := own_app sb own ow hbl
  exact ⟨v', h, ⟨rfl, rfl, own_one own⟩, sn.gr, PH.le.refl h, (fun e => by cases e), (fun e => by cases e), sn.ow⟩
instance [eq : RflE (Nat.beq i p) true] {α : Type} {rp : Rp α} {bb : Nat} {d0 : α} {q q' : List α} {v : Value} {o1 o2 : Operand} {C : List Res} [ts : TS P t e] [rt : RT P e α rp bb d0] [lx : Lu n true loc env o1 (ov v)] [pa : PA B v α rp e q C] [ly : Lu n true loc env o2 (lv rp q')] : Nx (GT P n X ms loc env B Bm ol (⟨some d, .call ⟨.builtin .append, [o1, o2].toArray, [t, t].toArray⟩, ty, pos, af, none⟩ :: rest) k p r m i) (q.length + q'.length ≤ 9223372036854775807 ∧ (q.length + q'.length) * bb ≤ 140737488355328) (GT1 P n X ms loc env Bm ol rest k p r m (i + 1) d ov (fun v' => rA rp e v' (q ++ q') :: C)) := ⟨fun hs g => ⟨fun sb => by
  have e := Nat.eq_of_beq_eq_true eq.h
  subst e
  obtain ⟨d2, S2, B2, _, hw⟩ := g.p B sb
  exact ⟨_, .wr rfl (app_triv (fun f => (lx.h rfl f).1) pa.h.own (fun _ h => h) hs) hw⟩⟩⟩
instance (priority := high) [eq : RflE (Nat.beq i p) true] {α : Type} {rp : Rp α} {bb : Nat} {d0 : α} {q' : List α} {o1 o2 : Operand} [ts : TS P t e] [rt : RT P e α rp bb d0] [lx : Lu n true loc env o1 (.cv (.slice none 0 0))] [ly : Lu n true loc env o2 (lv rp q')] : Nx (GT P n X ms loc env B Bm ol (⟨some d, .call ⟨.builtin .append, [o1, o2].toArray, [t, t].toArray⟩, ty, pos, af, none⟩ :: rest) k p r m i) (q'.length ≤ 9223372036854775807 ∧ q'.length * bb ≤ 140737488355328) (GT1 P n X ms loc env Bm ol rest k p r m (i + 1) d ov (fun v' => rA rp e v' q' :: B)) := ⟨fun hs g => ⟨fun sb => by
  have e := Nat.eq_of_beq_eq_true eq.h
  subst e
  obtain ⟨d2, S2, B2, _, hw⟩ := g.p B sb
  exact ⟨_, .wr rfl (app_triv (q := []) (v := .slice none 0 0) (fun f => cvE (lx.h rfl f)) (fun {w0 h w} o => ⟨OwnL.nil rp 0 h w _, (fun i hi => by cases hi), (fun r' hr' i hi => by cases hi), o⟩) (fun _ h => h) ⟨by simpa using hs.1, by simpa using hs.2⟩) hw⟩⟩⟩
instance [lp : RflE (Nat.ble i p) false] [lr : RflE (Nat.beq i r) false] [lt : RflE (Nat.ble m i) false] [st : St P n true loc env Bm ms d op sd S] [o1 : ∀ v, OnlyV (B1 v) Bm] : Nx (GT1 P n X ms loc env Bm ol (⟨some d, op, ty, pos, af, none⟩ :: rest) k p r m i d1 S1 B1) sd (GT1 P n X ms ((d, S) :: loc) env Bm ol rest k p r m (i + 1) d1 S1 B1) := ⟨fun hs g => ⟨fun B sb => by
  obtain ⟨d2, S2, B2, h2, hw⟩ := g.p B sb
  have ht : TriP P n X env Bm ol loc ⟨some d, op, ty, pos, af, none⟩ d S := triP (st := st) hs fun _ h => h
  exact ⟨d2, S2, B2, h2, .mid d S (ltf lp.h) (fun e => by have := lr.h; rw [e, beq_self] at this; cases this) rfl (TriP.sb sb ht) (fun v => TriP.sb (o1 v).h ht) (fun v v' => TriP.sb (h2 v v') ht) hw⟩⟩⟩
instance [eq : RflE (Nat.beq i r) true] [lpr : RflE (Nat.ble r p) false] {α : Type} {rp : Rp α} {bb : Nat} {d0 : α} {q q' : List α} {V : Value → Value} {o1 o2 : Operand} {C : Value → List Res} [ts : TS P t e] [rt : RT P e α rp bb d0] [lx : ∀ u, Lu n true ((d1, S1 u) :: loc) env o1 (ov (V u))] [pa : ∀ u, PA (B1 u) (V u) α rp e q (C u)] [ly : Lu n true loc env o2 (lv rp q')] [b1 : ∀ u, OnlyV (B1 u) Bm] [b2 : ∀ u v', OnlyV (rA rp e v' (q ++ q') :: C u) Bm] : Nx (GT1 P n X ms loc env Bm ol (⟨some d, .call ⟨.builtin .append, [o1, o2].toArray, [t, t].toArray⟩, ty, pos, af, none⟩ :: rest) k p r m i d1 S1 B1) (q.length + q'.length ≤ 9223372036854775807 ∧ (q.length + q'.length) * bb ≤ 140737488355328) (GT2 P n X ms loc env Bm ol rest k p r m (i + 1) d1 d S1 ov B1 (fun u v' => rA rp e v' (q ++ q') :: C u)) := ⟨fun hs g => ⟨fun B sb => by
  have e := Nat.eq_of_beq_eq_true eq.h
  subst e
  exact ⟨d, ov, _, fun u v' => (b2 u v').h, .wr2 (ltf lpr.h) rfl (fun u => app_triv (fun f => ((lx u).h rfl f).1) (pa u).h.own (fun _ h => List.mem_cons_of_mem _ h) hs) (g.p B sb fun u => (b1 u).h)⟩⟩⟩
instance [lp : RflE (Nat.ble i p) false] [lr : RflE (Nat.beq i r) false] [lt : RflE (Nat.ble m i) false] [st : St P n true loc env Bm ms d op sd S] [o2 : ∀ u v', OnlyV (B2 u v') Bm] : Nx (GT2 P n X ms loc env Bm ol (⟨some d, op, ty, pos, af, none⟩ :: rest) k p r m i d1 d2 S1 S2 B1 B2) sd (GT2 P n X ms ((d, S) :: loc) env Bm ol rest k p r m (i + 1) d1 d2 S1 S2 B1 B2) := ⟨fun hs g => ⟨fun B sb sb1 => by
  have ht : TriP P n X env Bm ol loc ⟨some d, op, ty, pos, af, none⟩ d S := triP (st := st) hs fun _ h => h
  exact .mid d S (ltf lp.h) (fun e => by have := lr.h; rw [e, beq_self] at this; cases this) rfl (TriP.sb sb ht) (fun v => TriP.sb (sb1 v) ht) (fun v v' => TriP.sb (o2 v v').h ht) (g.p B sb sb1)⟩⟩
instance [eq : RflE (Nat.beq i m) true] : Nx (GT2 P n X ms loc env Bm ol rest k p r m i d1 d2 S1 S2 B1 B2) True (∀ v v', GO P n X ms ((d2, S2 v') :: (d1, S1 v) :: loc) env (B2 v v') ol rest k) := ⟨fun _ g => ⟨fun B sb sb1 => by
  have e := Nat.eq_of_beq_eq_true eq.h
  subst e
  exact .fin g⟩⟩
end
section
variable {P : Program} {n : Nat} {X : Fix} {ms : List Nat} {loc env : EL} {B : List Res} {ol : List Oper} {k : Kt}
theorem gDs (sz m : Nat) {id : Nat} [mx : MixO P] (hs : Nat.beq ol.length sz = true) (c : (dagC ol m (env.map (·.1)) && ol.all noDefer) = true) (g : GE P n X ms [] env B ol ol k (fun _ => false) m 0 (fun _ => []) []) : GW P n X ms loc env B (.region id ol.toArray true) k := gDr m c g
end
theorem _root_.Go.Ear.LR.cap {α : Type} {r : Rp α} {h : PH} {base : Option Addr} {len cap c : Nat} {l : List α} (u : LR r h (.slice base len cap) l) (hc : l.length ≤ c) : LR r h (.slice base len c) l := by
  obtain ⟨css, ⟨b0, cp, e, h1, h2, h3⟩, b⟩ := u
  cases e
  exact ⟨css, ⟨base, c, rfl, by rw [b.length]; exact hc, h2, h3⟩, b⟩
theorem OpW.sliceCap {P : Program} {n : Nat} {d : Nat} {ty : TypeId} {pos : String} {af : Array Edge} {g : Option (Nat × Bool)} {ρ : Env} {w : World} {K : Env → World → Prop} {t e : TypeId} {x y z : Operand} {k k2 : IntKind} {a : Option Addr} {l c m : Nat} {sz : Nat} (ht : IsUnd P t (.slice e)) (hs : IsSize P e sz) (hx : ev n ρ x = .slice a l c) (hy : ev n ρ y = .int k m) (hz : ev n ρ z = .int k2 m) (hm : m ≤ c)
    (hk : K (upd ρ d (.slice a m m)) w) : OpW P n ⟨some d, .slice t x none (some y) (some z), ty, pos, af, g⟩ ρ w K := by
  refine OpW.slice hx ?_ hk
  have hmm : (0 : Int) ≤ (m : Int) ∧ (m : Int) ≤ (c : Int) := by omega
  have hm2 : (0 : Int) ≤ (m : Int) ∧ (m : Int) ≤ (m : Int) := by omega
  have ha : (if m = 0 then a else a.map (·.add (0 * sz))) = a := by
    split
    · rfl
    · cases a <;> simp [Addr.add]
  simp only [Instr.sliceAt, Sem.run_bind, ht.run w, Result.andThen, Option.map_none, Option.map_some, hy, hz, Instr.slice, Instr.sliceBounds, Instr.sliceBound, asIntOf, Sem.run_pure, hmm, hm2, and_self, if_true, hs w, Int.toNat_natCast, Nat.sub_zero, ha]
section
variable {P : Program} {n : Nat} {c : Bool} {loc env : EL} {B : List Res} {ms : List Nat} {d : Nat} {t e : TypeId} {m : Nat} {x y z : Operand} {k k2 : IntKind} {i i2 : Int} {a b : Nat}
instance {α : Type} {r : Rp α} {q : List α} [ts : TS P t e] [tz : TZ P e m] [lx : Lu n c loc env x (lv r q)] [ly : Lu n c loc env y (.cv (.int k i))] [lz : Lu n c loc env z (.cv (.int k2 i2))] {sd sd2 : Prop} [tn : TN i a sd] [tn2 : TN i2 b sd2] : St P n c loc env B ms d (.slice t x none (some y) (some z)) ((sd ∧ sd2) ∧ a = b ∧ a ≤ q.length) (lv r (q.take a)) := .p fun qc hsd _ _ _ _ _ s _ _ _ _ _ kk => by
  have u : LR r _ _ q := lx.h qc (s.f x)
  obtain ⟨base, cp, e, hc⟩ := u.shape
  rw [e] at u
  obtain ⟨⟨s1, s2⟩, s3, s4⟩ := hsd
  subst s3
  exact OpW.sliceCap ts.h tz.h e ((cvE (ly.h qc (s.f y))).trans (by rw [tn.e s1])) ((cvE (lz.h qc (s.f z))).trans (by rw [tn2.e s2])) (Nat.le_trans s4 hc) (kk _ ((u.take a s4).cap (by simp; omega)))
instance {u : TypeId} {s1 s2 : ByteArray} [lx : Lu n c loc env x (.cv (.string s1))] [ly : Lu n c loc env y (.cv (.string s2))] : St P n c loc env B ms d (.binOp .eql t x y u) True (.cv (.bool (decide (s1.data.toList = s2.data.toList)))) := .p fun q _ _ _ _ _ _ s _ _ _ _ _ kk => OpW.eqlS (cvE (lx.h q (s.f x))) (cvE (ly.h q (s.f y))) (by
  rw [ByteArray.toList_eq, ByteArray.toList_eq, Bool.eq_iff_iff]; simp) (kk _ rfl)
end
section
variable {P : Program} {n : Nat} {X : Fix} {ms : List Nat} {loc env env' : EL} {B : List Res} {ol : List Oper} {k : Kt} {a b y : Code}
instance (priority := high) {id : Nat} [ap : AppL loc env env'] : Nx (GO P n X ms loc env B ol [] (.seq (.seq (.block id (.seq a b)) y) k)) True (GX P n X ms [] env' B .normal (.seq (.seq (.block id (.seq a b)) y) k)) := ⟨fun _ a => ⟨fun _ ρ h w s => Ops.nil (a.p ρ h w ⟨s.gr, trivial, by rw [← ap.h]; exact s.lo.app s.en, s.ow⟩)⟩⟩
instance (priority := high) {id : Nat} [ap : AppL loc env env'] : Nx (GO P n X ms loc env B ol [] (.seq (.block id (.seq a b)) k)) True (GX P n X ms [] env' B .normal (.seq (.block id (.seq a b)) k)) := ⟨fun _ a => ⟨fun _ ρ h w s => Ops.nil (a.p ρ h w ⟨s.gr, trivial, by rw [← ap.h]; exact s.lo.app s.en, s.ow⟩)⟩⟩
end
end Go.E3
