/- K6: a part of the proofs about what is clipped and stored: how the program's functions run, and what they compute, for every input. -/
import Derived.Test.YthlpenhbcmbgoaaGreatDoorProg
import Derived.Lib.SlBytesConst
import Derived.Laws.IdiomRangeMap
import Derived.Laws.StructEq
import Derived.Test.YthlpenhbcmbgoaaGreatDoorK5
import Derived.Test.YthlpenhbcmbgoaaGreatDoorK4
set_option linter.all false
set_option linter.unusedVariables false
namespace Go.E3
open Go Go.Ear
structure MidW where
  d : Nat
  S : Value → SV
  B2 : Value → List Res
section
variable (P : Program) (n : Nat) (X : Fix) (ms : List Nat) (env : EL) (ol : List Oper)
inductive GM (B : List Res) (k : Kt) (p m : Nat) : Option MidW → EL → Nat → List Oper → Prop
  | st {L i o rest} (d : Nat) (S : SV) (hi : i < p) (hd : o.dst = some d) (h : TriP P n X env B ol L o d S) (g : GM B k p m none ((d, S) :: L) (i + 1) rest) : GM B k p m none L i (o :: rest)
  | wr {L o rest} (w : MidW) (hd : o.dst = some w.d) (h : TriV P n X env B ol L o (some (w.d, w.S)) w.B2) (g : GM B k p m (some w) L (p + 1) rest) : GM B k p m none L p (o :: rest)
  | mid {w L i o rest} (d : Nat) (S : SV) (hp : p < i) (hd : o.dst = some d) (h : TriP P n X env B ol L o d S) (h2 : ∀ v, TriP P n X env (w.B2 v) ol L o d S) (g : GM B k p m (some w) ((d, S) :: L) (i + 1) rest) : GM B k p m (some w) L i (o :: rest)
  | fin {w L rest} (g : ∀ v, GO P n X ms ((w.d, w.S v) :: L) env (w.B2 v) ol rest k) : GM B k p m (some w) L m rest
end
section
variable {P : Program} {n : Nat} {X : Fix} {ms : List Nat} {env : EL} {ol : List Oper} {B : List Res} {k : Kt} {p m : Nat}
abbrev lcs (res : List (Option (Nat × SV))) : EL := (res.filterMap id).reverse
theorem lcs_some (q : Nat × SV) (res : List (Option (Nat × SV))) (L : EL) : lcs (some q :: res) ++ L = lcs res ++ (q :: L) := by simp [lcs]
theorem lcs_none (res : List (Option (Nat × SV))) : lcs (none :: res) = lcs res := by simp [lcs]
theorem GM.sem {ws : Option MidW} {L : EL} {i : Nat} {rest : List Oper} (g : GM P n X ms env ol B k p m ws L i rest) :
    ∃ (res : List (Option (Nat × SV))) (w : MidW), i + res.length = m ∧ (ws = some w ∨ (ws = none ∧ i ≤ p ∧ ∃ o, rest[p - i]? = some o ∧ res[p - i]? = some none ∧ o.dst = some w.d ∧ TriV P n X env B ol (lcs (res.take (p - i)) ++ L) o (some (w.d, w.S)) w.B2)) ∧
      (∀ j q, res[j]? = some (some q) → ∃ o, rest[j]? = some o ∧ o.dst = some q.1 ∧ TriP P n X env B ol (lcs (res.take j) ++ L) o q.1 q.2 ∧ (p < i + j → ∀ v, TriP P n X env (w.B2 v) ol (lcs (res.take j) ++ L) o q.1 q.2)) ∧
      (∀ j, res[j]? = some none → i + j = p) ∧ res.length ≤ rest.length ∧ ∀ v, GO P n X ms ((w.d, w.S v) :: (lcs res ++ L)) env (w.B2 v) ol (rest.drop res.length) k := by
  induction g with
  | @st L i o rest d S hi hd h g ih =>
    obtain ⟨res, w, e, hw, hr, hn, hle, hg⟩ := ih
    refine ⟨some (d, S) :: res, w, by simp only [List.length_cons]; omega, .inr ⟨rfl, by omega, ?_⟩, fun j q hj => ?_, fun j hj => ?_, by simp only [List.length_cons]; omega, fun v => by rw [lcs_some]; simpa using hg v⟩
    · rcases hw with hw | ⟨_, h1, o', h2, h3, h4, h5⟩
      · cases hw
      · rw [show p - i = p - (i + 1) + 1 by omega]
        refine ⟨o', by simpa using h2, by simpa using h3, h4, ?_⟩
        rw [List.take_succ_cons, lcs_some]; exact h5
    · cases j with
      | zero =>
        have hj : (d, S) = q := by simpa using hj
        subst hj
        exact ⟨o, rfl, hd, by simpa [lcs] using h, fun hh => by omega⟩
      | succ j =>
        obtain ⟨o', a, b, c, d'⟩ := hr j q (by simpa using hj)
        refine ⟨o', by simpa using a, b, ?_, fun hh => ?_⟩
        · rw [List.take_succ_cons, lcs_some]; exact c
        · rw [List.take_succ_cons, lcs_some]; exact d' (by omega)
    · cases j with
      | zero => simp at hj
      | succ j => have := hn j (by simpa using hj); omega
  | @wr L o rest w hd h g ih =>
    obtain ⟨res, w', e, hw, hr, hn, hle, hg⟩ := ih
    have hw : w = w' := by
      rcases hw with hw | ⟨hw, _⟩
      · exact Option.some.inj hw
      · cases hw
    subst hw
    refine ⟨none :: res, w, by simp only [List.length_cons]; omega, .inr ⟨rfl, Nat.le_refl _, o, by simp, by simp, hd, by simpa [lcs] using h⟩, fun j q hj => ?_, fun j hj => ?_, by simp only [List.length_cons]; omega, fun v => by rw [lcs_none]; simpa using hg v⟩
    · cases j with
      | zero => simp at hj
      | succ j =>
        obtain ⟨o', a, b, c, d'⟩ := hr j q (by simpa using hj)
        refine ⟨o', by simpa using a, b, ?_, fun hh => ?_⟩
        · rw [List.take_succ_cons, lcs_none]; exact c
        · rw [List.take_succ_cons, lcs_none]; exact d' (by omega)
    · cases j with
      | zero => rfl
      | succ j => have := hn j (by simpa using hj); omega
  | @mid w L i o rest d S hp hd h h2 g ih =>
    obtain ⟨res, w', e, hw, hr, hn, hle, hg⟩ := ih
    have hw : w = w' := by
      rcases hw with hw | ⟨hw, _⟩
      · exact Option.some.inj hw
      · cases hw
    subst hw
    refine ⟨some (d, S) :: res, w, by simp only [List.length_cons]; omega, .inl rfl, fun j q hj => ?_, fun j hj => ?_, by simp only [List.length_cons]; omega, fun v => by rw [lcs_some]; simpa using hg v⟩
    · cases j with
      | zero =>
        have hj : (d, S) = q := by simpa using hj
        subst hj
        exact ⟨o, rfl, hd, by simpa [lcs] using h, fun _ v => by simpa [lcs] using h2 v⟩
      | succ j =>
        obtain ⟨o', a, b, c, d'⟩ := hr j q (by simpa using hj)
        refine ⟨o', by simpa using a, b, ?_, fun hh => ?_⟩
        · rw [List.take_succ_cons, lcs_some]; exact c
        · rw [List.take_succ_cons, lcs_some]; exact d' (by omega)
    · cases j with
      | zero => simp at hj
      | succ j => have := hn j (by simpa using hj); omega
  | @fin w L rest g => exact ⟨[], w, by simp, .inl rfl, fun j q hj => by simp at hj, fun j hj => by simp at hj, by simp, fun v => by simpa [lcs] using g v⟩
open Classical in
noncomputable def bM (w : MidW) (p : Nat) (B : List Res) (D : Nat → Prop) (ρ : Env) : List Res := if D p then w.B2 (ρ w.d) else B
end
theorem Sb.tl (r : Res) (B : List Res) : Sb (r :: B) B := ⟨fun o => o.2.2.2, fun r' hr i hi => ⟨r', List.mem_cons_of_mem _ hr, hi⟩⟩
section
variable {P : Program} {n : Nat} {X : Fix} {ms : List Nat} {loc env : EL} {B Bm B1 : List Res} {k : Kt} {ol rest : List Oper} {d p m i : Nat} {op : Op} {ty : TypeId} {pos : String} {af : Array Edge} {sd : Prop} {S : SV} {t e : TypeId}
theorem TriP.sb {o : Oper} (sb : Sb B B1) (h : TriP P n X env B1 ol loc o d S) : TriP P n X env B ol loc o d S := fun ρ h1 w s => h ρ h1 w ⟨s.gr, s.fx, sb.own s.ow⟩
structure GF (P : Program) (n : Nat) (X : Fix) (ms : List Nat) (loc env : EL) (B : List Res) (ol rest : List Oper) (k : Kt) (p m i : Nat) : Prop where
  p : GM P n X ms env ol B k p m none loc i rest
structure GFm (P : Program) (n : Nat) (X : Fix) (ms : List Nat) (loc env : EL) (Bm : List Res) (ol rest : List Oper) (k : Kt) (p m i d : Nat) (S : Value → SV) (B2 : Value → List Res) : Prop where
  p : ∀ B, Sb B Bm → (∀ v, Sb (B2 v) Bm) → GM P n X ms env ol B k p m (some ⟨d, S, B2⟩) loc i rest
end
structure MidV where
  d1 : Nat
  S1 : Value → SV
  B1 : Value → List Res
  d2 : Nat
  S2 : Value → SV
  B2 : Value → Value → List Res
section
variable (P : Program) (n : Nat) (X : Fix) (ms : List Nat) (env : EL) (ol : List Oper)
inductive GV (B : List Res) (k : Kt) (w : MidV) (p r m : Nat) : EL → Nat → List Oper → Prop
  | st {L i o rest} (d : Nat) (S : SV) (hi : i < p) (hd : o.dst = some d) (h : TriP P n X env B ol L o d S) (g : GV B k w p r m ((d, S) :: L) (i + 1) rest) : GV B k w p r m L i (o :: rest)
  | wr {L o rest} (hd : o.dst = some w.d1) (h : TriV P n X env B ol L o (some (w.d1, w.S1)) w.B1) (g : GV B k w p r m L (p + 1) rest) : GV B k w p r m L p (o :: rest)
  | wr2 {L o rest} (hp : p < r) (hd : o.dst = some w.d2) (h : ∀ v, TriV P n X env (w.B1 v) ol ((w.d1, w.S1 v) :: L) o (some (w.d2, w.S2)) (w.B2 v)) (g : GV B k w p r m L (r + 1) rest) : GV B k w p r m L r (o :: rest)
  | mid {L i o rest} (d : Nat) (S : SV) (hp : p < i) (hr : i ≠ r) (hd : o.dst = some d) (h : TriP P n X env B ol L o d S) (h2 : ∀ v, TriP P n X env (w.B1 v) ol L o d S) (h3 : ∀ v v', TriP P n X env (w.B2 v v') ol L o d S) (g : GV B k w p r m ((d, S) :: L) (i + 1) rest) : GV B k w p r m L i (o :: rest)
  | fin {L rest} (g : ∀ v v', GO P n X ms ((w.d2, w.S2 v') :: (w.d1, w.S1 v) :: L) env (w.B2 v v') ol rest k) : GV B k w p r m L m rest
end
section
variable {P : Program} {n : Nat} {X : Fix} {ms : List Nat} {env : EL} {ol : List Oper} {B : List Res} {k : Kt} {p r m : Nat} {w : MidV}
theorem GV.sem (hpr : p < r) {L : EL} {i : Nat} {rest : List Oper} (g : GV P n X ms env ol B k w p r m L i rest) :
    ∃ (res : List (Option (Nat × SV))), i + res.length = m ∧
      (∀ j, res[j]? = some none → ∃ o, rest[j]? = some o ∧ ((i + j = p ∧ o.dst = some w.d1 ∧ TriV P n X env B ol (lcs (res.take j) ++ L) o (some (w.d1, w.S1)) w.B1) ∨ (i + j = r ∧ p < r ∧ o.dst = some w.d2 ∧ ∀ v, TriV P n X env (w.B1 v) ol ((w.d1, w.S1 v) :: (lcs (res.take j) ++ L)) o (some (w.d2, w.S2)) (w.B2 v)))) ∧
      (∀ j q, res[j]? = some (some q) → i + j ≠ p ∧ i + j ≠ r ∧ ∃ o, rest[j]? = some o ∧ o.dst = some q.1 ∧ TriP P n X env B ol (lcs (res.take j) ++ L) o q.1 q.2 ∧ (p < i + j → (∀ v, TriP P n X env (w.B1 v) ol (lcs (res.take j) ++ L) o q.1 q.2) ∧ ∀ v v', TriP P n X env (w.B2 v v') ol (lcs (res.take j) ++ L) o q.1 q.2)) ∧
      res.length ≤ rest.length ∧ ∀ v v', GO P n X ms ((w.d2, w.S2 v') :: (w.d1, w.S1 v) :: (lcs res ++ L)) env (w.B2 v v') ol (rest.drop res.length) k := by
  induction g with
  | @st L i o rest d S hi hd h g ih =>
    obtain ⟨res, e, hn, hr, hle, hg⟩ := ih
    refine ⟨some (d, S) :: res, by simp only [List.length_cons]; omega, fun j hj => ?_, fun j q hj => ?_, by simp only [List.length_cons]; omega, fun v v' => by rw [lcs_some]; simpa using hg v v'⟩
    · cases j with
      | zero => simp at hj
      | succ j =>
        obtain ⟨o', a, b⟩ := hn j (by simpa using hj)
        refine ⟨o', by simpa using a, ?_⟩
        rw [List.take_succ_cons, lcs_some, show i + (j + 1) = i + 1 + j by omega]; exact b
    · cases j with
      | zero =>
        have hj : (d, S) = q := by simpa using hj
        subst hj
        exact ⟨by omega, by omega, o, rfl, hd, by simpa [lcs] using h, fun hh => by omega⟩
      | succ j =>
        obtain ⟨x, y, o', a, b⟩ := hr j q (by simpa using hj)
        refine ⟨by omega, by omega, o', by simpa using a, ?_⟩
        rw [List.take_succ_cons, lcs_some, show i + (j + 1) = i + 1 + j by omega]; exact b
  | @wr L o rest hd h g ih =>
    obtain ⟨res, e, hn, hr, hle, hg⟩ := ih
    refine ⟨none :: res, by simp only [List.length_cons]; omega, fun j hj => ?_, fun j q hj => ?_, by simp only [List.length_cons]; omega, fun v v' => by rw [lcs_none]; simpa using hg v v'⟩
    · cases j with
      | zero => exact ⟨o, rfl, .inl ⟨rfl, hd, by simpa [lcs] using h⟩⟩
      | succ j =>
        obtain ⟨o', a, b⟩ := hn j (by simpa using hj)
        refine ⟨o', by simpa using a, ?_⟩
        rw [List.take_succ_cons, lcs_none, show p + (j + 1) = p + 1 + j by omega]; exact b
    · cases j with
      | zero => simp at hj
      | succ j =>
        obtain ⟨x, y, o', a, b⟩ := hr j q (by simpa using hj)
        refine ⟨by omega, by omega, o', by simpa using a, ?_⟩
        rw [List.take_succ_cons, lcs_none, show p + (j + 1) = p + 1 + j by omega]; exact b
  | @wr2 L o rest hp hd h g ih =>
    obtain ⟨res, e, hn, hr, hle, hg⟩ := ih
    refine ⟨none :: res, by simp only [List.length_cons]; omega, fun j hj => ?_, fun j q hj => ?_, by simp only [List.length_cons]; omega, fun v v' => by rw [lcs_none]; simpa using hg v v'⟩
    · cases j with
      | zero => exact ⟨o, rfl, .inr ⟨rfl, hp, hd, by simpa [lcs] using h⟩⟩
      | succ j =>
        obtain ⟨o', a, b⟩ := hn j (by simpa using hj)
        refine ⟨o', by simpa using a, ?_⟩
        rw [List.take_succ_cons, lcs_none, show r + (j + 1) = r + 1 + j by omega]; exact b
    · cases j with
      | zero => simp at hj
      | succ j =>
        obtain ⟨x, y, o', a, b⟩ := hr j q (by simpa using hj)
        refine ⟨by omega, by omega, o', by simpa using a, ?_⟩
        rw [List.take_succ_cons, lcs_none, show r + (j + 1) = r + 1 + j by omega]; exact b
  | @mid L i o rest d S hp hir hd h h2 h3 g ih =>
    obtain ⟨res, e, hn, hr, hle, hg⟩ := ih
    refine ⟨some (d, S) :: res, by simp only [List.length_cons]; omega, fun j hj => ?_, fun j q hj => ?_, by simp only [List.length_cons]; omega, fun v v' => by rw [lcs_some]; simpa using hg v v'⟩
    · cases j with
      | zero => simp at hj
      | succ j =>
        obtain ⟨o', a, b⟩ := hn j (by simpa using hj)
        refine ⟨o', by simpa using a, ?_⟩
        rw [List.take_succ_cons, lcs_some, show i + (j + 1) = i + 1 + j by omega]; exact b
    · cases j with
      | zero =>
        have hj : (d, S) = q := by simpa using hj
        subst hj
        exact ⟨by omega, by omega, o, rfl, hd, by simpa [lcs] using h, fun _ => ⟨fun v => by simpa [lcs] using h2 v, fun v v' => by simpa [lcs] using h3 v v'⟩⟩
      | succ j =>
        obtain ⟨x, y, o', a, b⟩ := hr j q (by simpa using hj)
        refine ⟨by omega, by omega, o', by simpa using a, ?_⟩
        rw [List.take_succ_cons, lcs_some, show i + (j + 1) = i + 1 + j by omega]; exact b
  | @fin L rest g => exact ⟨[], by simp, fun j hj => by simp at hj, fun j q hj => by simp at hj, by simp, fun v v' => by simpa [lcs] using g v v'⟩
open Classical in
noncomputable def bV (w : MidV) (p r : Nat) (B : List Res) (D : Nat → Prop) (ρ : Env) : List Res := if D r then w.B2 (ρ w.d1) (ρ w.d2) else if D p then w.B1 (ρ w.d1) else B
end
section
class OnlyV (B : List Res) (B' : outParam (List Res)) : Prop where h : Sb B B'
variable {P : Program} {n : Nat} {X : Fix} {ms : List Nat} {loc env : EL} {B Bm : List Res} {k : Kt} {ol rest : List Oper} {d p r m i d1 d2 : Nat} {op : Op} {ty : TypeId} {pos : String} {af : Array Edge} {sd : Prop} {S : SV} {t e : TypeId} {S1 S2 : Value → SV} {B1 : Value → List Res} {B2 : Value → Value → List Res}
structure GT (P : Program) (n : Nat) (X : Fix) (ms : List Nat) (loc env : EL) (B Bm : List Res) (ol rest : List Oper) (k : Kt) (p r m i : Nat) : Prop where
  p : Sb B Bm → ∃ w, GV P n X ms env ol B k w p r m loc i rest
structure GT1 (P : Program) (n : Nat) (X : Fix) (ms : List Nat) (loc env : EL) (Bm : List Res) (ol rest : List Oper) (k : Kt) (p r m i d1 : Nat) (S1 : Value → SV) (B1 : Value → List Res) : Prop where
  p : ∀ B, Sb B Bm → ∃ d2 S2 B2, (∀ v v', Sb (B2 v v') Bm) ∧ GV P n X ms env ol B k ⟨d1, S1, B1, d2, S2, B2⟩ p r m loc i rest
structure GT2 (P : Program) (n : Nat) (X : Fix) (ms : List Nat) (loc env : EL) (Bm : List Res) (ol rest : List Oper) (k : Kt) (p r m i d1 d2 : Nat) (S1 S2 : Value → SV) (B1 : Value → List Res) (B2 : Value → Value → List Res) : Prop where
  p : ∀ B, Sb B Bm → (∀ v, Sb (B1 v) Bm) → GV P n X ms env ol B k ⟨d1, S1, B1, d2, S2, B2⟩ p r m loc i rest
end
section
variable {P : Program} {n : Nat} {X : Fix} {ms : List Nat} {loc env : EL} {B : List Res} {ol : List Oper} {k : Kt}
theorem gDs (sz m : Nat) {id : Nat} [mx : MixO P] (hs : Nat.beq ol.length sz = true) (c : (dagC ol m (env.map (·.1)) && ol.all noDefer) = true) (g : GE P n X ms [] env B ol ol k (fun _ => false) m 0 (fun _ => []) []) : GW P n X ms loc env B (.region id ol.toArray true) k := gDr m c g
end
theorem _root_.Go.Ear.LR.cap {α : Type} {r : Rp α} {h : PH} {base : Option Addr} {len cap c : Nat} {l : List α} (u : LR r h (.slice base len cap) l) (hc : l.length ≤ c) : LR r h (.slice base len c) l := by
  obtain ⟨css, ⟨b0, cp, e, h1, h2, h3⟩, b⟩ := u
  cases e
  exact ⟨css, ⟨base, c, rfl, by rw [b.length]; exact hc, h2, h3⟩, b⟩
section
variable {P : Program} {n : Nat} {c : Bool} {loc env : EL} {B : List Res} {ms : List Nat} {d : Nat} {t e : TypeId} {m : Nat} {x y z : Operand} {k k2 : IntKind} {i i2 : Int} {a b : Nat}
end
section
variable {P : Program} {n : Nat} {X : Fix} {ms : List Nat} {loc env env' : EL} {B : List Res} {ol : List Oper} {k : Kt} {a b y : Code}
instance (priority := high) {id : Nat} [ap : AppL loc env env'] : Nx (GO P n X ms loc env B ol [] (.seq (.seq (.block id (.seq a b)) y) k)) True (GX P n X ms [] env' B .normal (.seq (.seq (.block id (.seq a b)) y) k)) := ⟨fun _ a => ⟨fun _ ρ h w s => Ops.nil (a.p ρ h w ⟨s.gr, trivial, by rw [← ap.h]; exact s.lo.app s.en, s.ow⟩)⟩⟩
end
end Go.E3
set_option linter.unusedVariables false
namespace Go.E3
open Go Go.Ear
section
variable {P : Program} {b : Frame} {a : Act} {k : List Item} {cs : List Frame} {w : World} {Q : Exit → Act → World → Prop} {F : Fence} {n : Nat}
end
section
variable {P : Program} {n : Nat} {X : Fix} {ms : List Nat} {loc env : EL} {B : List Res} {k : Kt} {x : Code}
end
end Go.E3
set_option linter.unusedVariables false
set_option maxHeartbeats 4000000
namespace Go.E3
open Go Go.Ear
section
variable (P : Program) (n : Nat) (X : Fix) (ms : List Nat) (env : EL) (B : List Res) (ol : List Oper)
inductive GDk (k : Kt) (late : Nat → Bool) (Kp : List Res → Prop) : ((Nat → Gh) → EL) → List (Nat × (Gh → Res)) → Nat → List Oper → Nat → Prop
  | nil {L R i rest} (h : ∀ ν, GO P n X ms (L ν) env (rv B R ν) ol rest k) : GDk k late Kp L R i rest 0
  | sto {L R i o rest} (a : Nat) (T T' : Gh → Res) (hd : o.dst = none) (hm : (a, T) ∈ R) (hdd : depOk ol i a = true) (nb : ∀ γ, (T γ).bor = false) (h : ∀ ν, TriS P n X env B ol (L ν) o (ν a) T T') (g : ∀ ν, GO P n X ms (L ν) env (rv B (R.map (eR (.own a T'))) ν) ol rest k) : GDk k late Kp L R i (o :: rest) 1
  | stm {L R i o rest} (x : Option (Nat × SV)) (B2 : List Res) (hd : o.dst = x.map (·.1)) (hx : x = none ∨ R = []) (h : ∀ ν, TriM P n X env B ol (L ν) o x B2) (hl : ∀ j, j < i → reach ol 9 i j = true ∨ late j = true) (hf : ∀ r ∈ B2, ∀ i, r.fp i → ∃ r ∈ B, r.fp i) (hK : Kp B2) (g : ∀ ν, GO P n X ms (xLc x ++ L ν) env (rv B2 R ν) ol rest k) : GDk k late Kp L R i (o :: rest) 1
  | app {L R i o rest} (d : Nat) (S : Value → SV) (B2 : Value → List Res) (hd : o.dst = some d) (hR : R = []) (hK : ∀ v, Kp (B2 v)) (h : ∀ ν, TriV P n X env B ol (L ν) o (some (d, S)) B2) (hl : ∀ j, j < i → reach ol 9 i j = true ∨ late j = true) (g : ∀ ν v, GO P n X ms ((d, S v) :: L ν) env (rv (B2 v) R ν) ol rest k) : GDk k late Kp L R i (o :: rest) 1
  | new {L R i o rest m} (d : Nat) (S : Gh → SV) (T : Gh → Res) (hd : o.dst = some d) (h : ∀ ν, TriN P n X env B ol (L ν) o d S T) (hl : late i = false) (g : GDk k late Kp (fun ν => (d, S (ν d)) :: L ν) ((d, T) :: R) (i + 1) rest m) : GDk k late Kp L R i (o :: rest) (m + 1)
  | st {L R i o rest m} (d : Nat) (SS : (Nat → Gh) → SV) (dd : List Nat) (hd : o.dst = some d) (hs : ∀ ν ν', (∀ e ∈ dd, ν e = ν' e) → SS ν = SS ν') (hdd : dd.all (depOk ol i) = true) (h : ∀ ν, TriP P n X env B ol (L ν) o d (SS ν)) (hl : late i = true → ∀ B' ν, Kp B' → TriP P n X env B' ol (L ν) o d (SS ν))
      (g : GDk k late Kp (fun ν => (d, SS ν) :: L ν) R (i + 1) rest m) : GDk k late Kp L R i (o :: rest) (m + 1)
  | own {L R i o rest m} (d : Nat) (T : Gh → Res) (hd : o.dst = some d) (h : ∀ ν, TriO P n X env B ol (L ν) o d T) (hl : late i = false) (g : GDk k late Kp (fun ν => (d, ov (ν d).v) :: L ν) ((d, T) :: R) (i + 1) rest m) : GDk k late Kp L R i (o :: rest) (m + 1)
def StepK (late : Nat → Bool) (Kp : List Res → Prop) (loc : (Nat → Gh) → EL) (i : Nat) (o : Oper) (q : Nat × Kd) : Prop := o.dst = some q.1 ∧ match q.2 with
  | .p SS dd => (∀ ν ν', (∀ e ∈ dd, ν e = ν' e) → SS ν = SS ν') ∧ dd.all (depOk ol i) = true ∧ (∀ ν, TriP P n X env B ol (loc ν) o q.1 (SS ν)) ∧ (late i = true → ∀ B' ν, Kp B' → TriP P n X env B' ol (loc ν) o q.1 (SS ν))
  | .o S T => (∀ ν, TriN P n X env B ol (loc ν) o q.1 S T) ∧ late i = false
def FinK (late : Nat → Bool) (Kp : List Res → Prop) (loc : (Nat → Gh) → EL) (R : List (Nat × (Gh → Res))) (i m0 m : Nat) (rest : List Oper) : Sw → Prop
  | .no => m = m0
  | .own a T' => m = m0 + 1 ∧ ∃ o T, rest[m0]? = some o ∧ o.dst = none ∧ (a, T) ∈ R ∧ depOk ol (i + m0) a = true ∧ (∀ γ, (T γ).bor = false) ∧ ∀ ν, TriS P n X env B ol (loc ν) o (ν a) T T'
  | .mem x B2 => m = m0 + 1 ∧ ∃ o, rest[m0]? = some o ∧ o.dst = x.map (·.1) ∧ (x = none ∨ R = []) ∧ (∀ ν, TriV P n X env B ol (loc ν) o x B2) ∧ (∀ j, j < i + m0 → reach ol 9 (i + m0) j = true ∨ late j = true) ∧ (x = none → ∀ v, ∀ r ∈ B2 v, ∀ i, r.fp i → ∃ r ∈ B, r.fp i) ∧ ∀ v, Kp (B2 v)
end
section
variable {P : Program} {n : Nat} {X : Fix} {ms : List Nat} {env : EL} {B : List Res} {ol : List Oper} {k : Kt}
theorem GDk.sem {late : Nat → Bool} {Kp : List Res → Prop} {L : (Nat → Gh) → EL} {R : List (Nat × (Gh → Res))} {i : Nat} {rest : List Oper} {m : Nat} (g : GDk P n X ms env B ol k late Kp L R i rest m) :
    ∃ (res : List (Nat × Kd)) (sw : Sw), m ≤ rest.length ∧ FinK P n X env B ol late Kp (fun ν => ((res.map (ent · ν)).reverse ++ L ν)) (rscs res ++ R) i res.length m rest sw ∧ (∀ j, j < res.length → ∃ o q, rest[j]? = some o ∧ res[j]? = some q ∧ StepK P n X env B ol late Kp (fun ν => ((res.take j).map (ent · ν)).reverse ++ L ν) (i + j) o q) ∧
      ∀ ν v, GO P n X ms (xL sw v ++ ((res.map (ent · ν)).reverse ++ L ν)) env (rv (bS sw v B) ((rscs res ++ R).map (eR sw)) ν) ol (rest.drop m) k := by
  have fin : ∀ {q : Nat × Kd} {L L' : (Nat → Gh) → EL} {R R' : List (Nat × (Gh → Res))} {res : List (Nat × Kd)} {i m : Nat} {o : Oper} {rest : List Oper} {sw : Sw}, (∀ ν, L' ν = ent q ν :: L ν) → R' = rsc q ++ R → FinK P n X env B ol late Kp (fun ν => ((res.map (ent · ν)).reverse ++ L' ν)) (rscs res ++ R') (i + 1) res.length m rest sw → FinK P n X env B ol late Kp (fun ν => (((q :: res).map (ent · ν)).reverse ++ L ν)) (rscs (q :: res) ++ R) i (q :: res).length (m + 1) (o :: rest) sw := by
    intro q L L' R R' res i m o rest sw hL hR hf
    have e1 : (fun ν => (((q :: res).map (ent · ν)).reverse ++ L ν)) = (fun ν => ((res.map (ent · ν)).reverse ++ L' ν)) := by funext ν; rw [hL]; simp
    have e2 : rscs (q :: res) ++ R = rscs res ++ R' := by rw [hR]; simp [rscs]
    rw [e1, e2]
    cases sw with
    | no => simp only [FinK, List.length_cons] at hf ⊢; omega
    | own a T' =>
      obtain ⟨e1, o', T, e2, e3, e4, e5, e6, e7⟩ := hf
      exact ⟨by simp only [List.length_cons]; omega, o', T, by simpa using e2, e3, e4, by rw [List.length_cons, show i + (res.length + 1) = i + 1 + res.length by omega]; exact e5, e6, e7⟩
    | mem x B2 =>
      obtain ⟨e1, o', e2, e3, ex, e4, e5⟩ := hf
      exact ⟨by simp only [List.length_cons]; omega, o', by simpa using e2, e3, ex, e4, by rw [List.length_cons, show i + (res.length + 1) = i + 1 + res.length by omega]; exact e5⟩
  induction g with
  | nil h => exact ⟨[], .no, Nat.zero_le _, rfl, fun j hj => by simp at hj, fun ν v => by simpa [rscs, eR_id (f := .no) (fun _ _ => rfl), bS, xL] using h ν⟩
  | @sto L R i o rest a T T' hd hm hdd nb h g => exact ⟨[], .own a T', by simp, ⟨rfl, o, T, rfl, hd, by simpa [rscs] using hm, by simpa using hdd, nb, by simpa using h⟩, fun j hj => by simp at hj, fun ν v => by simpa [rscs, bS, xL] using g ν⟩
  | @stm L R i o rest x B2 hd hx h hl hff hK g =>
    refine ⟨[], .mem (x.map fun p => (p.1, fun _ => p.2)) (fun _ => B2), by simp, ⟨rfl, o, rfl, ?_, ?_, fun ν => by simpa using (h ν).v, by simpa using hl, fun _ _ => hff, fun _ => hK⟩, fun j hj => by simp at hj, fun ν v => ?_⟩
    · rw [hd]; cases x <;> rfl
    · rcases hx with rfl | hx
      · exact .inl rfl
      · exact .inr (by simpa [rscs] using hx)
    · have := g ν
      cases x <;> simpa [rscs, bS, xL, xLc, eR_id (f := .mem _ _) (fun _ _ => rfl)] using this
  | @app L R i o rest d S B2 hd hR hK h hl g =>
    refine ⟨[], .mem (some (d, S)) B2, by simp, ⟨rfl, o, rfl, hd, .inr (by simpa [rscs] using hR), fun ν => by simpa using h ν, by simpa using hl, (fun e => by cases e), hK⟩, fun j hj => by simp at hj, fun ν v => ?_⟩
    simpa [rscs, bS, xL, eR_id (f := .mem _ _) (fun _ _ => rfl)] using g ν v
  | @st L R i o rest m d SS dd hd hs hdd h hl g ih =>
    obtain ⟨res, sw, h2, hf, h3, h4⟩ := ih
    refine ⟨(d, .p SS dd) :: res, sw, by simp; omega, fin (fun ν => rfl) rfl hf, fun j hj => ?_, fun ν v => by simpa [ent, rsc, rscs] using h4 ν v⟩
    cases j with
    | zero => exact ⟨o, _, rfl, rfl, hd, hs, hdd, by simpa using h, by simpa using hl⟩
    | succ j =>
      obtain ⟨o', q, e1, e2, e3⟩ := h3 j (by simpa using hj)
      refine ⟨o', q, by simpa using e1, by simpa using e2, ?_⟩
      have : (fun ν => ((((d, Kd.p SS dd) :: res).take (j + 1)).map (ent · ν)).reverse ++ L ν) = (fun ν => ((res.take j).map (ent · ν)).reverse ++ ((d, SS ν) :: L ν)) := by funext ν; simp [ent]
      rw [this, show i + (j + 1) = i + 1 + j by omega]; exact e3
  | @own L R i o rest m d T hd h hl g ih =>
    obtain ⟨res, sw, h2, hf, h3, h4⟩ := ih
    refine ⟨(d, .o (fun g => ov g.v) T) :: res, sw, by simp; omega, fin (fun ν => rfl) rfl hf, fun j hj => ?_, fun ν v => by simpa [ent, rsc, rscs] using h4 ν v⟩
    cases j with
    | zero => exact ⟨o, _, rfl, rfl, hd, fun ν => by simpa using (h ν).nn, by simpa using hl⟩
    | succ j =>
      obtain ⟨o', q, e1, e2, e3⟩ := h3 j (by simpa using hj)
      refine ⟨o', q, by simpa using e1, by simpa using e2, ?_⟩
      have : (fun ν => ((((d, Kd.o (fun g => ov g.v) T) :: res).take (j + 1)).map (ent · ν)).reverse ++ L ν) = (fun ν => ((res.take j).map (ent · ν)).reverse ++ ((d, ov (ν d).v) :: L ν)) := by funext ν; simp [ent]
      rw [this, show i + (j + 1) = i + 1 + j by omega]; exact e3
  | @new L R i o rest m d S T hd h hl g ih =>
    obtain ⟨res, sw, h2, hf, h3, h4⟩ := ih
    refine ⟨(d, .o S T) :: res, sw, by simp; omega, fin (fun ν => rfl) rfl hf, fun j hj => ?_, fun ν v => by simpa [ent, rsc, rscs] using h4 ν v⟩
    cases j with
    | zero => exact ⟨o, _, rfl, rfl, hd, by simpa using h, by simpa using hl⟩
    | succ j =>
      obtain ⟨o', q, e1, e2, e3⟩ := h3 j (by simpa using hj)
      refine ⟨o', q, by simpa using e1, by simpa using e2, ?_⟩
      have : (fun ν => ((((d, Kd.o S T) :: res).take (j + 1)).map (ent · ν)).reverse ++ L ν) = (fun ν => ((res.take j).map (ent · ν)).reverse ++ ((d, S (ν d)) :: L ν)) := by funext ν; simp [ent]
      rw [this, show i + (j + 1) = i + 1 + j by omega]; exact e3
end
structure GEk (P : Program) (n : Nat) (X : Fix) (ms : List Nat) (Ls env : EL) (B : List Res) (ol rest : List Oper) (k : Kt) (lt : Nat → Bool) (Kp : List Res → Prop) (m i : Nat) (L : (Nat → Gh) → EL) (R : List (Nat × (Gh → Res))) : Prop where
  p : (∀ ν e, e ∈ Ls → e ∈ L ν) → GDk P n X ms env B ol k lt Kp L R i rest m
section
variable {P : Program} {n : Nat} {X : Fix} {ms : List Nat} {loc env : EL} {B : List Res} {ol rest : List Oper} {k : Kt} {Ls : EL} {lt : Nat → Bool} {Kp : List Res → Prop} {d : Nat} {op : Op} {m i : Nat} {L : (Nat → Gh) → EL} {R : List (Nat × (Gh → Res))} {ty t e : TypeId} {pos : String} {af : Array Edge} {sd : Prop} {S : SV}
end
end Go.E3
set_option linter.unusedVariables false
namespace Go.E3
open Go Go.Ear
section
variable {P : Program}
end
section
variable {P : Program} {n : Nat} {c : Bool} {loc env : EL} {B : List Res} {ms : List Nat} {d : Nat} {x y : Operand} {t u : TypeId} {k : IntKind} {i j : Int}
section
variable [lx : Lu n c loc env x (.cv (.int k i))] [ly : Lu n c loc env y (.cv (.int k j))]
instance (priority := low) {lo hi : Int} [km : KI k lo hi] : St P n c loc env B ms d (.binOp .mul t x y u) (lo ≤ i * j ∧ i * j ≤ hi) (.cv (.int k (i * j))) := .p fun q sd _ _ _ _ _ s _ _ _ _ _ kk => OpW.mul (cvE (lx.h q (s.f x))) (cvE (ly.h q (s.f y))) (km.h sd.1 sd.2) (kk _ rfl)
end
end
end Go.E3
set_option linter.unusedVariables false
set_option maxRecDepth 20000
namespace Go.E3
open Go Go.Ear Go.Proofs
instance : MixO Tryz.prog := ⟨rfl⟩
instance : TZ Tryz.prog 3 1 := ⟨Tryz.sizeOf3⟩
instance : TA Tryz.prog 3 false := ⟨Tryz.isAgg3⟩
instance : TI Tryz.prog 3 .i64 := ⟨Tryz.underlying3⟩
instance : TD Tryz.prog 3 := ⟨_, Tryz.underlying3⟩
instance : TZ Tryz.prog 4 1 := ⟨Tryz.sizeOf4⟩
instance : TA Tryz.prog 4 false := ⟨Tryz.isAgg4⟩
instance : TB Tryz.prog 4 := ⟨Tryz.underlying4⟩
instance : TI Tryz.prog 5 .u8 := ⟨Tryz.underlying5⟩
instance : TD Tryz.prog 5 := ⟨_, Tryz.underlying5⟩
instance : TZ Tryz.prog 9 1 := ⟨Tryz.sizeOf9⟩
instance : TA Tryz.prog 9 false := ⟨Tryz.isAgg9⟩
instance : TStr Tryz.prog 9 := ⟨Tryz.underlying9⟩
instance : TZ Tryz.prog 22 1 := ⟨Tryz.sizeOf22⟩
instance : TA Tryz.prog 22 false := ⟨Tryz.isAgg22⟩
instance : TS Tryz.prog 22 87 := ⟨Tryz.underlying22⟩
instance : TZ Tryz.prog 24 1 := ⟨Tryz.sizeOf24⟩
instance : TA Tryz.prog 24 true := ⟨Tryz.isAgg24⟩
instance : ZC Tryz.prog 24 [.cv (.slice none 0 0)] := ⟨_, Tryz.zeroValue24, by first | exact ⟨rfl, trivial⟩⟩
instance : FA Tryz.prog 24 0 0 := ⟨_, _, _, Tryz.underlying24, rfl, Tryz.sizeOf22, by decide, rfl⟩
instance : BT Tryz.prog 24 [(0, 1)] [.cv (.slice none 0 0)] := ⟨_, _, Tryz.underlying24, Tryz.zeroValue24, fun _ => by kernel_rfl, by first | exact ⟨rfl, trivial⟩⟩
instance : TZ Tryz.prog 25 1 := ⟨Tryz.sizeOf25⟩
instance : TA Tryz.prog 25 false := ⟨Tryz.isAgg25⟩
instance : TS Tryz.prog 25 9 := ⟨Tryz.underlying25⟩
instance : TZ Tryz.prog 26 1 := ⟨Tryz.sizeOf26⟩
instance : TA Tryz.prog 26 false := ⟨Tryz.isAgg26⟩
instance : TS Tryz.prog 26 3 := ⟨Tryz.underlying26⟩
instance : TZ Tryz.prog 30 1 := ⟨Tryz.sizeOf30⟩
instance : TA Tryz.prog 30 false := ⟨Tryz.isAgg30⟩
instance : TS Tryz.prog 30 171 := ⟨Tryz.underlying30⟩
instance : TZ Tryz.prog 32 3 := ⟨Tryz.sizeOf32⟩
instance : TA Tryz.prog 32 true := ⟨Tryz.isAgg32⟩
instance : ZC Tryz.prog 32 [.cv (.bool false), .cv (.slice none 0 0), .cv (.slice none 0 0)] := ⟨_, Tryz.zeroValue32, by first | exact ⟨rfl, rfl, rfl, trivial⟩⟩
instance : FA Tryz.prog 32 0 0 := ⟨_, _, _, Tryz.underlying32, rfl, Tryz.sizeOf4, by decide, rfl⟩
instance : FA Tryz.prog 32 1 1 := ⟨_, _, _, Tryz.underlying32, rfl, Tryz.sizeOf30, by decide, rfl⟩
instance : FA Tryz.prog 32 2 2 := ⟨_, _, _, Tryz.underlying32, rfl, Tryz.sizeOf30, by decide, rfl⟩
instance : BT Tryz.prog 32 [(0, 1), (1, 1), (2, 1)] [.cv (.bool false), .cv (.slice none 0 0), .cv (.slice none 0 0)] := ⟨_, _, Tryz.underlying32, Tryz.zeroValue32, fun _ => by kernel_rfl, by first | exact ⟨rfl, rfl, rfl, trivial⟩⟩
instance : TZ Tryz.prog 33 1 := ⟨Tryz.sizeOf33⟩
instance : TA Tryz.prog 33 false := ⟨Tryz.isAgg33⟩
instance : ZC Tryz.prog 33 [.cv (.int .i64 0)] := ⟨_, Tryz.zeroValue33, by first | exact ⟨rfl, trivial⟩⟩
instance : TA Tryz.prog 41 false := ⟨Tryz.isAgg41⟩
instance : TS Tryz.prog 41 59 := ⟨Tryz.underlying41⟩
instance : TZ Tryz.prog 43 1 := ⟨Tryz.sizeOf43⟩
instance : TA Tryz.prog 43 false := ⟨Tryz.isAgg43⟩
instance : TS Tryz.prog 43 50 := ⟨Tryz.underlying43⟩
instance : ZC Tryz.prog 43 [.cv (.slice none 0 0)] := ⟨_, Tryz.zeroValue43, by first | exact ⟨rfl, trivial⟩⟩
instance : TS Tryz.prog 46 52 := ⟨Tryz.underlying46⟩
instance : TZ Tryz.prog 50 4 := ⟨Tryz.sizeOf50⟩
instance : TA Tryz.prog 50 true := ⟨Tryz.isAgg50⟩
instance : ZC Tryz.prog 50 [.cv (.slice none 0 0), .cv (.bool false), .cv (.slice none 0 0), .cv (.slice none 0 0)] := ⟨_, Tryz.zeroValue50, by first | exact ⟨rfl, rfl, rfl, rfl, trivial⟩⟩
instance : FA Tryz.prog 50 0 0 := ⟨_, _, _, Tryz.underlying50, rfl, Tryz.sizeOf26, by decide, rfl⟩
instance : FA Tryz.prog 50 1 1 := ⟨_, _, _, Tryz.underlying50, rfl, Tryz.sizeOf32, by decide, rfl⟩
instance : BT Tryz.prog 50 [(0, 1), (1, 3)] [.cv (.slice none 0 0), .cv (.bool false), .cv (.slice none 0 0), .cv (.slice none 0 0)] := ⟨_, _, Tryz.underlying50, Tryz.zeroValue50, fun _ => by kernel_rfl, by first | exact ⟨rfl, rfl, rfl, rfl, trivial⟩⟩
instance : TZ Tryz.prog 52 4 := ⟨Tryz.sizeOf52⟩
instance : TA Tryz.prog 52 true := ⟨Tryz.isAgg52⟩
instance : ZC Tryz.prog 52 [.cv (.slice none 0 0), .cv (.bool false), .cv (.slice none 0 0), .cv (.slice none 0 0)] := ⟨_, Tryz.zeroValue52, by first | exact ⟨rfl, rfl, rfl, rfl, trivial⟩⟩
instance : FA Tryz.prog 52 0 0 := ⟨_, _, _, Tryz.underlying52, rfl, Tryz.sizeOf25, by decide, rfl⟩
instance : FA Tryz.prog 52 1 1 := ⟨_, _, _, Tryz.underlying52, rfl, Tryz.sizeOf32, by decide, rfl⟩
instance : TZ Tryz.prog 59 7 := ⟨Tryz.sizeOf59⟩
instance : TA Tryz.prog 59 true := ⟨Tryz.isAgg59⟩
instance : ZC Tryz.prog 59 [.cv (.slice none 0 0), .cv (.slice none 0 0), .cv (.slice none 0 0), .cv (.slice none 0 0), .cv (.bool false), .cv (.slice none 0 0), .cv (.slice none 0 0)] := ⟨_, Tryz.zeroValue59, by first | exact ⟨rfl, rfl, rfl, rfl, rfl, rfl, rfl, trivial⟩⟩
instance : FA Tryz.prog 59 0 0 := ⟨_, _, _, Tryz.underlying59, rfl, Tryz.sizeOf26, by decide, rfl⟩
instance : FA Tryz.prog 59 1 1 := ⟨_, _, _, Tryz.underlying59, rfl, Tryz.sizeOf26, by decide, rfl⟩
instance : FA Tryz.prog 59 2 2 := ⟨_, _, _, Tryz.underlying59, rfl, Tryz.sizeOf26, by decide, rfl⟩
instance : FA Tryz.prog 59 3 3 := ⟨_, _, _, Tryz.underlying59, rfl, Tryz.sizeOf26, by decide, rfl⟩
instance : FA Tryz.prog 59 4 4 := ⟨_, _, _, Tryz.underlying59, rfl, Tryz.sizeOf32, by decide, rfl⟩
instance : BT Tryz.prog 59 [(0, 1), (1, 1), (2, 1), (3, 1), (4, 3)] [.cv (.slice none 0 0), .cv (.slice none 0 0), .cv (.slice none 0 0), .cv (.slice none 0 0), .cv (.bool false), .cv (.slice none 0 0), .cv (.slice none 0 0)] := ⟨_, _, Tryz.underlying59, Tryz.zeroValue59, fun _ => by kernel_rfl, by first | exact ⟨rfl, rfl, rfl, rfl, rfl, rfl, rfl, trivial⟩⟩
instance : TZ Tryz.prog 85 1 := ⟨Tryz.sizeOf85⟩
instance : TA Tryz.prog 85 false := ⟨Tryz.isAgg85⟩
instance : TS Tryz.prog 85 32 := ⟨Tryz.underlying85⟩
instance : TZ Tryz.prog 87 5 := ⟨Tryz.sizeOf87⟩
instance : TA Tryz.prog 87 true := ⟨Tryz.isAgg87⟩
instance : ZC Tryz.prog 87 [.cv (.string ⟨#[]⟩), .cv (.slice none 0 0), .cv (.bool false), .cv (.slice none 0 0), .cv (.slice none 0 0)] := ⟨_, Tryz.zeroValue87, by first | exact ⟨rfl, rfl, rfl, rfl, rfl, trivial⟩⟩
instance : FA Tryz.prog 87 0 0 := ⟨_, _, _, Tryz.underlying87, rfl, Tryz.sizeOf9, by decide, rfl⟩
instance : FA Tryz.prog 87 1 1 := ⟨_, _, _, Tryz.underlying87, rfl, Tryz.sizeOf26, by decide, rfl⟩
instance : FA Tryz.prog 87 2 2 := ⟨_, _, _, Tryz.underlying87, rfl, Tryz.sizeOf32, by decide, rfl⟩
instance : BT Tryz.prog 87 [(0, 1), (1, 1), (2, 3)] [.cv (.string ⟨#[]⟩), .cv (.slice none 0 0), .cv (.bool false), .cv (.slice none 0 0), .cv (.slice none 0 0)] := ⟨_, _, Tryz.underlying87, Tryz.zeroValue87, fun _ => by kernel_rfl, by first | exact ⟨rfl, rfl, rfl, rfl, rfl, trivial⟩⟩
instance : TZ Tryz.prog 94 1 := ⟨Tryz.sizeOf94⟩
instance : TA Tryz.prog 94 false := ⟨Tryz.isAgg94⟩
instance : ZC Tryz.prog 94 [.cv .nilFunc] := ⟨_, Tryz.zeroValue94, by first | exact ⟨rfl, trivial⟩⟩
instance : TA Tryz.prog 100 false := ⟨Tryz.isAgg100⟩
instance : TS Tryz.prog 100 22 := ⟨Tryz.underlying100⟩
instance : TA Tryz.prog 110 false := ⟨Tryz.isAgg110⟩
instance : TS Tryz.prog 110 171 := ⟨Tryz.underlying110⟩
instance : TZ Tryz.prog 112 3 := ⟨Tryz.sizeOf112⟩
instance : TA Tryz.prog 112 true := ⟨Tryz.isAgg112⟩
instance : ZC Tryz.prog 112 [.cv (.bool false), .cv (.slice none 0 0), .cv (.slice none 0 0)] := ⟨_, Tryz.zeroValue112, by first | exact ⟨rfl, rfl, rfl, trivial⟩⟩
instance : FA Tryz.prog 112 0 0 := ⟨_, _, _, Tryz.underlying112, rfl, Tryz.sizeOf4, by decide, rfl⟩
instance : FA Tryz.prog 112 1 1 := ⟨_, _, _, Tryz.underlying112, rfl, Tryz.sizeOf110, by decide, rfl⟩
instance : FA Tryz.prog 112 2 2 := ⟨_, _, _, Tryz.underlying112, rfl, Tryz.sizeOf110, by decide, rfl⟩
instance : BT Tryz.prog 112 [(0, 1), (1, 1), (2, 1)] [.cv (.bool false), .cv (.slice none 0 0), .cv (.slice none 0 0)] := ⟨_, _, Tryz.underlying112, Tryz.zeroValue112, fun _ => by kernel_rfl, by first | exact ⟨rfl, rfl, rfl, trivial⟩⟩
instance : TZ Tryz.prog 121 1 := ⟨Tryz.sizeOf121⟩
instance : TA Tryz.prog 121 false := ⟨Tryz.isAgg121⟩
instance : ZC Tryz.prog 121 [.cv (.map none)] := ⟨_, Tryz.zeroValue121, by first | exact ⟨rfl, trivial⟩⟩
instance : TA Tryz.prog 128 false := ⟨Tryz.isAgg128⟩
instance : FA Tryz.prog 130 0 0 := ⟨_, _, _, Tryz.underlying130, rfl, Tryz.sizeOf24, by decide, rfl⟩
instance : FA Tryz.prog 130 1 1 := ⟨_, _, _, Tryz.underlying130, rfl, Tryz.sizeOf41, by decide, rfl⟩
instance : FA Tryz.prog 130 2 2 := ⟨_, _, _, Tryz.underlying130, rfl, Tryz.sizeOf26, by decide, rfl⟩
instance : FA Tryz.prog 130 3 3 := ⟨_, _, _, Tryz.underlying130, rfl, Tryz.sizeOf3, by decide, rfl⟩
instance : FA Tryz.prog 130 4 4 := ⟨_, _, _, Tryz.underlying130, rfl, Tryz.sizeOf128, by decide, rfl⟩
instance : BT Tryz.prog 130 [(0, 1), (1, 1), (2, 1), (3, 1), (4, 1)] [.cv (.slice none 0 0), .cv (.slice none 0 0), .cv (.slice none 0 0), .cv (.int .i64 0), .cv (.map none)] := ⟨_, _, Tryz.underlying130, Tryz.zeroValue130, fun _ => by kernel_rfl, by first | exact ⟨rfl, rfl, rfl, rfl, rfl, trivial⟩⟩
instance : TI Tryz.prog 137 .u64 := ⟨Tryz.underlying137⟩
instance : TD Tryz.prog 137 := ⟨_, Tryz.underlying137⟩
instance : TS Tryz.prog 147 26 := ⟨Tryz.underlying147⟩
instance : TS Tryz.prog 166 85 := ⟨Tryz.underlying166⟩
instance : TS Tryz.prog 167 170 := ⟨Tryz.underlying167⟩
instance : TZ Tryz.prog 170 5 := ⟨Tryz.sizeOf170⟩
instance : TA Tryz.prog 170 true := ⟨Tryz.isAgg170⟩
instance : ZC Tryz.prog 170 [.cv (.slice none 0 0), .cv (.int .i64 0), .cv (.bool false), .cv (.slice none 0 0), .cv (.slice none 0 0)] := ⟨_, Tryz.zeroValue170, by first | exact ⟨rfl, rfl, rfl, rfl, rfl, trivial⟩⟩
instance : FA Tryz.prog 170 0 0 := ⟨_, _, _, Tryz.underlying170, rfl, Tryz.sizeOf26, by decide, rfl⟩
instance : FA Tryz.prog 170 1 1 := ⟨_, _, _, Tryz.underlying170, rfl, Tryz.sizeOf3, by decide, rfl⟩
instance : FA Tryz.prog 170 2 2 := ⟨_, _, _, Tryz.underlying170, rfl, Tryz.sizeOf32, by decide, rfl⟩
instance : BT Tryz.prog 170 [(0, 1), (1, 1), (2, 3)] [.cv (.slice none 0 0), .cv (.int .i64 0), .cv (.bool false), .cv (.slice none 0 0), .cv (.slice none 0 0)] := ⟨_, _, Tryz.underlying170, Tryz.zeroValue170, fun _ => by kernel_rfl, by first | exact ⟨rfl, rfl, rfl, rfl, rfl, trivial⟩⟩
instance : TZ Tryz.prog 171 1 := ⟨Tryz.sizeOf171⟩
instance : TA Tryz.prog 171 false := ⟨Tryz.isAgg171⟩
instance : TI Tryz.prog 171 .u32 := ⟨Tryz.underlying171⟩
instance : TD Tryz.prog 171 := ⟨_, Tryz.underlying171⟩
instance : TS Tryz.prog 179 121 := ⟨Tryz.underlying179⟩
instance : TI Tryz.prog 185 .u64 := ⟨Tryz.underlying185⟩
instance : TD Tryz.prog 185 := ⟨_, Tryz.underlying185⟩
instance : TS Tryz.prog 219 220 := ⟨Tryz.underlying219⟩
instance : TZ Tryz.prog 220 1 := ⟨Tryz.sizeOf220⟩
instance : TA Tryz.prog 220 false := ⟨Tryz.isAgg220⟩
instance : TS Tryz.prog 220 4 := ⟨Tryz.underlying220⟩
instance : RT Tryz.prog 171 Nat rU 4 0 := ⟨Tryz.sizeOf171, _, _, ⟨Tryz.type171, rfl, rfl, rfl, rfl⟩, fun _ => ⟨rfl, trivial⟩⟩
instance : RT Tryz.prog 3 Int rI 8 0 := ⟨Tryz.sizeOf3, _, _, ⟨Tryz.type3, rfl, rfl, rfl, rfl⟩, fun _ => ⟨rfl, trivial⟩⟩
instance : RT Tryz.prog 4 Bool rB 1 false := ⟨Tryz.sizeOf4, _, _, ⟨Tryz.type4, rfl, rfl, rfl, rfl⟩, fun _ => ⟨rfl, trivial⟩⟩
instance : RT Tryz.prog 32 Fr rF 56 fr0 := ⟨Tryz.sizeOf32, _, _, ⟨Tryz.type32, rfl, rfl, rfl, rfl⟩, fun _ => ⟨rfl, nil_lv rfl, nil_lv rfl, trivial⟩⟩
instance : RT Tryz.prog 26 (List Int) (rL rI) 24 [] := ⟨Tryz.sizeOf26, _, _, ⟨Tryz.type26, rfl, rfl, rfl, rfl⟩, fun _ => ⟨nil_lv rfl, trivial⟩⟩
instance : MR Tryz.prog 85 24 := ⟨_, ⟨Tryz.type85, rfl, rfl, rfl, rfl⟩⟩
instance : MR Tryz.prog 220 24 := ⟨_, ⟨Tryz.type220, rfl, rfl, rfl, rfl⟩⟩
end Go.E3
set_option linter.unusedVariables false
namespace Go.E3
open Go Go.Ear
structure FrW where
  d : Nat
  S : Gh → SV
  T : Gh → Res
  T' : Gh → Res
section
variable (P : Program) (n : Nat) (X : Fix) (ms : List Nat) (env : EL) (ol : List Oper) (B : List Res) (k : Kt) (p a s m : Nat) (wo : Option MidW) (fr : FrW)
def EvOk (L : EL) (i : Nat) (o : Oper) : Option (Nat × SV) → Prop
  | some q => (i ≠ p ∧ i ≠ a ∧ i ≠ s) ∧ o.dst = some q.1 ∧ ((TriP P n X env B ol L o q.1 q.2 ∧ ∀ w, wo = some w → p < i → ∀ v, TriP P n X env (w.B2 v) ol L o q.1 q.2) ∨
      ∃ w, wo = some w ∧ reach ol 9 i p = true ∧ ∀ v, TriP P n X env (w.B2 v) ol ((w.d, w.S v) :: L) o q.1 q.2)
  | none => (i = p ∧ i ≠ a ∧ i ≠ s ∧ ∃ w, wo = some w ∧ o.dst = some w.d ∧ TriV P n X env B ol L o (some (w.d, w.S)) w.B2 ∧ ∀ γ, TriV P n X env (fr.T γ :: B) ol L o (some (w.d, w.S)) (fun v => fr.T γ :: w.B2 v)) ∨
    (i = a ∧ i ≠ p ∧ i ≠ s ∧ o.dst = some fr.d ∧ TriN P n X env B ol L o fr.d fr.S fr.T ∧ ∀ w, wo = some w → p < i → ∀ v, TriN P n X env (w.B2 v) ol L o fr.d fr.S fr.T) ∨
    (i = s ∧ i ≠ p ∧ i ≠ a ∧ o.dst = none ∧ (∀ γ, (fr.T γ).bor = false) ∧ (∀ γ, TriS P n X env B ol ((fr.d, fr.S γ) :: L) o γ fr.T fr.T') ∧ ∀ w, wo = some w → p < i → ∀ v γ, TriS P n X env (w.B2 v) ol ((fr.d, fr.S γ) :: L) o γ fr.T fr.T')
def GZEnd (L : EL) (rest : List Oper) : Prop := match wo with
  | none => ∀ γ, GO P n X ms ((fr.d, fr.S γ) :: L) env (fr.T' γ :: B) ol rest k
  | some w => ∀ γ v, GO P n X ms ((fr.d, fr.S γ) :: (w.d, w.S v) :: L) env (fr.T' γ :: w.B2 v) ol rest k
inductive GZ : EL → Nat → List Oper → Prop
  | pure {L i o rest} (q : Nat × SV) (h : EvOk P n X env ol B p a s wo fr L i o (some q)) (g : GZ (q :: L) (i + 1) rest) : GZ L i (o :: rest)
  | ev {L i o rest} (h : EvOk P n X env ol B p a s wo fr L i o none) (g : GZ L (i + 1) rest) : GZ L i (o :: rest)
  | fin {L rest} (g : GZEnd P n X ms env ol B k wo fr L rest) : GZ L m rest
end
section
variable {P : Program} {n : Nat} {X : Fix} {ms : List Nat} {env : EL} {ol : List Oper} {B : List Res} {k : Kt} {p a s m : Nat} {wo : Option MidW} {fr : FrW}
theorem GZ.sem {L : EL} {i : Nat} {rest : List Oper} (g : GZ P n X ms env ol B k p a s m wo fr L i rest) :
    ∃ res : List (Option (Nat × SV)), i + res.length = m ∧ res.length ≤ rest.length ∧ (∀ j e, res[j]? = some e → ∃ o, rest[j]? = some o ∧ EvOk P n X env ol B p a s wo fr (lcs (res.take j) ++ L) (i + j) o e) ∧ GZEnd P n X ms env ol B k wo fr (lcs res ++ L) (rest.drop res.length) := by
  induction g with
  | @pure L i o rest q h g ih =>
    obtain ⟨res, e, hle, hr, hg⟩ := ih
    refine ⟨some q :: res, by simp only [List.length_cons]; omega, by simp only [List.length_cons]; omega, fun j e hj => ?_, by rw [lcs_some]; simpa using hg⟩
    cases j with
    | zero => have hj : some q = e := by simpa using hj
              subst hj
              exact ⟨o, rfl, by simpa [lcs] using h⟩
    | succ j =>
      obtain ⟨o', x, y⟩ := hr j e (by simpa using hj)
      refine ⟨o', by simpa using x, ?_⟩
      rw [List.take_succ_cons, lcs_some, show i + (j + 1) = i + 1 + j by omega]; exact y
  | @ev L i o rest h g ih =>
    obtain ⟨res, e, hle, hr, hg⟩ := ih
    refine ⟨none :: res, by simp only [List.length_cons]; omega, by simp only [List.length_cons]; omega, fun j e hj => ?_, by rw [lcs_none]; simpa using hg⟩
    cases j with
    | zero => have hj : none = e := by simpa using hj
              subst hj
              exact ⟨o, rfl, by simpa [lcs] using h⟩
    | succ j =>
      obtain ⟨o', x, y⟩ := hr j e (by simpa using hj)
      refine ⟨o', by simpa using x, ?_⟩
      rw [List.take_succ_cons, lcs_none, show i + (j + 1) = i + 1 + j by omega]; exact y
  | @fin L rest g => exact ⟨[], by simp, by simp, fun j e hj => by simp at hj, by simpa [lcs] using g⟩
theorem reach_of_deps {ol : List Oper} {D : Nat → Prop} {i j f : Nat} {o : Oper} (hc : ∀ (k : Nat) (o : Oper), ol[k]? = some o → D k → ∀ j ∈ deps o, D j) (ho : ol[i]? = some o) (hd : ∀ j ∈ deps o, D j) (h : reach ol (f + 1) i j = true) : D j := by
  unfold reach at h
  obtain ⟨k, hk, hkj⟩ := List.any_eq_true.1 h
  rw [opA_eq ho] at hk
  rcases Bool.or_eq_true_iff.1 hkj with e | e
  · rw [← Nat.eq_of_beq_eq_true e]; exact hd k hk
  · exact reach_D hc e (hd k hk)
theorem okR_tl : ∀ {l : List Oper} {L E ex : List Nat} {m : Nat}, okR l L E = true → (∀ e ∈ ex, e ∈ L ∨ ∃ (j : Nat) (o : Oper), j < m ∧ l[j]? = some o ∧ o.dst = some e) → okR (l.drop m) ex E = true
  | l, L, E, ex, 0, h, hex => okR_swap (fun e he => by
      rw [← Bool.not_eq_true, memN_iff] at he ⊢
      intro hm
      rcases hex e hm with x | ⟨j, _, hj, _⟩
      · exact he x
      · omega) (fun _ _ x => x) h
  | [], _, _, _, _ + 1, _, _ => rfl
  | x :: l, L, E, ex, m + 1, h, hex => by
    rw [List.drop_succ_cons]
    cases hd : x.dst with
    | none =>
      refine okR_tl (L := L) (by unfold okR at h; rw [hd] at h; exact h) fun e he => ?_
      rcases hex e he with y | ⟨j, o, hj, hjo, hod⟩
      · exact .inl y
      · cases j with
        | zero => simp at hjo; subst hjo; rw [hd] at hod; cases hod
        | succ j => exact .inr ⟨j, o, by omega, by simpa using hjo, hod⟩
    | some d =>
      refine okR_tl (L := d :: L) (okR_some hd h).2.2 fun e he => ?_
      rcases hex e he with y | ⟨j, o, hj, hjo, hod⟩
      · exact .inl (List.mem_cons_of_mem _ y)
      · cases j with
        | zero => simp at hjo; subst hjo; rw [hd] at hod; cases hod; exact .inl (List.mem_cons_self ..)
        | succ j => exact .inr ⟨j, o, by omega, by simpa using hjo, hod⟩
theorem okR_tail {l : List Oper} {E ex : List Nat} {m : Nat} (h : okR l [] E = true) (hex : ∀ e ∈ ex, ∃ j o, j < m ∧ l[j]? = some o ∧ o.dst = some e) : okR (l.drop m) ex E = true :=
  okR_tl h fun e he => .inr (hex e he)
open Classical in
noncomputable def bW (wo : Option MidW) (p : Nat) (B : List Res) (D : Nat → Prop) (ρ : Env) : List Res := match wo with
  | some w => if D p then w.B2 (ρ w.d) else B
  | none => B
open Classical in
noncomputable def bF (fr : FrW) (a s : Nat) (D : Nat → Prop) (γ : Gh) : List Res := if D a then (if D s then [fr.T' γ] else [fr.T γ]) else []
theorem zdrop {w0 : World} {h : PH} {w : World} {D : Nat → Prop} {γ : Gh} {Bx : List Res} (o : OwnB w0 (bF fr a s D γ ++ Bx) h w) : OwnB w0 Bx h w := by
  unfold bF at o
  split at o
  · split at o <;> exact o.2.2.2
  · exact o
theorem fs_sound {loc : EL} {idn : Nat} (hmix : P.follows .mixedOrders = true) (hc : dagC ol m (env.map (·.1)) = true) (hnd : ol.all noDefer = true) (ham : a < m) (hsm : s < m) (hpm : ∀ w, wo = some w → p < m)
    (hpre : ∀ w, wo = some w → (List.range p).all (reach ol 9 p) = true) (hsa : reach ol 9 s a = true) (hsp : ∀ w, wo = some w → reach ol 9 s p = true) (g : GZ P n X ms env ol B k p a s m wo fr [] 0 ol) : GW P n X ms loc env B (.region idn ol.toArray true) k := ⟨fun ρ0 h1 wi si => by
  obtain ⟨res, hm0, hlen, hr, hend⟩ := g.sem
  rw [Nat.zero_add] at hm0
  have hr : ∀ j e, res[j]? = some e → ∃ o, ol[j]? = some o ∧ EvOk P n X env ol B p a s wo fr (lcs (res.take j) ++ []) j o e := fun j e hj => by have := hr j e hj; rwa [Nat.zero_add] at this
  unfold dagC at hc
  simp only [Bool.and_eq_true] at hc
  obtain ⟨⟨hok, hall⟩, htl⟩ := hc
  have hall := fun i (hi : i < m) => by have := List.all_eq_true.1 hall i (List.mem_range.2 hi); rw [Bool.and_eq_true, Bool.not_eq_true'] at this; exact this
  have htl := fun i (o : Oper) (ho : ol[i]? = some o) => by
    have := List.all_eq_true.1 htl i (List.mem_range.2 (List.getElem?_eq_some_iff.1 ho).1)
    rw [Bool.and_eq_true, opA_eq ho] at this; exact this
  have F := okR_facts hok
  have hpre := fun w (hw : wo = some w) i (hi : i < p) => List.all_eq_true.1 (hpre w hw) i (List.mem_range.2 hi)
  have hat : ∀ i, i < m → ∃ e, res[i]? = some e := fun i hi => ⟨_, List.getElem?_eq_getElem (by omega)⟩
  have hA : ∃ o, ol[a]? = some o ∧ o.dst = some fr.d := by
    obtain ⟨e, he⟩ := hat a ham
    obtain ⟨o, ho, ev⟩ := hr a e he
    cases e with
    | some q => exact absurd rfl ev.1.2.1
    | none =>
      rcases ev with ⟨_, h, _⟩ | ⟨_, _, _, h, _⟩ | ⟨_, _, h, _⟩
      · exact absurd rfl h
      · exact ⟨o, ho, h⟩
      · exact absurd rfl h
  obtain ⟨oa, hoa, hda⟩ := hA
  have hP : ∀ w, wo = some w → ∃ o, ol[p]? = some o ∧ o.dst = some w.d := fun w hw => by
    obtain ⟨e, he⟩ := hat p (hpm w hw)
    obtain ⟨o, ho, ev⟩ := hr p e he
    cases e with
    | some q => exact absurd rfl ev.1.1
    | none =>
      rcases ev with ⟨_, _, _, w', h1, h2, _⟩ | ⟨_, h, _⟩ | ⟨_, h, _⟩
      · rw [hw] at h1; cases h1; exact ⟨o, ho, h2⟩
      · exact absurd rfl h
      · exact absurd rfl h
  have hne : ∀ (i j : Nat) (o o' : Oper) (d : Nat), i ≠ j → ol[i]? = some o → ol[j]? = some o' → o.dst = some d → o'.dst ≠ some d := fun i j o o' d hij ho ho' hd hd' => by
    rcases Nat.lt_or_ge i j with a | a
    · exact (F j o' d ho' hd').2.2 i o a ho hd
    · exact (F i o d ho hd).2.2 j o' (by omega) ho' hd'
  have henv : ∀ i o, i < m → ol[i]? = some o → ∀ t S, (t, S) ∈ env → o.dst ≠ some t := fun i o hi ho t S ht e => by
    have a := hall i hi
    rw [opA_eq ho, e] at a
    have := a.1
    simp only at this
    rw [← Bool.not_eq_true, memN_iff] at this
    exact this (List.mem_map.2 ⟨_, ht, rfl⟩)
  refine WT.draw (K := fun ρ w => run X.c.round P X.T k .normal (mkX X.c n ρ) w) hnd ?_ fun _ _ x => x
  intro t
  unfold Region.schedule Region.linearise
  rw [hmix]
  simp only [Bool.true_or, if_true]
  generalize hw1 : ({ wi with drawn := _ } : World) = w1
  have sy0 : Sy X.h0 X.w0 loc env B ρ0 h1 w1 := by
    subst hw1
    exact si.grow ((Gr.refl si.gr.sat).drew _ (Nat.le_succ _))
  obtain ⟨ls, hl, hwp⟩ := lin_inv (P := P) (n := n) (m := m) (ops := ol.toArray) (Q := onlyN fun ρ w => run X.c.round P X.T k .normal (mkX X.c n ρ) w) (fun D ρ w => ∃ (h : PH) (γ : Gh), (Gr X.h0 X.w0 h w ∧ h1.le h) ∧ OwnB X.w0 (bF fr a s D γ ++ bW wo p B D ρ) h w ∧
      (∀ i q, D i → res[i]? = some (some q) → den h q.2 (ρ q.1)) ∧ (∀ s, (∀ k o, D k → ol[k]? = some o → o.dst ≠ some s) → ρ s = ρ0 s) ∧ (D p → ∀ w, wo = some w → den h (w.S (ρ w.d)) (ρ w.d)) ∧ (D a → den h (fr.S γ) (ρ fr.d))) (by simpa [← hm0] using hlen)
    (fun i o ho j hj => by
      have := List.all_eq_true.1 (htl i o (by simpa using ho)).1 j hj
      rw [blt_eq] at this; exact of_decide_eq_true this)
    (fun i o ho hmi j hj => by
      have ho : ol[i]? = some o := by simpa using ho
      have := (htl i o ho).2
      rw [Nat.ble_eq_true_of_le hmi] at this
      have := List.all_eq_true.1 this j (List.mem_range.2 hj)
      obtain ⟨x, hx, hxx⟩ := List.any_eq_true.1 this
      have hx := List.mem_range.1 hx
      have hsz := (List.getElem?_eq_some_iff.1 ho).1
      have ho' : ol[i - x]? = some (ol[i - x]'(by omega)) := List.getElem?_eq_getElem (by omega)
      rw [opA_eq ho'] at hxx
      exact ⟨i - x, ol[i - x]'(by omega), by omega, by omega, by rw [List.getElem?_toArray]; exact ho', by simpa using hxx⟩)
    (by
      rintro D ρ w i o ho him hi hd hcl hD ⟨h, γ, hg, how, hF, hold, hxS, hxA⟩
      have ho : ol[i]? = some o := by simpa using ho
      have hcl : ∀ (k : Nat) (o : Oper), ol[k]? = some o → D k → ∀ j ∈ deps o, D j := fun k o hk => hcl k o (by simpa using hk)
      have hnp : ∀ w, wo = some w → i < p → ¬ D p := fun w hw hlt hDp => hi (reach_D hcl (hpre w hw i hlt) hDp)
      have hsa' : D s → D a := fun h => reach_D hcl hsa h
      have hsp' : ∀ w, wo = some w → D s → D p := fun w hw h => reach_D hcl (hsp w hw) h
      have howB : OwnB X.w0 (bW wo p B D ρ) h w := zdrop how
      have fx0 : ∀ x ∈ looks ol o, ∀ t S, x = .tmp t → ((t, S) ∈ lcs (res.take i) ++ [] ∨ (t, S) ∈ env) → den h S (ρ t) := fun x hx t S hxt hmem => by
        subst hxt
        rcases hmem with hmem | hmem
        · rw [List.append_nil, List.mem_reverse, List.mem_filterMap] at hmem
          obtain ⟨qo, hqm, hent⟩ := hmem
          have hent : qo = some (t, S) := hent
          subst hent
          obtain ⟨j, hj⟩ := List.getElem?_of_mem hqm
          have hji : j < i := by
            rcases Nat.lt_or_ge j i with a | a
            · exact a
            · rw [List.getElem?_eq_none (by simp; omega)] at hj; cases hj
          rw [List.getElem?_take, if_pos hji] at hj
          obtain ⟨oj, hoj, _, hsj, _⟩ := hr j _ hj
          have hr2 := (hall i him).2
          unfold rdOk at hr2
          rw [opA_eq ho] at hr2
          have h2 := List.all_eq_true.1 hr2 _ hx
          simp only at h2
          have h3 := List.all_eq_true.1 h2 j (List.mem_range.2 hji)
          rw [opA_eq hoj, hsj] at h3
          simp only [beq_self, Bool.not_true, Bool.false_or] at h3
          exact hF j _ (hd j (by simpa using h3)) hj
        · rw [hold t fun k o' hk hok' => henv k o' (hD k hk) hok' t S hmem]
          exact (sy0.en.mem hmem).mono hg.2
      have sx : Sx X.h0 X.w0 (lcs (res.take i) ++ []) env (bW wo p B D ρ) (looks ol o) ρ h w := ⟨hg.1, fx0, howB⟩
      obtain ⟨e, he⟩ := hat i him
      obtain ⟨o', ho', ev⟩ := hr i e he
      rw [ho] at ho'; cases ho'
      have hbw : ∀ (d : Nat) (v : Value), i ≠ p → (∀ w, wo = some w → w.d ≠ d) → bW wo p B (fun k => k = i ∨ D k) (upd ρ d v) = bW wo p B D ρ := fun d v hip hd => by
        unfold bW
        cases hw : wo with
        | none => rfl
        | some w =>
          have hq := hd w hw
          simp only
          by_cases hDp : D p
          · rw [if_pos (.inr hDp), if_pos hDp, upd_ne _ _ hq]
          · rw [if_neg (fun x => x.elim (fun e => hip e.symm) hDp), if_neg hDp]
      have hbw0 : i ≠ p → bW wo p B (fun k => k = i ∨ D k) ρ = bW wo p B D ρ := fun hip => by
        unfold bW
        cases hw : wo with
        | none => rfl
        | some w =>
          simp only
          by_cases hDp : D p
          · rw [if_pos (.inr hDp), if_pos hDp]
          · rw [if_neg (fun x => x.elim (fun e => hip e.symm) hDp), if_neg hDp]
      have hbf : i ≠ a → i ≠ s → bF fr a s (fun k => k = i ∨ D k) γ = bF fr a s D γ := fun hia his => by
        unfold bF
        by_cases hDa : D a
        · rw [if_pos (.inr hDa), if_pos hDa]
          by_cases hDs : D s
          · rw [if_pos (.inr hDs), if_pos hDs]
          · rw [if_neg (fun x => x.elim (fun e => his e.symm) hDs), if_neg hDs]
        · rw [if_neg (fun x => x.elim (fun e => hia e.symm) hDa), if_neg hDa]
      have hwd : ∀ (d : Nat), i ≠ p → o.dst = some d → ∀ w, wo = some w → w.d ≠ d := fun d hip hod w hw e => by
        obtain ⟨op, hop, hod2⟩ := hP w hw
        exact hne i p o op d hip ho hop hod (by rw [hod2, e])
      have hrs : ∀ (d : Nat) (v : Value) (h' : PH), h.le h' → o.dst = some d → (∀ j q, D j → res[j]? = some (some q) → den h' q.2 (upd ρ d v q.1)) ∧ (∀ sl, (∀ k o', (k = i ∨ D k) → ol[k]? = some o' → o'.dst ≠ some sl) → upd ρ d v sl = ρ0 sl) := fun d v h' hle hod => by
        refine ⟨fun j q hDj hq => ?_, fun sl hs' => ?_⟩
        · have hji : i ≠ j := fun e => hi (e ▸ hDj)
          obtain ⟨oj, hoj, _, hsj, _⟩ := hr j _ hq
          rw [upd_ne _ _ fun e => hne i j o oj d hji ho hoj hod (by rw [hsj, e])]
          exact (hF j q hDj hq).mono hle
        · rw [upd_ne _ _ fun e => hs' i o (.inl rfl) ho (by rw [e]; exact hod)]
          exact hold sl fun k o' hk hok' => hs' k o' (.inr hk) hok'
      have hda' : ∀ (d : Nat), i ≠ a → o.dst = some d → fr.d ≠ d := fun d hia hod e => hne i a o oa d hia ho hoa hod (by rw [hda, e])
      cases e with
      | some q =>
        obtain ⟨⟨hip, hia, his⟩, hdq, hTq⟩ := ev
        have hTT : OpG P n ol.toArray o ρ w fun ρ' w' => ∃ v h', ρ' = upd ρ q.1 v ∧ Gr h w h' w' ∧ den h' q.2 v := by
          rcases hTq with ⟨hT1, hT2⟩ | ⟨wv, hwo, hrp, hT2⟩
          · have hTT : TriP P n X env (bW wo p B D ρ) ol (lcs (res.take i) ++ []) o q.1 q.2 := by
              unfold bW
              cases hw : wo with
              | none => exact hT1
              | some w =>
                simp only
                split
                · rename_i hDp
                  exact hT2 w hw (by
                    rcases Nat.lt_trichotomy i p with x | x | x
                    · exact absurd hDp (hnp w hw x)
                    · exact absurd x hip
                    · exact x) _
                · exact hT1
            exact hTT ρ h w sx
          · have hDp : D p := reach_of_deps hcl ho hd hrp
            have hbw1 : bW wo p B D ρ = wv.B2 (ρ wv.d) := by unfold bW; rw [hwo]; exact if_pos hDp
            rw [hbw1] at sx
            refine hT2 (ρ wv.d) ρ h w ⟨sx.gr, fun x hx t S hxt hmem => ?_, sx.ow⟩
            rcases hmem with hmem | hmem
            · rcases List.mem_cons.1 hmem with e | hmem
              · cases e; exact hxS hDp wv hwo
              · exact fx0 x hx t S hxt (.inl hmem)
            · exact fx0 x hx t S hxt (.inr hmem)
        refine hTT.mono ?_
        rintro ρ' w' ⟨v, h', rfl, gr, hv⟩
        obtain ⟨r1, r2⟩ := hrs q.1 v h' gr.le hdq
        refine ⟨h', γ, ⟨hg.1.trans gr, hg.2.trans gr.le⟩, (by rw [hbw q.1 v hip (hwd q.1 hip hdq), hbf hia his]; exact how.grow gr), fun j q' hj hq' => ?_, r2, fun hDp w hw => ?_, fun hDa => ?_⟩
        · by_cases hji : j = i
          · subst hji; rw [he] at hq'; cases hq'; rw [upd_at]; exact hv
          · exact r1 j q' (hj.resolve_left hji) hq'
        · rw [upd_ne _ _ (hwd q.1 hip hdq w hw)]
          exact (hxS (hDp.resolve_left fun e => hip e.symm) w hw).mono gr.le
        · rw [upd_ne _ _ (hda' q.1 hia hdq)]
          exact (hxA (hDa.resolve_left fun e => hia e.symm)).mono gr.le
      | none =>
        rcases ev with ⟨rfl, hia, his, wv, hwo, hdq, hT1, hT2⟩ | ⟨rfl, hip, his, hdq, hT1, hT2⟩ | ⟨rfl, hip, hia, hdq, hnb, hT1, hT2⟩
        · -- the write
          have hDs : ¬ D s := fun x => hi (hsp' wv hwo x)
          have hbw1 : bW wo i B D ρ = B := by unfold bW; rw [hwo]; exact if_neg hi
          have hbw2 : ∀ v, bW wo i B (fun k => k = i ∨ D k) (upd ρ wv.d v) = wv.B2 v := fun v => by unfold bW; rw [hwo]; simp only; rw [if_pos (Or.inl rfl), upd_at]
          rw [hbw1] at how sx
          have fin : ∀ (v : Value) (h' : PH) (w' : World), Gr X.h0 X.w0 h' w' → h.le h' → den h' (wv.S v) v → OwnB X.w0 (bF fr a s D γ ++ wv.B2 v) h' w' → ∃ (h' : PH) (γ : Gh), (Gr X.h0 X.w0 h' w' ∧ h1.le h') ∧ OwnB X.w0 (bF fr a s (fun k => k = i ∨ D k) γ ++ bW wo i B (fun k => k = i ∨ D k) (upd ρ wv.d v)) h' w' ∧
              (∀ j q, (j = i ∨ D j) → res[j]? = some (some q) → den h' q.2 (upd ρ wv.d v q.1)) ∧ (∀ s, (∀ k o, (k = i ∨ D k) → ol[k]? = some o → o.dst ≠ some s) → upd ρ wv.d v s = ρ0 s) ∧ ((i = i ∨ D i) → ∀ w, wo = some w → den h' (w.S (upd ρ wv.d v w.d)) (upd ρ wv.d v w.d)) ∧ ((a = i ∨ D a) → den h' (fr.S γ) (upd ρ wv.d v fr.d)) := fun v h' w' hgr hle hv hob => by
            obtain ⟨r1, r2⟩ := hrs wv.d v h' hle hdq
            refine ⟨h', γ, ⟨hgr, hg.2.trans hle⟩, (by rw [hbw2, hbf hia his]; exact hob), fun j q hj hq => ?_, r2, fun _ w hw => ?_, fun hDa => ?_⟩
            · have hji : j ≠ i := fun e => by rw [e, he] at hq; cases hq
              exact r1 j q (hj.resolve_left hji) hq
            · rw [hwo] at hw; cases hw; rw [upd_at]; exact hv
            · rw [upd_ne _ _ (hda' wv.d hia hdq)]
              exact (hxA (hDa.resolve_left fun e => hia e.symm)).mono hle
          by_cases hDa : D a
          · have hb : bF fr a s D γ = [fr.T γ] := by unfold bF; rw [if_pos hDa, if_neg hDs]
            rw [hb] at how fin
            refine (hT2 γ ρ h w ⟨hg.1, sx.fx, how⟩).mono ?_
            rintro ρ' w' ⟨v, h', ⟨rfl, hv⟩, hgr, hle, _, _, hob⟩
            exact fin v h' w' hgr hle hv hob
          · have hb : bF fr a s D γ = [] := by unfold bF; rw [if_neg hDa]
            rw [hb] at how fin
            refine (hT1 ρ h w ⟨hg.1, sx.fx, how⟩).mono ?_
            rintro ρ' w' ⟨v, h', ⟨rfl, hv⟩, hgr, hle, _, _, hob⟩
            exact fin v h' w' hgr hle hv hob
        · -- the variable is made
          have hDs : ¬ D s := fun x => hi (hsa' x)
          have hb : bF fr i s D γ = [] := by unfold bF; rw [if_neg hi]
          rw [hb] at how
          have hTT : TriN P n X env (bW wo p B D ρ) ol (lcs (res.take i) ++ []) o fr.d fr.S fr.T := by
            unfold bW
            cases hw : wo with
            | none => exact hT1
            | some w =>
              simp only
              split
              · rename_i hDp
                exact hT2 w hw (by
                  rcases Nat.lt_trichotomy i p with x | x | x
                  · exact absurd hDp (hnp w hw x)
                  · exact absurd x hip
                  · exact x) _
              · exact hT1
          refine (hTT ρ h w sx).mono ?_
          rintro ρ' w' ⟨v, gl, h', rfl, gr, hv, hpr, hfp⟩
          obtain ⟨r1, r2⟩ := hrs fr.d v h' gr.le hdq
          have hb2 : bF fr i s (fun k => k = i ∨ D k) ⟨v, gl⟩ = [fr.T ⟨v, gl⟩] := by
            unfold bF; rw [if_pos (Or.inl rfl), if_neg (fun x => x.elim (fun e => his e.symm) hDs)]
          refine ⟨h', ⟨v, gl⟩, ⟨hg.1.trans gr, hg.2.trans gr.le⟩, (by rw [hbw fr.d v hip (hwd fr.d hip hdq), hb2]; exact OwnB.new how gr hg.1.ext.size hpr hfp), fun j q hj hq => ?_, r2, fun hDp w hw => ?_, fun _ => ?_⟩
          · have hji : j ≠ i := fun e => by rw [e, he] at hq; cases hq
            exact r1 j q (hj.resolve_left hji) hq
          · rw [upd_ne _ _ (hwd fr.d hip hdq w hw)]
            exact (hxS (hDp.resolve_left fun e => hip e.symm) w hw).mono gr.le
          · rw [upd_at]; exact hv
        · -- it is filled
          have hDa : D a := reach_of_deps hcl ho hd hsa
          have hb : bF fr a i D γ = [fr.T γ] := by unfold bF; rw [if_pos hDa, if_neg hi]
          rw [hb] at how
          have sx2 : Sx X.h0 X.w0 ((fr.d, fr.S γ) :: (lcs (res.take i) ++ [])) env (bW wo p B D ρ) (looks ol o) ρ h w := ⟨hg.1, fun x hx t S hxt hmem => by
            rcases hmem with hmem | hmem
            · rcases List.mem_cons.1 hmem with e | hmem
              · cases e; exact hxA hDa
              · exact fx0 x hx t S hxt (.inl hmem)
            · exact fx0 x hx t S hxt (.inr hmem), howB⟩
          have hTT : TriS P n X env (bW wo p B D ρ) ol ((fr.d, fr.S γ) :: (lcs (res.take i) ++ [])) o γ fr.T fr.T' := by
            unfold bW
            cases hw : wo with
            | none => exact hT1 γ
            | some w =>
              simp only
              split
              · rename_i hDp
                exact hT2 w hw (by
                  rcases Nat.lt_trichotomy i p with x | x | x
                  · exact absurd hDp (hnp w hw x)
                  · exact absurd x hip
                  · exact x) _ γ
              · exact hT1 γ
          refine (hTT ρ h w sx2 how.1).mono ?_
          rintro ρ' w' ⟨rfl, b, ob, pt, hb1, hpr, hfp⟩
          have s2 := own_put (r' := fr.T' γ) (loc := []) (env := []) (ρ := ρ') (hnb γ) ⟨hg.1, trivial, trivial, how⟩ pt hpr hb1 hfp
          have hb2 : bF fr a i (fun k => k = i ∨ D k) γ = [fr.T' γ] := by
            unfold bF; rw [if_pos (Or.inr hDa), if_pos (Or.inl rfl)]
          refine ⟨h, γ, ⟨s2.gr, hg.2⟩, (by rw [hbw0 hip, hb2]; exact s2.ow), fun j q hj hq => ?_, fun sl hs' => hold sl fun k o' hk hok' => hs' k o' (.inr hk) hok', fun hDp w hw => hxS (hDp.resolve_left fun e => hip e.symm) w hw, fun _ => hxA hDa⟩
          have hji : j ≠ i := fun e => by rw [e, he] at hq; cases hq
          exact hF j q (hj.resolve_left hji) hq)
    (by
      rintro D D' ρ w hDD ⟨h, γ, a, b, c, d, e⟩
      have : D = D' := funext fun k => propext (hDD k)
      subst this
      exact ⟨h, γ, a, b, c, d, e⟩)
    (by
      rintro D ρ w hall2 hD ⟨h, γ, hg, how, hF, hold, hxS, hxA⟩
      have hDa := hall2 a ham
      have hDs := hall2 s hsm
      have hb : bF fr a s D γ = [fr.T' γ] := by unfold bF; rw [if_pos hDa, if_pos hDs]
      rw [hb] at how
      have hlo : ∀ l : List (Option (Nat × SV)), (∀ q, some q ∈ l → den h q.2 (ρ q.1)) → EnvOk h ρ (l.filterMap id) := fun l => by
        induction l with
        | nil => exact fun _ => trivial
        | cons q l ih =>
          cases q with
          | none => exact fun a => by simpa using ih fun q hq => a q (List.mem_cons_of_mem _ hq)
          | some q =>
            intro a
            show EnvOk h ρ (q :: l.filterMap id)
            exact ⟨a q (List.mem_cons_self ..), ih fun q hq => a q (List.mem_cons_of_mem _ hq)⟩
      have hloc : EnvOk h ρ (lcs res ++ []) := by
        rw [List.append_nil]
        have : lcs res = (res.reverse.filterMap id) := by rw [List.filterMap_reverse]
        rw [this]
        refine hlo _ fun q hq => ?_
        obtain ⟨i, hi⟩ := List.getElem?_of_mem (List.mem_reverse.1 hq)
        have him : i < m := by rw [← hm0]; exact (List.getElem?_eq_some_iff.1 hi).1
        exact hF i q (hall2 i him) hi
      have hen : EnvOk h ρ env := (sy0.en.mono hg.2).ext fun p hp => (hold p.1 fun k o' hk hok' => henv k o' (hD k hk) hok' p.1 p.2 hp).symm
      have hds : ∀ (ex : List Nat), (∀ e ∈ ex, ∃ j o, j < m ∧ ol[j]? = some o ∧ o.dst = some e) → okR (ol.drop m) (ex ++ (lcs res).map (·.1)) (env.map (·.1)) = true := fun ex hex =>
        okR_tail hok (fun e he => by
          rcases List.mem_append.1 he with x | x
          · exact hex e x
          · obtain ⟨q, hq, rfl⟩ := List.mem_map.1 x
            rw [List.mem_reverse, List.mem_filterMap] at hq
            obtain ⟨qo, hqm, hq2⟩ := hq
            have hq2 : qo = some q := hq2
            subst hq2
            obtain ⟨j, hj⟩ := List.getElem?_of_mem hqm
            obtain ⟨o, ho, _, hod, _⟩ := hr j _ hj
            exact ⟨j, o, by rw [← hm0]; exact (List.getElem?_eq_some_iff.1 hj).1, ho, hod⟩)
      have close : ∀ {L : EL} {Bx : List Res}, GO P n X ms L env Bx ol (ol.drop res.length) k → okR (ol.drop m) (L.map (·.1)) (env.map (·.1)) = true → EnvOk h ρ L → OwnB X.w0 Bx h w → wpOps P ol.toArray (toQ n (onlyN fun ρ w => run X.c.round P X.T k .normal (mkX X.c n ρ) w)) (List.range' m (ol.toArray.size - m)) (mk n ρ) w := fun {L Bx} hgo hk hL hB => by
        have hG := hgo.p (by rw [hm0]; exact hk) ρ h w ⟨hg.1, hL, hen, hB⟩
        rw [hm0] at hG
        have := wpList_of_Ops (Q := onlyN fun ρ w => run X.c.round P X.T k .normal (mkX X.c n ρ) w) (fun _ _ h => h) (ol.drop m) ρ w hG
        rw [← wpOps_eq_wpList (ol.drop m) m (by intro j; simp)] at this
        simpa using this
      have exa : ∃ j o, j < m ∧ ol[j]? = some o ∧ o.dst = some fr.d := ⟨a, oa, ham, hoa, hda⟩
      unfold GZEnd at hend
      cases hw : wo with
      | none =>
        rw [hw] at hend how
        refine close (hend γ) ?_ ⟨hxA hDa, hloc⟩ how
        have := hds [fr.d] fun e he => by rcases List.mem_singleton.1 he with rfl; exact exa
        simpa using this
      | some wv =>
        have hDp := hall2 p (hpm wv hw)
        have hbw : bW wo p B D ρ = wv.B2 (ρ wv.d) := by unfold bW; rw [hw]; exact if_pos hDp
        rw [hbw] at how
        rw [hw] at hend
        refine close (hend γ (ρ wv.d)) ?_ ⟨hxA hDa, hxS hDp wv hw, hloc⟩ how
        obtain ⟨op, hop, hod⟩ := hP wv hw
        have := hds [fr.d, wv.d] fun e he => by
          simp only [List.mem_cons, List.not_mem_nil, or_false] at he
          rcases he with rfl | rfl
          · exact exa
          · exact ⟨p, op, hpm wv hw, hop, hod⟩
        simpa using this)
    ol.toArray.size t (Array.replicate ol.toArray.size false) [] (by simp) (by intro i o ho hi; simp [Array.getElem?_replicate] at hi) (by intro i hi; simp [Array.getElem?_replicate] at hi)
    (by unfold left; exact Nat.le_trans (List.length_filter_le _ _) (by simp))
  rw [hl]
  simp only [List.reverse_nil, List.nil_append]
  have hD0 : ∀ i, ¬ (Array.replicate ol.toArray.size false)[i]? = some true := fun i => by rw [Array.getElem?_replicate]; split <;> simp
  refine hwp ρ0 w1 ⟨h1, ⟨undef, []⟩, ⟨sy0.gr, PH.le.refl h1⟩, by
    have e1 : bF fr a s (fun i => (Array.replicate ol.toArray.size false)[i]? = some true) ⟨undef, []⟩ = [] := if_neg (hD0 a)
    have e2 : bW wo p B (fun i => (Array.replicate ol.toArray.size false)[i]? = some true) ρ0 = B := by
      unfold bW
      cases wo with
      | none => rfl
      | some w => exact if_neg (hD0 p)
    rw [e1, e2]; exact sy0.ow, (fun i q hi => absurd hi (hD0 i)), fun _ _ => rfl, fun h => absurd h (hD0 p), fun h => absurd h (hD0 a)⟩⟩
theorem ltZ {a b : Nat} (h : Nat.blt a b = true) : a < b := by rw [blt_eq] at h; exact of_decide_eq_true h
theorem neZ {a b : Nat} (h : Nat.beq a b = false) : a ≠ b := fun e => by subst e; rw [beq_self] at h; exact Bool.noConfusion h
theorem gZs (sz a s m : Nat) (fr : FrW) {idn : Nat} {loc : EL} [mx : MixO P] (hs : Nat.beq ol.length sz = true) (c : (dagC ol m (env.map (·.1)) && ol.all noDefer && Nat.blt a m && Nat.blt s m && reach ol 9 s a) = true) (g : GZ P n X ms env ol B k m a s m none fr [] 0 ol) : GW P n X ms loc env B (.region idn ol.toArray true) k := by
  simp only [Bool.and_eq_true] at c
  exact fs_sound mx.h c.1.1.1.1 c.1.1.1.2 (ltZ c.1.1.2) (ltZ c.1.2) (fun w hw => by cases hw) (fun w hw => by cases hw) c.2 (fun w hw => by cases hw) g
section
variable {L loc : EL} {i d : Nat} {op : Op} {ty : TypeId} {pos : String} {af : Array Edge} {rest : List Oper} {sd : Prop} {S : SV}
theorem triQ [st : St P n true L env B ms d op sd S] (hs : sd) : TriP P n X env B ol L ⟨some d, op, ty, pos, af, none⟩ d S := triP (st := st) hs fun _ h => h
instance [e1 : RflE (Nat.beq i p) false] [e2 : RflE (Nat.beq i a) false] [e3 : RflE (Nat.beq i s) false] [st : St P n true L env B ms d op sd S] : Nx (GZ P n X ms env ol B k p a s m none fr L i (⟨some d, op, ty, pos, af, none⟩ :: rest)) sd (GZ P n X ms env ol B k p a s m none fr ((d, S) :: L) (i + 1) rest) := ⟨fun hs g => .pure (d, S) ⟨⟨neZ e1.h, neZ e2.h, neZ e3.h⟩, rfl, .inl ⟨triQ (st := st) hs, fun w hw => by cases hw⟩⟩ g⟩
end
section
variable {L loc : EL} {i d : Nat} {op : Op} {t et : TypeId} {ty : TypeId} {pos : String} {af : Array Edge} {rest : List Oper} {sd : Prop} {S : SV} {x o2 : Operand} {l l' cs : List SV} {T' : Gh → Res}
theorem triNa [zc : ZC P t l] : TriN P n X env B ol L ⟨some d, .alloc t, ty, pos, af, none⟩ d (fun g => ov g.v) (fun g => rV g.v l t) := fun ρ h w s => by
  obtain ⟨z, hz, hu⟩ := zc.h
  exact OpG.plain (OpW.allocO s.gr.sat hz rfl fun b w' g hn hlo hb => ⟨_, [], h, rfl, g, ⟨rfl, rfl⟩, ⟨b, _, rfl, hb, hu⟩, fun i hi => by cases hi; exact ⟨hlo, blk_lt hb, hn⟩⟩)
instance [e1 : RflE (Nat.beq i p) false] [e2 : RflE (Nat.beq i a) true] [e3 : RflE (Nat.beq i s) false] [zc : ZC P t l] : Nx (GZ P n X ms env ol B k p a s m wo ⟨d, fun g => ov g.v, fun g => rV g.v l t, T'⟩ L i (⟨some d, .alloc t, ty, pos, af, none⟩ :: rest)) True (GZ P n X ms env ol B k p a s m wo ⟨d, fun g => ov g.v, fun g => rV g.v l t, T'⟩ L (i + 1) rest) :=
  ⟨fun _ g => .ev (.inr (.inl ⟨Nat.eq_of_beq_eq_true e2.h, neZ e1.h, neZ e3.h, rfl, triNa (zc := zc), fun _ _ _ _ => triNa (zc := zc)⟩)) g⟩
theorem triSt {sz : Nat} {γ : Gh} [bl : RflE (Nat.ble n d) false] [ly : Lu n true L env o2 (.ag cs)] [sp : Spl l 0 cs l'] [tz : TZ P t sz] [ml : RflE cs.length sz] [oc : O1L cs] : TriS P n X env B ol ((d, ov γ.v) :: L) ⟨none, .store t (.tmp d) o2, ty, pos, af, none⟩ γ (fun g => rV g.v l et) (fun g => rV g.v l' et) := fun ρ h w s pr => by
  have hx : (ρ d) = γ.v := (s.fx (.tmp d) (by simp [looks, Op.operands]) d _ rfl (.inl (List.mem_cons_self ..))).1
  obtain ⟨vs, hy, uc⟩ := ly.h rfl ((s.sub (os' := [o2]) (fun x hx => by simp [looks, Op.operands] at hx ⊢; exact .inr hx) fun e he => List.mem_cons_of_mem _ he).fx o2 (by simp))
  obtain ⟨b, arr, ev_, hb, ud⟩ := pr
  have hsz := ud.length
  simp only [Array.length_toList] at hsz
  have hfit := sp.h.2
  have hc := uc.length
  have hm := ml.h
  refine OpG.plain (OpW.storeA tz.h (b := b) (off := 0) (by omega) ?_ hy (uc.one oc.h) hb (by omega) fun w' p => ⟨rfl, b, _, p, ev_, ⟨b, _, ev_, p.at_, splice_den ud uc sp.h.1 sp.h.2⟩, fun i hi => hi⟩)
  show ev n ρ (.tmp d) = _
  rw [← ev_, ← hx]; show (bif Nat.blt d n then ρ d else undef) = ρ d; rw [blt_of bl.h]; rfl
instance {sz : Nat} [e1 : RflE (Nat.beq i p) false] [e2 : RflE (Nat.beq i a) false] [e3 : RflE (Nat.beq i s) true] [bl : RflE (Nat.ble n d) false] [ly : Lu n true L env o2 (.ag cs)] [sp : Spl l 0 cs l'] [tz : TZ P t sz] [ml : RflE cs.length sz] [oc : O1L cs] : Nx (GZ P n X ms env ol B k p a s m wo ⟨d, fun g => ov g.v, fun g => rV g.v l et, fun g => rV g.v l' et⟩ L i (⟨none, .store t (.tmp d) o2, ty, pos, af, none⟩ :: rest)) True (GZ P n X ms env ol B k p a s m wo ⟨d, fun g => ov g.v, fun g => rV g.v l et, fun g => rV g.v l' et⟩ L (i + 1) rest) :=
  ⟨fun _ g => .ev (.inr (.inr ⟨Nat.eq_of_beq_eq_true e3.h, neZ e1.h, neZ e2.h, rfl, fun _ => rfl, fun γ => triSt (bl := bl) (ly := ly) (sp := sp) (tz := tz) (ml := ml) (oc := oc), fun _ _ _ _ γ => triSt (bl := bl) (ly := ly) (sp := sp) (tz := tz) (ml := ml) (oc := oc)⟩)) g⟩
instance (priority := high) {d2 : Nat} [e1 : RflE (Nat.beq i m) true] : Nx (GZ P n X ms env ol B k p a s m none ⟨d2, fun g => ov g.v, fun g => rV g.v l t, fun g => rV g.v l' et⟩ L i rest) True (∀ v, GO P n X ms ((d2, .cn true (ov v)) :: L) env (rV v l' et :: B) ol rest k) := ⟨fun _ g => by
  have e := Nat.eq_of_beq_eq_true e1.h
  subst e
  exact .fin fun γ => ⟨fun ok ρ h w s => (g γ.v).p ok ρ h w ⟨s.gr, ⟨⟨fun _ => s.lo.1, fun e => by cases e⟩, s.lo.2⟩, s.en, s.ow⟩⟩⟩
end
end
end Go.E3
set_option linter.unusedVariables false
namespace Go.E3
open Go Go.Ear
section
variable {P : Program} {n : Nat} {X : Fix} {ms : List Nat} {loc env : EL} {B : List Res} {k : Kt} {ol rest : List Oper} {d : Nat} {ty : TypeId} {pos : String} {af : Array Edge} {sd : Prop} {g : Option (Nat × Bool)}
end
section
variable (P : Program) (n : Nat) (X : Fix) (ms : List Nat) (env : EL) (ol : List Oper) (B : List Res) (k : Kt) (p m : Nat) (wv : MidW)
def Ev1 (L : EL) (i : Nat) (o : Oper) : Option (Nat × SV) → Prop
  | some q => i ≠ p ∧ o.dst = some q.1 ∧ ((TriP P n X env B ol L o q.1 q.2 ∧ (p < i → ∀ v, TriP P n X env (wv.B2 v) ol L o q.1 q.2)) ∨ (reach ol 9 i p = true ∧ ∀ v, TriP P n X env (wv.B2 v) ol ((wv.d, wv.S v) :: L) o q.1 q.2))
  | none => i = p ∧ o.dst = some wv.d ∧ TriV P n X env B ol L o (some (wv.d, wv.S)) wv.B2
inductive GW1 : EL → Nat → List Oper → Prop
  | pure {L i o rest} (q : Nat × SV) (h : Ev1 P n X env ol B p wv L i o (some q)) (g : GW1 (q :: L) (i + 1) rest) : GW1 L i (o :: rest)
  | ev {L i o rest} (h : Ev1 P n X env ol B p wv L i o none) (g : GW1 L (i + 1) rest) : GW1 L i (o :: rest)
  | fin {L rest} (g : ∀ v, GO P n X ms ((wv.d, wv.S v) :: L) env (wv.B2 v) ol rest k) : GW1 L m rest
end
section
variable {P : Program} {n : Nat} {X : Fix} {ms : List Nat} {env : EL} {ol : List Oper} {B : List Res} {k : Kt} {p m : Nat} {wv : MidW}
theorem GW1.sem {L : EL} {i : Nat} {rest : List Oper} (g : GW1 P n X ms env ol B k p m wv L i rest) :
    ∃ res : List (Option (Nat × SV)), i + res.length = m ∧ res.length ≤ rest.length ∧ (∀ j e, res[j]? = some e → ∃ o, rest[j]? = some o ∧ Ev1 P n X env ol B p wv (lcs (res.take j) ++ L) (i + j) o e) ∧ ∀ v, GO P n X ms ((wv.d, wv.S v) :: (lcs res ++ L)) env (wv.B2 v) ol (rest.drop res.length) k := by
  induction g with
  | @pure L i o rest q h g ih =>
    obtain ⟨res, e, hle, hr, hg⟩ := ih
    refine ⟨some q :: res, by simp only [List.length_cons]; omega, by simp only [List.length_cons]; omega, fun j e hj => ?_, by rw [lcs_some]; simpa using hg⟩
    cases j with
    | zero => have hj : some q = e := by simpa using hj
              subst hj
              exact ⟨o, rfl, by simpa [lcs] using h⟩
    | succ j =>
      obtain ⟨o', x, y⟩ := hr j e (by simpa using hj)
      refine ⟨o', by simpa using x, ?_⟩
      rw [List.take_succ_cons, lcs_some, show i + (j + 1) = i + 1 + j by omega]; exact y
  | @ev L i o rest h g ih =>
    obtain ⟨res, e, hle, hr, hg⟩ := ih
    refine ⟨none :: res, by simp only [List.length_cons]; omega, by simp only [List.length_cons]; omega, fun j e hj => ?_, by rw [lcs_none]; simpa using hg⟩
    cases j with
    | zero => have hj : none = e := by simpa using hj
              subst hj
              exact ⟨o, rfl, by simpa [lcs] using h⟩
    | succ j =>
      obtain ⟨o', x, y⟩ := hr j e (by simpa using hj)
      refine ⟨o', by simpa using x, ?_⟩
      rw [List.take_succ_cons, lcs_none, show i + (j + 1) = i + 1 + j by omega]; exact y
  | @fin L rest g => exact ⟨[], by simp, by simp, fun j e hj => by simp at hj, by simpa [lcs] using g⟩
section
variable {L loc : EL} {i d : Nat} {op : Op} {t et : TypeId} {ty : TypeId} {pos : String} {af : Array Edge} {rest : List Oper} {sd : Prop} {S : SV} {x o2 : Operand}
end
end
end Go.E3
set_option linter.unusedVariables false
namespace Go.Ear
open Go
section
variable {P : Program} {w : World}
theorem run_appendF {lo : Nat} {h : PH} {t ty e : TypeId} {i : TypeInfo} {z : Value} {x : Value} {len m : Nat} {xs ys : List Value} {base0 : Option Addr}
    (ht : P.underlying t = some (.slice e)) (hi : P.info? e = some i) (hz : i.zero = some z) (hzs : z.cells.size = i.size)
    (hs : Sat h w) (hlo : lo ≤ w.heap.size) (r0 : Reads w (.slice base0 len len) len i.size xs) (r : Reads w x m i.size ys) (hm : 1 ≤ m)
    (h63 : len + m ≤ 9223372036854775807) (hb : (len + m) * i.bytes ≤ 140737488355328) :
    ∃ v' w', (Builtin.append_ #[t, t] ty #[.slice base0 len len, x]).run P w = .ok v' w' ∧ Own lo h w' e i.size v' (len + m) (xs ++ ys) ∧ Ow w w' none ∧
      (∀ b, Value.blk v' = some b → w.heap.size ≤ b) := by
  have hrl := r.1
  have hr0 := r0.1
  obtain ⟨base, c, rfl, hrx⟩ := r.2
  have hlen : (xs ++ ys).length = (len + m) * i.size := by rw [List.length_append, hr0, hrl, Nat.add_mul]
  have hold : (Builtin.firstCells i.size len (.slice base0 len len)).run P w.drew = .ok xs.toArray w.drew := run_firstCells (P := P) (r0.drew _)
  have hgt : len + m > len := by omega
  have hn : ¬ (len + m ≤ len) := by omega
  have h63' : ¬ (9223372036854775807 < ((len : Int) + (m : Int))) := by omega
  have hfit := growslice_fits (need := len + m) (old := len) (bytes := i.bytes) hgt hb
  have h48 : ¬ (281474976710656 < Builtin.nextslicecap (len + m) len * i.bytes) := by omega
  have hfc' : (Builtin.firstCells i.size m (.slice base m c)).run P w.drew = .ok ys.toArray w.drew := run_firstCells (P := P) (r.drew _)
  have hge := grownCap_ge w (len + m) len e
  refine ⟨.slice (some ⟨w.heap.size, 0, none⟩) (len + m) (grownCap w (len + m) len e), w.drew.alloc (.cells (xs.toArray ++ ys.toArray ++ Builtin.zeroCells z.cells (grownCap w (len + m) len e - (len + m))) e), ?_, ⟨hlen, .inr ⟨w.heap.size, _, _, rfl, hlo, hs.fresh, heap_alloc_new w.drew _, hge, ?_, ?_⟩⟩, ⟨rfl, rfl, rfl, by simp, fun k hk _ => heap_alloc_old w.drew _ hk, Nat.le_succ _⟩, fun b hb' => by simp [Value.blk] at hb'; omega⟩
  · simp [Builtin.append_, run_underlying ht, sizeOf, typeInfo, zeroValue, hi, hz, Builtin.lenOf, hn, h63', h48, Question.forced, newRow, grownCap, hold, hfc', Array.append_assoc]
    try (rw [← List.append_toArray, Array.append_assoc])
  · simp only [Array.size_append, List.size_toArray, size_zeroCells, hzs, hr0, hrl, ← Nat.add_mul]
    congr 1; omega
  · simp only [Array.toList_append]
    rw [← hlen]
    exact List.take_left
end
end Go.Ear
namespace Go.E3
open Go Go.Ear
def flv {α : Type} (r : Rp α) (l : List α) : SV := .kv ⟨fun h v => LR r h v l ∧ ∃ a, v = .slice a l.length l.length, fun {h v} u => by obtain ⟨b, c, rfl, _⟩ := u.1.shape; rfl, fun e u => ⟨u.1.mono e, u.2⟩⟩
section
variable {P : Program} {n : Nat} {X : Fix} {ms : List Nat} {loc env : EL} {B : List Res} {k : Kt} {ol rest : List Oper} {d d1 d2 : Nat} {ty ty1 ty2 : TypeId} {pos pos1 pos2 : String} {af af1 af2 : Array Edge} {α : Type} {r : Rp α} {bb : Nat} {d0 : α} {q q' : List α} {t e : TypeId} {o1 o2 : Operand}
instance [ts : TS P t e] [rt : RT P e α r bb d0] [lx : Lu n true loc env o1 (flv r q)] [ly : Lu n true loc env o2 (lv r q')] : Nx (GO P n X ms loc env B ol (⟨some d, .call ⟨.builtin .append, [o1, o2].toArray, [t, t].toArray⟩, ty, pos, af, none⟩ :: rest) k) (1 ≤ q'.length ∧ q.length + q'.length ≤ 9223372036854775807 ∧ (q.length + q'.length) * bb ≤ 140737488355328) (∀ v', GO P n X ms ((d, ov v') :: loc) env (rA r e v' (q ++ q') :: B) ol rest k) := ⟨fun hs f => ⟨fun ok ρ h w s => by
  obtain ⟨h1, h2, h3⟩ := okR_some rfl ok
  obtain ⟨z, ti, el, hz⟩ := rt.e
  obtain ⟨hx, a, hxa⟩ := lx.h rfl ((s.x [o1]).fx o1 (by simp))
  have hy := ly.h rfl ((s.x [o2]).fx o2 (by simp))
  obtain ⟨css, s1, rr1⟩ := hx
  obtain ⟨css2, s2, rr2⟩ := hy
  rw [← el.hk] at s1 s2
  have rd1 := s1.reads s.gr.sat
  have rd2 := s2.reads s.gr.sat
  rw [rr1.length] at rd1
  rw [rr2.length] at rd2
  rw [hxa] at rd1
  obtain ⟨v', w', hr, o, ow, hbl⟩ := run_appendF (P := P) (ty := ty) (lo := 0) ts.h el.hi el.hz el.hc s.gr.sat (Nat.zero_le _) rd1 rd2 hs.1 hs.2.1 (by rw [el.hb]; exact hs.2.2)
  refine Ops.cons (OpW.valD (v := v') (w' := w') ?_ ?_)
  · simp only [execOp, resolve, invoke, builtin, Sem.run_bind, Sem.run_pure, Result.andThen, List.map_toArray, List.map_cons, List.map_nil, hxa, hr]
  · have own : OwnL r 0 h w' e v' (q ++ q') := ⟨css ++ css2, by rw [List.flatten_append, List.length_append, ← el.hk]; exact o, rr1.append rr2⟩
    have s' : Sy X.h0 X.w0 loc env (rA r e (.slice none 0 0) [] :: B) ρ h w := ⟨s.gr, s.lo, s.en, OwnL.nil r 0 h w e, (fun i hi => by cases hi), (fun r' hr' i hi => by cases hi), s.ow⟩
    exact (f v').p h3 _ _ _ ((own_app s' own ow fun b hb => .inr (hbl b hb)).set ⟨rfl, own_one own⟩ h1 (h2 rfl))⟩⟩
end
end Go.E3
set_option linter.unusedVariables false
set_option maxHeartbeats 4000000
namespace Go.E3
open Go Go.Ear
theorem bbq {a b : ByteArray} : (a == b) = decide (a = b) := by
  rw [beq_toListBytes, Bool.eq_iff_iff, beq_iff_eq, decide_eq_true_iff, ByteArray.toList_eq, ByteArray.toList_eq]
  refine ⟨fun h => ?_, fun h => by rw [h]⟩
  cases a; cases b
  simpa using h
theorem bb_self (a : ByteArray) : (a == a) = true := by rw [bbq]; simp
theorem bb_ne {a b : ByteArray} (h : a ≠ b) : (a == b) = false := by rw [bbq]; simpa using h
section
variable {α : Type}
def MRows (f : α → SV) (h : PH) : List MapEntry → List (ByteArray × α) → Prop
  | [], [] => True
  | e :: es, x :: l => (e.key = .string x.1 ∧ den h (f x.2) e.val) ∧ MRows f h es l
  | _, _ => False
theorem MRows.mono {f : α → SV} {h h' : PH} (le : h.le h') : ∀ {es : List MapEntry} {l : List (ByteArray × α)}, MRows f h es l → MRows f h' es l
  | [], [], _ => trivial
  | _ :: _, _ :: _, u => ⟨⟨u.1.1, u.1.2.mono le⟩, MRows.mono le u.2⟩
theorem MRows.length {f : α → SV} {h : PH} : ∀ {es : List MapEntry} {l : List (ByteArray × α)}, MRows f h es l → es.length = l.length
  | [], [], _ => rfl
  | _ :: _, _ :: _, u => by simp [MRows.length u.2]
theorem MRows.app {f : α → SV} {h : PH} : ∀ {es es2 : List MapEntry} {l l2 : List (ByteArray × α)}, MRows f h es l → MRows f h es2 l2 → MRows f h (es ++ es2) (l ++ l2)
  | [], _, [], _, _, v => v
  | _ :: _, _, _ :: _, _, u, v => ⟨u.1, MRows.app u.2 v⟩
def mget (l : List (ByteArray × α)) (k : ByteArray) : Option α := (l.find? fun x => x.1 == k).map (·.2)
def mset : List (ByteArray × α) → ByteArray → α → List (ByteArray × α)
  | [], k, x => [(k, x)]
  | y :: l, k, x => if y.1 == k then (k, x) :: l else y :: mset l k x
def MpOk (f : α → SV) (h : PH) (w : World) (b : Nat) (l : List (ByteArray × α)) : Prop := ∃ es clock, w.heap[b]? = some (.map es clock) ∧ MRows f h es.toList l ∧ (es.toList.map (·.born)).Nodup ∧ ∀ e ∈ es.toList, e.born < clock
def rM' (f : α → SV) (v : Value) (l : List (ByteArray × α)) : Res where
  fp := fun i => v = .map (some i)
  pr := fun h w => ∃ b, v = .map (some b) ∧ MpOk f h w b l
  st := fun {h w h' w'} le hw hn ⟨b, e, es, clock, h1, h2, h3⟩ => ⟨b, e, es, clock, by rw [hw b e]; exact h1, h2.mono le, h3⟩
  fz := fun _ => True
  fzm := fun _ _ => trivial
  frz := fun {h0 w0 h w} g _ _ => ⟨h, g, PH.le.refl h, fun _ x _ => x, trivial⟩
theorem findNow_some {k : ByteArray} : ∀ {es : List MapEntry} {l : List (ByteArray × α)} {f : α → SV} {h : PH} (i : Nat), MRows f h es l →
    (∃ j e x, Instr.findNow .string (.string k) es i = some (some (i + j, e.val)) ∧ es[j]? = some e ∧ l[j]? = some (k, x) ∧ (l.find? fun y => y.1 == k) = some (k, x)) ∨ (Instr.findNow .string (.string k) es i = some none ∧ (l.find? fun y => y.1 == k) = none)
  | [], [], f, h, i, _ => .inr ⟨rfl, rfl⟩
  | e :: es, x :: l, f, h, i, u => by
    unfold Instr.findNow
    rw [u.1.1]
    simp only [Instr.sameNow]
    by_cases hk : k = x.1
    · left
      refine ⟨0, e, x.2, ?_, rfl, by rw [hk]; rfl, ?_⟩
      · subst hk; rw [bb_self]; rfl
      · rw [List.find?_cons]; subst hk; rw [bb_self]
    · have hb : (k == x.1) = false := bb_ne hk
      have hb2 : (x.1 == k) = false := bb_ne fun e => hk e.symm
      simp only [hb]
      rcases findNow_some (k := k) (i + 1) u.2 with ⟨j, e', x', h1, h2, h3, h4⟩ | ⟨h1, h2⟩
      · left
        refine ⟨j + 1, e', x', by rw [h1]; congr 3; omega, by simpa using h2, by simpa using h3, ?_⟩
        rw [List.find?_cons, hb2]; exact h4
      · right
        exact ⟨h1, by rw [List.find?_cons, hb2]; exact h2⟩
theorem upd_rows {f : α → SV} {h : PH} {k : ByteArray} {x : α} {v : Value} (hv : den h (f x) v) : ∀ {es : List MapEntry} {l : List (ByteArray × α)} (i : Nat), MRows f h es l →
    (∃ (j : Nat) (e : MapEntry), Instr.findNow .string (.string k) es i = some (some (i + j, e.val)) ∧ es[j]? = some e ∧ e.key = .string k ∧ MRows f h (es.modify j fun e => { e with key := .string k, val := v }) (mset l k x)) ∨
    (Instr.findNow .string (.string k) es i = some none ∧ ∀ c, MRows f h (es ++ [⟨.string k, v, c⟩]) (mset l k x))
  | [], [], i, _ => .inr ⟨rfl, fun c => ⟨⟨rfl, hv⟩, trivial⟩⟩
  | e :: es, y :: l, i, u => by
    unfold Instr.findNow
    rw [u.1.1]
    simp only [Instr.sameNow]
    by_cases hk : k = y.1
    · left
      subst hk
      refine ⟨0, e, by rw [bb_self]; rfl, rfl, u.1.1, ?_⟩
      unfold mset
      rw [bb_self]
      exact ⟨⟨rfl, hv⟩, u.2⟩
    · have hb : (k == y.1) = false := bb_ne hk
      have hb2 : (y.1 == k) = false := bb_ne fun e => hk e.symm
      simp only [hb]
      rcases upd_rows hv (i + 1) u.2 with ⟨j, e', h1, h2, h3, h4⟩ | ⟨h1, h2⟩
      · left
        refine ⟨j + 1, e', by rw [h1]; congr 3; omega, by simpa using h2, h3, ?_⟩
        unfold mset
        rw [hb2]
        exact ⟨u.1, h4⟩
      · right
        refine ⟨h1, fun c => ?_⟩
        unfold mset
        rw [hb2]
        exact ⟨u.1, h2 c⟩
end
class MpT (P : Program) (t : TypeId) (α : outParam Type) (f : outParam (α → SV)) (x0 : outParam α) : Prop where
  h : ∃ kt et z, IsUnd P t (.map kt et) ∧ IsUnd P kt .string ∧ IsZero P et z ∧ ∀ h, den h (f x0) z
class HM (B : List Res) (v : Value) (α : outParam Type) (f : outParam (α → SV)) (l : outParam (List (ByteArray × α))) : Prop where h : ∀ {w0 h w}, OwnB w0 B h w → ∃ b, v = .map (some b) ∧ MpOk f h w b l
class PM (B : List Res) (v : Value) (α : outParam Type) (f : outParam (α → SV)) (l : outParam (List (ByteArray × α))) (B' : outParam (List Res)) : Prop where h : Sb B (rM' f v l :: B')
section
variable {α : Type} {f : α → SV} {v : Value} {l : List (ByteArray × α)} {B B' : List Res}
instance : HM (rM' f v l :: B) v α f l := ⟨fun o => o.1⟩
instance (priority := 50) {x : Res} [i : HM B v α f l] : HM (x :: B) v α f l := ⟨fun o => i.h o.2.2.2⟩
instance : PM (rM' f v l :: B) v α f l B := ⟨.refl _⟩
instance (priority := 50) {x : Res} [i : PM B v α f l B'] : PM (x :: B) v α f l (x :: B') := ⟨(i.h.cons x).trans (.perm (List.Perm.swap ..))⟩
end
section
variable {P : Program} {n : Nat} {ρ : Env} {w : World} {K : Env → World → Prop} {d : Nat} {ty : TypeId} {pos : String} {af : Array Edge} {g : Option (Nat × Bool)} {α : Type} {f : α → SV} {h : PH} {l : List (ByteArray × α)} {t kt et : TypeId} {x y z : Operand} {b : Nat} {k : ByteArray} {zv : Value} {es : Array MapEntry} {clock : Nat}
theorem OpW.makeM (hk : K (upd ρ d (.map (some w.heap.size))) (newW w (.map #[] 0))) : OpW P n ⟨some d, .makeMap t none, ty, pos, af, g⟩ ρ w K := by
  refine OpW.valD (v := .map (some w.heap.size)) (w' := newW w (.map #[] 0)) ?_ hk
  simp only [execOp, Option.map_none, Instr.makeMap, Sem.run_bind]
  rfl
theorem OpW.lookupM {ok : Bool} (ht : IsUnd P t (.map kt et)) (hkt : IsUnd P kt .string) (hz : IsZero P et zv) (hx : ev n ρ x = .map (some b)) (hy : ev n ρ y = .string k) (hb : w.heap[b]? = some (.map es clock)) (rows : MRows f h es.toList l)
    (h1 : ∀ v a, mget l k = some a → den h (f a) v → K (upd ρ d (bif ok then .tuple #[v, .bool true] else v)) w) (h2 : mget l k = none → K (upd ρ d (bif ok then .tuple #[zv, .bool false] else zv)) w) : OpW P n ⟨some d, .lookup t x y ok, ty, pos, af, g⟩ ρ w K := by
  have hg : (getObj b).run P w = .ok (.map es clock) w := by simp [getObj, Sem.run, hb]
  have hc : ∀ em : Bool, (Instr.checkKey em 10000 kt (.string k)).run P w = .ok () w := fun em => by
    show (Instr.checkKey em (9999 + 1) kt (.string k)).run P w = _
    unfold Instr.checkKey
    simp only [Sem.run_bind, hkt.run w, Result.andThen]; rfl
  rcases findNow_some (k := k) 0 rows with ⟨j, e, a, e1, e2, e3, e4⟩ | ⟨e1, e2⟩
  · have hf : (Instr.findKey kt (.string k) es.toList).run P w = .ok (some (0 + j, e.val)) w := by
      unfold Instr.findKey
      simp only [Sem.run_bind, hkt.run w, Result.andThen, e1]; rfl
    have hm : mget l k = some a := by unfold mget; rw [e4]; rfl
    have hd : den h (f a) e.val := by
      have : ∀ {es : List MapEntry} {l : List (ByteArray × α)} {j : Nat} {e : MapEntry} {y : ByteArray × α}, MRows f h es l → es[j]? = some e → l[j]? = some y → den h (f y.2) e.val := by
        intro es l
        induction es generalizing l with
        | nil => intro j e y _ he _; simp at he
        | cons e0 es ih =>
          intro j e y u he hy
          cases l with
          | nil => simp at hy
          | cons y0 l =>
            cases j with
            | zero => simp at he hy; subst he; subst hy; exact u.1.2
            | succ j => exact ih u.2 (by simpa using he) (by simpa using hy)
      exact this rows e2 e3
    refine OpW.valD ?_ (h1 e.val a hm hd)
    simp only [execOp, Instr.lookup, hx, hy, Sem.run_bind, ht.run w, hg, hc, hf, Result.andThen, Sem.run_pure]
    cases ok <;> rfl
  · have hf : (Instr.findKey kt (.string k) es.toList).run P w = .ok none w := by
      unfold Instr.findKey
      simp only [Sem.run_bind, hkt.run w, Result.andThen, e1]; rfl
    refine OpW.valD ?_ (h2 (by unfold mget; rw [e2]; rfl))
    simp only [execOp, Instr.lookup, hx, hy, Sem.run_bind, ht.run w, hg, hc, hf, Result.andThen, Sem.run_pure, hz w]
    cases ok <;> rfl
theorem OpW.setM {dd : Option Tmp} {v : Value} {a : α} (ht : IsUnd P t (.map kt et)) (hkt : IsUnd P kt .string) (hx : ev n ρ x = .map (some b)) (hy : ev n ρ y = .string k) (hz : ev n ρ z = v) (hv : den h (f a) v) (ok : MpOk f h w b l)
    (hk : ∀ w' o, Put w w' b o → MpOk f h w' b (mset l k a) → K (updO ρ dd undef) w') : OpW P n ⟨dd, .mapUpdate t x y z, ty, pos, af, g⟩ ρ w K := by
  obtain ⟨es, clock, hb, rows, hn, hcl⟩ := ok
  have hg : (getObj b).run P w = .ok (.map es clock) w := by simp [getObj, Sem.run, hb]
  have hc : (Instr.checkKey false 10000 kt (.string k)).run P w = .ok () w := by
    show (Instr.checkKey false (9999 + 1) kt (.string k)).run P w = _
    unfold Instr.checkKey
    simp only [Sem.run_bind, hkt.run w, Result.andThen]; rfl
  have hlt : b < w.heap.size := (Array.getElem?_eq_some_iff.1 hb).1
  have hset : ∀ o : Obj, (setObj b o).run P w = .ok () (w.putObj b o) := fun o => by
    simp only [setObj, Sem.run, hb]; rfl
  rcases upd_rows hv (k := k) 0 rows with ⟨j, e, e1, e2, e3, e4⟩ | ⟨e1, e2⟩
  · have hf : (Instr.findKey kt (.string k) es.toList).run P w = .ok (some (0 + j, e.val)) w := by
      unfold Instr.findKey
      simp only [Sem.run_bind, hkt.run w, Result.andThen, e1]; rfl
    have hks : (Instr.keyThatStays (((es[0 + j]?).map (·.key)).getD (.string k)) (.string k)).run P w = .ok (.string k) w := by
      have : ((es[0 + j]?).map (·.key)).getD (.string k) = .string k := by
        rw [Nat.zero_add, ← Array.getElem?_toList, e2]; exact e3
      rw [this]
      unfold Instr.keyThatStays
      simp [Instr.sameBits, bb_self]
    refine OpW.skip (w' := w.putObj b (.map (es.modify (0 + j) fun e => { e with key := .string k, val := v }) clock)) ?_ (hk _ _ (Put.obj hlt) ⟨_, _, (Put.obj hlt).at_, ?_, ?_, ?_⟩)
    · simp only [execOp, Instr.mapUpdate, hx, hy, hz, Sem.run_bind, ht.run w, hg, hc, hf, hks, Result.andThen, Sem.run_pure, hset]
    · rw [Nat.zero_add, Array.toList_modify]; exact e4
    · rw [Nat.zero_add, Array.toList_modify]
      have : ∀ (l : List MapEntry) (j : Nat), (l.modify j fun e => { e with key := .string k, val := v }).map (·.born) = l.map (·.born) := by
        intro l
        induction l with
        | nil => intro j; cases j <;> rfl
        | cons e l ih =>
          intro j
          cases j with
          | zero => rfl
          | succ j => rw [List.modify_succ_cons, List.map_cons, List.map_cons, ih]
      rw [this]; exact hn
    · rw [Nat.zero_add, Array.toList_modify]
      have : ∀ (l : List MapEntry) (j : Nat), (∀ e ∈ l, e.born < clock) → ∀ e ∈ (l.modify j fun e => { e with key := .string k, val := v }), e.born < clock := by
        intro l
        induction l with
        | nil => intro j _ e he; cases j <;> cases he
        | cons e0 l ih =>
          intro j hl e he
          cases j with
          | zero =>
            rcases List.mem_cons.1 he with rfl | he
            · exact hl e0 (List.mem_cons_self ..)
            · exact hl e (List.mem_cons_of_mem _ he)
          | succ j =>
            rw [List.modify_succ_cons] at he
            rcases List.mem_cons.1 he with rfl | he
            · exact hl e (List.mem_cons_self ..)
            · exact ih j (fun e he => hl e (List.mem_cons_of_mem _ he)) e he
      exact this _ _ hcl
  · have hf : (Instr.findKey kt (.string k) es.toList).run P w = .ok none w := by
      unfold Instr.findKey
      simp only [Sem.run_bind, hkt.run w, Result.andThen, e1]; rfl
    refine OpW.skip (w' := w.putObj b (.map (es.push ⟨.string k, v, clock⟩) (clock + 1))) ?_ (hk _ _ (Put.obj hlt) ⟨_, _, (Put.obj hlt).at_, ?_, ?_, ?_⟩)
    · simp only [execOp, Instr.mapUpdate, hx, hy, hz, Sem.run_bind, ht.run w, hg, hc, hf, Result.andThen, Sem.run_pure, hset]
    · rw [Array.toList_push]; exact e2 clock
    · rw [Array.toList_push, List.map_append, List.nodup_append]
      refine ⟨hn, by simp, fun a ha b hb => ?_⟩
      obtain ⟨e, he, rfl⟩ := List.mem_map.1 ha
      have hb : b = clock := by simpa using hb
      have := hcl e he
      omega
    · intro e he
      rw [Array.toList_push] at he
      rcases List.mem_append.1 he with he | he
      · have := hcl e he; omega
      · rcases List.mem_singleton.1 he with rfl; exact Nat.lt_succ_self _
end
end Go.E3
set_option linter.unusedVariables false
set_option maxHeartbeats 4000000
namespace Go.E3
open Go Go.Ear
section
variable {α : Type}
def MIOk (f : α → SV) (h : PH) (w : World) (it b : Nat) (l vis : List (ByteArray × α)) : Prop := ∃ (es : Array MapEntry) (clock : Nat) (seen : Array Nat) (zv zr : List (MapEntry × ByteArray × α)), w.heap[b]? = some (.map es clock) ∧ w.heap[it]? = some (.mapIter (some b) clock seen clock) ∧ MRows f h es.toList l ∧ (es.toList.map (·.born)).Nodup ∧ (∀ e ∈ es.toList, e.born < clock) ∧
  (zv ++ zr).Perm (es.toList.zip l) ∧ zv.map (·.1.born) = seen.toList ∧ zv.map (·.2) = vis
def rMI (f : α → SV) (p v : Value) (l vis : List (ByteArray × α)) : Res where
  fp := fun i => p = .pointer (some ⟨i, 0, none⟩) ∨ v = .map (some i)
  pr := fun h w => ∃ it b, p = .pointer (some ⟨it, 0, none⟩) ∧ v = .map (some b) ∧ MIOk f h w it b l vis
  st := fun {h w h' w'} le hw hn ⟨it, b, e1, e2, es, clock, seen, zv, zr, h1, h2, h3, h4⟩ => ⟨it, b, e1, e2, es, clock, seen, zv, zr, by rw [hw b (.inr e2)]; exact h1, by rw [hw it (.inl e1)]; exact h2, h3.mono le, h4⟩
  fz := fun _ => True
  fzm := fun _ _ => trivial
  frz := fun {h0 w0 h w} g _ _ => ⟨h, g, PH.le.refl h, fun _ x _ => x, trivial⟩
theorem zip_fst {f : α → SV} {h : PH} {es : List MapEntry} {l : List (ByteArray × α)} (u : MRows f h es l) : (es.zip l).map (·.1) = es := by
  rw [List.map_fst_zip]; exact Nat.le_of_eq u.length
theorem zip_snd {f : α → SV} {h : PH} {es : List MapEntry} {l : List (ByteArray × α)} (u : MRows f h es l) : (es.zip l).map (·.2) = l := by
  rw [List.map_snd_zip]; exact Nat.le_of_eq u.length.symm
theorem MRows.zip {f : α → SV} {h : PH} : ∀ {es : List MapEntry} {l : List (ByteArray × α)}, MRows f h es l → ∀ p ∈ es.zip l, p.1.key = .string p.2.1 ∧ den h (f p.2.2) p.1.val
  | [], [], _, p, hp => by simp at hp
  | e :: es, y :: l, u, p, hp => by
    rw [List.zip_cons_cons] at hp
    rcases List.mem_cons.1 hp with rfl | hp
    · exact u.1
    · exact MRows.zip u.2 p hp
theorem mi_next {f : α → SV} {h : PH} {es : Array MapEntry} {l vis : List (ByteArray × α)} {seen : Array Nat} {zv zr : List (MapEntry × ByteArray × α)} (rows : MRows f h es.toList l) (nd : (es.toList.map (·.born)).Nodup) (pz : (zv ++ zr).Perm (es.toList.zip l)) (hs : zv.map (·.1.born) = seen.toList) (hv : zv.map (·.2) = vis) :
    ((leftOf es seen).size = 0 → vis.Perm l) ∧ ∀ e ∈ (leftOf es seen).toList, ∃ k a zr', e.key = .string k ∧ den h (f a) e.val ∧ ((zv ++ [(e, k, a)]) ++ zr').Perm (es.toList.zip l) ∧ ∃ rest, (vis ++ (k, a) :: rest).Perm l := by
  have hz1 : ((zv ++ zr).map (·.1)).Perm es.toList := by have := pz.map (·.1); rwa [zip_fst rows] at this
  have hz2 : ((zv ++ zr).map (·.2)).Perm l := by have := pz.map (·.2); rwa [zip_snd rows] at this
  refine ⟨fun h0 => ?_, fun e he => ?_⟩
  · have hall := all_seen es seen h0
    have : zr = [] := by
      cases zr with
      | nil => rfl
      | cons p zr =>
        exfalso
        have hp : p.1 ∈ es.toList := hz1.mem_iff.1 (by simp)
        have hc := hall p.1 hp
        have hm : p.1.born ∈ seen.toList := by simpa using hc
        rw [← hs] at hm
        obtain ⟨q, hq, hqe⟩ := List.mem_map.1 hm
        have hnd : (((zv ++ p :: zr).map (·.1)).map (·.born)).Nodup := (hz1.map _).nodup_iff.2 nd
        rw [List.map_map, List.map_append, List.nodup_append] at hnd
        exact hnd.2.2 _ (List.mem_map.2 ⟨q, hq, rfl⟩) _ (List.mem_map.2 ⟨p, by simp, rfl⟩) hqe
    rw [this, List.append_nil, hv] at hz2
    exact hz2
  · obtain ⟨hm, hns⟩ := mem_left he
    have hm' : e ∈ (zv ++ zr).map (·.1) := hz1.mem_iff.2 hm
    obtain ⟨p, hp, rfl⟩ := List.mem_map.1 hm'
    have hpr : p ∈ zr := by
      rcases List.mem_append.1 hp with x | x
      · exfalso
        have : p.1.born ∈ seen.toList := by rw [← hs]; exact List.mem_map.2 ⟨p, x, rfl⟩
        have hc : seen.contains p.1.born = true := by simpa using this
        rw [hc] at hns; cases hns
      · exact x
    obtain ⟨s, t, rfl⟩ := List.append_of_mem hpr
    have hk := MRows.zip rows p (pz.mem_iff.1 hp)
    refine ⟨p.2.1, p.2.2, s ++ t, hk.1, hk.2, ?_, s.map (·.2) ++ t.map (·.2), ?_⟩
    · refine List.Perm.trans ?_ pz
      rw [List.append_assoc]
      refine List.Perm.append_left _ ?_
      show (p :: (s ++ t)).Perm (s ++ p :: t)
      exact List.perm_middle.symm
    · refine List.Perm.trans ?_ hz2
      rw [List.map_append, hv, List.map_append, List.map_cons]
      refine List.Perm.append_left _ ?_
      exact List.perm_middle.symm
end
section
variable {P : Program} {n : Nat} {ρ : Env} {w : World} {K : Env → World → Prop} {d : Nat} {ty : TypeId} {pos : String} {af : Array Edge} {g : Option (Nat × Bool)} {t kt et : TypeId} {x : Operand} {it b : Nat} {es : Array MapEntry} {clock : Nat} {seen : Array Nat}
theorem OpW.rangeM (ht : IsUnd P t (.map kt et)) (hx : ev n ρ x = .map (some b)) (hb : w.heap[b]? = some (.map es clock)) (hk : K (upd ρ d (.pointer (some ⟨w.heap.size, 0, none⟩))) (newW w (.mapIter (some b) clock #[] clock))) : OpW P n ⟨some d, .range t x, ty, pos, af, g⟩ ρ w K := by
  have hg : (getObj b).run P w = .ok (.map es clock) w := by simp [getObj, Sem.run, hb]
  refine OpW.valD (v := .pointer (some ⟨w.heap.size, 0, none⟩)) (w' := newW w (.mapIter (some b) clock #[] clock)) ?_ hk
  simp only [execOp, Instr.range, hx, Sem.run_bind, ht.run w, hg, Result.andThen, Sem.run_pure]
  rfl
theorem OpW.nextM (hx : ev n ρ x = .pointer (some ⟨it, 0, none⟩)) (hb : w.heap[b]? = some (.map es clock)) (hi : w.heap[it]? = some (.mapIter (some b) clock seen clock)) (hold : ∀ e ∈ es.toList, e.born < clock)
    (h0 : (leftOf es seen).size = 0 → K (upd ρ d (.tuple #[.bool false])) w) (h1 : ∀ e ∈ (leftOf es seen).toList, ∀ w', Put w w' it (.mapIter (some b) clock (seen.push e.born) clock) → K (upd ρ d (.tuple #[.bool true, e.key, e.val])) w') : OpW P n ⟨some d, .next x false, ty, pos, af, g⟩ ρ w K := by
  have hgi : (getObj it).run P w = .ok (.mapIter (some b) clock seen clock) w := by simp [getObj, Sem.run, hi]
  have hgb : (getObj b).run P w = .ok (.map es clock) w := by simp [getObj, Sem.run, hb]
  have hlt : it < w.heap.size := (Array.getElem?_eq_some_iff.1 hi).1
  have ht := next_test_false seen es clock clock hold (Nat.le_refl _)
  have hmem : ∀ x ∈ (leftOf es seen).toList, x.born < clock := fun x hx => hold x (mem_left hx).1
  have e1 : (leftOf es seen).filter (fun x => decide (x.born < clock)) = leftOf es seen := Array.filter_eq_self.2 (fun x hx => by simpa using hmem x (by simpa using hx))
  have e2 : (leftOf es seen).filter (fun x => decide (x.born ≥ clock)) = #[] := by
    rw [Array.filter_eq_empty_iff]
    intro x hx
    have := hmem x (by simpa using hx)
    simp
    omega
  by_cases hz : (leftOf es seen).size = 0
  · have hL : leftOf es seen = #[] := Array.eq_empty_of_size_eq_zero hz
    refine OpW.valD ?_ (h0 hz)
    simp only [execOp, hx, Instr.next, Sem.run_bind, hgi, hgb, Result.andThen, ht, Bool.false_eq_true, if_false]
    unfold leftOf at e1 e2 hL
    simp only [e1, e2, hL]
    simp [choose, Sem.run, Question.forced]
  · have hne : (leftOf es seen).isEmpty = false := by simp [Array.isEmpty, hz]
    have hch : ∃ (j : Nat) (w1 : World), j < (leftOf es seen).size ∧ (w1 = w ∨ w1 = w.drew) ∧ (choose (Question.mapNext (leftOf es seen).size)).run P w = .ok j w1 := by
      by_cases hf : (leftOf es seen).size ≤ 1
      · exact ⟨0, w, by omega, .inl rfl, by simp [choose, Sem.run, Question.forced, hf]⟩
      · exact ⟨_, w.drew, Nat.mod_lt _ (by omega), .inr rfl, by
          simp only [choose, Sem.run, Question.forced, decide_eq_true_eq, hf, if_false, Question.cut]
          rfl⟩
    obtain ⟨j, w1, hj, hal, hrun⟩ := hch
    have hh : w1.heap = w.heap := by rcases hal with rfl | rfl <;> rfl
    have hset : ∀ o : Obj, (setObj it o).run P w1 = .ok () (w1.putObj it o) := fun o => by
      have hi1 : w1.heap[it]? = some (.mapIter (some b) clock seen clock) := by rw [hh]; exact hi
      simp only [setObj, Sem.run, hi1]; rfl
    have hput : ∀ o, Put w (w1.putObj it o) it o := fun o => by
      have p := Put.obj (w := w1) (o := o) (l := it) (by rw [hh]; exact hlt)
      refine ⟨?_, ?_, ?_, by rw [p.size, hh], p.at_, fun i hi => by rw [p.other i hi, hh], Nat.le_trans (by rcases hal with rfl | rfl; exact Nat.le_refl _; exact Nat.le_succ _) p.drawn⟩
      · rw [p.os]; rcases hal with rfl | rfl <;> rfl
      · rw [p.tape]; rcases hal with rfl | rfl <;> rfl
      · rw [p.output]; rcases hal with rfl | rfl <;> rfl
    refine OpW.valD (v := .tuple #[.bool true, (leftOf es seen)[j].key, (leftOf es seen)[j].val]) ?_ (h1 (leftOf es seen)[j] (by simp) _ (hput _))
    simp only [execOp, hx, Instr.next, Sem.run_bind, hgi, hgb, Result.andThen, ht, Bool.false_eq_true, if_false]
    unfold leftOf at e1 e2 hne hrun hj ⊢
    simp only [e1, e2, hne, Bool.false_eq_true, if_false, Array.empty_append, Array.append_empty, Array.size_map, hrun, Array.getElem?_map, Array.getElem?_eq_getElem hj, Option.map_some, Sem.run_bind, hset, Result.andThen]
    rfl
end
end Go.E3
