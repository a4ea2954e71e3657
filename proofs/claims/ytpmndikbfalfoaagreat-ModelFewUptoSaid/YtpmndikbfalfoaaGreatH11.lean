/- H11: a part of the proofs about package model: how the program's functions run, and what they compute, for every input. -/
import Derived.Test.YtpmndikbfalfoaaGreatH10
set_option linter.all false
set_option linter.unusedVariables false
set_option maxRecDepth 20000
set_option maxHeartbeats 8000000
set_option synthInstance.maxSize 1000
namespace Go.E3
open Go Go.Ear Go.Proofs
structure CtF where
  start : List Fr
  move : List (List Fr)
  fin : List Fr
  say : List (List Fr)
  used : Int
  unused : Int
def cf0 : CtF := ⟨[], [], [], [], 0, 0⟩
def cntK (c : Go.Ear.Ct) : CtF := ⟨c.start.map frK, c.move.map (·.map frK), c.fin.map frK, c.say.map (·.map frK), c.used, c.unused⟩
@[reducible] def cF (c : CtF) : SV := .ag [lv rF c.start, lv (rL rF) c.move, lv rF c.fin, lv (rL rF) c.say, iv c.used, iv c.unused]
instance (priority := high) {c : CtF} : Vw cF (.ag [lv rF c.start, lv (rL rF) c.move, lv rF c.fin, lv (rL rF) c.say, iv c.used, iv c.unused]) c := ⟨fun u => u⟩
instance (priority := high) {c : Go.Ear.Ct} : Vw cF (.ag [lv rF (c.start.map frK), lv (rL rF) (c.move.map (·.map frK)), lv rF (c.fin.map frK), lv (rL rF) (c.say.map (·.map frK)), iv c.used, iv c.unused]) (cntK c) := ⟨fun u => u⟩
instance {a c : List Fr} {b d : List (List Fr)} {x y : Int} {S T U W : SV} [i : Vw (lv rF) S a] [j : Vw (lv (rL rF)) T b] [k : Vw (lv rF) U c] [l : Vw (lv (rL rF)) W d] : Vw cF (.ag [S, T, U, W, iv x, iv y]) ⟨a, b, c, d, x, y⟩ := ⟨fun ⟨vs, e, u⟩ => ⟨vs, e, by
  match vs, u with
  | [_, _, _, _, _, _], ⟨p, q, r, s, t, u, v⟩ => exact ⟨i.h p, j.h q, k.h r, l.h s, t, u, v⟩⟩⟩
class FtC (c : CtF) : Prop where h : FtS c.start ∧ FtR c.move ∧ FtS c.fin ∧ FtR c.say
instance {c : CtF} [i : FtC c] : FtS c.start := i.h.1
instance {c : CtF} [i : FtC c] : FtR c.move := i.h.2.1
instance {c : CtF} [i : FtC c] : FtS c.fin := i.h.2.2.1
instance {c : CtF} [i : FtC c] : FtR c.say := i.h.2.2.2
instance {a c : List Fr} {b d : List (List Fr)} {x y : Int} [i : FtS a] [j : FtR b] [k : FtS c] [l : FtR d] : FtC ⟨a, b, c, d, x, y⟩ := ⟨i, j, k, l⟩
instance {c : Go.Ear.Ct} : FtC (cntK c) := inferInstanceAs (FtC ⟨_, _, _, _, _, _⟩)
class VC (S : SV) (c : outParam CtF) : Prop where
  v : Vw cF S c
  t : FtC c
instance {S : SV} {c : CtF} [v : Vw cF S c] [t : FtC c] : VC S c := ⟨v, t⟩
structure CtC (c : CtF) : Prop where
  a : wts c.start ≤ 900000000 ∧ wts c.fin ≤ 900000000 ∧ c.move.length ≤ 1048576 ∧ c.say.length ≤ 1048576
  m : ∀ r ∈ c.move, wts r ≤ 900000000
  y : ∀ r ∈ c.say, wts r ≤ 900000000
def sameC (a b : CtF) : Bool := decide (a.used = b.used) && (decide (a.unused = b.unused) && (sameL a.start b.start && (sameR a.move b.move && (sameL a.fin b.fin && sameR a.say b.say))))
theorem sameC_self (a : CtF) : sameC a a = true := by
  unfold sameC
  rw [decide_eq_true rfl, decide_eq_true rfl, all2_refl (p := sameF) sameF_self |> (fun h => show sameL a.start a.start = true from h)]
  rw [show sameR a.move a.move = true from all2_refl fun r => all2_refl sameF_self, show sameL a.fin a.fin = true from all2_refl sameF_self, show sameR a.say a.say = true from all2_refl fun r => all2_refl sameF_self]; rfl
instance rSameC_c {a b : CtF} {S T : SV} [i : VC S a] [j : VC T b] : Ct Tryz.prog 31 [S, T] (CtC a ∧ CtC b) (bv (sameC a b)) := by
  haveI := i.t
  haveI := j.t
  refine ct2 i.v j.v (ctI Tryz.call31 Tryz.func31 Tryz.ntmps31 rfl Tryz.results31 rfl [] fun h0 w0 ⟨⟨⟨a1, a2, a3, a4⟩, a5, a6⟩, ⟨⟨b1, b2, b3, b4⟩, b5, b6⟩⟩ => ?_)
  repeat first | refine nx ?_ | intro _
  unfold sameC
  cases decide (a.used = b.used) <;> cases decide (a.unused = b.unused) <;> cases sameL a.start b.start <;> cases sameR a.move b.move <;> cases sameL a.fin b.fin <;> rfl
end Go.E3
