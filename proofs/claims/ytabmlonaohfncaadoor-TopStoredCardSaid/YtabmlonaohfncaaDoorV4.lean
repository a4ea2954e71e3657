/- V4: a part of the proofs about what is clipped and stored: how the program's functions run, and what they compute, for every input. -/
import Derived.Test.YtabmlonaohfncaaDoorV3
set_option linter.all false
set_option linter.unusedVariables false
set_option maxRecDepth 20000
set_option maxHeartbeats 8000000
set_option synthInstance.maxSize 1000
namespace Go.E3
open Go Go.Ear Go.Proofs
section
variable {P : Program} {n : Nat} {ρ : Env} {w : World} {K : Env → World → Prop} {d : Nat} {ty : TypeId} {pos : String} {af : Array Edge} {g : Option (Nat × Bool)}
theorem run_eqPN {t e : TypeId} {b : Option Addr} (ht : IsUnd P t (.pointer e)) : (Op.equal t (.pointer b) (.pointer none)).run P w = .ok b.isNone w := by
  show (Op.equalIn (9999 + 1) t (.pointer b) (.pointer none)).run P w = _
  unfold Op.equalIn
  cases b <;> (simp only [Sem.run_bind, ht.run w, Result.andThen]; rfl)
theorem OpW.neqPN {t u e : TypeId} {x y : Operand} {b : Option Addr} (ht : IsUnd P t (.pointer e)) (hx : ev n ρ x = .pointer b) (hy : ev n ρ y = .pointer none)
    (hk : K (upd ρ d (.bool (!b.isNone))) w) : OpW P n ⟨some d, .binOp .neq t x y u, ty, pos, af, g⟩ ρ w K := by
  refine OpW.valD ?_ hk
  have he : (eqGuard .neq t x y (.pointer b) (.pointer none)).run P w = .ok () w := by unfold eqGuard; simp
  have hb : (binOp .neq t (.pointer b) (.pointer none)).run P w = .ok (.bool (!b.isNone)) w := by
    show (do pure (Value.bool (!(← Op.equal t (.pointer b) (.pointer none)))) : Sem Value).run P w = _
    simp only [Sem.run_bind, run_eqPN ht, Result.andThen]; rfl
  simp only [execOp, hx, hy, Sem.run_bind, he, Result.andThen, hb]; rfl
end
instance {n : Nat} {c : Bool} {loc env : EL} {B : List Res} {ms : List Nat} {d : Nat} {x : Operand} {u : TypeId} {v : Value} {l : List SV} [lx : Lu n c loc env x (ov v)] [hv : HC B v l] : St Tryd.prog n c loc env B ms d (.binOp .neq 81 x (.const (.pointer none)) u) True (bv true) := .p fun q _ _ _ _ _ _ s _ _ _ _ _ k => by
  have u := lx.h q (s.f x)
  obtain ⟨b, off, vs, e, _⟩ := hvE (v := v) s
  exact OpW.neqPN (e := 99) Tryd.underlying81 (u.1.trans e) rfl (k _ rfl)
instance usable_c {v : Value} {B : List Res} {l : List SV} [hv : HC B v l] [nt : Nth l 7 (bv true)] : CtB Tryd.prog 62 [ov v] B True (bv true) := by
  refine (ctB Tryd.call62 Tryd.func62 Tryd.ntmps62 rfl Tryd.results62 rfl [] fun h0 w0 _ => ?_)
  repeat first | refine nx ?_ | intro _
  trivial
def ls0 : Ls := ⟨0, [], 0, 0, 0, 0, 0⟩
theorem listenOk {g : Gt} {B : List Res} (ok : g.Ok) : CtR Tryd.prog 40 [gtv g] B True Value (fun v => .tp [ov v, iv 0]) (fun v => rV v (lsc g ls0) 99 :: B) := by
  refine (ctR Tryd.call40 Tryd.func40 Tryd.ntmps40 rfl Tryd.results40 rfl [9] fun h0 w0 _ => ?_)
  have ok1 : decide g.Ok = true := decide_eq_true ok
  repeat first | refine nx ?_ | intro _
  rw [ok1]
  refine gIf (fun c => absurd c (by simp)) fun c => ?_
  repeat first | refine nx ?_ | intro _
  rename_i v
  exact gEr v
theorem listenNo {g : Gt} (no : ¬ g.Ok) : Ct Tryd.prog 40 [gtv g] True (.tp [.cv (.pointer none), iv 2]) := by
  refine (ctI Tryd.call40 Tryd.func40 Tryd.ntmps40 rfl Tryd.results40 rfl [] fun h0 w0 _ => ?_)
  have ok1 : decide g.Ok = false := decide_eq_false no
  repeat first | refine nx ?_ | intro _
  rw [ok1]
  refine gIf (fun c => ?_) fun c => absurd c (by simp)
  repeat first | refine nx ?_ | intro _
  trivial
def clS (g : Gt) (s : Ls) : List (Int × Int) := if s.st = 1 then [(s.begin * g.block, s.samples)] else []
theorem close_b {g : Gt} {s : Ls} {v : Value} {rest : List Res} : CtR Tryd.prog 42 [ov v] (rV v (lsc g s) 99 :: rest) (g.Ok ∧ LsB s ∧ (s.st = 0 ∨ s.st = 1)) Unit (fun _ => .tp [lv rSg (clS g s), iv 0]) (fun _ => rV v (lsc g { s with st := 2 }) 99 :: rest) := by
  refine (ctR Tryd.call42 Tryd.func42 Tryd.ntmps42 rfl Tryd.results42 rfl [] fun h0 w0 ⟨gk, sb, h01⟩ => ?_)
  have b3 := sb.begin
  have k4 := prod_bd2 (a := s.begin) (A := 5000) (by omega) (by omega) gk.block.1 gk.block.2
  repeat first | refine nx ?_ | intro _
  refine gIf (fun c => absurd c (by simp)) fun c => ?_
  repeat first | refine nx ?_ | intro _
  refine gIf (fun c2 => absurd c2 (by omega)) fun c2 => ?_
  repeat first | refine nx ?_ | intro _
  refine gIf (fun c3 => ?_) fun c3 => ?_
  · repeat first | refine gDs 18 16 (by rfl) (by kernel_rfl) ?_ | refine nx ?_ | intro _
    exact gEr () (h1 := by unfold clS; rw [if_pos c3]; simp)
  · repeat first | refine nx ?_ | intro _
    exact gEr () (h1 := by unfold clS; rw [if_neg c3]; simp)
end Go.E3
