/- W3: a part of the proofs about package model: how the program's functions run, and what they compute, for every input. -/
import Derived.Laws.StructEq
import Derived.Test.YtpmndikbfalfoaaGreatW2
set_option linter.all false
set_option linter.unusedVariables false
set_option maxRecDepth 20000
set_option maxHeartbeats 8000000
set_option synthInstance.maxSize 1000
namespace Go.E3
open Go Go.Ear Go.Proofs
theorem run_eq87 {d : Nat} {a b c a' b' c' : Int} {w : World} : (Op.equalIn (d + 1 + 1) 87 (.agg #[.int .i64 a, .int .i64 b, .int .i64 c]) (.agg #[.int .i64 a', .int .i64 b', .int .i64 c'])).run Tryz.prog w = .ok (a == a' && (b == b' && c == c')) w := by
  rw [run_equalIn_struct w (d + 1) 87 _ _ (by kernel_rfl) (by kernel_rfl)]
  have hf : ∃ f1 f2 f3 : Field, (Tryz.prog.fieldsOf 87).toList = [f1, f2, f3] ∧ (f1.name ≠ "_" ∧ f1.type = 3 ∧ f1.offset = 0) ∧ (f2.name ≠ "_" ∧ f2.type = 3 ∧ f2.offset = 1) ∧ (f3.name ≠ "_" ∧ f3.type = 3 ∧ f3.offset = 2) := by
    obtain ⟨fs, f, sz, h1, h2, h3, h4, h5⟩ := (inferInstance : FA Tryz.prog 87 0 0).h
    unfold Program.fieldsOf
    refine ⟨_, _, _, rfl, ⟨by decide, rfl, rfl⟩, ⟨by decide, rfl, rfl⟩, ⟨by decide, rfl, rfl⟩⟩
  obtain ⟨f1, f2, f3, hf, ⟨n1, t1, o1⟩, ⟨n2, t2, o2⟩, ⟨n3, t3, o3⟩⟩ := hf
  rw [hf]
  have hu : Tryz.prog.underlying 3 = some (.int .i64) := Tryz.underlying3
  have hs : ∀ (xs : Array Value) (o : Nat) (v : Value), xs[o]? = some v → ∀ w, (part 3 xs o).run Tryz.prog w = .ok v w := fun xs o v h w => by
    simp [part, isAgg, run_underlying hu, h]
  have he : ∀ (x y : Int) (w : World), (Op.equalIn (d + 1) 3 (.int .i64 x) (.int .i64 y)).run Tryz.prog w = .ok (x == y) w := fun x y w => run_equalIn_int w d 3 .i64 .i64 x y hu
  simp only [Op.eqFields, if_pos n1, if_pos n2, if_pos n3, t1, t2, t3, o1, o2, o3, Sem.run_bind]
  rw [hs _ 0 (.int .i64 a) rfl, Result.andThen_ok, hs _ 0 (.int .i64 a') rfl, Result.andThen_ok, he, Result.andThen_ok]
  cases a == a'
  · rfl
  · simp only [Bool.not_true, Bool.false_eq_true, if_false, Sem.run_bind]
    rw [hs _ 1 (.int .i64 b) rfl, Result.andThen_ok, hs _ 1 (.int .i64 b') rfl, Result.andThen_ok, he, Result.andThen_ok]
    cases b == b'
    · rfl
    · simp only [Bool.not_true, Bool.false_eq_true, if_false, Sem.run_bind]
      rw [hs _ 2 (.int .i64 c) rfl, Result.andThen_ok, hs _ 2 (.int .i64 c') rfl, Result.andThen_ok, he, Result.andThen_ok]
      cases c == c' <;> rfl
section
variable {n : Nat} {c : Bool} {loc env : EL} {B : List Res} {ms : List Nat} {d : Nat} {x y : Operand} {i1 i2 i3 j1 j2 j3 : Int} {u : TypeId}
instance [lx : Lu n c loc env x (.ag [iv i1, iv i2, iv i3])] [ly : Lu n c loc env y (.ag [iv j1, iv j2, iv j3])] : St Tryz.prog n c loc env B ms d (.binOp .neq 87 x y u) True (bv (!(i1 == j1 && (i2 == j2 && i3 == j3)))) := .p fun q _ h0 w0 ρ h w s _ _ _ _ _ k => by
  obtain ⟨vs, e1, h1⟩ := lx.h q (s.f x)
  obtain ⟨us, e2, h2⟩ := ly.h q (s.f y)
  match vs, us, h1, h2 with
  | [_, _, _], [_, _, _], ⟨a1, a2, a3, _⟩, ⟨b1, b2, b3, _⟩ =>
    have a1 : _ = _ := a1; have a2 : _ = _ := a2; have a3 : _ = _ := a3; have b1 : _ = _ := b1; have b2 : _ = _ := b2; have b3 : _ = _ := b3
    subst a1; subst a2; subst a3; subst b1; subst b2; subst b3
    refine OpW.valD ?_ (k _ rfl)
    have hb : (binOp .neq 87 (.agg #[.int .i64 i1, .int .i64 i2, .int .i64 i3]) (.agg #[.int .i64 j1, .int .i64 j2, .int .i64 j3])).run Tryz.prog w = .ok (.bool (!(i1 == j1 && (i2 == j2 && i3 == j3)))) w := by
      rw [run_neq_struct, run_eq87 (d := 9998), Result.andThen_ok]
    have hg : (eqGuard .neq 87 x y (.agg #[.int .i64 i1, .int .i64 i2, .int .i64 i3]) (.agg #[.int .i64 j1, .int .i64 j2, .int .i64 j3])).run Tryz.prog w = .ok () w := run_eqGuard_agg w .neq 87 x y _ _ (by kernel_rfl)
    have hx : ev n ρ x = .agg #[.int .i64 i1, .int .i64 i2, .int .i64 i3] := e1
    have hy : ev n ρ y = .agg #[.int .i64 j1, .int .i64 j2, .int .i64 j3] := e2
    simp only [execOp, hx, hy, Sem.run_bind, hg, Result.andThen, hb]; rfl
end
end Go.E3
