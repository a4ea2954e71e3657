/- EarT14: a part of the proofs about package model: how the program's functions run, and what they compute, for every input. -/
import Derived.Test.YtpmndikbfalfoaaGreatEarT13
import Derived.Test.YtpmndikbfalfoaaGreatK10
set_option linter.all false
set_option linter.unusedVariables false
namespace Go.E3
open Go Go.Ear Go.Proofs
instance (priority := 20000) {P : Program} {n : Nat} {X : Fix} {ms : List Nat} {loc env : EL} {B : List Res} {k : Kt} {ol rest : List Oper} {d : Nat} {ty : TypeId} {pos : String} {af : Array Edge} {o : Operand} {z : Value} {t e : TypeId} {β : Type} {r0 : Rp β} {bb bb2 : Nat} {d0 : β} [nn : NotIn d ms] [lx : Lup n true loc env [(0, o)] [(0, ov z)]] [ts : TS P t e] [rt0 : RT P e β r0 bb2 d0] [k1 : Rk r0 1] [mr : MR P e bb] : Nx (GO P n X ms loc env B ol (⟨some d, .buildSlice t 1 #[(0, o)], ty, pos, af, none⟩ :: rest) k) True (GO P n X ms ((d, lv rW [z]) :: loc) env B ol rest k) :=
  haveI st : St P n true loc env B ms d (.buildSlice t 1 #[(0, o)]) True (lv rW [z]) := inferInstance
  ⟨fun _ a => ⟨fun ok ρ h w s => by
    obtain ⟨h1, h2, h3⟩ := okR_some rfl ok
    exact Ops.cons (st.h rfl trivial (s.x _) fun v h' w' g u => a.p h3 _ _ _ (s.put g u h1 (h2 rfl)))⟩⟩
end Go.E3
