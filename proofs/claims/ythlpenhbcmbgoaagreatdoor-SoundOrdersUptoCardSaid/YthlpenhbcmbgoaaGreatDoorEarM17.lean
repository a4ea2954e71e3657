/- EarM17: a part of the proofs about what is clipped and stored: how the program's functions run, and what they compute, for every input. -/
import Derived.Test.YthlpenhbcmbgoaaGreatDoorK12
import Derived.Test.YthlpenhbcmbgoaaGreatDoorK9
set_option linter.all false
set_option linter.unusedVariables false
set_option maxHeartbeats 4000000
namespace Go.E3
open Go Go.Ear
section
variable {P : Program} {n : Nat} {X : Fix} {ms : List Nat} {env : EL} {ol : List Oper} {B : List Res} {k : Kt} {p r m : Nat}
variable {L loc : EL} {i d : Nat} {t e : TypeId} {ty : TypeId} {pos : String} {af : Array Edge} {rest : List Oper}
theorem gCn {α : Type} {q : Rp α} {bb : Nat} {d0 : α} {l : List α} {d2 : Nat} {T2 : Value → Res} {o2 : Operand} [ts : TS P t e] [rt : RT P e α q bb d0] [ly : Lu n true L env o2 (lv q l)] (hp : i = p) (hs : l.length ≤ 9223372036854775807 ∧ l.length * bb ≤ 140737488355328)
    (g : GC2 P n X ms env ol B k p r m ⟨d, d2, fun v => rA q e v l, T2⟩ L (i + 1) rest) : GC2 P n X ms env ol B k p r m ⟨d, d2, fun v => rA q e v l, T2⟩ L i (⟨some d, .call ⟨.builtin .append, [.const (.slice none 0 0), o2].toArray, [t, t].toArray⟩, ty, pos, af, none⟩ :: rest) := .ev (.inl ⟨hp, rfl, fun ρ h w s => by
  obtain ⟨z, ti, el, hz⟩ := rt.e
  have s' : Sx X.h0 X.w0 L env B [o2] ρ h w := s.sub (fun x hx => by
    have := List.mem_singleton.1 hx
    subst this
    simp [looks, Op.operands, Call.operands]) fun _ h => h
  have hy := ly.h rfl (s'.fx o2 (by simp))
  have ow0 : OwnB X.w0 (rA q e (.slice none 0 0) [] :: B) h w := ⟨OwnL.nil q 0 h w e, (fun i hi => by cases hi), (fun r' hr' i hi => by cases hi), s.ow⟩
  refine OpG.plain (OpW.appendL (lo := 0) (v := .slice none 0 0) (l := []) ts.h el.hi el.hz el.hc el.hk s.gr.sat (Nat.zero_le _) rfl rfl (OwnL.nil ..) hy (by simpa using hs.1) (by rw [el.hb]; simpa using hs.2) fun v' w' own ow hbl => ?_)
  rw [List.nil_append] at own
  have sy := own_app (loc := []) (env := []) (ρ := ρ) ⟨s.gr, trivial, trivial, ow0⟩ own ow hbl
  exact ⟨v', h, ⟨rfl, rfl, own_one own⟩, sy.gr, PH.le.refl h, (fun e => by cases e), (fun e => by cases e), sy.ow⟩⟩) g
end
end Go.E3
