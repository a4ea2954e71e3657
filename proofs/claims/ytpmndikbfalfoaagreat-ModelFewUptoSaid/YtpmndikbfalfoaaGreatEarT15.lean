/- EarT15: a part of the proofs about package model: how the program's functions run, and what they compute, for every input. -/
import Derived.Test.YtpmndikbfalfoaaGreatEarT14
set_option linter.all false
set_option linter.unusedVariables false
namespace Go.E3
open Go Go.Ear Go.Proofs
section
variable {P : Program} {n : Nat} {X : Fix} {ms : List Nat} {loc env : EL} {B B1 : List Res} {k : Kt} {ol rest : List Oper} {d m i : Nat} {ty : TypeId} {pos : String} {af : Array Edge} {t e : TypeId} {L : (Nat → Gh) → EL} {R : List (Nat × (Gh → Res))} {Ls : EL} {lt : Nat → Bool} {sd : Prop}
instance gapp {α : Type} {r : Rp α} {bb : Nat} {d0 : α} {q q' : List α} {v : Value} {o1 o2 : Operand} [ts : TS P t e] [rt : RT P e α r bb d0] [lx : Lu n true Ls env o1 (ov v)] [pa : PA B v α r e q B1] [ly : Lu n true Ls env o2 (lv r q')] : Nx (GE P n X ms Ls env B ol (⟨some d, .call ⟨.builtin .append, [o1, o2].toArray, [t, t].toArray⟩, ty, pos, af, none⟩ :: rest) k lt 1 i L []) (((List.range i).all fun j => reach ol 9 i j || lt j) = true ∧ q.length + q'.length ≤ 9223372036854775807 ∧ (q.length + q'.length) * bb ≤ 140737488355328) (∀ ν v', GO P n X ms ((d, ov v') :: L ν) env (rA r e v' (q ++ q') :: B1) ol rest k) := ⟨fun hs g => ⟨fun ql => .app d ov (fun v' => rA r e v' (q ++ q') :: B1) rfl rfl (fun ν ρ h w s => by
  obtain ⟨z, ti, el, hz⟩ := rt.e
  have s' : Sx X.h0 X.w0 Ls env B [o1, o2] ρ h w := s.sub (fun x hx => by simp [looks, Op.operands, Call.operands] at hx ⊢; exact hx) (ql ν)
  have hx := lx.h rfl (s'.fx o1 (by simp))
  have hy := ly.h rfl (s'.fx o2 (by simp))
  have sy : Sy X.h0 X.w0 [] [] B ρ h w := ⟨s.gr, trivial, trivial, s.ow⟩
  have sb := sy.sb pa.h
  refine OpG.plain (OpW.appendL (lo := 0) ts.h el.hi el.hz el.hc el.hk s.gr.sat (Nat.zero_le _) hx.1 rfl (sb.ow.at 0 rfl).1 hy hs.2.1 (by rw [el.hb]; exact hs.2.2) fun v' w' own ow hbl => ?_)
  have sn := own_app sb own ow hbl
  exact ⟨v', h, ⟨rfl, rfl, own_one own⟩, sn.gr, PH.le.refl h, (fun e => by cases e), (fun e => by cases e), sn.ow⟩) (fun j hj => by
  have := List.all_eq_true.1 hs.1 j (List.mem_range.2 hj)
  simpa using this) fun ν v => by simpa [rv] using g ν v⟩⟩
class CtN (P : Program) (f : FuncId) (args : List SV) (side : outParam Prop) (S : outParam (Gh → SV)) (T : outParam (Gh → List Res)) : Prop where
  fn : IsFn P f
  h : side → ∀ {h w vs}, Sat h w → denL h args vs → Calls P f vs.toArray w fun e w' => ∃ g : Gh, e = .returned g.v ∧ ∃ h', Gr h w h' w' ∧ den h' (S g) g.v ∧ OwnB w (T g) h' w'
theorem CtN.of {σ : Type} {S0 : σ → SV} {B0 : σ → List Res} {f : FuncId} {args : List SV} {S : Gh → SV} {T : Gh → List Res} (c : CtR P f args [] sd σ S0 B0) (enc : σ → List Value) (hS : ∀ v s, S ⟨v, enc s⟩ = S0 s) (hT : ∀ v s, T ⟨v, enc s⟩ = B0 s) : CtN P f args sd S T := ⟨c.fn, fun hs h w vs sat u => (c.h hs (Gr.refl sat) trivial u).mono fun e w' ⟨v, he, h', s, gr, le, o, dn⟩ => ⟨⟨v, enc s⟩, he, h', gr, by rw [hS]; exact dn, by rw [hT]; exact o⟩⟩
instance (priority := high) gnew {f : FuncId} {xs : List Operand} {ts : Array TypeId} {Ss : List SV} {S : Gh → SV} {T : Gh → List Res} [lf : RflE (lt i) false] [nn : IsIn d ms] [lx : Lus n true Ls env xs Ss] [ct : CtN P f Ss sd S T] [nb : ∀ g, NB (T g)] : Nx (GE P n X ms Ls env B ol (⟨some d, .call ⟨.value (.func f), xs.toArray, ts⟩, ty, pos, af, none⟩ :: rest) k lt (m + 1) i L R) sd (GE P n X ms Ls env B ol rest k lt m (i + 1) (fun ν => (d, S (ν d)) :: L ν) ((d, fun g => rJ (T g)) :: R)) := ⟨fun hs g => ⟨fun ql => .new d S (fun g => rJ (T g)) rfl (fun ν ρ h w s => by
  have s' : Sx X.h0 X.w0 Ls env B xs ρ h w := s.sub (fun x hx => by simp [looks, Op.operands, Call.operands, hx]) (ql ν)
  have hx : denL h Ss (xs.map (ev n ρ)) := lx.h rfl fun x hx => s'.fx x hx
  refine OpG.plain (OpW.enter (f := f) (args := (xs.map (ev n ρ)).toArray) (w' := w) ?_ (ct.h hs s.gr.sat hx) ?_)
  · simp only [execOp, resolve, ev, Deferred.ofValue, Sem.run_bind, Sem.run_pure, Result.andThen, invoke, List.map_toArray]
    have := ct.fn (#[] ++ (xs.map (ev n ρ)).toArray ++ #[]) w
    simpa using this
  · rintro e w'' ⟨q, rfl, h', gr, o1, ow⟩
    refine ⟨q.v, rfl, q.v, q.l, h', rfl, gr, o1, OwnB.any ow, fun i ⟨r, hr, hi⟩ => ?_⟩
    have := ow.foot r hr i hi
    exact ⟨this.2.1 ((nb q).h r hr), this.2.2, this.1⟩) lf.h (g.p fun ν e h => List.mem_cons_of_mem _ (ql ν e h))⟩⟩
end
end Go.E3
