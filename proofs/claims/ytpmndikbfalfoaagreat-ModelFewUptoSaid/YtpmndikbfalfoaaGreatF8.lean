/- F8: a part of the proofs about package model: how the program's functions run, and what they compute, for every input. -/
import Derived.Test.YtpmndikbfalfoaaGreatF6
import Derived.Test.YtpmndikbfalfoaaGreatK11
set_option linter.all false
set_option linter.unusedVariables false
set_option maxRecDepth 20000
set_option maxHeartbeats 8000000
set_option synthInstance.maxSize 1000
namespace Go.E3
open Go Go.Ear Go.Proofs
section
variable {P : Program} {n : Nat} {X : Fix} {ms : List Nat} {loc env env' : EL} {B : List Res} {c : Code} {k : Kt}
theorem Sy.fzV {v : Value} {l : List SV} {t : TypeId} {h0 : PH} {w0 : World} {loc' : EL} {B1 B2 : List Res} {ρ : Env} {h : PH} {w : World} [pa : PV B v l t B1] [sl : SbE v (.pk l 0) loc loc'] [se : SbE v (.pk l 0) env env'] [sb : SbB v (.pk l 0) B1 B2] (s : Sy h0 w0 loc env B ρ h w) : ∃ h', Sy h0 w0 loc' env' B2 ρ h' w := by
  have s' := s.sb pa.h
  obtain ⟨h', g, le, z, o⟩ := OwnB.freeze (j := 0) s'.gr s'.ow rfl
  have z' : den h' (.pk l 0) v := z
  have key : ∀ x, x = v → den h' (.pk l 0) x := fun x e => by subst e; exact z'
  exact ⟨h', g, sl.h key (s.lo.mono le), se.h key (s.en.mono le), (sb.h (fun h2 l2 x e => by subst e; exact z'.mono l2) o).1⟩
instance (priority := 40) {v : Value} {l : List SV} {t : TypeId} {loc' : EL} {B1 B2 : List Res} {ol rest : List Oper} {d : Nat} {ty : TypeId} {pos : String} {af : Array Edge} {f : Operand} {xs : List Operand} {ts : Array TypeId} {Ss : List SV} [lx : Lus n true loc env xs Ss] [fo : FO Ss v] [pa : PV B v l t B1] [sl : SbE v (.pk l 0) loc loc'] [se : SbE v (.pk l 0) env env'] [sb : SbB v (.pk l 0) B1 B2] [d1 : SameDom loc loc'] [d2 : SameDom env env'] :
    Nx (GO P n X ms loc env B ol (⟨some d, .call ⟨.value f, xs.toArray, ts⟩, ty, pos, af, none⟩ :: rest) k) True (GO P n X ms loc' env' B2 ol (⟨some d, .call ⟨.value f, xs.toArray, ts⟩, ty, pos, af, none⟩ :: rest) k) := ⟨fun _ g => ⟨fun ok ρ h w s => by
  obtain ⟨h', s'⟩ := s.fzV (v := v) (pa := pa) (sl := sl) (se := se) (sb := sb)
  exact g.p (by rw [d1.h, d2.h]; exact ok) ρ h' w s'⟩⟩
end
section
variable {P : Program} {n : Nat} {X : Fix} {ms : List Nat} {loc env : EL} {B : List Res} {k : Kt} {ol : List Oper}
theorem gDxL (sz : Nat) (lt : Nat → Bool) (m : Nat) {id : Nat} [mx : MixO P] (hs : Nat.beq ol.length sz = true) (c : (dagC ol m (env.map (·.1)) && ol.all noDefer) = true) (g : GE P n X ms [] env B ol ol k lt m 0 (fun _ => []) []) : GW P n X ms loc env B (.region id ol.toArray true) k := gDrL lt m c g
end
def fewE (m : Md) (o : List Int) (keep : Int) : Int := if checkE [m] [o] ≠ 0 then checkE [m] [o] else if keep < 1 then 2 else if kT ⟨m, o⟩ keep = 0 then 7 else 0
def fewC (m : Md) (o : List Int) (keep : Int) : Go.Ear.Ct := if fewE m o keep = 0 then { ktT ⟨m, o⟩ keep with used := 1 } else ct0
def fewL (m : Md) (o : List Int) (keep : Int) : Rat := if fewE m o keep = 0 then 1 - kT ⟨m, o⟩ keep / lk ⟨m, o⟩ else 0
section
variable {m : Md} {o : List Int} {keep : Int} {S T : SV}
instance Few_c [i : VM S m] [j : Vw (lv rI) T o] : Ct Tryz.prog 75 [S, T, iv keep] ((o.length ≤ 1048576) ∧ MdB 10000000 m ∧ (checkE [m] [o] = 0 → MdB 100000 m ∧ FwB ⟨m, o⟩ ∧ RfB ⟨m, o⟩ keep ∧ BpB ⟨m, o⟩ keep ∧ KnB ⟨m, o⟩ keep ∧ m.start.length ≤ 19 ∧ bq (lk ⟨m, o⟩) ≤ 60000000)) (.tp [ctv (fewC m o keep), kk (fewL m o keep), iv (fewE m o keep)]) := by
  haveI := i.t
  refine ct2 i.v j (ctI Tryz.call75 Tryz.func75 Tryz.ntmps75 rfl Tryz.results75 rfl [33] fun h0 w0 ⟨h1, h2, h3⟩ => ?_)
  have hx := one_mdb h2
  have ho := one_len (n := 1099511627776) (show o.length ≤ 1099511627776 by omega)
  repeat first | refine nx ?_ | intro _
  refine gIf (fun c1 => ?_) fun c1 => ?_
  · have e0 : fewE m o keep = checkE [m] [o] := if_pos c1
    have e1 : fewC m o keep = ct0 := if_neg (by rw [e0]; exact c1)
    have e2 : fewL m o keep = 0 := if_neg (by rw [e0]; exact c1)
    rw [e1, e2, e0]
    repeat first | refine nx ?_ | intro _
    rw [frK_zero]; (repeat' (first | refine And.intro ?_ ?_ | trivial | rfl | omega))
  have hE : checkE [m] [o] = 0 := Classical.not_not.1 c1
  have tk := checkE_TOk hE
  obtain ⟨hb, hf, hrf, hbp, hkn, h19, hlq⟩ := h3 hE
  repeat first | refine nx ?_ | intro _
  refine gIf (fun c2 => ?_) fun c2 => ?_
  · have e0 : fewE m o keep = 2 := by unfold fewE; rw [if_neg c1, if_pos c2]
    have e1 : fewC m o keep = ct0 := if_neg (by rw [e0]; decide)
    have e2 : fewL m o keep = 0 := if_neg (by rw [e0]; decide)
    rw [e1, e2, e0]
    repeat first | refine nx ?_ | intro _
    rw [frK_zero]; (repeat' (first | refine And.intro ?_ ?_ | trivial | rfl | omega))
  have a1 : (fwdAll ⟨m, o⟩).length ≤ 1048576 := by rw [fwdAll_len]; exact h1
  have a2 : m.start.length ≤ 1048576 := by have := tk.s40; dsimp only at *; omega
  have a3 := tk.fin
  have a4 := lik_len ⟨m, o⟩
  have a5 : ∃ b, (∀ i, i < m.start.length → bq (((fwdAll ⟨m, o⟩).getD ((fwdAll ⟨m, o⟩).length - 1) []).getD i 0) + bf (m.fin.getD i fr0) ≤ b) ∧ m.start.length * (b + 1) ≤ 60000000 := ⟨400001, fun i _ => lik_bd hf hb i, by have := tk.s40; dsimp only at *; omega⟩
  have hsy : symb m ≤ 1048576 := by
    have := (checkE_n hE).2.2
    unfold longM at this
    simp only [Bool.or_eq_false_iff, decide_eq_false_iff_not, Bool.and_eq_false_iff] at this
    have := valid_len (checkE_n hE).2.1
    omega
  by_cases hz : kT ⟨m, o⟩ keep = 0
  · haveI : KZ ⟨m, o⟩ keep := ⟨hz⟩
    have e0 : fewE m o keep = 7 := by unfold fewE; rw [if_neg c1, if_neg c2, if_pos hz]
    have e1 : fewC m o keep = ct0 := if_neg (by rw [e0]; decide)
    have e2 : fewL m o keep = 0 := if_neg (by rw [e0]; decide)
    rw [e1, e2, e0]
    repeat first | refine nx ?_ | intro _
    rw [frK_zero]; (repeat' (first | refine And.intro ?_ ?_ | trivial | rfl | omega))
  · haveI : KN ⟨m, o⟩ keep := ⟨hz⟩
    have e0 : fewE m o keep = 0 := by unfold fewE; rw [if_neg c1, if_neg c2, if_neg hz]
    have e1 : fewC m o keep = { ktT ⟨m, o⟩ keep with used := 1 } := if_pos e0
    have e2 : fewL m o keep = 1 - kT ⟨m, o⟩ keep / lk ⟨m, o⟩ := if_pos e0
    rw [e1, e2, e0]
    have hkl := hkn.l
    have hlq2 : bq (likT ⟨m, o⟩ (fwdAll ⟨m, o⟩)) ≤ 60000000 := by rw [lk_def]; exact hlq
    have hdq := bq_div (kT ⟨m, o⟩ keep) (likT ⟨m, o⟩ (fwdAll ⟨m, o⟩))
    have h11 : bq ((1 : Int) : Rat) ≤ 2 := bq_intc (by decide) (by decide)
    repeat first | refine gDxL 12 (fun j => Nat.beq j 8) 11 (by rfl) (by kernel_rfl) ?_ | refine gDxL 10 (fun _ => false) 7 (by rfl) (by kernel_rfl) ?_ | refine nx ?_ | intro _
    rw [lk_def]; (repeat' (first | refine And.intro ?_ ?_ | trivial | rfl | omega))
end
end Go.E3
