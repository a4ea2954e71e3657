/- K11: a part of the proofs about package model: how the program's functions run, and what they compute, for every input. -/
import Derived.Test.YtpmndikbfalfoaaGreatRows
import Derived.ProofKit
import Derived.OpenShut
import Derived.JoinedCond
import Derived.Deep.Slices
import Derived.Lib.SmallJoins
import Derived.Carry
import Derived.Stop.LaidErr
import Derived.Test.YtpmndikbfalfoaaGreatK10
set_option linter.all false
set_option linter.unusedVariables false
set_option maxRecDepth 20000
set_option maxHeartbeats 400000
set_option synthInstance.maxSize 1000
namespace Go.E3
open Go Go.Ear Go.Proofs
abbrev TlT := Value × Value × Value × Value × Value × List Value × List Value
@[reducible] def tlR (s : TlT) (S : List Fr) (M : List (List Fr)) (E : List Fr) (Y : List (List Fr)) (u n : Int) (t : Fr) (B : List Res) : List Res :=
  rV s.1 [ov s.2.1, ov s.2.2.1, ov s.2.2.2.1, ov s.2.2.2.2.1, iv u, iv n, bv t.neg, lv rU t.n, lv rU t.d] 127 :: rA rF 31 s.2.1 S :: rA rW 22 s.2.2.1 s.2.2.2.2.2.1 :: rZ rF 31 s.2.2.2.2.2.1 M :: rA rF 31 s.2.2.2.1 E :: rA rW 22 s.2.2.2.2.1 s.2.2.2.2.2.2 :: rZ rF 31 s.2.2.2.2.2.2 Y :: B
instance empty_c {m : Md} {B : List Res} : CtR Tryz.prog 161 [mv m] B (m.start.length ≤ 1048576 ∧ symb m ≤ 1048576 ∧ 0 < m.say.length) TlT (fun s => ov s.1) (fun s => tlR s (List.replicate m.start.length fr0) (List.replicate m.start.length (List.replicate m.start.length fr0)) (List.replicate m.start.length fr0) (List.replicate m.start.length (List.replicate (symb m) fr0)) 0 0 fr0 B) := by
  refine (ctR Tryz.call161 Tryz.func161 Tryz.ntmps161 rfl Tryz.results161 rfl [17, 22, 25] fun h0 w0 ⟨h1, h2, h3⟩ => ?_)
  unfold symb at h2
  repeat first | refine gDr 10 (by kernel_rfl) ?_ | refine nx ?_ | intro _
  rename_i ν ν2 v
  exact gEr (σ := TlT) (v, (ν2 14).v, (ν2 17).v, (ν2 19).v, (ν2 22).v, (ν2 17).l, (ν2 22).l)
end Go.E3
set_option linter.unusedVariables false
set_option maxRecDepth 20000
set_option maxHeartbeats 4000000
set_option synthInstance.maxSize 1000
namespace Go.E3
open Go Go.Ear Go.Proofs
def addF (a b : List Fr) : List Fr := (List.range a.length).map fun i => frK ((a.getD i fr0).rat + (b.getD i fr0).rat)
theorem addF_len (a b : List Fr) : (addF a b).length = a.length := by simp [addF]
theorem addF_at {a b : List Fr} {i : Nat} (hi : i < a.length) : frK ((a.getD i fr0).rat + (b.getD i fr0).rat) = (addF a b).getD i fr0 := by rw [addF, range_getD _ _ hi]
instance addF_ft {a b : List Fr} : FtS (addF a b) := ⟨fun f hf => by obtain ⟨i, _, rfl⟩ := List.mem_map.1 hf; infer_instance⟩
theorem upTo_ft {r l : List Fr} {i : Nat} (a : FtS r) (b : FtS l) : FtS (upTo r l i) := ⟨fun f hf => by
  unfold upTo at hf
  rcases List.mem_append.1 hf with h | h
  · exact a.h f (List.mem_of_mem_take h)
  · exact b.h f (List.mem_of_mem_drop h)⟩
theorem plusF_b {v : Value} {la lb : List Fr} {rest : List Res} [fa : FtS la] [fb : FtS lb] : CtR Tryz.prog 200 [ov v, lv rF lb, .cv (.func (.func 184) #[] #[])] (rA rF 31 v la :: rest) (lb.length = la.length ∧ la.length ≤ 1048576 ∧ ∀ i, i < la.length → bf (la.getD i fr0) + bf (lb.getD i fr0) ≤ 134217000) Unit (fun _ => .tp []) (fun _ => rA rF 31 v (addF la lb) :: rest) := by
  refine (ctR Tryz.call200 Tryz.func200 Tryz.ntmps200 rfl Tryz.results200 rfl [] fun h0 w0 ⟨h1, h2, h3⟩ => ?_)
  repeat first | refine nx ?_ | intro _
  refine gLp (fun i : Nat => [(9, iv i)]) (fun i => [rA rF 31 v (upTo (addF la lb) la i)]) (fun i => i ≤ la.length) (fun i => la.length - i) 0 (Nat.zero_le _) (fun i hi => ?_) (h2 := by rw [upTo_zero]; exact ⟨rfl, trivial⟩)
  haveI := upTo_ft (i := i) (addF_ft (a := la) (b := lb)) fa
  have hul : (upTo (addF la lb) la i).length = la.length := upTo_len (addF_len _ _)
  repeat first | refine nx ?_ | intro _
  refine gIf (fun c => ?_) fun c => ?_
  · have hb := h3 i c
    have hu : (upTo (addF la lb) la i).getD i fr0 = la.getD i fr0 := upTo_get (addF_len _ _) c
    rw [← hu] at hb
    repeat first | refine nx ?_ | intro _
    rw [hu, upTo_set (addF_len _ _) c (addF_at c)]
    exact gBk (i + 1) (by omega) (by omega)
  · repeat first | refine nx ?_ | intro _
    rw [upTo_end (addF_len _ _) (by omega)]
    exact gEr ()
theorem CtR.to {P : Program} {f : FuncId} {args : List SV} {B B1 : List Res} {sd : Prop} {σ : Type} {S : σ → SV} {B' : σ → List Res} (c : CtR P f args B1 sd σ S B') (h : Sb B B1) : CtR P f args B sd σ S B' := ⟨c.fn, fun a h0 w0 hh w vs g o u => c.h a g (h.own o) u⟩
section
variable {B B1 : List Res} {v : Value} {la lb : List Fr}
instance plusF_c [pa : PA B v Fr rF 31 la B1] [fa : FtS la] [fb : FtS lb] : CtR Tryz.prog 200 [ov v, lv rF lb, .cv (.func (.func 184) #[] #[])] B (lb.length = la.length ∧ la.length ≤ 1048576 ∧ ∀ i, i < la.length → bf (la.getD i fr0) + bf (lb.getD i fr0) ≤ 134217000) Unit (fun _ => .tp []) (fun _ => rA rF 31 v (addF la lb) :: B1) := plusF_b.to pa.h
theorem add1_b {rest : List Res} [fa : FtS la] [fb : FtS lb] : CtR Tryz.prog 199 [ov v, lv rF lb] (rA rF 31 v la :: rest) (lb.length = la.length ∧ la.length ≤ 1048576 ∧ ∀ i, i < la.length → bf (la.getD i fr0) + bf (lb.getD i fr0) ≤ 134217000) Unit (fun _ => ov v) (fun _ => rA rF 31 v (addF la lb) :: rest) := by
  refine (ctR Tryz.call199 Tryz.func199 Tryz.ntmps199 rfl Tryz.results199 rfl [] fun h0 w0 ⟨h1, h2, h3⟩ => ?_)
  repeat first | refine nx ?_ | intro _
  exact gEr ()
instance add1_c [pa : PA B v Fr rF 31 la B1] [fa : FtS la] [fb : FtS lb] : CtR Tryz.prog 199 [ov v, lv rF lb] B (lb.length = la.length ∧ la.length ≤ 1048576 ∧ ∀ i, i < la.length → bf (la.getD i fr0) + bf (lb.getD i fr0) ≤ 134217000) Unit (fun _ => ov v) (fun _ => rA rF 31 v (addF la lb) :: B1) := add1_b.to pa.h
end
def addG (a b : List (List Fr)) : List (List Fr) := (List.range a.length).map fun i => addF (a.getD i []) (b.getD i [])
theorem addG_len (a b : List (List Fr)) : (addG a b).length = a.length := by simp [addG]
theorem addG_at {a b : List (List Fr)} {i : Nat} (hi : i < a.length) : addF (a.getD i []) (b.getD i []) = (addG a b).getD i [] := by rw [addG, range_getD _ _ hi]
instance addG_ft {a b : List (List Fr)} : FtR (addG a b) := ⟨fun f hf => by obtain ⟨i, _, rfl⟩ := List.mem_map.1 hf; infer_instance⟩
theorem upToR_ft {r l : List (List Fr)} {i : Nat} (a : FtR r) (b : FtR l) : FtR (upTo r l i) := ⟨fun f hf => by
  unfold upTo at hf
  rcases List.mem_append.1 hf with h | h
  · exact a.h f (List.mem_of_mem_take h)
  · exact b.h f (List.mem_of_mem_drop h)⟩
theorem plusM_b {v : Value} {vs : List Value} {la lb : List (List Fr)} {rest : List Res} [fa : FtR la] [fb : FtR lb] : CtR Tryz.prog 201 [ov v, lv (rL rF) lb, .cv (.func (.func 199) #[] #[])] (rA rW 22 v vs :: rZ rF 31 vs la :: rest) (lb.length = la.length ∧ la.length ≤ 1048576 ∧ ∀ i, i < la.length → (lb.getD i []).length = (la.getD i []).length ∧ (la.getD i []).length ≤ 1048576 ∧ ∀ j, j < (la.getD i []).length → bf ((la.getD i []).getD j fr0) + bf ((lb.getD i []).getD j fr0) ≤ 134217000) Unit (fun _ => .tp []) (fun _ => rA rW 22 v vs :: rZ rF 31 vs (addG la lb) :: rest) := by
  refine (ctR Tryz.call201 Tryz.func201 Tryz.ntmps201 rfl Tryz.results201 rfl [] fun h0 w0 ⟨h1, h2, h3⟩ => ?_)
  refine gZl vs fun hvs => ?_
  repeat first | refine nx ?_ | intro _
  refine gLp (fun i : Nat => [(9, iv i)]) (fun i => [rZ rF 31 vs (upTo (addG la lb) la i)]) (fun i => i ≤ la.length) (fun i => la.length - i) 0 (Nat.zero_le _) (fun i hi => ?_) (h2 := by rw [upTo_zero]; exact ⟨rfl, trivial⟩)
  haveI := upToR_ft (i := i) (addG_ft (a := la) (b := lb)) fa
  have hul : (upTo (addG la lb) la i).length = la.length := upTo_len (addG_len _ _)
  repeat first | refine nx ?_ | intro _
  refine gIf (fun c => ?_) fun c => ?_
  · have hb := h3 i (by omega)
    have hu : (upTo (addG la lb) la i).getD i [] = la.getD i [] := upTo_get (addG_len _ _) (by omega)
    rw [← hu] at hb
    obtain ⟨hb1, hb2, hb3⟩ := hb
    repeat first | refine gDrL (fun j => Nat.ble j 1) 12 (by kernel_rfl) ?_ | refine nx ?_ | intro _
    rw [set_getD, List.set_set, hu, upTo_set (d := []) (addG_len _ _) (by omega) (addG_at (by omega))]
    exact gBk (i + 1) (by omega) (by omega)
  · repeat first | refine nx ?_ | intro _
    rw [upTo_end (addG_len _ _) (by omega)]
    exact gEr ()
end Go.E3
set_option linter.unusedVariables false
set_option maxRecDepth 20000
set_option maxHeartbeats 4000000
set_option synthInstance.maxSize 1000
namespace Go.E3
open Go Go.Ear Go.Proofs
section
variable {B B1 B2 : List Res} {v : Value} {vs : List Value} {la lb : List (List Fr)}
instance fpsM {α : Type} {r : Rp α} {e ew : TypeId} {q q' : List (List α)} [p1 : PA B v Value rW ew vs B1] [p2 : PZ B1 vs α r e q B2] : FpS (rA rW ew v vs :: rZ r e vs q' :: B2) B := ⟨fun r' hr' i hi => by
  have key := (p1.h.trans (p2.h.cons _)).fp
  rcases List.mem_cons.1 hr' with rfl | hr'
  · exact key _ (List.mem_cons_self ..) i hi
  · rcases List.mem_cons.1 hr' with rfl | hr'
    · exact key _ (List.mem_cons_of_mem _ (List.mem_cons_self ..)) i hi
    · exact key _ (List.mem_cons_of_mem _ (List.mem_cons_of_mem _ hr')) i hi⟩
instance plusM_c [p1 : PA B v Value rW 22 vs B1] [p2 : PZ B1 vs Fr rF 31 la B2] [fa : FtR la] [fb : FtR lb] : CtR Tryz.prog 201 [ov v, lv (rL rF) lb, .cv (.func (.func 199) #[] #[])] B (lb.length = la.length ∧ la.length ≤ 1048576 ∧ ∀ i, i < la.length → (lb.getD i []).length = (la.getD i []).length ∧ (la.getD i []).length ≤ 1048576 ∧ ∀ j, j < (la.getD i []).length → bf ((la.getD i []).getD j fr0) + bf ((lb.getD i []).getD j fr0) ≤ 134217000) Unit (fun _ => .tp []) (fun _ => rA rW 22 v vs :: rZ rF 31 vs (addG la lb) :: B2) := plusM_b.to (p1.h.trans (p2.h.cons _))
end
section
variable {S E dS dE : List Fr} {M Y dM dY : List (List Fr)} {K1 K2 K3 K4 K5 : SV} {u n : Int} {t : Fr} {s : TlT} {rest : List Res}
@[reducible] def okP (a b : List Fr) : Prop := b.length = a.length ∧ a.length ≤ 1048576 ∧ ∀ i, i < a.length → bf (a.getD i fr0) + bf (b.getD i fr0) ≤ 134217000
@[reducible] def okM (a b : List (List Fr)) : Prop := b.length = a.length ∧ a.length ≤ 1048576 ∧ ∀ i, i < a.length → (b.getD i []).length = (a.getD i []).length ∧ (a.getD i []).length ≤ 1048576 ∧ ∀ j, j < (a.getD i []).length → bf ((a.getD i []).getD j fr0) + bf ((b.getD i []).getD j fr0) ≤ 134217000
theorem tadd_b [f1 : FtS S] [f2 : FtR M] [f3 : FtS E] [f4 : FtR Y] [g1 : FtS dS] [g2 : FtR dM] [g3 : FtS dE] [g4 : FtR dY] : CtR Tryz.prog 162 [ov s.1, .pk [lv rF dS, lv (rL rF) dM, lv rF dE, lv (rL rF) dY, K1, K2, K3, K4, K5] 0] (tlR s S M E Y u n t rest) (okP S dS ∧ okM M dM ∧ okP E dE ∧ okM Y dY) Unit (fun _ => .tp []) (fun _ => tlR s (addF S dS) (addG M dM) (addF E dE) (addG Y dY) u n t rest) := by
  obtain ⟨c, a, m, e, y, vm, vy⟩ := s
  dsimp only [tlR]
  refine (ctR Tryz.call162 Tryz.func162 Tryz.ntmps162 rfl Tryz.results162 rfl [] fun h0 w0 ⟨⟨p1, p2, p3⟩, ⟨q1, q2, q3⟩, ⟨r1, r2, r3⟩, ⟨t1, t2, t3⟩⟩ => ?_)
  repeat first | refine nx ?_ | intro _
  exact gEr ()
instance tadd_c {c a m e y : Value} {vm vy : List Value} {B B0 B1 B2 B3 B4 B5 B6 : List Res} [pv : PV B c [ov a, ov m, ov e, ov y, iv u, iv n, bv t.neg, lv rU t.n, lv rU t.d] 127 B0] [p1 : PA B0 a Fr rF 31 S B1] [p2 : PA B1 m Value rW 22 vm B2] [p3 : PZ B2 vm Fr rF 31 M B3] [p4 : PA B3 e Fr rF 31 E B4] [p5 : PA B4 y Value rW 22 vy B5] [p6 : PZ B5 vy Fr rF 31 Y B6] [f1 : FtS S] [f2 : FtR M] [f3 : FtS E] [f4 : FtR Y] [g1 : FtS dS] [g2 : FtR dM] [g3 : FtS dE] [g4 : FtR dY] :
    CtR Tryz.prog 162 [ov c, .pk [lv rF dS, lv (rL rF) dM, lv rF dE, lv (rL rF) dY, K1, K2, K3, K4, K5] 0] B (okP S dS ∧ okM M dM ∧ okP E dE ∧ okM Y dY) Unit (fun _ => .tp []) (fun _ => tlR (c, a, m, e, y, vm, vy) (addF S dS) (addG M dM) (addF E dE) (addG Y dY) u n t B6) :=
  (tadd_b (s := (c, a, m, e, y, vm, vy))).to (pv.h.trans ((p1.h.cons _).trans (((p2.h.cons _).cons _).trans ((((p3.h.cons _).cons _).cons _).trans (((((p4.h.cons _).cons _).cons _).cons _).trans ((((((p5.h.cons _).cons _).cons _).cons _).cons _).trans (((((((p6.h.cons _).cons _).cons _).cons _).cons _).cons _))))))))
end
instance cnt1_c {a : Fr} {x : Rat} {A : Nat} {S : SV} {B : List Res} {v6 p : Value} {c1 c2 c3 c4 c5 c6 : SV} {q : Fr} {Q : Rat} {Qb : Nat} [i : VF S a x A] [hv : HC B v6 [ov p]] [hc : HC B p [c1, c2, c3, c4, c5, c6, bv q.neg, lv rU q.n, lv rU q.d]] [fq : FtF q] [rq : Rt q Q] [bq : Bfe q Qb] : CtB Tryz.prog 190 [S, ov v6] B (A + Qb ≤ 134217000) (kk (x / Q)) := by
  haveI := i.t
  haveI : Rt a x := ⟨i.r⟩
  have hA := i.b
  have hQ := bq.h
  refine cB1 i.v (ctB Tryz.call190 Tryz.func190 Tryz.ntmps190 rfl Tryz.results190 rfl [] fun h0 w0 hb => ?_)
  repeat first | refine gDr 11 (by kernel_rfl) ?_ | refine nx ?_ | intro _
  refine gIf (fun c => ?_) fun c => ?_
  · repeat first | refine nx ?_ | intro _
    rw [sgQ_zero.1 c, zero_div_rat, frK_zero]; (repeat' (first | refine And.intro ?_ ?_ | trivial | rfl | omega))
  · repeat first | refine gDr 11 (by kernel_rfl) ?_ | refine nx ?_ | intro _
    (repeat' (first | refine And.intro ?_ ?_ | trivial | rfl | omega))
end Go.E3
set_option linter.unusedVariables false
set_option maxRecDepth 20000
set_option maxHeartbeats 40000000
set_option synthInstance.maxSize 1000
namespace Go.E3
open Go Go.Ear Go.Proofs
theorem lk_def (t : Tr) : likT t (fwdAll t) = lk t := rfl
theorem pM_def (t : Tr) (i k j : Nat) : wM t i k j / lk t = pM t i k j := rfl
theorem sayRow_def (t : Tr) (i k : Nat) : (sayRow t i k).set (t.o.getD k 0).toNat ((sayRow t i k).getD (t.o.getD k 0).toNat 0 + pY t i k) = sayRow t i (k + 1) := rfl
theorem cntM_def (t : Tr) : (List.range t.m.start.length).map (fun i => (mvRow t i (t.o.length - 1)).map frK) = (cntM t).map (·.map frK) := by unfold cntM; rw [List.map_map]; rfl
theorem cntY_def (t : Tr) : (List.range t.m.start.length).map (fun i => (sayRow t i t.o.length).map frK) = (cntY t).map (·.map frK) := by unfold cntY; rw [List.map_map]; rfl
theorem mvRow_zero (t : Tr) (i : Nat) : mvRow t i 0 = List.replicate t.m.start.length 0 := rfl
theorem sayRow_zero (t : Tr) (i : Nat) : sayRow t i 0 = List.replicate (symb t.m) 0 := rfl
theorem cntS_def (t : Tr) : cntS t = (List.range t.m.start.length).map (pS t) := rfl
theorem cntE_def (t : Tr) : cntE t = (List.range t.m.start.length).map (pE t) := rfl
theorem ge_of {a b : Nat} (h : a = b) : b ≤ a := Nat.le_of_eq h.symm
attribute [local irreducible] bq bf frK wts fwdAll bwdAll fwd bwd lk likT mvRow sayRow cntS cntE cntM cntY pM pY wM Go.Ear.rowAt upTo List.getD sz
@[reducible] def tlK (c : Go.Ear.Ct) (q : Rat) : SV := .pk [lv rF (c.start.map frK), lv (rL rF) (c.move.map (·.map frK)), lv rF (c.fin.map frK), lv (rL rF) (c.say.map (·.map frK)), iv 0, iv 0, bv (frK q).neg, lv rU (frK q).n, lv rU (frK q).d] 0
instance count_c {m : Md} {o : List Int} [ft : FtM m] : Ct Tryz.prog 139 [trK m o] (TOk ⟨m, o⟩ ∧ MdB 100000 m ∧ FwB ⟨m, o⟩ ∧ BwB ⟨m, o⟩ ∧ CnB ⟨m, o⟩ ∧ symb m ≤ 1048576) (.tp [bif decide (lk ⟨m, o⟩ = 0) then .cv (.pointer none) else tlK (cntT ⟨m, o⟩) (lk ⟨m, o⟩), bv (!decide (lk ⟨m, o⟩ = 0))]) := by
  refine (ctI Tryz.call139 Tryz.func139 Tryz.ntmps139 rfl Tryz.results139 rfl [] fun h0 w0 ⟨tk, hb, hf, hbw, hcn, hsy⟩ => ?_)
  have hs1 := tk.s1
  have hs40 := tk.s40
  have hn := tk.n
  have hmv := tk.mv
  have hfn := tk.fin
  have hsl := tk.say
  dsimp only at hs1 hs40 hn hmv hfn hsl
  have gmv := ge_of hmv
  have gfn := ge_of hfn
  have gsl := ge_of hsl
  have tw : TW ⟨m, o⟩ := twOf hb
  have hfL := fwdAll_len ⟨m, o⟩
  have hbL := bwdAll_len ⟨m, o⟩
  dsimp only at hfL hbL
  have hsl0 : 0 < m.say.length := by omega
  have a1 : (fwdAll ⟨m, o⟩).length ≤ 1048576 := by omega
  have a2 : m.start.length ≤ 1048576 := by omega
  have a4 := lik_len ⟨m, o⟩
  have a5 : ∃ b, (∀ i, i < m.start.length → bq (((fwdAll ⟨m, o⟩).getD ((fwdAll ⟨m, o⟩).length - 1) []).getD i 0) + bf (m.fin.getD i fr0) ≤ b) ∧ m.start.length * (b + 1) ≤ 60000000 := ⟨400001, fun i _ => lik_bd hf hb i, by omega⟩
  have hlq : bq (likT ⟨m, o⟩ (fwdAll ⟨m, o⟩)) ≤ 60000000 := by rw [lk_def]; exact hcn.l
  repeat first | refine nx ?_ | intro _
  rename_i s v6 ν
  obtain ⟨c, a, mm, e, y, vm, vy⟩ := s
  dsimp only
  refine gIf (fun c0 => ?_) fun c0 => ?_
  · have hz : lk ⟨m, o⟩ = 0 := by rw [← lk_def]; exact sgQ_zero.1 c0
    simp only [decide_eq_true hz, cond_true, Bool.not_true]
    repeat first | refine nx ?_ | intro _
    (repeat' (first | refine And.intro ?_ ?_ | trivial | rfl | omega))
  have hnz : lk ⟨m, o⟩ ≠ 0 := fun e => c0 (by rw [lk_def]; exact sgQ_zero.2 e)
  simp only [decide_eq_false hnz, cond_false, Bool.not_false]
  have hn0 := lk_pos hnz
  dsimp only at hn0
  repeat first | refine nx ?_ | intro _
  rw [lk_def]
  refine gZl vm fun hvm => ?_
  refine gZl vy fun hvy => ?_
  rw [List.length_replicate] at hvm hvy
  have fa := hf.all
  have ba := hbw.all
  have hKF := fun k => len_KR (fwdAll ⟨m, o⟩) k
  have hKB := fun k => len_KR (bwdAll ⟨m, o⟩) k
  have hMF : ((fwdAll ⟨m, o⟩).map (·.map frK)).length = o.length := by rw [List.length_map, hfL]
  have hMB : ((bwdAll ⟨m, o⟩).map (·.map frK)).length = o.length := by rw [List.length_map, hbL]
  have hrF : ∀ k, k < o.length → (((fwdAll ⟨m, o⟩).map (·.map frK)).getD k []).length = m.start.length := fun k hk => by rw [hKF, fwdRow_len (t := ⟨m, o⟩) hk]
  have hrB : ∀ k, k < o.length → (((bwdAll ⟨m, o⟩).map (·.map frK)).getD k []).length = m.start.length := fun k hk => by rw [hKB, bwdRow_len (t := ⟨m, o⟩) hk]
  have hSl : True → (cntS ⟨m, o⟩).length = m.start.length := fun _ => cntS_len ⟨m, o⟩
  have hEl : True → (cntE ⟨m, o⟩).length = m.start.length := fun _ => cntE_len ⟨m, o⟩
  replace hvm := ge_of hvm
  replace hvy := ge_of hvy
  replace hMF := ge_of hMF
  replace hMB := ge_of hMB
  clear a1 a4 a5 hlq hmv hfn hsl hfL hbL
  refine gKp [47, 46, 8, 7, 6, 5, 4, 2, 3, 0] ?_
  refine gLp (fun s : Nat × List (List Fr) × List (List Fr) => [(47, iv s.1)]) (fun s => [rA rF 31 a (Go.Ear.rowAt ((cntS ⟨m, o⟩).map frK) fr0 m.start.length s.1), rA rF 31 e (Go.Ear.rowAt ((cntE ⟨m, o⟩).map frK) fr0 m.start.length s.1), rZ rF 31 vm s.2.1, rZ rF 31 vy s.2.2]) (fun s => s.1 ≤ m.start.length ∧ RW m.start.length s.1 (fun j => (mvRow ⟨m, o⟩ j (o.length - 1)).map frK) (List.replicate m.start.length fr0) s.2.1 ∧ RW m.start.length s.1 (fun j => (sayRow ⟨m, o⟩ j o.length).map frK) (List.replicate (symb m) fr0) s.2.2 ∧ FtR s.2.1 ∧ FtR s.2.2) (fun s => m.start.length - s.1) (0, List.replicate m.start.length (List.replicate m.start.length fr0), List.replicate m.start.length (List.replicate (symb m) fr0)) ⟨Nat.zero_le _, .start, .start, ⟨fun f hf => by rw [(List.mem_replicate.1 hf).2]; infer_instance⟩, ⟨fun f hf => by rw [(List.mem_replicate.1 hf).2]; infer_instance⟩⟩ (fun ⟨i, lm, ly⟩ ⟨hi, hm, hy, fm, fy⟩ => ?_) (h2 := by dsimp only; rw [Go.Ear.rowAt_zero, Go.Ear.rowAt_zero]; (repeat' (first | refine And.intro ?_ ?_ | trivial | rfl | omega)))
  dsimp only at hi hm hy fm fy ⊢
  repeat first | refine nx ?_ | intro _
  refine gIf (fun ci => ?_) fun ci => ?_
  · have l1 := ge_of (hrF 0 hn0)
    have l2 := ge_of (hrB 0 hn0)
    have l3 := ge_of (hrF (o.length - 1) (by omega))
    have s1 : bq (((fwdAll ⟨m, o⟩).getD 0 []).getD i 0) + bq (((bwdAll ⟨m, o⟩).getD 0 []).getD i 0) ≤ 134217000 := by have := fa 0 i; have := ba 0 i; omega
    have s2 : bq (((fwdAll ⟨m, o⟩).getD 0 []).getD i 0 * ((bwdAll ⟨m, o⟩).getD 0 []).getD i 0) + bq (lk ⟨m, o⟩) ≤ 134217000 := by have := bq_mul (((fwdAll ⟨m, o⟩).getD 0 []).getD i 0) (((bwdAll ⟨m, o⟩).getD 0 []).getD i 0); have := fa 0 i; have := ba 0 i; have := hcn.l; omega
    have s3 : bq (((fwdAll ⟨m, o⟩).getD (o.length - 1) []).getD i 0) + bf (m.fin.getD i fr0) ≤ 134217000 := by have := fa (o.length - 1) i; have := hb.fb i; omega
    have s4 : bq (((fwdAll ⟨m, o⟩).getD (o.length - 1) []).getD i 0 * (m.fin.getD i fr0).rat) + bq (lk ⟨m, o⟩) ≤ 134217000 := by have := bq_mul (((fwdAll ⟨m, o⟩).getD (o.length - 1) []).getD i 0) (m.fin.getD i fr0).rat; have := FtS.bqg (l := m.fin) inferInstance i; have := fa (o.length - 1) i; have := hb.fb i; have := hcn.l; omega
    have l4 : m.start.length ≤ (Go.Ear.rowAt ((cntS ⟨m, o⟩).map frK) fr0 m.start.length i).length := ge_of (Go.Ear.rowAt_len (by rw [List.length_map, hSl trivial]) hi)
    have l5 : m.start.length ≤ (Go.Ear.rowAt ((cntE ⟨m, o⟩).map frK) fr0 m.start.length i).length := ge_of (Go.Ear.rowAt_len (by rw [List.length_map, hEl trivial]) hi)
    have e1 : (Go.Ear.rowAt ((cntS ⟨m, o⟩).map frK) fr0 m.start.length i).set i (frK (((fwdAll ⟨m, o⟩).getD 0 []).getD i 0 * ((bwdAll ⟨m, o⟩).getD 0 []).getD i 0 / lk ⟨m, o⟩)) = Go.Ear.rowAt ((cntS ⟨m, o⟩).map frK) fr0 m.start.length (i + 1) := Go.Ear.rowAt_set (by rw [List.length_map, hSl trivial]) ci (by rw [getD_K, pS_eq (t := ⟨m, o⟩) hn0]; rw [cntS_def]; exact congrArg frK (range_getD (pS ⟨m, o⟩) _ ci).symm)
    have e2 : (Go.Ear.rowAt ((cntE ⟨m, o⟩).map frK) fr0 m.start.length i).set i (frK (((fwdAll ⟨m, o⟩).getD (o.length - 1) []).getD i 0 * (m.fin.getD i fr0).rat / lk ⟨m, o⟩)) = Go.Ear.rowAt ((cntE ⟨m, o⟩).map frK) fr0 m.start.length (i + 1) := Go.Ear.rowAt_set (by rw [List.length_map, hEl trivial]) ci (by rw [getD_K, pE_eq (t := ⟨m, o⟩) hn0]; rw [cntE_def]; exact congrArg frK (range_getD (pE ⟨m, o⟩) _ ci).symm)
    have hml := ge_of hm.l
    have hyl := ge_of hy.l
    repeat first | refine nx ?_ | intro _
    rw [e1, e2]
    refine gKp [103, 102, 101, 9, 47, 46, 8, 7, 6, 5, 4, 2, 3, 0] ?_
    refine gLp (fun k : Nat => [(103, iv k)]) (fun k => [rZ rF 31 vm (lm.set i ((mvRow ⟨m, o⟩ i (min k (o.length - 1))).map frK)), rZ rF 31 vy (ly.set i ((sayRow ⟨m, o⟩ i k).map frK))]) (fun k => k ≤ o.length) (fun k => o.length - k) 0 (Nat.zero_le _) (fun k hk => ?_) (h2 := by
      rw [Nat.zero_min, show (mvRow ⟨m, o⟩ i 0).map frK = lm.getD i [] by rw [hm.z i (Nat.le_refl _) ci]; rw [mvRow_zero]; simp [frK_zero], show (sayRow ⟨m, o⟩ i 0).map frK = ly.getD i [] by rw [hy.z i (Nat.le_refl _) ci]; rw [sayRow_zero]; simp [frK_zero], set_getD, set_getD]; (repeat' (first | refine And.intro ?_ ?_ | trivial | rfl | omega)))
    haveI := fm.set (x := (mvRow ⟨m, o⟩ i (min k (o.length - 1))).map frK) inferInstance i
    haveI := fy.set (x := (sayRow ⟨m, o⟩ i k).map frK) inferInstance i
    have r1 : (ly.set i ((sayRow ⟨m, o⟩ i k).map frK)).getD i [] = (sayRow ⟨m, o⟩ i k).map frK := by rw [getD_set _ _ _ (by omega), if_pos rfl]
    have r2 : ((ly.set i ((sayRow ⟨m, o⟩ i k).map frK)).getD i []).length = symb m := by rw [r1, List.length_map]; exact sayRow_len ⟨m, o⟩ i k
    repeat first | refine nx ?_ | intro _
    refine gIf (fun ck => ?_) fun ck => ?_
    · have l6 := ge_of (hrF k ck)
      have l7 := ge_of (hrB k ck)
      have hso := tk.sy0 (k := k) ck
      dsimp only at hso
      have s5 : bq (((fwdAll ⟨m, o⟩).getD k []).getD i 0) + bq (((bwdAll ⟨m, o⟩).getD k []).getD i 0) ≤ 134217000 := by have := fa k i; have := ba k i; omega
      have s6 : bq (((fwdAll ⟨m, o⟩).getD k []).getD i 0 * ((bwdAll ⟨m, o⟩).getD k []).getD i 0) + bq (lk ⟨m, o⟩) ≤ 134217000 := by have := bq_mul (((fwdAll ⟨m, o⟩).getD k []).getD i 0) (((bwdAll ⟨m, o⟩).getD k []).getD i 0); have := fa k i; have := ba k i; have := hcn.l; omega
      have s7 : bf (((ly.set i ((sayRow ⟨m, o⟩ i k).map frK)).getD i []).getD (o.getD k 0).toNat fr0) + bq (((fwdAll ⟨m, o⟩).getD k []).getD i 0 * ((bwdAll ⟨m, o⟩).getD k []).getD i 0 / lk ⟨m, o⟩) ≤ 134217000 := by
        have h1 := hcn.pY i k ck
        rw [← pY_eq (t := ⟨m, o⟩) ck] at h1
        have h2 := hcn.y i k (o.getD k 0).toNat (Nat.le_of_lt ck)
        rw [r1, getD_K, bf_frK]
        exact Nat.le_trans (Nat.add_le_add h2 h1) (by decide)
      have l8 : k + 1 < o.length → (((bwdAll ⟨m, o⟩).map (·.map frK)).getD (k + 1) []).length = m.start.length := fun h => hrB (k + 1) h
      have b8 := fun j => ba (k + 1) j
      have fk := fun (_ : Unit) => fa k i
      have hwm := fun j => hb.mvb i j
      have hws := fun j => hb.syb j (o.getD (k + 1) 0).toNat
      clear e1 e2 hm hy hKF hKB hrF hrB fa ba l1 l2 l3 l4 l5 s1 s2 s3 s4 hSl hEl c0
      repeat first | refine nx ?_ | intro _
      have ey : (ly.set i ((sayRow ⟨m, o⟩ i k).map frK)).set i (((ly.set i ((sayRow ⟨m, o⟩ i k).map frK)).getD i []).set (o.getD k 0).toNat (frK ((((ly.set i ((sayRow ⟨m, o⟩ i k).map frK)).getD i []).getD (o.getD k 0).toNat fr0).rat + ((fwdAll ⟨m, o⟩).getD k []).getD i 0 * ((bwdAll ⟨m, o⟩).getD k []).getD i 0 / lk ⟨m, o⟩))) = ly.set i ((sayRow ⟨m, o⟩ i (k + 1)).map frK) := by
        rw [r1, getD_K, frK_rat, pY_eq (t := ⟨m, o⟩) ck, List.set_set, ← List.map_set, sayRow_def ⟨m, o⟩ i k]
      rw [ey]
      refine gIf (fun c2 => ?_) fun c2 => ?_
      · have em : min k (o.length - 1) = min (k + 1) (o.length - 1) := by omega
        repeat first | refine nx ?_ | intro _
        rw [em]
        exact gBk (k + 1) (by omega) (by omega)
      have hk1 : k + 1 < o.length := by omega
      have hsi := fun j (hj : j < m.start.length) => tk.sayi j (k + 1) hj hk1
      have l9 := ge_of (l8 hk1)
      have hmi := tk.mvi i ci
      dsimp only at hsi hmi
      have hwb := fun j => wM_bd (t := ⟨m, o⟩) tw hf hbw i j hk1
      have hpm := fun j => hcn.pM i k j ck
      have hcm := fun j => hcn.m i k j (Nat.le_of_lt ck)
      rw [show min k (o.length - 1) = k by omega]
      clear ey r1 r2 s5 s6 s7
      repeat first | refine nx ?_ | intro _
      refine gKp [157, 156, 10, 103, 102, 101, 9, 47, 46, 8, 7, 6, 5, 4, 2, 3, 0] ?_
      have hul : ∀ j, (upTo (mvRow ⟨m, o⟩ i (k + 1)) (mvRow ⟨m, o⟩ i k) j).length = m.start.length := fun j => by rw [upTo_len (by rw [mvRow_len, mvRow_len]), mvRow_len]
      refine gLp (fun j : Nat => [(157, iv j)]) (fun j => [rZ rF 31 vm (lm.set i ((upTo (mvRow ⟨m, o⟩ i (k + 1)) (mvRow ⟨m, o⟩ i k) j).map frK))]) (fun j => j ≤ m.start.length) (fun j => m.start.length - j) 0 (Nat.zero_le _) (fun j hj => ?_) (h2 := by rw [upTo_zero]; (repeat' (first | refine And.intro ?_ ?_ | trivial | rfl | omega)))
      haveI := fm.set (x := (upTo (mvRow ⟨m, o⟩ i (k + 1)) (mvRow ⟨m, o⟩ i k) j).map frK) inferInstance i
      have u1 : (lm.set i ((upTo (mvRow ⟨m, o⟩ i (k + 1)) (mvRow ⟨m, o⟩ i k) j).map frK)).getD i [] = (upTo (mvRow ⟨m, o⟩ i (k + 1)) (mvRow ⟨m, o⟩ i k) j).map frK := by rw [getD_set _ _ _ (by omega), if_pos rfl]
      have u2 : ((lm.set i ((upTo (mvRow ⟨m, o⟩ i (k + 1)) (mvRow ⟨m, o⟩ i k) j).map frK)).getD i []).length = m.start.length := by rw [u1, List.length_map, hul]
      repeat first | refine nx ?_ | intro _
      refine gIf (fun cj => ?_) fun cj => ?_
      · have d4 := hsi j cj
        have hpw : prodF [(((fwdAll ⟨m, o⟩).map (·.map frK)).getD k []).getD i fr0, (m.move.getD i []).getD j fr0, (m.say.getD j []).getD (o.getD (k + 1) 0).toNat fr0, (((bwdAll ⟨m, o⟩).map (·.map frK)).getD (k + 1) []).getD j fr0] = wM ⟨m, o⟩ i k j := by rw [getD_KR, getD_K, getD_KR, getD_K]; exact wM_eq (t := ⟨m, o⟩) hk1
        have d7 : wts [(((fwdAll ⟨m, o⟩).map (·.map frK)).getD k []).getD i fr0, (m.move.getD i []).getD j fr0, (m.say.getD j []).getD (o.getD (k + 1) 0).toNat fr0, (((bwdAll ⟨m, o⟩).map (·.map frK)).getD (k + 1) []).getD j fr0] ≤ 134217724 := by rw [wts_cons, wts_cons, wts_cons, wts_cons, wts_nil, getD_KR, getD_K, getD_KR, getD_K, bf_frK, bf_frK]; have := hwm j; have := hws j; have := b8 j; have := fk (); omega
        have d8 : bq (prodF [(((fwdAll ⟨m, o⟩).map (·.map frK)).getD k []).getD i fr0, (m.move.getD i []).getD j fr0, (m.say.getD j []).getD (o.getD (k + 1) 0).toNat fr0, (((bwdAll ⟨m, o⟩).map (·.map frK)).getD (k + 1) []).getD j fr0]) + bq (lk ⟨m, o⟩) ≤ 134217000 := by rw [hpw]; exact Nat.le_trans (Nat.add_le_add (hwb j) hcn.l) (by decide)
        have d9 : bf (((lm.set i ((upTo (mvRow ⟨m, o⟩ i (k + 1)) (mvRow ⟨m, o⟩ i k) j).map frK)).getD i []).getD j fr0) + bq (prodF [(((fwdAll ⟨m, o⟩).map (·.map frK)).getD k []).getD i fr0, (m.move.getD i []).getD j fr0, (m.say.getD j []).getD (o.getD (k + 1) 0).toNat fr0, (((bwdAll ⟨m, o⟩).map (·.map frK)).getD (k + 1) []).getD j fr0] / lk ⟨m, o⟩) ≤ 134217000 := by
          rw [hpw, pM_def, u1, getD_K, bf_frK, upTo_get (by rw [mvRow_len, mvRow_len]) (by rw [mvRow_len]; exact cj)]; exact Nat.le_trans (Nat.add_le_add (hcm j) (hpm j)) (by decide)
        clear hwm hws b8 hsi hwb hpm hcm hul
        repeat first | refine nx ?_ | intro _
        have em : (lm.set i ((upTo (mvRow ⟨m, o⟩ i (k + 1)) (mvRow ⟨m, o⟩ i k) j).map frK)).set i (((lm.set i ((upTo (mvRow ⟨m, o⟩ i (k + 1)) (mvRow ⟨m, o⟩ i k) j).map frK)).getD i []).set j (frK ((((lm.set i ((upTo (mvRow ⟨m, o⟩ i (k + 1)) (mvRow ⟨m, o⟩ i k) j).map frK)).getD i []).getD j fr0).rat + prodF [(((fwdAll ⟨m, o⟩).map (·.map frK)).getD k []).getD i fr0, (m.move.getD i []).getD j fr0, (m.say.getD j []).getD (o.getD (k + 1) 0).toNat fr0, (((bwdAll ⟨m, o⟩).map (·.map frK)).getD (k + 1) []).getD j fr0] / lk ⟨m, o⟩))) = lm.set i ((upTo (mvRow ⟨m, o⟩ i (k + 1)) (mvRow ⟨m, o⟩ i k) (j + 1)).map frK) := by
          rw [u1, getD_K, frK_rat, hpw, List.set_set, ← List.map_set, upTo_get (by rw [mvRow_len, mvRow_len]) (by rw [mvRow_len]; exact cj), pM_def, mvRow_at (t := ⟨m, o⟩) cj, upTo_set (d := 0) (by rw [mvRow_len, mvRow_len]) (by rw [mvRow_len]; exact cj) rfl]
        rw [em]
        exact gBk (j + 1) (by omega) (by omega)
      · repeat first | refine nx ?_ | intro _
        rw [upTo_end (by rw [mvRow_len, mvRow_len]) (by rw [mvRow_len]; exact Nat.le_of_not_lt cj)]
        exact gBk (k + 1) (by omega) (by omega) (h2 := by rw [show min (k + 1) (o.length - 1) = k + 1 by omega]; (repeat' (first | refine And.intro ?_ ?_ | trivial | rfl | omega)))
    · repeat first | refine nx ?_ | intro _
      have ek : k = o.length := by omega
      rw [show min k (o.length - 1) = o.length - 1 by omega, ek]
      exact gBk (i + 1, lm.set i ((mvRow ⟨m, o⟩ i (o.length - 1)).map frK), ly.set i ((sayRow ⟨m, o⟩ i o.length).map frK)) ⟨by dsimp only; omega, hm.next ci rfl, hy.next ci rfl, fm.set inferInstance i, fy.set inferInstance i⟩ (by dsimp only; omega)
  · rw [Go.Ear.rowAt_end (by rw [List.length_map, hSl trivial]) (by omega), Go.Ear.rowAt_end (by rw [List.length_map, hEl trivial]) (by omega), hm.all (by omega), hy.all (by omega)]
    refine gFz a ?_
    refine gFz e ?_
    refine gFzM mm ?_
    refine gFzM y ?_
    repeat first | refine nx ?_ | intro _
    refine ⟨⟨rfl, ?_, rfl, ?_, trivial, trivial, trivial, trivial, trivial⟩, trivial⟩
    · show _ = List.map _ (cntM _); exact cntM_def ⟨m, o⟩
    · exact cntY_def ⟨m, o⟩
end Go.E3
set_option linter.unusedVariables false
namespace Go.E3
open Go Go.Ear
section
variable {P : Program} {n : Nat} {X : Fix} {ms : List Nat} {loc env : EL} {B : List Res} {k : Kt} {ol rest l : List Oper} {d m i : Nat} {op : Op} {ty : TypeId} {pos : String} {af : Array Edge} {t e : TypeId} {L : (Nat → Gh) → EL} {R : List (Nat × (Gh → Res))} {Ls : EL} {lt : Nat → Bool}
instance (priority := high) appN {α : Type} {r : Rp α} {bb : Nat} {d0 : α} {q' : List α} {o1 o2 : Operand} [lf : RflE (lt i) false] [ts : TS P t e] [rt : RT P e α r bb d0] [lx : Lu n true Ls env o1 (.cv (.slice none 0 0))] [ly : Lu n true Ls env o2 (lv r q')] : Nx (GE P n X ms Ls env B ol (⟨some d, .call ⟨.builtin .append, [o1, o2].toArray, [t, t].toArray⟩, ty, pos, af, none⟩ :: rest) k lt (m + 1) i L R) (q'.length ≤ 9223372036854775807 ∧ q'.length * bb ≤ 140737488355328) (GE P n X ms Ls env B ol rest k lt m (i + 1) (fun ν => (d, ov (ν d).v) :: L ν) ((d, fun g => rA r e g.v q') :: R)) := ⟨fun hs f => ⟨fun ql => .own d (fun g => rA r e g.v q') rfl (fun ν ρ h w s => by
  obtain ⟨z, ti, el, hz⟩ := rt.e
  have s' : Sx X.h0 X.w0 Ls env B [o1, o2] ρ h w := s.sub (fun x hx => by simp [looks, Op.operands, Call.operands] at hx ⊢; exact hx) (ql ν)
  have hx := cvE (lx.h rfl (s'.fx o1 (by simp)))
  have hy := ly.h rfl (s'.fx o2 (by simp))
  refine OpG.plain (OpW.appendL (lo := 0) ts.h el.hi el.hz el.hc el.hk s.gr.sat (Nat.zero_le _) hx rfl (OwnL.nil r 0 h w e) hy (by simpa using hs.1) (by rw [el.hb]; simpa using hs.2) fun v' w' own ow hbl => ?_)
  refine ⟨v', [], h, rfl, (Gr.refl s.gr.sat).ow ow (fun i hi => by cases hi), own_one own, by rw [List.nil_append] at own; exact own, fun i hi => ?_⟩
  rcases hbl i hi with x | x
  · cases x
  · exact ⟨x, (own.lt hi).1, (own.lt hi).2.1⟩) lf.h (f.p fun ν e h => List.mem_cons_of_mem _ (ql ν e h))⟩⟩
class FP (ps : List (Nat × SV)) (v : outParam Value) : Prop where t : True
instance {v : Value} {i : Nat} {l : List (Nat × SV)} : FP ((i, ov v) :: l) v := ⟨trivial⟩
instance (priority := low) {v : Value} {p : Nat × SV} {l : List (Nat × SV)} [FP l v] : FP (p :: l) v := ⟨trivial⟩
instance (priority := high) {α : Type} {v : Value} {r : Rp α} {q : List α} {env env' loc' : EL} {B1 B2 : List Res} {len : Nat} {xs : List (Nat × Operand)} {ps : List (Nat × SV)} [lx : Lup n true loc env xs ps] [fo : FP ps v] [pa : PA B v α r e q B1] [sl : SbE v (lv r q) loc loc'] [se : SbE v (lv r q) env env'] [sb : SbB v (lv r q) B1 B2] [d1 : SameDom loc loc'] [d2 : SameDom env env'] :
    Nx (GO P n X ms loc env B ol (⟨some d, .buildSlice t len xs.toArray, ty, pos, af, none⟩ :: rest) k) True (GO P n X ms loc' env' B2 ol (⟨some d, .buildSlice t len xs.toArray, ty, pos, af, none⟩ :: rest) k) := ⟨fun _ g => ⟨fun ok ρ h w s => by
  obtain ⟨h', s'⟩ := s.fz (v := v) (r := r) (q := q) (pa := pa) (sl := sl) (se := se) (sb := sb)
  exact g.p (by rw [d1.h, d2.h]; exact ok) ρ h' w s'⟩⟩
end
end Go.E3
set_option linter.unusedVariables false
set_option maxRecDepth 20000
set_option maxHeartbeats 4000000
set_option synthInstance.maxSize 1000
namespace Go.E3
open Go Go.Ear Go.Proofs
theorem map_range_K (f : Nat → Rat) (n : Nat) : (List.range n).map (fun i => frK (f i)) = ((List.range n).map f).map frK := by rw [List.map_map]; rfl
theorem addF_K (x y : List Rat) : addF (x.map frK) (y.map frK) = (addR x y).map frK := by
  unfold addF addR
  rw [List.length_map, List.map_map]
  refine List.map_congr_left fun i _ => ?_
  rw [getD_K, getD_K, frK_rat, frK_rat]; rfl
theorem addG_K (x y : List (List Rat)) : addG (x.map (·.map frK)) (y.map (·.map frK)) = (addM x y).map (·.map frK) := by
  unfold addG addM
  rw [List.length_map, List.map_map]
  refine List.map_congr_left fun i _ => ?_
  rw [getD_KR, getD_KR, addF_K]; rfl
theorem rep_K (n : Nat) : List.replicate n fr0 = (List.replicate n (0 : Rat)).map frK := by rw [List.map_replicate, frK_zero]
theorem rep_KR (n k : Nat) : List.replicate n (List.replicate k fr0) = (List.replicate n (List.replicate k (0 : Rat))).map (·.map frK) := by rw [List.map_replicate, rep_K]
theorem allT_rows (m : Md) (data : List (List Int)) : ∀ k i, i < m.start.length → ((allT m data k).move.getD i []).length = m.start.length ∧ ((allT m data k).say.getD i []).length = symb m
  | 0, i, hi => by
    rw [allT, ctZ]
    dsimp only
    rw [List.getD_eq_getElem?_getD, List.getElem?_replicate, if_pos hi, List.getD_eq_getElem?_getD, List.getElem?_replicate, if_pos hi]; simp
  | k + 1, i, hi => by
    have ih := allT_rows m data k i hi
    have hl := allT_len m data k
    by_cases h : lk (Go.Ear.trK m data k) = 0
    · rw [allT_t h]; exact ih
    · rw [allT_f h]; dsimp only
      rw [← addM_at (by omega), ← addM_at (by omega), addR_len, addR_len]; exact ih
theorem okP_K {a b : List Rat} (h : b.length = a.length ∧ a.length ≤ 1048576) (hb : ∀ i, bq (a.getD i 0) + bq (b.getD i 0) ≤ 134217000) : okP (a.map frK) (b.map frK) :=
  ⟨by rw [List.length_map, List.length_map]; exact h.1, by rw [List.length_map]; exact h.2, fun i _ => by rw [getD_K, getD_K, bf_frK, bf_frK]; exact hb i⟩
theorem okM_K {a b : List (List Rat)} (h : b.length = a.length ∧ a.length ≤ 1048576) (hr : ∀ i, i < a.length → (b.getD i []).length = (a.getD i []).length ∧ (a.getD i []).length ≤ 1048576) (hb : ∀ i j, bq ((a.getD i []).getD j 0) + bq ((b.getD i []).getD j 0) ≤ 134217000) : okM (a.map (·.map frK)) (b.map (·.map frK)) :=
  ⟨by rw [List.length_map, List.length_map]; exact h.1, by rw [List.length_map]; exact h.2, fun i hi => by
    rw [List.length_map] at hi
    rw [len_KR, len_KR]
    exact ⟨(hr i hi).1, (hr i hi).2, fun j _ => by rw [getD_KR, getD_KR, getD_K, getD_K, bf_frK, bf_frK]; exact hb i j⟩⟩
@[reducible] def alK (c : Go.Ear.Ct) : SV := .pk [lv rF (c.start.map frK), lv (rL rF) (c.move.map (·.map frK)), lv rF (c.fin.map frK), lv (rL rF) (c.say.map (·.map frK)), iv c.used, iv c.unused, bv false, lv rU [], lv rU []] 0
section
variable {m : Md} {data : List (List Int)} {S T : SV}
instance counted_c [i : VM S m] [j : Vw (lv (rL rI)) T data] : Ct Tryz.prog 94 [S, T] (DOk m data) (alK (cntD m data)) := by
  haveI := i.t
  refine ct2 i.v j (ctI Tryz.call94 Tryz.func94 Tryz.ntmps94 rfl Tryz.results94 rfl [] fun h0 w0 dk => ?_)
  have hn := dk.n
  have hs := dk.s
  have hy := dk.y
  have hmb := dk.mb
  repeat first | refine nx ?_ | intro _
  rename_i s
  obtain ⟨c, a, mm, e, y, vm, vy⟩ := s
  dsimp only [tlR]
  refine gLp (fun k : Nat => [(14, iv k)]) (fun k => [rV c [ov a, ov mm, ov e, ov y, iv (allT m data k).used, iv (allT m data k).unused, bv fr0.neg, lv rU fr0.n, lv rU fr0.d] 127, rA rF 31 a ((allT m data k).start.map frK), rA rW 22 mm vm, rZ rF 31 vm ((allT m data k).move.map (·.map frK)), rA rF 31 e ((allT m data k).fin.map frK), rA rW 22 y vy, rZ rF 31 vy ((allT m data k).say.map (·.map frK))]) (fun k => k ≤ data.length ∧ 0 ≤ (allT m data k).used ∧ (allT m data k).used ≤ k ∧ 0 ≤ (allT m data k).unused ∧ (allT m data k).unused ≤ k) (fun k => data.length - k) 0 ⟨Nat.zero_le _, Int.le_refl _, Int.le_refl _, Int.le_refl _, Int.le_refl _⟩ (fun k ⟨hk, hu1, hu2, hu3, hu4⟩ => ?_) (h2 := by
    rw [rep_KR, rep_KR, rep_K]; exact ⟨⟨trivial, trivial, trivial, trivial, rfl, rfl, trivial, trivial, trivial⟩, rfl, trivial, rfl, rfl, trivial, rfl, trivial⟩)
  repeat first | refine nx ?_ | intro _
  refine gIf (fun ck => ?_) fun ck => ?_
  · have tk := dk.tok k ck
    have hfw := dk.fw k ck
    have hbw := dk.bw k ck
    have hcn := dk.cn k ck
    unfold Go.Ear.trK at tk hfw hbw hcn
    repeat first | refine nx ?_ | intro _
    refine gIf (fun c0 => ?_) fun c0 => ?_
    · have hz : lk (Go.Ear.trK m data k) = 0 := Classical.not_not.1 c0
      repeat first | refine nx ?_ | intro _
      refine gBk (k + 1) ?_ (by omega) (h2 := ?_)
      · rw [allT_t hz]; dsimp only; omega
      · rw [allT_t hz]; (repeat' (first | refine And.intro ?_ ?_ | trivial | rfl | omega))
    · have hz0 : ¬ lk (Go.Ear.trK m data k) = 0 := fun e => c0 fun h => h e
      have hz := hz0
      unfold Go.Ear.trK at hz
      simp only [decide_eq_false hz, cond_false]
      have h1 : okP ((allT m data k).start.map frK) ((cntT ⟨m, data.getD k []⟩).start.map frK) := okP_K (by have := (allT_len m data k).1; have : (cntT ⟨m, data.getD k []⟩).start.length = m.start.length := cntS_len _; exact ⟨by omega, by omega⟩) fun i => dk.a1 k i ck
      have h2 : okP ((allT m data k).fin.map frK) ((cntT ⟨m, data.getD k []⟩).fin.map frK) := okP_K (by have := (allT_len m data k).2.1; have : (cntT ⟨m, data.getD k []⟩).fin.length = m.start.length := cntE_len _; exact ⟨by omega, by omega⟩) fun i => dk.a2 k i ck
      have h3 : okM ((allT m data k).move.map (·.map frK)) ((cntT ⟨m, data.getD k []⟩).move.map (·.map frK)) := okM_K (by have := (allT_len m data k).2.2.1; have : (cntT ⟨m, data.getD k []⟩).move.length = m.start.length := cntM_len _; exact ⟨by omega, by omega⟩) (fun i hi => by rw [(allT_len m data k).2.2.1] at hi; exact ⟨(cntM_row (t := ⟨m, data.getD k []⟩) hi).trans (allT_rows m data k i hi).1.symm, by rw [(allT_rows m data k i hi).1]; exact hs⟩) fun i j => dk.a3 k i j ck
      have h4 : okM ((allT m data k).say.map (·.map frK)) ((cntT ⟨m, data.getD k []⟩).say.map (·.map frK)) := okM_K (by have := (allT_len m data k).2.2.2.1; have : (cntT ⟨m, data.getD k []⟩).say.length = m.start.length := cntY_len _; exact ⟨by omega, by omega⟩) (fun i hi => by rw [(allT_len m data k).2.2.2.1] at hi; exact ⟨(cntY_row (t := ⟨m, data.getD k []⟩) hi).trans (allT_rows m data k i hi).2.symm, by rw [(allT_rows m data k i hi).2]; exact hy.1⟩) fun i j => dk.a4 k i j ck
      repeat first | refine nx ?_ | intro _
      rw [addF_K, addF_K, addG_K, addG_K]
      refine gBk (k + 1) ?_ (by omega) (h2 := ?_)
      · rw [allT_f hz0]; dsimp only; omega
      · rw [allT_f hz0]; (repeat' (first | refine And.intro ?_ ?_ | trivial | rfl | omega))
  · have ek : k = data.length := by omega
    subst ek
    refine gFz a ?_
    refine gFz e ?_
    refine gFzM mm ?_
    refine gFzM y ?_
    repeat first | refine nx ?_ | intro _
    exact ⟨rfl, rfl, rfl, rfl, rfl, rfl, rfl, rfl, rfl⟩
@[reducible] def ctv (c : Go.Ear.Ct) : SV := .ag [lv rF (c.start.map frK), lv (rL rF) (c.move.map (·.map frK)), lv rF (c.fin.map frK), lv (rL rF) (c.say.map (·.map frK)), iv c.used, iv c.unused]
instance Count_c [i : VM S m] [j : Vw (lv (rL rI)) T data] : Ct Tryz.prog 30 [S, T] ((data.length ≤ 1099511627776 ∧ ∀ o ∈ data, o.length ≤ 1099511627776) ∧ MdB 10000000 m ∧ (checkE [m] data = 0 → DOk m data)) (.tp [ctv (cntC m data), iv (checkE [m] data)]) := by
  haveI := i.t
  refine ct2 i.v j (ctI Tryz.call30 Tryz.func30 Tryz.ntmps30 rfl Tryz.results30 rfl [] fun h0 w0 ⟨⟨h1, h2⟩, h3, h4⟩ => ?_)
  have hx := one_mdb h3
  repeat first | refine nx ?_ | intro _
  refine gIf (fun c => ?_) fun c => ?_
  · repeat first | refine nx ?_ | intro _
    unfold cntC; rw [if_neg c]; (repeat' (first | refine And.intro ?_ ?_ | trivial | rfl | omega))
  · have hE : checkE [m] data = 0 := Classical.not_not.1 c
    have hd := h4 hE
    repeat first | refine nx ?_ | intro _
    unfold cntC; rw [if_pos hE]; (repeat' (first | refine And.intro ?_ ?_ | trivial | rfl | omega))
end
end Go.E3
set_option linter.unusedVariables false
set_option maxRecDepth 20000
set_option maxHeartbeats 4000000
set_option synthInstance.maxSize 1000
namespace Go.E3
open Go Go.Ear Go.Proofs
instance simple_c : Ct Tryz.prog 78 [] True (mv exA) := by
  refine (ctI Tryz.call78 Tryz.func78 Tryz.ntmps78 rfl Tryz.results78 rfl [] fun h0 w0 _ => ?_)
  repeat first | refine nx ?_ | intro _
  (repeat' (first | refine And.intro ?_ ?_ | trivial | rfl | omega))
end Go.E3
set_option linter.unusedVariables false
set_option maxRecDepth 20000
set_option maxHeartbeats 8000000
set_option synthInstance.maxSize 1000
namespace Go.E3
open Go Go.Ear Go.Proofs
instance mdK_ft {a c : List Rat} {b d : List (List Rat)} : FtM (Go.Ear.mdK a b c d) := inferInstanceAs (FtM ⟨_, _, _, _⟩)
instance exA_ft : FtM exA := inferInstanceAs (FtM (Go.Ear.mdK _ _ _ _))
instance leftR_ft {a b : Int} : FtM (leftR a b) := by unfold leftR; split; exact inferInstanceAs (FtM (Go.Ear.mdK _ _ _ _)); infer_instance
instance mixR_ft {ws : List Fr} {ms : List Md} : FtM (mixR ws ms) := by unfold mixR; split; exact inferInstanceAs (FtM (Go.Ear.mdK _ _ _ _)); infer_instance
instance known_c : Ct Tryz.prog 20 [] True (bv true) := by
  refine (ctI Tryz.call20 Tryz.func20 Tryz.ntmps20 rfl Tryz.results20 rfl [] fun h0 w0 _ => ?_)
  have a1 : o01.length ≤ 1099511627776 ∧ MdB 10000000 exA ∧ (checkE [exA] [o01] = 0 → MdB 100000 exA ∧ FwB ⟨exA, o01⟩) := ⟨by decide, exA_B.weak (by decide), fun _ => ⟨exA_B.weak (by decide), exA_f⟩⟩
  have a2 : o010.length ≤ 1099511627776 ∧ MdB 10000000 exB ∧ (checkE [exB] [o010] = 0 → MdB 100000 exB ∧ RsB ⟨exB, o010⟩) := ⟨by decide, exB_B.weak (by decide), fun _ => ⟨exB_B.weak (by decide), exB_r⟩⟩
  have a3 : (d01.length ≤ 1099511627776 ∧ ∀ o ∈ d01, o.length ≤ 1099511627776) ∧ MdB 10000000 exA ∧ (checkE [exA] d01 = 0 → DOk exA d01) := ⟨⟨by decide, by decide⟩, exA_B.weak (by decide), fun _ => ex_dok⟩
  have a4 : [exA, exB].length ≤ 1000 ∧ (∀ m ∈ [exA, exB], MdB 10000000 m) ∧ wts exH ≤ 10000000 ∧ exH.length ≤ 1048576 := ⟨by decide, ex_ab, exH_w⟩
  have a5 : o01.length ≤ 1099511627776 ∧ MdB 10000000 exM ∧ (checkE [exM] [o01] = 0 → MdB 100000 exM ∧ FwB ⟨exM, o01⟩) := ⟨by decide, exM_B.weak (by decide), fun _ => ⟨exM_B.weak (by decide), exM_f⟩⟩
  repeat first | refine gDr 12 (by kernel_rfl) ?_ | refine nx ?_ | intro _
  have e1 : bestP (leftR 2 2) [0, 1, 0] = [0, 0, 1] := xP
  have e2 := xS
  have s1 : (List.map frK (cntC exA [[0, 1], [1]]).start).length = 1 := (List.length_map _).trans e2.1
  have s2 : (List.map (fun x => List.map frK x) (cntC exA [[0, 1], [1]]).say).length = 1 := (List.length_map _).trans e2.2.1
  have s3 : ((List.map (fun x => List.map frK x) (cntC exA [[0, 1], [1]]).say).getD 0 []).length = 2 := (len_KR _ _).trans e2.2.2.1
  have s4 : (cntC exA [[0, 1], [1]]).used = 2 := e2.2.2.2
  have f0 : leftE 2 2 = 0 := xE0
  have f1 : checkE [exA] [[0, 1]] = 0 := xE1
  have f2 : bestE (leftR 2 2) [0, 1, 0] = 0 := xE2
  have f3 : checkE [exA] [[0, 1], [1]] = 0 := xE3
  have f4 : mixE [frK (((1 : Int) : Rat) / ((2 : Int) : Rat)), frK (((1 : Int) : Rat) / ((2 : Int) : Rat))] [exA, leftR 2 2] = 0 := xE4
  have f5 : checkE [mixR [frK (((1 : Int) : Rat) / ((2 : Int) : Rat)), frK (((1 : Int) : Rat) / ((2 : Int) : Rat))] [exA, leftR 2 2]] [[0, 1]] = 0 := xE5
  have g1 : likM exA [0, 1] = ((1 : Int) : Rat) / ((18 : Int) : Rat) := vL
  have g2 : bestM (leftR 2 2) [0, 1, 0] = ((1 : Int) : Rat) / ((64 : Int) : Rat) := vW
  have g3 : ((cntC exA [[0, 1], [1]]).say.getD 0 []).getD 1 0 = ((2 : Int) : Rat) := vC
  have g4 : likM (mixR [frK (((1 : Int) : Rat) / ((2 : Int) : Rat)), frK (((1 : Int) : Rat) / ((2 : Int) : Rat))] [exA, leftR 2 2]) [0, 1] = ((17 : Int) : Rat) / ((288 : Int) : Rat) := vX
  rw [f0, f1, f2, f3, f4, f5, e1, s1, s2, s3]
  refine gIf (fun c => ?_) fun c => ?_
  · exact absurd c (by decide)
  · have q1 : bq (((1 : Int) : Rat) / ((18 : Int) : Rat)) ≤ 4 := bq_quo (by decide) (by decide) (by decide) (by decide)
    have q2 : bq (((1 : Int) : Rat) / ((64 : Int) : Rat)) ≤ 4 := bq_quo (by decide) (by decide) (by decide) (by decide)
    have q3 : bq ((2 : Int) : Rat) ≤ 4 := by have := bq_intc (n := 2) (by decide) (by decide); omega
    have q4 : bq (((17 : Int) : Rat) / ((288 : Int) : Rat)) ≤ 4 := bq_quo (by decide) (by decide) (by decide) (by decide)
    have k1 : bq (likM exA [0, 1]) ≤ 4 := by rw [g1]; exact q1
    have k2 : bq (bestM (leftR 2 2) [0, 1, 0]) ≤ 4 := by rw [g2]; exact q2
    have k3 : bq (((cntC exA [[0, 1], [1]]).say.getD 0 []).getD 1 0) ≤ 4 := by rw [g3]; exact q3
    have k4 : bq (likM (mixR [frK (((1 : Int) : Rat) / ((2 : Int) : Rat)), frK (((1 : Int) : Rat) / ((2 : Int) : Rat))] [exA, leftR 2 2]) [0, 1]) ≤ 4 := by rw [g4]; exact q4
    repeat first | refine nx ?_ | intro _
    rw [g1, g2, s4, getD_KR, getD_K, g3, g4, sameF_self, sameF_self, sameF_self, sameF_self]; rfl
end Go.E3
set_option linter.unusedVariables false
set_option maxRecDepth 20000
set_option maxHeartbeats 4000000
set_option synthInstance.maxSize 1000
namespace Go.E3
open Go Go.Ear Go.Proofs
theorem long_or (m : Md) : (decide (40 < m.start.length) || decide (64 < symb m)) = longM m := by
  by_cases h : 40 < m.start.length
  · rw [long_t h, decide_eq_true h]; rfl
  · rw [long_s h, decide_eq_false h]; rfl
section
variable {m : Md} {o : List Int} {data : List (List Int)} {S T : SV}
instance rSymbols_c [i : Vw mv S m] : Ct Tryz.prog 38 [S] True (iv (symb m)) := by
  refine ct1 i (ctI Tryz.call38 Tryz.func38 Tryz.ntmps38 rfl Tryz.results38 rfl [] fun h0 w0 _ => ?_)
  repeat first | refine nx ?_ | intro _
  refine gIf (fun c => ?_) fun c => ?_ <;> repeat first | refine nx ?_ | intro _
  · have := symb_none c; (repeat' (first | refine And.intro ?_ ?_ | trivial | rfl | omega))
  · (repeat' (first | refine And.intro ?_ ?_ | trivial | rfl | omega))
instance rLong_c [i : Vw mv S m] : Ct Tryz.prog 59 [S] True (bv (longM m)) := by
  refine ct1 i (ctI Tryz.call59 Tryz.func59 Tryz.ntmps59 rfl Tryz.results59 rfl [] fun h0 w0 _ => ?_)
  repeat first | refine nx ?_ | intro _
  exact long_or m
instance rRows_c {l : List (List Fr)} {n k : Nat} [i : Vw (lv (rL rF)) S l] : Ct Tryz.prog 134 [S, iv (n : Int), iv (k : Int)] (l.length ≤ 1048576) (bv (rowsB l n k)) := by
  refine ct1 i (ctI Tryz.call134 Tryz.func134 Tryz.ntmps134 rfl Tryz.results134 rfl [] fun h0 w0 hl => ?_)
  repeat first | refine nx ?_ | intro _
  refine gIf (fun c => ?_) fun c => ?_ <;> repeat first | refine nx ?_ | intro _
  · exact (rowsB_f1 c).symm
  refine gLp (fun j : Nat => [(7, iv j)]) (fun _ => []) (fun j => j ≤ n ∧ (l.take j).all (rowK k) = true) (fun j => n - j) 0 ⟨Nat.zero_le _, rfl⟩ fun j ⟨hj, ha⟩ => ?_
  repeat first | refine nx ?_ | intro _
  refine gIf (fun c2 => ?_) fun c2 => ?_ <;> repeat first | refine nx ?_ | intro _
  · refine gIf (fun c3 => ?_) fun c3 => ?_ <;> repeat first | refine nx ?_ | intro _
    · exact (rowsB_f2 (by omega) c3).symm
    · exact gBk (j + 1) ⟨by omega, all_take_succ' [] (by omega) ha (by unfold rowK; exact decide_eq_true (Classical.not_not.1 c3))⟩ (by omega)
  · exact (rowsB_t (by omega) (by rw [← ha, List.take_of_length_le (by omega)])).symm
instance rleave_c {j : Nat} [i : VM S m] : Ct Tryz.prog 136 [S, iv (j : Int)] (j < m.move.length ∧ j < m.fin.length ∧ wts (m.move.getD j []) ≤ 100000000) (lv rF (leaveM m j)) := by
  haveI := i.t
  refine ct1 i.v (ctI Tryz.call136 Tryz.func136 Tryz.ntmps136 rfl Tryz.results136 rfl [] fun h0 w0 ⟨h1, h2, h3⟩ => ?_)
  have hb7 := len_wts (m.move.getD j [])
  repeat first | refine gDr 12 (by kernel_rfl) ?_ | refine nx ?_ | intro _
  rfl
instance leaveM_ft {k : Nat} [FtM m] : FtS (leaveM m k) := by unfold leaveM; infer_instance
instance rValid_c [i : VM S m] : Ct Tryz.prog 106 [S] (MdB 10000000 m ∧ m.say.length ≤ 1048576 ∧ m.move.length ≤ 1048576) (bv (validM m)) := by
  haveI := i.t
  refine ct1 i.v (ctI Tryz.call106 Tryz.func106 Tryz.ntmps106 rfl Tryz.results106 rfl [] fun h0 w0 ⟨hb, h1, h2⟩ => ?_)
  have hbs := hb.start
  have hls := len_wts m.start
  repeat first | refine gDr 5 (by kernel_rfl) ?_ | refine nx ?_ | intro _
  refine gIf (fun c => ?_) fun c => ?_ <;> repeat first | refine nx ?_ | intro _
  · rcases c with ((c | c) | c) | c
    · exact (ref_no1 (by omega)).symm
    · exact (ref_no2 c).symm
    · exact (ref_no3 c).symm
    · exact (ref_no4 c).symm
  have c1 : ¬ ((m.start.length < 1 ∨ symb m < 1) ∨ m.fin.length ≠ m.start.length) := fun e => c (.inl (.inl (.inl e)))
  have k1 : rowsB m.move m.start.length m.start.length = true := Classical.not_not.1 fun e => c (.inl (.inl (.inr e)))
  have k2 : rowsB m.say m.start.length (symb m) = true := Classical.not_not.1 fun e => c (.inl (.inr e))
  have k3 : distF m.start = true := Classical.not_not.1 fun e => c (.inr e)
  have l1 := (rowsB_iff.1 k1).1
  have l2 := (rowsB_iff.1 k2).1
  clear c
  refine gLp (fun k : Nat => [(5, iv k)]) (fun _ => []) (fun k => k ≤ m.start.length ∧ (List.range k).all (dist2 m) = true) (fun k => m.start.length - k) 0 ⟨Nat.zero_le _, rfl⟩ fun k ⟨hk, ha⟩ => ?_
  have hbm := hb.mv k
  have hby := hb.sy k
  have hbl : wts (leaveM m k) ≤ _ := hb.lv k
  repeat first | refine nx ?_ | intro _
  refine gIf (fun c2 => ?_) fun c2 => ?_ <;> repeat first | refine nx ?_ | intro _
  · refine gIf (fun c3 => ?_) fun c3 => ?_ <;> repeat first | refine nx ?_ | intro _
    · exact (ref_no5 c2 c3).symm
    · exact gBk (k + 1) ⟨by omega, ref_succ ha (Classical.not_not.1 fun e => c3 (.inl e)) (Classical.not_not.1 fun e => c3 (.inr e))⟩ (by omega)
  · exact (ref_ok (by omega) k1 k2 k3 ha (by omega)).symm
instance rHeard_c [i : VM S m] [j : Vw (lv rI) T o] : Ct Tryz.prog 141 [S, T] (o.length ≤ 1099511627776) (bv (heardB m o)) := by
  haveI := i.t
  refine ct2 i.v j (ctI Tryz.call141 Tryz.func141 Tryz.ntmps141 rfl Tryz.results141 rfl [] fun h0 w0 ho => ?_)
  repeat first | refine nx ?_ | intro _
  refine gLp (fun k : Nat => [(5, iv k)]) (fun _ => []) (fun k => k ≤ o.length ∧ (o.take k).any (offS (symb m : Int)) = false) (fun k => o.length - k) 0 ⟨Nat.zero_le _, rfl⟩ fun k ⟨hk, ha⟩ => ?_
  repeat first | refine nx ?_ | intro _
  refine gIf (fun c2 => ?_) fun c2 => ?_ <;> repeat first | refine gDr 14 (by kernel_rfl) ?_ | refine nx ?_ | intro _
  · refine gIf (fun c3 => ?_) fun c3 => ?_ <;> repeat first | refine nx ?_ | intro _
    · exact (heard_f c2 c3).symm
    · exact gBk (k + 1) ⟨by omega, any_take_succ 0 c2 ha (offS_no c3)⟩ (by omega)
  · exact (heard_t (by rw [← ha, List.take_of_length_le (by omega)])).symm
instance rCheck_c [i : VM S m] : Ct Tryz.prog 37 [S] (MdB 10000000 m ∧ m.say.length ≤ 1048576 ∧ m.move.length ≤ 1048576) (iv (checkE [m] [])) := by
  haveI := i.t
  refine ct1 i.v (ctI Tryz.call37 Tryz.func37 Tryz.ntmps37 rfl Tryz.results37 rfl [] fun h0 w0 ⟨hb, h1, h2⟩ => ?_)
  repeat first | refine nx ?_ | intro _
  refine gIf (fun c => ?_) fun c => ?_ <;> repeat first | refine nx ?_ | intro _
  · exact (check_long (.inl c)).symm
  refine gIf (fun c2 => ?_) fun c2 => ?_ <;> repeat first | refine nx ?_ | intro _
  · exact (check_bad c (by decide) rfl c2).symm
  · exact (check_good c (by decide) rfl (Classical.not_not.1 c2) rfl).symm
instance rRefused_c [i : VM S m] [j : Vw (lv (rL rI)) T data] : Ct Tryz.prog 77 [S, T] ((MdB 10000000 m ∧ m.say.length ≤ 1048576 ∧ m.move.length ≤ 1048576) ∧ data.length ≤ 1099511627776) (iv (checkE [m] data)) := by
  haveI := i.t
  refine ct2 i.v j (ctI Tryz.call77 Tryz.func77 Tryz.ntmps77 rfl Tryz.results77 rfl [] fun h0 w0 ⟨⟨hb, h1, h2⟩, h3⟩ => ?_)
  repeat first | refine nx ?_ | intro _
  refine gIf (fun c => ?_) fun c => ?_ <;> repeat first | refine nx ?_ | intro _
  · exact (check_long c).symm
  have k1 : ¬ longM m = true := fun e => c (.inl e)
  have k2 : ¬ 200 < data.length := fun e => c (.inr e)
  refine gLp (fun k : Nat => [(5, iv k)]) (fun _ => []) (fun k => k ≤ data.length ∧ (data.take k).any longO = false) (fun k => data.length - k) 0 ⟨Nat.zero_le _, rfl⟩ fun k ⟨hk, ha⟩ => ?_
  repeat first | refine nx ?_ | intro _
  refine gIf (fun c2 => ?_) fun c2 => ?_ <;> repeat first | refine nx ?_ | intro _
  · refine gIf (fun c3 => ?_) fun c3 => ?_ <;> repeat first | refine nx ?_ | intro _
    · exact (check_longO c2 c3).symm
    · exact gBk (k + 1) ⟨by omega, any_take_succ [] c2 ha (by unfold longO; exact decide_eq_false c3)⟩ (by omega)
  have k3 : data.any longO = false := by rw [← ha, List.take_of_length_le (by omega)]
  clear ha c2 hk
  refine gIf (fun c4 => ?_) fun c4 => ?_ <;> repeat first | refine nx ?_ | intro _
  · exact (check_bad k1 k2 k3 c4).symm
  have k4 : validM m = true := Classical.not_not.1 c4
  refine gLp (fun k : Nat => [(6, iv k)]) (fun _ => []) (fun k => k ≤ data.length ∧ (data.take k).any (heardM [m]) = false) (fun k => data.length - k) 0 ⟨Nat.zero_le _, rfl⟩ fun k ⟨hk, ha⟩ => ?_
  repeat first | refine nx ?_ | intro _
  refine gIf (fun c2 => ?_) fun c2 => ?_
  · have hlo := lenO k3 c2
    repeat first | refine gDr 7 (by kernel_rfl) ?_ | refine nx ?_ | intro _
    refine gIf (fun c3 => ?_) fun c3 => ?_ <;> repeat first | refine nx ?_ | intro _
    · exact (check_off k1 k2 k3 k4 c2 (heard_not c3)).symm
    · exact gBk (k + 1) ⟨by omega, any_take_succ [] c2 ha (heard_is (Classical.not_not.1 c3))⟩ (by omega)
  · repeat first | refine nx ?_ | intro _
    exact (check_good k1 k2 k3 k4 (by rw [← ha, List.take_of_length_le (by omega)])).symm
end
end Go.E3
set_option linter.unusedVariables false
set_option maxRecDepth 20000
set_option maxHeartbeats 4000000
set_option synthInstance.maxSize 1000
namespace Go.E3
open Go Go.Ear Go.Proofs
section
variable {m : Md} {o : List Int} {data : List (List Int)} {S T : SV}
structure Blk (m : Md) : Prop where
  n : m.start.length + m.fin.length + totL m.move + totL m.say ≤ 1048576
  r : m.move.length + m.say.length ≤ 1048576
abbrev I64s (l : List Int) : Prop := ∀ z ∈ l, -9223372036854775808 ≤ z ∧ z ≤ 9223372036854775807
structure UpK (m : Md) : Prop where
  b : Blk m
  w : MdB 10000000 m
  t : FtM m
instance plain_c [i : VM S m] : Ct Tryz.prog 58 [S] (Blk m) (bv (plainM m)) := by
  haveI := i.t
  refine ct1 i.v (ctI Tryz.call58 Tryz.func58 Tryz.ntmps58 rfl Tryz.results58 rfl [] fun h0 w0 hb => ?_)
  have hn := hb.n
  have hr := hb.r
  repeat first | refine gDr 5 (by kernel_rfl) ?_ | refine nx ?_ | intro _
  rename_i ν v0
  refine gLp (fun s : Nat × Value => [(4, iv s.1), (3, ov s.2)]) (fun s => [rA rF 31 s.2 (m.start ++ m.fin ++ (m.move.take s.1).flatten)]) (fun s => s.1 ≤ m.move.length) (fun s => m.move.length - s.1) (0, v0) (Nat.zero_le _) (fun ⟨k, v⟩ hk => ?_) (h2 := by dsimp only; rw [List.take_zero, List.flatten_nil, List.append_nil]; (repeat' (first | refine And.intro ?_ ?_ | trivial | rfl | omega)))
  dsimp only at hk ⊢
  repeat first | refine nx ?_ | intro _
  refine gIf (fun c => ?_) fun c => ?_
  · have hl := flat_len c
    repeat first | refine nx ?_ | intro _
    rename_i v2
    rw [List.append_assoc, flat_succ c]
    exact gBk (k + 1, v2) (by dsimp only; omega) (by dsimp only; omega)
  rw [List.take_of_length_le (by omega)]
  clear c hk
  repeat first | refine nx ?_ | intro _
  refine gLp (fun s : Nat × Value => [(5, iv s.1), (3, ov s.2)]) (fun s => [rA rF 31 s.2 (m.start ++ m.fin ++ m.move.flatten ++ (m.say.take s.1).flatten)]) (fun s => s.1 ≤ m.say.length) (fun s => m.say.length - s.1) (0, v) (Nat.zero_le _) (fun ⟨k, v⟩ hk => ?_) (h2 := by dsimp only; rw [List.take_zero, List.flatten_nil, List.append_nil]; (repeat' (first | refine And.intro ?_ ?_ | trivial | rfl | omega)))
  dsimp only at hk ⊢
  repeat first | refine nx ?_ | intro _
  refine gIf (fun c => ?_) fun c => ?_
  · have hl := flat_len c
    unfold totL at hn hl
    repeat first | refine nx ?_ | intro _
    rename_i v2
    rw [List.append_assoc, flat_succ c]
    exact gBk (k + 1, v2) (by dsimp only; omega) (by dsimp only; omega)
  rw [List.take_of_length_le (by omega)]
  clear c hk
  repeat first | refine nx ?_ | intro _
  have hal : m.start ++ m.fin ++ m.move.flatten ++ m.say.flatten = allW m := rfl
  have hall : (allW m).length ≤ 1048576 := by unfold allW; simp only [List.length_append]; unfold totL at hn; omega
  rw [hal]
  refine gLp (fun k : Nat => [(6, iv k)]) (fun _ => []) (fun k => k ≤ (allW m).length ∧ ((allW m).take k).any bigW = false) (fun k => (allW m).length - k) 0 ⟨Nat.zero_le _, rfl⟩ fun k ⟨hk, ha⟩ => ?_
  repeat first | refine nx ?_ | intro _
  refine gIf (fun c2 => ?_) fun c2 => ?_ <;> repeat first | refine nx ?_ | intro _
  · refine gIf (fun c3 => ?_) fun c3 => ?_ <;> repeat first | refine nx ?_ | intro _
    · exact (plain_f c2 (bigW_t c3)).symm
    · exact gBk (k + 1) ⟨by omega, any_take_succ fr0 c2 ha (bigW_f c3)⟩ (by omega)
  · exact (plain_t (by rw [← ha, List.take_of_length_le (by omega)])).symm
instance lsmall_c {x : Int} {s : Nat} [i : VM S m] [xs : IN x s] : Ct Tryz.prog 36 [S, iv x] (Blk m) (bv (smallB m s)) := by
  haveI := i.t
  refine ct1 i.v (ctI Tryz.call36 Tryz.func36 Tryz.ntmps36 rfl Tryz.results36 rfl [] fun h0 w0 hb => ?_)
  rw [xs.e]
  have hn := hb.n
  have hr := hb.r
  repeat first | refine nx ?_ | intro _
  unfold smallB; rfl
instance lfair_c {x y : Int} {s f : Nat} [i : VM S m] [j : Vw (lv rI) T o] [xs : IN x s] [ys : IN y f] : Ct Tryz.prog 19 [S, T, iv x, iv y] (Blk m ∧ MdB 10000000 m ∧ o.length ≤ 1048576) (bv (fairB m o s f)) := by
  haveI := i.t
  refine ct2 i.v j (ctI Tryz.call19 Tryz.func19 Tryz.ntmps19 rfl Tryz.results19 rfl [] fun h0 w0 ⟨hb, h1, h2⟩ => ?_)
  rw [xs.e, ys.e]
  have hn := hb.n
  have hr := hb.r
  repeat first | refine nx ?_ | intro _
  unfold fairB; rfl
def heardN (m : Md) (data : List (List Int)) (s f n : Nat) : Bool := decide (data.length ≤ n) && smallB m s && decide (checkE [m] data = 0) && data.all fun o => decide (o.length ≤ f)
instance lheard_c {x y z : Int} {s f n : Nat} [i : VM S m] [j : Vw (lv (rL rI)) T data] [xs : IN x s] [ys : IN y f] [zs : IN z n] : Ct Tryz.prog 29 [S, T, iv x, iv y, iv z] (Blk m ∧ MdB 10000000 m ∧ data.length ≤ 1048576) (bv (heardN m data s f n)) := by
  haveI := i.t
  refine ct2 i.v j (ctI Tryz.call29 Tryz.func29 Tryz.ntmps29 rfl Tryz.results29 rfl [] fun h0 w0 ⟨hb, h1, h2⟩ => ?_)
  rw [xs.e, ys.e, zs.e]
  have hn := hb.n
  have hr := hb.r
  repeat first | refine nx ?_ | intro _
  refine gIf (fun c => ?_) fun c => ?_ <;> repeat first | refine nx ?_ | intro _
  · symm; rw [← Bool.not_eq_true]; unfold heardN; simp only [Bool.and_eq_true, decide_eq_true_eq]
    exact fun e => c.elim (fun c => c.elim (fun c => by omega) fun c => c e.1.1.2) fun c => c e.1.2
  have k1 : data.length ≤ n := by have : ¬ n < data.length := fun e => c (.inl (.inl e)); omega
  have k2 : smallB m s = true := Classical.not_not.1 fun e => c (.inl (.inr e))
  have k3 : checkE [m] data = 0 := Classical.not_not.1 fun e => c (.inr e)
  clear c
  refine gLp (fun k : Nat => [(11, iv k)]) (fun _ => []) (fun k => k ≤ data.length ∧ (data.take k).all (fun o => decide (o.length ≤ f)) = true) (fun k => data.length - k) 0 ⟨Nat.zero_le _, rfl⟩ fun k ⟨hk, ha⟩ => ?_
  repeat first | refine nx ?_ | intro _
  refine gIf (fun c2 => ?_) fun c2 => ?_ <;> repeat first | refine nx ?_ | intro _
  · refine gIf (fun c3 => ?_) fun c3 => ?_ <;> repeat first | refine nx ?_ | intro _
    · symm; rw [← Bool.not_eq_true]; unfold heardN; simp only [Bool.and_eq_true, List.all_eq_true, decide_eq_true_eq]
      exact fun e => by have := e.2 _ (getD_mem' data [] c2); omega
    · exact gBk (k + 1) ⟨by omega, all_take_succ' [] c2 ha (decide_eq_true (by omega))⟩ (by omega)
  · unfold heardN; rw [decide_eq_true k1, k2, decide_eq_true k3, Bool.true_and, Bool.true_and, Bool.true_and, ← ha, List.take_of_length_le (by omega)]
end
end Go.E3
set_option linter.unusedVariables false
set_option maxRecDepth 20000
set_option maxHeartbeats 4000000
set_option synthInstance.maxSize 1000
namespace Go.E3
open Go Go.Ear Go.Proofs
abbrev snocs (s : Nat) (p : List Int) : List (List Int) := (List.range s).map fun i => p ++ [((i : Nat) : Int)]
theorem snocs_len {s n i : Nat} (hi : i < (pathsL s n).length) : (((pathsL s n).take i).flatMap (snocs s)).length + s ≤ (pathsL s (n + 1)).length := by
  have h : pathsL s (n + 1) = (pathsL s n).flatMap (snocs s) := rfl
  have h2 := congrArg (List.flatMap (snocs s)) (List.take_append_drop i (pathsL s n))
  rw [List.flatMap_append, List.drop_eq_getElem_cons hi, List.flatMap_cons, ← h] at h2
  rw [← h2]; simp
instance rPaths_c {s n : Nat} : Ct Tryz.prog 26 [iv (s : Int), iv (n : Int)] (s ≤ 1048576 ∧ n ≤ 1048576 ∧ ∀ t, t ≤ n → (pathsL s t).length ≤ 1048576) (lv (rL rI) (pathsL s n)) := by
  refine (ctI Tryz.call26 Tryz.func26 Tryz.ntmps26 rfl Tryz.results26 rfl [] fun h0 w0 ⟨h1, h2, h3⟩ => ?_)
  repeat first | refine nx ?_ | intro _
  refine gLp (fun t : Nat => [(6, iv t), (5, lv (rL rI) (pathsL s t))]) (fun t => []) (fun t => t ≤ n) (fun t => n - t) 0 (Nat.zero_le _) (fun t ht => ?_)
  repeat first | refine nx ?_ | intro _
  refine gIf (fun c => ?_) fun c => ?_
  · have hpl := h3 t (by omega)
    have hpl1 := h3 (t + 1) (by omega)
    repeat first | refine nx ?_ | intro _
    refine gNl (rL rI) 26 ?_
    refine gLp (fun s' : Nat × Value => [(8, iv s'.1), (7, ov s'.2)]) (fun s' => [rA (rL rI) 26 s'.2 (((pathsL s t).take s'.1).flatMap (snocs s))]) (fun s' => s'.1 ≤ (pathsL s t).length) (fun s' => (pathsL s t).length - s'.1) (0, .slice none 0 0) (Nat.zero_le _) (fun ⟨i, v⟩ hi => ?_) (h2 := by dsimp only; rw [List.take_zero]; (repeat' (first | refine And.intro ?_ ?_ | trivial | rfl | omega)))
    dsimp only at hi ⊢
    repeat first | refine nx ?_ | intro _
    refine gIf (fun c2 => ?_) fun c2 => ?_
    · have hfl := snocs_len (s := s) (n := t) c2
      have hpn : ((pathsL s t).getD i []).length = t := paths_len (getD_mem' _ _ c2)
      repeat first | refine nx ?_ | intro _
      refine gLp (fun s' : Nat × Value => [(9, iv s'.1), (7, ov s'.2)]) (fun s' => [rA (rL rI) 26 s'.2 (((pathsL s t).take i).flatMap (snocs s) ++ (List.range s'.1).map fun k => (pathsL s t).getD i [] ++ [((k : Nat) : Int)])]) (fun s' => s'.1 ≤ s) (fun s' => s - s'.1) (0, v) (Nat.zero_le _) (fun ⟨j, v2⟩ hj => ?_) (h2 := by dsimp only; rw [List.range_zero, List.map_nil, List.append_nil]; (repeat' (first | refine And.intro ?_ ?_ | trivial | rfl | omega)))
      dsimp only at hj ⊢
      repeat first | refine nx ?_ | intro _
      refine gIf (fun c3 => ?_) fun c3 => ?_
      · have hll : (((pathsL s t).take i).flatMap (snocs s) ++ (List.range j).map fun k => (pathsL s t).getD i [] ++ [((k : Nat) : Int)]).length ≤ 1048575 := by rw [List.length_append, List.length_map, List.length_range]; omega
        repeat first | refine nx ?_ | intro _
        rename_i v3
        exact gBk (j + 1, v3) (by dsimp only; omega) (by dsimp only; omega) (h2 := by dsimp only; rw [List.range_succ, List.map_append, List.append_assoc]; (repeat' (first | refine And.intro ?_ ?_ | trivial | rfl | omega)))
      · rw [show j = s by omega]
        repeat first | refine nx ?_ | intro _
        exact gBk (i + 1, v2) (by dsimp only; omega) (by dsimp only; omega) (h2 := by dsimp only; rw [take_snoc [] c2, List.flatMap_append, List.flatMap_cons, List.flatMap_nil, List.append_nil]; (repeat' (first | refine And.intro ?_ ?_ | trivial | rfl | omega)))
    · rw [List.take_of_length_le (by omega)]
      refine gFz v ?_
      repeat first | refine nx ?_ | intro _
      exact gBk (t + 1) (by omega) (by omega)
  · repeat first | refine nx ?_ | intro _
    rw [show t = n by omega]
end Go.E3
set_option linter.unusedVariables false
set_option maxRecDepth 20000
namespace Go.E3
open Go Go.Ear Go.Proofs
theorem row_in {l : List (List Fr)} {r : List Fr} {f : Fr} (hr : r ∈ l) (hf : f ∈ r) : f ∈ l.flatten := List.mem_flatten.2 ⟨r, hr, hf⟩
theorem plain_W {m : Md} (ft : FtM m) (hp : plainM m = true) : MdW 2 m := by
  have hm : ∀ f ∈ allW m, bf f ≤ 2 := fun f hf => plain_le hp hf
  unfold allW at hm
  obtain ⟨f1, f2, f3, f4⟩ := ft.h
  refine MdW.of (by decide) (fun f hf => ?_) (fun r hr f hf => ?_) (fun f hf => ?_) fun r hr f hf => ?_
  · exact Nat.le_trans (f1.bq f hf) (hm f (by simp only [List.mem_append]; exact .inl (.inl (.inl hf))))
  · exact Nat.le_trans ((f2.h r hr).bq f hf) (hm f (by simp only [List.mem_append]; exact .inl (.inr (row_in hr hf))))
  · exact Nat.le_trans (f3.bq f hf) (hm f (by simp only [List.mem_append]; exact .inl (.inl (.inr hf))))
  · exact Nat.le_trans ((f4.h r hr).bq f hf) (hm f (by simp only [List.mem_append]; exact .inr (row_in hr hf)))
structure Good (m : Md) (s : Nat) : Prop where
  v : validM m = true
  l : longM m = false
  s : m.start.length ≤ s
  s1 : 1 ≤ m.start.length
  s40 : m.start.length ≤ 40
  y : symb m ≤ 64
  mb : MdB 1000 m
  w : MdW 2 m
  b1 : ∀ i, bf (m.start.getD i fr0) ≤ 2
  b2 : ∀ i, bf (m.fin.getD i fr0) ≤ 2
  nn : Nn m
  on : Ones m (symb m)
theorem Good.of {m : Md} {s : Nat} (ft : FtM m) (h : smallB m s = true) {data : List (List Int)} (hc : checkE [m] data = 0) : Good m s := by
  have hp := small_plain h
  have hx := checkE_n hc
  have hlen := valid_len hx.2.1
  have h40 : m.start.length ≤ 40 ∧ symb m ≤ 64 := by
    have := hx.2.2; unfold longM at this; simp only [Bool.or_eq_false_iff, decide_eq_false_iff_not, Bool.and_eq_false_iff] at this; omega
  exact ⟨hx.2.1, hx.2.2, hp.1, hlen.1, h40.1, h40.2, plain_B hp.2.2.2.2 hx.2.1 hx.2.2, plain_W ft hp.2.2.2.2, (plain_bf hp.2.2.2.2).1, (plain_bf hp.2.2.2.2).2, Nn.of hx.2.1, Ones.of hx.2.1⟩
theorem Good.mB {m : Md} {s K : Nat} (g : Good m s) (h : 1000 ≤ K := by decide) : MdB K m := g.mb.weak h
theorem Good.fw {m : Md} {s : Nat} {o : List Int} (g : Good m s) (n : Nat) (hn : o.length ≤ n + 1) (hs : 1 ≤ s) (hb : fB s 2 n ≤ 300000) : FwB ⟨m, o⟩ := FwB.of (N := n) (t := ⟨m, o⟩) g.w g.s (by decide) hs hn hb
theorem Good.bw {m : Md} {s : Nat} {o : List Int} (g : Good m s) (n : Nat) (hn : o.length ≤ n + 1) (hs : 1 ≤ s) (hb : bB s 2 n ≤ 300000) : BwB ⟨m, o⟩ := BwB.of (N := n) (t := ⟨m, o⟩) g.w g.s (by decide) hs hn hb
theorem Good.rs {m : Md} {s : Nat} {o : List Int} (g : Good m s) (n : Nat) (hn : o.length ≤ n + 1) (hb : (2 * n + 1) * 2 ≤ 300000) : RsB ⟨m, o⟩ := RsB.of (N := n) (t := ⟨m, o⟩) g.w g.b2 (by decide) hn hb
theorem Good.lk {m : Md} {s : Nat} {o : List Int} (g : Good m s) (n : Nat) (hn : o.length ≤ n + 1) (hs : 1 ≤ s) : bq (Go.Ear.lk ⟨m, o⟩) ≤ 1 + s * (fB s 2 n + 2 + 1) := lk_bq (t := ⟨m, o⟩) g.w g.s (by decide) hs hn
theorem likM_lk {m : Md} {o : List Int} (h : checkE [m] [o] = 0) : likM m o = lk ⟨m, o⟩ := if_pos h
theorem paths_all {s : Nat} : ∀ {n : Nat} {p : List Int}, p ∈ pathsL s n → ∀ x ∈ p, 0 ≤ x ∧ x < (s : Int)
  | 0, p, h, x, hx => by rw [pathsL, List.mem_singleton] at h; subst h; cases hx
  | n + 1, p, h, x, hx => by
    rw [pathsL, List.mem_flatMap] at h
    obtain ⟨q, hq, h⟩ := h
    obtain ⟨i, hi, rfl⟩ := List.mem_map.1 h
    rw [List.mem_range] at hi
    rcases List.mem_append.1 hx with hx | hx
    · exact paths_all hq x hx
    · rw [List.mem_singleton] at hx; omega
theorem paths_count (s : Nat) : ∀ n, (pathsL s n).length = s ^ n
  | 0 => rfl
  | n + 1 => by
    rw [pathsL, List.length_flatMap]
    have : ((pathsL s n).map fun p => ((List.range s).map fun i => p ++ [((i : Nat) : Int)]).length) = (pathsL s n).map fun _ => s := List.map_congr_left fun p _ => by simp
    rw [this, Nat.pow_succ, ← paths_count s n]
    induction pathsL s n with
    | nil => simp
    | cons x l ih => rw [List.map_cons, List.sum_cons, ih, List.length_cons, Nat.add_mul]; omega
theorem pow_le {a b : Nat} (h : a ≤ b) (n : Nat) : a ^ n ≤ b ^ n := Nat.pow_le_pow_left h n
theorem check_path {m : Md} {o : List Int} {s n : Nat} (g : Good m s) (h : o ∈ pathsL (symb m) n) (hn : n ≤ 1000) : checkE [m] [o] = 0 := by
  have hl := paths_len h
  refine check_good (by rw [g.l]; decide) (by simp) ?_ g.v ?_
  · simp [longO]; omega
  · rw [List.any_cons, List.any_nil, Bool.or_false, heardM1', List.any_eq_false]
    intro x hx
    have := paths_all h x hx
    unfold offS; simp; omega
end Go.E3
set_option linter.unusedSimpArgs false
namespace Go.E3
open Go.Ear
open Go.ChangeShapes Go.RowKit Go.Joins Go.Deep Go.ChangeAt
section
open Go.Proofs.YtpmndikbfalfoaaGreat
abbrev bulk {H : Type} (d : DataW H) : Nat := Rows.uptoBulk d
theorem bulk_one {H : Type} (d : DataW H) : 1 ≤ bulk d := by
  unfold bulk
  cases d with
  | lit l => cases l <;> simp [Rows.uptoBulk]
  | _ => simp [Rows.uptoBulk]
theorem bulk_all {H : Type} (l : List (DataW H)) : l.length ≤ Rows.uptoBulkAll l := by
  induction l with
  | nil => simp [Rows.uptoBulkAll]
  | cons x r ih => have := bulk_one x; simp only [Rows.uptoBulkAll, List.length_cons]; unfold bulk at this; omega
theorem bulk_len {H : Type} (elems spare : List (DataW H)) : elems.length + 1 ≤ bulk (.slice elems spare) := by
  have h1 := bulk_all elems
  unfold bulk; simp only [Rows.uptoBulk]
  omega
theorem bulk_agg {H : Type} (l : List (DataW H)) : bulk (.agg l) = Rows.uptoBulkAll l + 1 := by unfold bulk; simp only [Rows.uptoBulk]
end
def PHof (w : World) : PH := fun b => w.heap[b]?
theorem PHof.sat (w : World) : Sat (PHof w) w := fun _ _ e => e
theorem sameAt_of {w w' : World} (g : Ext w w') {p : MemPlace} (hp : p.block < w.heap.size) : w.sameAt w' p := by
  cases p with
  | cell b off => show w'.cell? _ = w.cell? _; unfold World.cell?; rw [g.block b hp]
  | map b => exact g.block b hp
theorem keptBut_of {w w' : World} (g : Ext w w') (may : MemPlace → Prop) : w.keptBut w' may := by
  refine ⟨g.os, g.output, fun i hi => ?_⟩
  rw [g.block i hi]
  cases h : w.heap[i]? with
  | none => trivial
  | some o => cases o <;> simp
theorem frozen_of {w w' : World} (g : Ext w w') {b off : Nat} (hb : b < w.heap.size) : w'.frozen? ⟨b, off, none⟩ = w.frozen? ⟨b, off, none⟩ := by
  unfold World.frozen?; show (match w'.heap[b]? with | some (.cells _ _ (lo, hi)) => _ | _ => _) = _; rw [g.block b hb]; rfl
open Go.Proofs.YtpmndikbfalfoaaGreat
section
variable {H : Type} {enc : TypeId × Value → H} {P : Program}
theorem trodAll_stays (hl : laidOutB P = true) {W W' : World} {sp : Nat → Bool} : ∀ {ts : List TypeId} {vs : List Value} {ds : List (DataW H)} {ps : List MemPlace},
    (∀ t ∈ ts, P.readableRec t = true ∧ t < P.types.size) → DataW.TrodAll enc P W 0 (fun _ => true) true ts vs ds ps → (∀ p ∈ ps, W.sameAt W' p) → (∀ p ∈ ps, sp p.block = true) →
    DataW.TrodAll enc P W' 0 sp true ts vs ds ps
  | [], vs, ds, ps, _, h, _, _ => by obtain ⟨rfl, rfl, rfl⟩ := trodAll_nil h; exact trodAll_mk0
  | t :: ts, vs, ds, ps, ht, h, hs, hp => by
    obtain ⟨v, vs', d, ds', p, q, rfl, rfl, rfl, h0, h1⟩ := trodAll_cons h
    exact trodAll_cons_mk (WideElems.Trod_stays hl (ht t (by simp)).1 (ht t (by simp)).2 h0 (fun x hx => hs x (by simp [hx])) (fun x hx => hp x (by simp [hx])))
      (trodAll_stays hl (fun t' h' => ht t' (by simp [h'])) h1 (fun x hx => hs x (by simp [hx])) (fun x hx => hp x (by simp [hx])))
theorem law_post (hl : laidOutB P = true) {tb : TypeId} (hb : P.underlying tb = some .bool) {f : Func} {s : ChangeSpec} {apart fresh handsOn again : Bool} {W W' : World} {args : Array Value} {ds : List (DataW H)} {before : List MemPlace}
    (hts : ∀ t ∈ f.params.toList, P.readableRec t = true ∧ t < P.types.size) (hrt : f.resultTypes = #[tb]) (hv : s.vars = [])
    (hr : (s.fn H (ds ++ [])).results = [.lit (.bool true)]) (ha : (s.fn H (ds ++ [])).args = ds) (hvs : (s.fn H (ds ++ [])).vars = [])
    (hW : DataW.Whole enc P f.params.toList s.vars apart W args.toList ds [] before) (g : Ext W W') : s.post enc P f apart fresh handsOn again W args (.bool true) W' := by
  have hlt : ∀ x ∈ before, x.block < W.heap.size := fun x hx => by simpa using hW.lt x hx
  have hW' := hW
  obtain ⟨p, q, hA, hV, hpq, hz, hn⟩ := hW
  rw [hv] at hV
  obtain ⟨_, rfl⟩ := trodVars_none hV
  rw [List.append_nil] at hpq
  subst hpq
  have hres : ∀ (b : Nat) (sp : Nat → Bool) (hd : Bool), DataW.TrodAll enc P W' b sp hd f.resultTypes.toList ((Value.bool true).resultList f.resultTypes.size) (s.fn H (ds ++ [])).results [] := fun b sp hd => by
    rw [hrt, hr]; exact trodAll_mk1 (shut_bool hb true)
  have hargs : ∀ sp : Nat → Bool, (∀ p ∈ before, sp p.block = true) → DataW.TrodAll enc P W' 0 sp true f.params.toList args.toList (s.fn H (ds ++ [])).args before := fun sp h => by
    rw [ha]; exact trodAll_stays hl hts hA (fun x hx => sameAt_of g (hlt x hx)) h
  have hvars : ∀ sp : Nat → Bool, DataW.TrodVars enc P W' sp s.vars (s.fn H (ds ++ [])).vars [] := fun sp => by rw [hv, hvs]; rfl
  refine ⟨ds, [], before, [], before, [], hW', hres _ _ _, hargs _ (fun x hx => by simpa using hlt x hx), hvars _, keptBut_of g _, fun _ => ?_⟩
  refine ⟨ok_one hrt rfl (okWide_bool_mk hb true), _, _, ([] ++ before) ++ [], ⟨[] ++ before, [], trodAll_append (hargs _ (fun _ _ => rfl)) (hres _ _ _), hvars _, rfl, ?_, ?_⟩, ?_⟩
  · intro b off hp
    have hp' : MemPlace.cell b off ∈ before := by simpa using hp
    rw [frozen_of g (show b < W.heap.size from hlt _ hp')]
    exact hz b off hp'
  · intro h; simpa using hn h
  · intro x hx _; simpa using hx
theorem openLR {α : Type} {r : Rp α} {Q : α → Prop} (μ : α → Nat) (d0 : α) (hk0 : 0 < r.k) {t t1 : TypeId} {W : World} {fuel : Nat} {cs0 : List Value} {x : DataW H × List MemPlace} (htl : P.underlying t = some (.slice t1)) (hC : P.cellsOf t1 = r.k)
    (hel : ∀ (n : Nat) (cs : List Value) (y : DataW H × List MemPlace), DataW.trod enc P W 0 (fun _ => true) true n t1 cs = some y → ∃ a, cs.length = r.k ∧ r.R (PHof W) cs a ∧ μ a ≤ bulk y.1 ∧ Q a)
    (h : DataW.trod enc P W 0 (fun _ => true) true fuel t cs0 = some x) : ∃ v l, cs0 = [v] ∧ LR r (PHof W) v l ∧ (l.map μ).sum + 1 ≤ bulk x.1 ∧ ∀ a ∈ l, Q a := by
  rcases open_slice htl h with ⟨hcs, hxx⟩ | ⟨a, len, cap, m, n, D, Pl, hcs, _, hlc, _, hm, hxx, hx⟩
  · exact ⟨_, [], hcs, LR.nil r _ _ _, by rw [hxx]; simp [bulk, Rows.uptoBulk], fun a ha => by cases ha⟩
  · simp only [if_true] at hm
    subst hm
    rw [hC] at hx
    have hx' : ∀ i, ∃ (cs : List Value) (f : α), i < len → W.cells? 0 (a.add (i * r.k)) r.k = some cs ∧ cs.length = r.k ∧ r.R (PHof W) cs f ∧ μ f ≤ bulk (D i) ∧ Q f := fun i => by
      by_cases hi : i < len
      · obtain ⟨cs, g1, g2⟩ := hx i (by omega)
        obtain ⟨f, g3, g4, g5, g6⟩ := hel _ _ _ g2
        exact ⟨cs, f, fun _ => ⟨g1, g3, g4, g5, g6⟩⟩
      · exact ⟨[], d0, fun h => absurd h hi⟩
    obtain ⟨css, hx2⟩ := Classical.axiomOfChoice hx'
    obtain ⟨fs, hx3⟩ := Classical.axiomOfChoice hx2
    have hrows : ∀ (is : List Nat), (∀ i ∈ is, i < len) → Go.Ear.Rows r (PHof W) (is.map css) (is.map fs) := by
      intro is
      induction is with
      | nil => intro _; trivial
      | cons i is ih => intro hi; exact ⟨(hx3 i (hi i (by simp))).2.2.1, ih fun j hj => hi j (by simp [hj])⟩
    have hmu : ∀ (is : List Nat), (∀ i ∈ is, i < len) → ((is.map fs).map μ).sum ≤ Rows.uptoBulkAll (is.map D) := by
      intro is
      induction is with
      | nil => intro _; simp [Rows.uptoBulkAll]
      | cons i is ih => intro hi; have h1 := (hx3 i (hi i (by simp))).2.2.2.1; have h2 := ih fun j hj => hi j (by simp [hj]); simp only [List.map_cons, List.sum_cons, Rows.uptoBulkAll]; unfold bulk at h1; omega
    refine ⟨_, (List.range len).map fs, hcs, ⟨(List.range len).map css, ?_, hrows _ fun i hi => by simpa using hi⟩, ?_, fun a ha => by
      obtain ⟨i, hi, rfl⟩ := List.mem_map.1 ha
      exact (hx3 i (by simpa using hi)).2.2.2.2⟩
    rotate_left
    · have h1 := hmu (List.range len) fun i hi => by simpa using hi
      rw [hxx]
      show _ ≤ bulk (.slice ((List.range len).map D) _)
      unfold bulk
      simp only [Rows.uptoBulk]
      omega
    have hlen : ((List.range len).map css).length = len := by simp
    refine ⟨some a, m, by rw [hlen], by rw [hlen]; exact hlc, ?_, ?_⟩
    · intro cs hcs
      obtain ⟨i, hi, rfl⟩ := List.mem_map.1 hcs
      exact (hx3 i (by simpa using hi)).2.1
    · by_cases hz : len = 0
      · left; subst hz; rfl
      · right
        have c0 := (World.cells?_some (hx3 0 (by omega)).1).2.2
        obtain ⟨b, off, sp⟩ := a
        have l0 := (hx3 0 (by omega)).2.1
        have c00 := c0 0 (by omega)
        rw [show 0 * r.k = 0 from Nat.zero_mul _, show ((⟨b, off, sp⟩ : Addr).add 0).add 0 = ⟨b, off, sp⟩ from rfl] at c00
        rw [List.getElem?_eq_getElem (show 0 < (css 0).length by omega)] at c00
        have hbk : ∃ arr e fz, W.heap[b]? = some (.cells arr e fz) := by
          unfold World.cell? at c00
          rw [show (⟨b, off, sp⟩ : Addr).block = b from rfl] at c00
          cases hb : W.heap[b]? with
          | none => rw [hb] at c00; cases c00
          | some o =>
            cases o with
            | cells arr e fz => exact ⟨_, _, _, rfl⟩
            | _ => rw [hb] at c00; cases c00
        obtain ⟨arr, e', fz, hb⟩ := hbk
        have hsp : sp = none := by
          cases sp with
          | none => rfl
          | some y =>
            exfalso
            unfold World.cell? at c00
            rw [show (⟨b, off, some y⟩ : Addr).block = b from rfl, hb] at c00
            exact absurd c00 (by simp)
        subst hsp
        have hcl : ∀ i j, i < len → j < r.k → arr[off + i * r.k + j]? = (css i)[j]? := fun i j hi hj => by
          have h9 := (World.cells?_some (hx3 i hi).1).2.2 j hj
          rw [addr_add, addr_add] at h9
          unfold World.cell? at h9
          rw [show (⟨b, off + i * r.k + j, none⟩ : Addr).block = b from rfl, hb] at h9
          simpa using h9
        refine ⟨b, off, arr, e', fz, rfl, hb, ?_, ?_⟩
        · rw [hlen]
          have h9 := hcl (len - 1) (r.k - 1) (by omega) (by omega)
          have h8 := (hx3 (len - 1) (by omega)).2.1
          rw [List.getElem?_eq_getElem (show r.k - 1 < (css (len - 1)).length by omega)] at h9
          have := (Array.getElem?_eq_some_iff.1 h9).1
          have e1 : len * r.k = (len - 1) * r.k + r.k := by rw [← Nat.succ_mul]; congr 1; omega
          omega
        · intro i cs hcs
          have hi : i < len := by have := (List.getElem?_eq_some_iff.1 hcs).1; simpa using this
          have hcs' : css i = cs := by
            rw [List.getElem?_map, List.getElem?_eq_getElem (by simpa using hi)] at hcs
            simpa using hcs
          subst hcs'
          have h8 := (hx3 i hi).2.1
          show cut arr (off + i * r.k) r.k = css i
          apply List.ext_getElem?
          intro j
          unfold cut
          rw [List.getElem?_take]
          split
          · rename_i hj
            rw [List.getElem?_drop, ← hcl i j hi hj]; simp
          · rw [List.getElem?_eq_none (by omega)]
end
end Go.E3
set_option linter.unusedVariables false
namespace Go.E3
open Go.Ear
set_option maxRecDepth 100000
open Go.ChangeShapes Go.WideShapes Go.RowKit Go.Joins Go.Deep Go.ChangeAt Go.Proofs Go.Proofs.YtpmndikbfalfoaaGreat
theorem laidOut : laidOutB Tryz.prog = true := by kernel_rfl
theorem ownGodebug : ownKnob Tryz.prog.godebug = none := by kernel_rfl
theorem parOk : ∀ t, t = 25 ∨ t = 26 ∨ t = 3 ∨ t = 42 ∨ t = 22 ∨ t = 31 ∨ t = 75 ∨ t = 48 → Tryz.prog.readableRec t = true ∧ t < Tryz.prog.types.size := by
  rintro t (rfl | rfl | rfl | rfl | rfl | rfl | rfl | rfl) <;> exact ⟨by kernel_rfl, of_decide_eq_true (by kernel_rfl)⟩
theorem cells31 : Tryz.prog.cellsOf 31 = 3 := by kernel_rfl
theorem cells175 : Tryz.prog.cellsOf 175 = 1 := by kernel_rfl
theorem cells22 : Tryz.prog.cellsOf 22 = 1 := by kernel_rfl
theorem cells26 : Tryz.prog.cellsOf 26 = 1 := by kernel_rfl
theorem cellsT3 : Tryz.prog.cellsOf 3 = 1 := by kernel_rfl
theorem cells25 : Tryz.prog.cellsOf 25 = 4 := by kernel_rfl
theorem cells48 : Tryz.prog.cellsOf 48 = 6 := by kernel_rfl
theorem i64_of_wf {n : Int} (h : (Lit.int .i64 n).wf = true) : -9223372036854775808 ≤ n ∧ n ≤ 9223372036854775807 := by
  unfold Lit.wf at h
  rw [Bool.and_eq_true, decide_eq_true_iff, decide_eq_true_iff] at h
  exact h
theorem u32_of_wf {n : Int} (h : (Lit.int .u32 n).wf = true) : 0 ≤ n ∧ n < 4294967296 := by
  unfold Lit.wf at h
  rw [Bool.and_eq_true, decide_eq_true_iff, decide_eq_true_iff] at h
  have e1 : IntKind.min .u32 = 0 := rfl
  have e2 : IntKind.max .u32 = 4294967295 := rfl
  omega
theorem sum_mem {α : Type} {f : α → Nat} : ∀ {l : List α} {x : α}, x ∈ l → f x ≤ (l.map f).sum
  | y :: l, x, h => by
    rw [List.map_cons, List.sum_cons]
    rcases List.mem_cons.1 h with rfl | h
    · omega
    · have := sum_mem (f := f) h; omega
theorem sum_len {α : Type} {f : α → Nat} (hf : ∀ x, 1 ≤ f x) : ∀ (l : List α), l.length ≤ (l.map f).sum
  | [] => Nat.le_refl _
  | y :: l => by rw [List.map_cons, List.sum_cons, List.length_cons]; have := sum_len hf l; have := hf y; omega
theorem sum_one {α : Type} : ∀ (l : List α), (l.map fun _ => 1).sum = l.length
  | [] => rfl
  | _ :: l => by rw [List.map_cons, List.sum_cons, List.length_cons, sum_one l]; omega
section
variable {H : Type} {enc : TypeId × Value → H} {W : World}
theorem el_U (n : Nat) (cs : List Value) (y : DataW H × List MemPlace) (h : DataW.trod enc Tryz.prog W 0 (fun _ => true) true n 175 cs = some y) : ∃ z : Nat, cs.length = rU.k ∧ rU.R (PHof W) cs z ∧ 1 ≤ bulk y.1 ∧ z < 4294967296 := by
  obtain ⟨z, rfl, _, w⟩ := DataW.trod_int Tryz.underlying175 h
  have := u32_of_wf w
  exact ⟨z.toNat, rfl, show den _ (.cv (.int .u32 ((z.toNat : Nat) : Int))) _ ∧ True from ⟨by show _ = _; rw [Int.toNat_of_nonneg this.1], trivial⟩, bulk_one _, by omega⟩
theorem openU {n : Nat} {cs : List Value} {y : DataW H × List MemPlace} (h : DataW.trod enc Tryz.prog W 0 (fun _ => true) true n 29 cs = some y) : ∃ v l, cs = [v] ∧ LR rU (PHof W) v l ∧ l.length + 1 ≤ bulk y.1 ∧ Fit l := by
  obtain ⟨v, l, e, u, b, q⟩ := openLR (r := rU) (fun _ => 1) 0 (by decide) Tryz.underlying29 cells175 el_U h
  rw [sum_one] at b
  exact ⟨v, l, e, u, b, q⟩
theorem el_F_of {t : TypeId} {f0 f1 f2 : Field} (hs : Tryz.prog.underlying t = some (.struct #[f0, f1, f2])) (hone : oneCellFields Tryz.prog #[f0, f1, f2] = true) (hC : Tryz.prog.cellsOf t = 3) (t0 : f0.type = 4) (t1 : f1.type = 29) (t2 : f2.type = 29)
    {n : Nat} {cs : List Value} {y : DataW H × List MemPlace} (h : DataW.trod enc Tryz.prog W 0 (fun _ => true) true n t cs = some y) : ∃ f : Fr, cs.length = rF.k ∧ rF.R (PHof W) cs f ∧ bf f + 1 ≤ bulk y.1 ∧ FtF f := by
  obtain ⟨y0, y1, y2, m, hx, hl, g0, g1, g2⟩ := trod_struct3 hs h
  obtain ⟨o0, k0⟩ := hone_of hone 0 f0 rfl
  obtain ⟨o1, k1⟩ := hone_of hone 1 f1 rfl
  obtain ⟨o2, k2⟩ := hone_of hone 2 f2 rfl
  rw [hC] at hl
  match cs, hl with
  | [c0, c1, c2], _ =>
    rw [o0, k0, t0] at g0; rw [o1, k1, t1] at g1; rw [o2, k2, t2] at g2
    obtain ⟨s, e0, _⟩ := DataW.trod_bool Tryz.underlying4 g0
    cases e0
    obtain ⟨v1, l1, e1, u1, b1, q1⟩ := openU g1
    obtain ⟨v2, l2, e2, u2, b2, q2⟩ := openU g2
    cases e1; cases e2
    refine ⟨⟨s, l1, l2⟩, rfl, ⟨rfl, u1, u2, trivial⟩, ?_, ⟨q1, q2⟩⟩
    rw [hx]
    have b0 := bulk_one y0.1
    show _ ≤ bulk (.agg [y0.1, y1.1, y2.1])
    have := bulk_agg [y0.1, y1.1, y2.1]
    simp only [Rows.uptoBulkAll] at this
    unfold bf; dsimp only
    unfold bulk at *; omega
theorem el_F (n : Nat) (cs : List Value) (y : DataW H × List MemPlace) (h : DataW.trod enc Tryz.prog W 0 (fun _ => true) true n 31 cs = some y) : ∃ f : Fr, cs.length = rF.k ∧ rF.R (PHof W) cs f ∧ bf f + 1 ≤ bulk y.1 ∧ FtF f :=
  el_F_of Tryz.underlying31 (by kernel_rfl) cells31 rfl rfl rfl h
theorem openLF {n : Nat} {cs : List Value} {y : DataW H × List MemPlace} (h : DataW.trod enc Tryz.prog W 0 (fun _ => true) true n 22 cs = some y) : ∃ v l, cs = [v] ∧ LR rF (PHof W) v l ∧ wts l + 1 ≤ bulk y.1 ∧ FtS l := by
  obtain ⟨v, l, e, u, b, q⟩ := openLR (r := rF) (fun f => bf f + 1) fr0 (by decide) Tryz.underlying22 cells31 el_F h
  exact ⟨v, l, e, u, b, ⟨q⟩⟩
theorem el_LF (n : Nat) (cs : List Value) (y : DataW H × List MemPlace) (h : DataW.trod enc Tryz.prog W 0 (fun _ => true) true n 22 cs = some y) : ∃ l : List Fr, cs.length = (rL rF).k ∧ (rL rF).R (PHof W) cs l ∧ wts l + 1 ≤ bulk y.1 ∧ FtS l := by
  obtain ⟨v, l, rfl, u, b, q⟩ := openLF h
  exact ⟨l, rfl, ⟨u, trivial⟩, b, q⟩
theorem openLLF {n : Nat} {cs : List Value} {y : DataW H × List MemPlace} (h : DataW.trod enc Tryz.prog W 0 (fun _ => true) true n 23 cs = some y) : ∃ v l, cs = [v] ∧ LR (rL rF) (PHof W) v l ∧ (l.map fun r => wts r + 1).sum + 1 ≤ bulk y.1 ∧ FtR l := by
  obtain ⟨v, l, e, u, b, q⟩ := openLR (r := rL rF) (fun r => wts r + 1) [] (by decide) Tryz.underlying23 cells22 el_LF h
  exact ⟨v, l, e, u, b, ⟨q⟩⟩
theorem rows_tot : ∀ (l : List (List Fr)), totL l + l.length ≤ (l.map fun r => wts r + 1).sum
  | [] => Nat.le_refl _
  | y :: l => by
    rw [List.map_cons, List.sum_cons, List.length_cons]
    have := rows_tot l; have h2 := len_wts y
    have : totL (y :: l) = y.length + totL l := by unfold totL; rw [List.flatten_cons, List.length_append]
    omega
theorem rows_wts {l : List (List Fr)} {r : List Fr} (h : r ∈ l) : wts r + 1 ≤ (l.map fun r => wts r + 1).sum := sum_mem (f := fun r => wts r + 1) h
theorem upK_of {m : Md} (h : wts m.start + (m.move.map fun r => wts r + 1).sum + wts m.fin + (m.say.map fun r => wts r + 1).sum ≤ 1048576) (t : FtM m) : UpK m := by
  have h1 := len_wts m.start; have h2 := len_wts m.fin; have h3 := rows_tot m.move; have h4 := rows_tot m.say
  exact ⟨⟨by omega, by omega⟩, ⟨by omega, fun r hr => by have := rows_wts hr; omega, by omega, fun r hr => by have := rows_wts hr; omega⟩, t⟩
theorem openModel {r : Reach} {b0 : Nat} {v : Value} {d : DataW H} {p : List MemPlace} (hv : Value.okWide Tryz.prog W r b0 25 v) (h : DataW.Trod enc Tryz.prog W 0 (fun _ => true) true 25 v d p) (hb : bulk d ≤ 1048576) : ∃ m, den (PHof W) (mv m) v ∧ UpK m := by
  obtain ⟨v0, v1, v2, v3, y0, y1, y2, y3, n, rfl, rfl, rfl, g0, g1, g2, g3⟩ := open_agg4 Tryz.underlying25 (by kernel_rfl) cells25 hv h
  obtain ⟨_, l0, e0, u0, b0, q0⟩ := openLF g0
  obtain ⟨_, l1, e1, u1, b1, q1⟩ := openLLF g1
  obtain ⟨_, l2, e2, u2, b2, q2⟩ := openLF g2
  obtain ⟨_, l3, e3, u3, b3, q3⟩ := openLLF g3
  cases e0; cases e1; cases e2; cases e3
  rw [bulk_agg] at hb
  simp only [Rows.uptoBulkAll] at hb
  exact ⟨⟨l0, l1, l2, l3⟩, ⟨[v0, v1, v2, v3], rfl, u0, u1, u2, u3, trivial⟩, upK_of (by dsimp only; unfold bulk at *; omega) ⟨q0, q1, q2, q3⟩⟩
theorem el_I (n : Nat) (cs : List Value) (y : DataW H × List MemPlace) (h : DataW.trod enc Tryz.prog W 0 (fun _ => true) true n 3 cs = some y) : ∃ z : Int, cs.length = rI.k ∧ rI.R (PHof W) cs z ∧ 1 ≤ bulk y.1 ∧ (-9223372036854775808 ≤ z ∧ z ≤ 9223372036854775807) := by
  obtain ⟨z, rfl, _, w⟩ := DataW.trod_int Tryz.underlying3 h
  exact ⟨z, rfl, ⟨rfl, trivial⟩, bulk_one _, i64_of_wf w⟩
theorem openLI {n : Nat} {cs : List Value} {y : DataW H × List MemPlace} (h : DataW.trod enc Tryz.prog W 0 (fun _ => true) true n 26 cs = some y) : ∃ v l, cs = [v] ∧ LR rI (PHof W) v l ∧ l.length + 1 ≤ bulk y.1 ∧ ∀ z ∈ l, -9223372036854775808 ≤ z ∧ z ≤ 9223372036854775807 := by
  obtain ⟨v, l, e, u, b, q⟩ := openLR (r := rI) (fun _ => 1) 0 (by decide) Tryz.underlying26 cellsT3 el_I h
  rw [sum_one] at b
  exact ⟨v, l, e, u, b, q⟩
theorem el_LI (n : Nat) (cs : List Value) (y : DataW H × List MemPlace) (h : DataW.trod enc Tryz.prog W 0 (fun _ => true) true n 26 cs = some y) : ∃ l : List Int, cs.length = (rL rI).k ∧ (rL rI).R (PHof W) cs l ∧ l.length + 1 ≤ bulk y.1 ∧ ∀ z ∈ l, -9223372036854775808 ≤ z ∧ z ≤ 9223372036854775807 := by
  obtain ⟨v, l, rfl, u, b, q⟩ := openLI h
  exact ⟨l, rfl, ⟨u, trivial⟩, b, q⟩
theorem openLLI {n : Nat} {cs : List Value} {y : DataW H × List MemPlace} (h : DataW.trod enc Tryz.prog W 0 (fun _ => true) true n 42 cs = some y) : ∃ v l, cs = [v] ∧ LR (rL rI) (PHof W) v l ∧ (l.map fun r => r.length + 1).sum + 1 ≤ bulk y.1 ∧ ∀ o ∈ l, ∀ z ∈ o, -9223372036854775808 ≤ z ∧ z ≤ 9223372036854775807 :=
  openLR (r := rL rI) (fun r => r.length + 1) [] (by decide) Tryz.underlying42 cells26 el_LI h
theorem openInts {r : Reach} {b0 : Nat} {v : Value} {d : DataW H} {p : List MemPlace} (hv : Value.okWide Tryz.prog W r b0 26 v) (h : DataW.Trod enc Tryz.prog W 0 (fun _ => true) true 26 v d p) (hb : bulk d ≤ 1048576) : ∃ l, den (PHof W) (lv rI l) v ∧ l.length ≤ 1048576 ∧ I64s l := by
  obtain ⟨a0, len, cap, rfl⟩ := okWide_slice Tryz.underlying26 hv
  obtain ⟨fuel, hf⟩ := h
  obtain ⟨_, l, e, u, b, q⟩ := openLI hf
  cases e
  exact ⟨l, u, by dsimp only at b; omega, q⟩
theorem openData {r : Reach} {b0 : Nat} {v : Value} {d : DataW H} {p : List MemPlace} (hv : Value.okWide Tryz.prog W r b0 42 v) (h : DataW.Trod enc Tryz.prog W 0 (fun _ => true) true 42 v d p) (hb : bulk d ≤ 1048576) : ∃ l, den (PHof W) (lv (rL rI) l) v ∧ l.length ≤ 1048576 ∧ (∀ o ∈ l, o.length ≤ 1048576) ∧ ∀ o ∈ l, I64s o := by
  obtain ⟨a0, len, cap, rfl⟩ := okWide_slice Tryz.underlying42 hv
  obtain ⟨fuel, hf⟩ := h
  obtain ⟨_, l, e, u, b, q⟩ := openLLI hf
  cases e
  have h1 := sum_len (f := fun r : List Int => r.length + 1) (fun x => by omega) l
  exact ⟨l, u, by dsimp only at b; omega, fun o ho => by have := sum_mem (f := fun r : List Int => r.length + 1) ho; dsimp only at b; omega, q⟩
theorem openFracs {r : Reach} {b0 : Nat} {v : Value} {d : DataW H} {p : List MemPlace} (hv : Value.okWide Tryz.prog W r b0 22 v) (h : DataW.Trod enc Tryz.prog W 0 (fun _ => true) true 22 v d p) (hb : bulk d ≤ 1048576) : ∃ l, den (PHof W) (lv rF l) v ∧ wts l ≤ 1048576 ∧ FtS l := by
  obtain ⟨a0, len, cap, rfl⟩ := okWide_slice Tryz.underlying22 hv
  obtain ⟨fuel, hf⟩ := h
  obtain ⟨_, l, e, u, b, q⟩ := openLF hf
  cases e
  exact ⟨l, u, by dsimp only at b; omega, q⟩
theorem openFrac {r : Reach} {b0 : Nat} {v : Value} {d : DataW H} {p : List MemPlace} (hv : Value.okWide Tryz.prog W r b0 31 v) (h : DataW.Trod enc Tryz.prog W 0 (fun _ => true) true 31 v d p) (hb : bulk d ≤ 1048576) : ∃ f, den (PHof W) (fv f) v ∧ bf f ≤ 1048576 ∧ FtF f := by
  obtain ⟨v0, v1, v2, y0, y1, y2, n, rfl, rfl, rfl, g0, g1, g2⟩ := open_agg3 Tryz.underlying31 (by kernel_rfl) cells31 hv h
  obtain ⟨s, e0, _⟩ := DataW.trod_bool Tryz.underlying4 g0
  cases e0
  obtain ⟨_, l1, e1, u1, b1, q1⟩ := openU g1
  obtain ⟨_, l2, e2, u2, b2, q2⟩ := openU g2
  cases e1; cases e2
  rw [bulk_agg] at hb
  simp only [Rows.uptoBulkAll] at hb
  refine ⟨⟨s, l1, l2⟩, ⟨[_, v1, v2], rfl, rfl, u1, u2, trivial⟩, ?_, ⟨q1, q2⟩⟩
  have := bulk_one y0.1
  unfold bf; dsimp only
  unfold bulk at *; omega
end
end Go.E3
