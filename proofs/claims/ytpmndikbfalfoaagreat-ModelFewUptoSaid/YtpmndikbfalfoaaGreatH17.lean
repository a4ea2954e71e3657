/- H17: a part of the proofs about package model: how the program's functions run, and what they compute, for every input. -/
import Derived.Test.YtpmndikbfalfoaaGreatH16
import Derived.Test.YtpmndikbfalfoaaGreatEarT15
set_option linter.all false
set_option linter.unusedVariables false
set_option maxRecDepth 20000
set_option maxHeartbeats 16000000
set_option synthInstance.maxSize 1000
namespace Go.E3
open Go Go.Ear Go.Proofs
section
variable {t : Tr} {F G : Nat → List Rat}
theorem rbw_congr (h : ∀ k, k < t.o.length → F k = G k) : ∀ k, k < t.o.length → rbw t F k = rbw t G k
  | 0, _ => rfl
  | k + 1, hk => by
    rw [rbw, rbw, rbw_congr h k (by omega), h (t.o.length - 1 - k) (by omega)]
theorem rTot_congr (h : ∀ k, k < t.o.length → F k = G k) : rTot t F = rTot t G := by
  unfold rTot
  by_cases e : t.o.length = 0
  · rw [if_pos e, if_pos e]
  · rw [if_neg e, if_neg e, h _ (by omega)]
theorem rY_congr (h : ∀ k, k < t.o.length → F k = G k) {i k : Nat} (hk : k < t.o.length) : rY t F i k = rY t G i k := by
  unfold rY; rw [h k hk, rbw_congr h _ (by omega), rTot_congr h]
theorem rM_congr (h : ∀ k, k < t.o.length → F k = G k) {i k j : Nat} (hk : k + 1 < t.o.length) : Go.Ear.rM t F i k j = Go.Ear.rM t G i k j := by
  unfold Go.Ear.rM rWm; rw [h k (by omega), h (k + 1) hk, rbw_congr h _ (by omega), rTot_congr h]
theorem rSay_congr (h : ∀ k, k < t.o.length → F k = G k) {i : Nat} {a : List Rat} : ∀ k, k ≤ t.o.length → rSay t F i a k = rSay t G i a k
  | 0, _ => rfl
  | k + 1, hk => by rw [rSay, rSay, rSay_congr h k (by omega), rY_congr h (by omega)]
theorem rMov_congr (h : ∀ k, k < t.o.length → F k = G k) {i : Nat} {a : List Rat} : ∀ k, k < t.o.length → rMov t F i a k = rMov t G i a k
  | 0, _ => rfl
  | k + 1, hk => by
    rw [rMov, rMov, rMov_congr h k (by omega)]
    exact List.map_congr_left fun j _ => by rw [rM_congr h (by omega)]
theorem addCt_congr (h : ∀ k, k < t.o.length → F k = G k) (hn : 0 < t.o.length) (c : Go.Ear.Ct) : addCt t F c = addCt t G c := by
  unfold addCt
  rw [Go.Ear.Ct.mk.injEq]
  refine ⟨List.map_congr_left fun i _ => by rw [rY_congr h hn], List.map_congr_left fun i _ => rMov_congr h _ (by omega), List.map_congr_left fun i _ => by rw [rY_congr h (by omega)], List.map_congr_left fun i _ => rSay_congr h _ (Nat.le_refl _), rfl, rfl, rfl⟩
end
theorem fT_fwd {m : Md} {o : List Int} {k : Nat} (h : k < o.length) : fT m o (m.start.length : Int) k = fwd ⟨m, o⟩ k := by
  unfold fT; rw [show rfwN ⟨m, o⟩ (m.start.length : Int) o.length = fwdAll ⟨m, o⟩ from rfwN_fwd (t := ⟨m, o⟩) (Int.le_refl _)]; exact fwdAll_at h
section
variable {m : Md} {o : List Int} {keep u n : Int} {C : Go.Ear.Ct}
instance radd_c [ft : FtM m] {c a mv' e y : Value} {vm vy : List Value} {B B0 B1 B2 B3 B4 B5 B6 : List Res} [pv : PV B c [ov a, ov mv', ov e, ov y, iv u, iv n] 48 B0] [p1 : PA B0 a Fr rF 31 (C.start.map frK) B1] [p2 : PA B1 mv' Value rW 22 vm B2] [p3 : PZ B2 vm Fr rF 31 (C.move.map (·.map frK)) B3] [p4 : PA B3 e Fr rF 31 (C.fin.map frK) B4] [p5 : PA B4 y Value rW 22 vy B5] [p6 : PZ B5 vy Fr rF 31 (C.say.map (·.map frK)) B6] :
    CtR Tryz.prog 97 [ov c, mv m, lv rI o, iv keep] B (TOk ⟨m, o⟩ ∧ MdB 100000 m ∧ MdW 5000 m ∧ RfB ⟨m, o⟩ keep ∧ AdB ⟨m, o⟩ (fT m o keep) C) Unit (fun _ => kk (rTot ⟨m, o⟩ (fT m o keep))) (fun _ => rV c [ov a, ov mv', ov e, ov y, iv u, iv n] 48 :: cnR (a, mv', e, y, vm, vy) ((if rTot ⟨m, o⟩ (fT m o keep) = 0 then C else addCt ⟨m, o⟩ (fT m o keep) C).start.map frK) ((if rTot ⟨m, o⟩ (fT m o keep) = 0 then C else addCt ⟨m, o⟩ (fT m o keep) C).move.map (·.map frK)) ((if rTot ⟨m, o⟩ (fT m o keep) = 0 then C else addCt ⟨m, o⟩ (fT m o keep) C).fin.map frK) ((if rTot ⟨m, o⟩ (fT m o keep) = 0 then C else addCt ⟨m, o⟩ (fT m o keep) C).say.map (·.map frK)) B6) :=
  (radd_b (z := (a, mv', e, y, vm, vy))).to (pv.h.trans ((p1.h.cons _).trans (((p2.h.cons _).cons _).trans ((((p3.h.cons _).cons _).cons _).trans (((((p4.h.cons _).cons _).cons _).cons _).trans ((((((p5.h.cons _).cons _).cons _).cons _).cons _).trans (((((((p6.h.cons _).cons _).cons _).cons _).cons _).cons _))))))))
theorem Fp.of {B B1 C1 : List Res} (h : Sb B B1) (e : ∀ r ∈ C1, ∃ r' ∈ B1, ∀ i, r.fp i → r'.fp i) : ∀ r ∈ C1, ∀ i, r.fp i → ∃ r ∈ B, r.fp i := fun r hr i hi => by
  obtain ⟨r', hr', hf⟩ := e r hr
  exact h.fp r' hr' i (hf i hi)
instance {c a mv' e y : Value} {vm vy : List Value} {u n u' n' : Int} {S E S' E' : List Fr} {M Y M' Y' : List (List Fr)} {B B0 B1 B2 B3 B4 B5 B6 : List Res} [pv : PV B c [ov a, ov mv', ov e, ov y, iv u, iv n] 48 B0] [p1 : PA B0 a Fr rF 31 S B1] [p2 : PA B1 mv' Value rW 22 vm B2] [p3 : PZ B2 vm Fr rF 31 M B3] [p4 : PA B3 e Fr rF 31 E B4] [p5 : PA B4 y Value rW 22 vy B5] [p6 : PZ B5 vy Fr rF 31 Y B6] : FpS (rV c [ov a, ov mv', ov e, ov y, iv u', iv n'] 48 :: cnR (a, mv', e, y, vm, vy) S' M' E' Y' B6) B := ⟨by
  refine Fp.of (pv.h.trans ((p1.h.cons _).trans (((p2.h.cons _).cons _).trans ((((p3.h.cons _).cons _).cons _).trans (((((p4.h.cons _).cons _).cons _).cons _).trans ((((((p5.h.cons _).cons _).cons _).cons _).cons _).trans (((((((p6.h.cons _).cons _).cons _).cons _).cons _).cons _)))))))) fun r hr => ?_
  simp only [cnR, List.mem_cons] at hr
  rcases hr with rfl | rfl | rfl | rfl | rfl | rfl | rfl | hr
  · exact ⟨_, List.mem_cons_self .., fun i h => h⟩
  · exact ⟨_, List.mem_cons_of_mem _ (List.mem_cons_self ..), fun i h => h⟩
  · exact ⟨_, List.mem_cons_of_mem _ (List.mem_cons_of_mem _ (List.mem_cons_self ..)), fun i h => h⟩
  · exact ⟨_, List.mem_cons_of_mem _ (List.mem_cons_of_mem _ (List.mem_cons_of_mem _ (List.mem_cons_self ..))), fun i h => h⟩
  · exact ⟨_, List.mem_cons_of_mem _ (List.mem_cons_of_mem _ (List.mem_cons_of_mem _ (List.mem_cons_of_mem _ (List.mem_cons_self ..)))), fun i h => h⟩
  · exact ⟨_, List.mem_cons_of_mem _ (List.mem_cons_of_mem _ (List.mem_cons_of_mem _ (List.mem_cons_of_mem _ (List.mem_cons_of_mem _ (List.mem_cons_self ..))))), fun i h => h⟩
  · exact ⟨_, List.mem_cons_of_mem _ (List.mem_cons_of_mem _ (List.mem_cons_of_mem _ (List.mem_cons_of_mem _ (List.mem_cons_of_mem _ (List.mem_cons_of_mem _ (List.mem_cons_self ..)))))), fun i h => h⟩
  · exact ⟨r, List.mem_cons_of_mem _ (List.mem_cons_of_mem _ (List.mem_cons_of_mem _ (List.mem_cons_of_mem _ (List.mem_cons_of_mem _ (List.mem_cons_of_mem _ (List.mem_cons_of_mem _ hr)))))), fun i h => h⟩⟩
end
def agL : Value → List Value
  | .agg a => a.toList
  | _ => []
@[reducible] def cnZ (l : List Value) : CnT := (l.getD 0 vnil, l.getD 1 vnil, l.getD 2 vnil, l.getD 3 vnil, agL (l.getD 4 vnil), agL (l.getD 5 vnil))
instance rEmpty_n {s k : Nat} : CtN Tryz.prog 96 [iv (s : Int), iv (k : Int)] (s ≤ 1048576 ∧ k ≤ 1048576) (fun g => .ag [ov (cnZ g.l).1, ov (cnZ g.l).2.1, ov (cnZ g.l).2.2.1, ov (cnZ g.l).2.2.2.1, iv 0, iv 0]) (fun g => cnR (cnZ g.l) (List.replicate s fr0) (List.replicate s (List.replicate s fr0)) (List.replicate s fr0) (List.replicate s (List.replicate k fr0)) []) :=
  CtN.of (rEmpty_c (B := [])) (fun z => [z.1, z.2.1, z.2.2.1, z.2.2.2.1, .agg z.2.2.2.2.1.toArray, .agg z.2.2.2.2.2.toArray]) (fun _ _ => rfl) (fun _ _ => rfl)
structure RDk (m : Md) (data : List (List Int)) : Prop where
  n : data.length ≤ 1048576
  s : m.start.length ≤ 40
  y : symb m ≤ 1048576
  sl : m.say.length ≤ 1048576
  b : MdB 100000 m
  w : MdW 5000 m
  nn : Nn m
  tok : ∀ k, k < data.length → TOk (Go.Ear.trK m data k)
  rf : ∀ k, k < data.length → RfB (Go.Ear.trK m data k) (m.start.length : Int)
  ad : ∀ k, k < data.length → AdB (Go.Ear.trK m data k) (fT m (data.getD k []) (m.start.length : Int)) (allT m data k)
section
variable {m : Md} {data : List (List Int)} {S T : SV}
end
end Go.E3
