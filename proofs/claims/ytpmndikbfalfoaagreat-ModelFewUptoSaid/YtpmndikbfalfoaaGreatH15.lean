/- H15: a part of the proofs about package model: how the program's functions run, and what they compute, for every input. -/
import Derived.Test.YtpmndikbfalfoaaGreatH14
set_option linter.all false
set_option linter.unusedVariables false
set_option maxRecDepth 20000
set_option maxHeartbeats 16000000
set_option synthInstance.maxSize 1000
namespace Go.E3
open Go Go.Ear Go.Proofs
section
variable {P : Program} {n : Nat} {X : Fix} {ms : List Nat} {loc env kept : EL} {B : List Res} {k : Kt} {x y : Code}
theorem gJW (es : EL) (B2 : List Res) {o : Operand} {b : Bool} {p : Prop} {E : EL} [l : Lu n true loc env o (.cv (.bool b))] [tp : TP b p] [kp : KpE es env kept] [ae : AppL es kept E] (ht : p → GW P n X ms [] env B x (.cut (Mt X.c n X.h0 X.w0 E B2) k)) (hf : ¬ p → GW P n X ms [] env B y (.cut (Mt X.c n X.h0 X.w0 E B2) k)) (g : GX P n X ms [] E B2 .normal k) : GW P n X ms loc env B (.cond o x y) k := ⟨fun ρ h w s => by
  have key : ∀ c, GW P n X ms [] env B c (.cut (Mt X.c n X.h0 X.w0 E B2) k) → WT X.c P n c (run X.c.round P X.T k) ρ w := fun c gc => by
    refine (gc.p ρ h w ⟨s.gr, trivial, s.en, s.ow⟩).mono fun e a2 w2 hq => ?_
    cases e with
    | normal => obtain ⟨ρ2, rfl, h2, s2⟩ := Mt.p hq; exact g.p _ _ _ s2
    | _ => exact hq
  exact WT.cond (cvE (l.h rfl ((s.x [o]).fx o (by simp)))) (fun e => key _ (ht (tp.h.1 e))) fun e => key _ (hf (fun q => by rw [tp.h.2 q] at e; cases e))⟩
theorem gDz (sz m : Nat) {ol : List Oper} {id : Nat} [mx : MixO P] (hs : Nat.beq ol.length sz = true) (c : (dagC ol m (env.map (·.1)) && ol.all noDefer) = true) (g : GE P n X ms [] env B ol ol k (fun _ => false) m 0 (fun _ => []) []) : GW P n X ms loc env B (.region id ol.toArray true) k := gDr m c g
end
section
variable {α : Type}
theorem upTo_skip {r l : List α} {i : Nat} {d : α} (h : r.length = l.length) (hi : i < l.length) (e : r.getD i d = l.getD i d) : upTo r l (i + 1) = upTo r l i := by
  rw [← upTo_set h hi rfl, e, ← upTo_get (d := d) h hi, set_getD]
end
theorem set_KR {M : List (List Rat)} {i x : Nat} {q : Rat} : (M.map (·.map frK)).set i (((M.map (·.map frK)).getD i []).set x (frK q)) = (M.set i ((M.getD i []).set x q)).map (·.map frK) := by
  rw [map_getDR, ← List.map_set, ← List.map_set]
section
variable (t : Tr) (F : Nat → List Rat) (c : Go.Ear.Ct)
def aS (k : Nat) : List Rat := (List.range t.m.start.length).map fun i => if 0 < k then c.start.getD i 0 + rY t F i 0 else c.start.getD i 0
def aE (k : Nat) : List Rat := (List.range t.m.start.length).map fun i => if k = t.o.length then c.fin.getD i 0 + rY t F i (t.o.length - 1) else c.fin.getD i 0
def aY (k : Nat) : List (List Rat) := (List.range t.m.start.length).map fun i => rSay t F i (c.say.getD i []) k
def aM (k : Nat) : List (List Rat) := (List.range t.m.start.length).map fun i => rMov t F i (c.move.getD i []) (min k (t.o.length - 1))
theorem aS_len (k : Nat) : (aS t F c k).length = t.m.start.length := by simp [aS]
theorem aE_len (k : Nat) : (aE t F c k).length = t.m.start.length := by simp [aE]
theorem aY_len (k : Nat) : (aY t F c k).length = t.m.start.length := by simp [aY]
theorem aM_len (k : Nat) : (aM t F c k).length = t.m.start.length := by simp [aM]
structure AdB : Prop where
  fw : ∀ k i, k < t.o.length → bq ((F k).getD i 0) ≤ 300000
  bw : ∀ k i, k < t.o.length → bq ((rbw t F k).getD i 0) ≤ 300000
  tot : bq (rTot t F) ≤ 60000000
  y : ∀ i k, k < t.o.length → bq (rY t F i k) ≤ 60000000
  mm : ∀ i k j, k + 1 < t.o.length → bq (rWm t F i k j / rTot t F) ≤ 60000000
  s : ∀ i, bq (c.start.getD i 0) ≤ 60000000
  e : ∀ i, bq (c.fin.getD i 0) ≤ 60000000
  say : ∀ i k x, k ≤ t.o.length → bq ((rSay t F i (c.say.getD i []) k).getD x 0) ≤ 60000000
  mov : ∀ i k j, k < t.o.length → bq ((rMov t F i (c.move.getD i []) k).getD j 0) ≤ 60000000
  l : c.start.length = t.m.start.length ∧ c.fin.length = t.m.start.length ∧ c.move.length = t.m.start.length ∧ c.say.length = t.m.start.length
  r : ∀ i, i < t.m.start.length → (c.move.getD i []).length = t.m.start.length ∧ (c.say.getD i []).length = symb t.m
end
section
variable {t : Tr} {F : Nat → List Rat} {c : Go.Ear.Ct}
theorem eq_range {α : Type} {l : List α} {n : Nat} (d : α) (h : l.length = n) : (List.range n).map (fun i => l.getD i d) = l := by
  refine ext_getD d (by simp [h]) fun i hi => ?_
  rw [List.length_map, List.length_range] at hi
  rw [range_getD _ _ hi]
theorem AdB.S0 (h : AdB t F c) : aS t F c 0 = c.start := eq_range 0 h.l.1
theorem AdB.Y0 (h : AdB t F c) : aY t F c 0 = c.say := eq_range [] h.l.2.2.2
theorem AdB.M0 (h : AdB t F c) : aM t F c 0 = c.move := by
  unfold aM; rw [Nat.zero_min]; exact eq_range [] h.l.2.2.1
theorem AdB.E0 (h : AdB t F c) (hn : 0 < t.o.length) : aE t F c 0 = c.fin := by
  unfold aE
  rw [← eq_range 0 h.l.2.1]
  exact List.map_congr_left fun i hi => by rw [if_neg (by omega), eq_range 0 h.l.2.1]
theorem aS_n (hn : 0 < t.o.length) : aS t F c t.o.length = (addCt t F c).start := List.map_congr_left fun i _ => if_pos hn
theorem aE_n : aE t F c t.o.length = (addCt t F c).fin := List.map_congr_left fun i _ => if_pos rfl
theorem aY_n : aY t F c t.o.length = (addCt t F c).say := rfl
theorem aM_n : aM t F c t.o.length = (addCt t F c).move := by unfold aM; rw [Nat.min_eq_right (by omega)]; rfl
theorem aS_z {i : Nat} (hi : i < t.m.start.length) : (aS t F c 1).getD i 0 = (aS t F c 0).getD i 0 + rY t F i 0 := by
  unfold aS; rw [range_getD _ _ hi, range_getD _ _ hi, if_pos Nat.zero_lt_one, if_neg (Nat.lt_irrefl 0)]
theorem aS_s {i k : Nat} (hi : i < t.m.start.length) (hk : 0 < k) : (aS t F c (k + 1)).getD i 0 = (aS t F c k).getD i 0 := by
  unfold aS; rw [range_getD _ _ hi, range_getD _ _ hi, if_pos (Nat.succ_pos k), if_pos hk]
theorem aE_z {i k : Nat} (hi : i < t.m.start.length) (hk : k + 1 = t.o.length) : (aE t F c (k + 1)).getD i 0 = (aE t F c k).getD i 0 + rY t F i k := by
  unfold aE; rw [range_getD _ _ hi, range_getD _ _ hi, if_pos hk, if_neg (by omega), show t.o.length - 1 = k by omega]
theorem aE_s {i k : Nat} (hi : i < t.m.start.length) (hk : k + 1 < t.o.length) : (aE t F c (k + 1)).getD i 0 = (aE t F c k).getD i 0 := by
  unfold aE; rw [range_getD _ _ hi, range_getD _ _ hi, if_neg (by omega), if_neg (by omega)]
theorem aM_s {i k : Nat} (hi : i < t.m.start.length) (hk : k + 1 = t.o.length) : (aM t F c (k + 1)).getD i [] = (aM t F c k).getD i [] := by
  unfold aM; rw [range_getD _ _ hi, range_getD _ _ hi, show min (k + 1) (t.o.length - 1) = min k (t.o.length - 1) by omega]
theorem aY_next {i k : Nat} (hi : i < t.m.start.length) : (upTo (aY t F c (k + 1)) (aY t F c k) i).set i ((rSay t F i (c.say.getD i []) k).set (t.o.getD k 0).toNat ((rSay t F i (c.say.getD i []) k).getD (t.o.getD k 0).toNat 0 + rY t F i k)) = upTo (aY t F c (k + 1)) (aY t F c k) (i + 1) := by
  refine upTo_set (d := []) (by rw [aY_len, aY_len]) (by rw [aY_len]; exact hi) ?_
  unfold aY; rw [range_getD _ _ hi]; rfl
theorem aS_skip {i k : Nat} (hi : i < t.m.start.length) (hk : 0 < k) : upTo (aS t F c (k + 1)) (aS t F c k) (i + 1) = upTo (aS t F c (k + 1)) (aS t F c k) i := upTo_skip (by rw [aS_len, aS_len]) (by rw [aS_len]; exact hi) (aS_s hi hk)
theorem aS_next {i : Nat} (hi : i < t.m.start.length) : (upTo (aS t F c 1) (aS t F c 0) i).set i ((upTo (aS t F c 1) (aS t F c 0) i).getD i 0 + rY t F i 0) = upTo (aS t F c 1) (aS t F c 0) (i + 1) := by
  refine upTo_set (d := 0) (by rw [aS_len, aS_len]) (by rw [aS_len]; exact hi) ?_
  rw [upTo_get (by rw [aS_len, aS_len]) (by rw [aS_len]; exact hi), aS_z hi]
theorem aE_skip {i k : Nat} (hi : i < t.m.start.length) (hk : k + 1 < t.o.length) : upTo (aE t F c (k + 1)) (aE t F c k) (i + 1) = upTo (aE t F c (k + 1)) (aE t F c k) i := upTo_skip (by rw [aE_len, aE_len]) (by rw [aE_len]; exact hi) (aE_s hi hk)
theorem aE_next {i k : Nat} (hi : i < t.m.start.length) (hk : k + 1 = t.o.length) : (upTo (aE t F c (k + 1)) (aE t F c k) i).set i ((upTo (aE t F c (k + 1)) (aE t F c k) i).getD i 0 + rY t F i k) = upTo (aE t F c (k + 1)) (aE t F c k) (i + 1) := by
  refine upTo_set (d := 0) (by rw [aE_len, aE_len]) (by rw [aE_len]; exact hi) ?_
  rw [upTo_get (by rw [aE_len, aE_len]) (by rw [aE_len]; exact hi), aE_z hi hk]
theorem aM_skip {i k : Nat} (hi : i < t.m.start.length) (hk : k + 1 = t.o.length) : upTo (aM t F c (k + 1)) (aM t F c k) (i + 1) = upTo (aM t F c (k + 1)) (aM t F c k) i := upTo_skip (d := []) (by rw [aM_len, aM_len]) (by rw [aM_len]; exact hi) (aM_s hi hk)
theorem aM_next {i k : Nat} (hi : i < t.m.start.length) (hk : k + 1 < t.o.length) : (upTo (aM t F c (k + 1)) (aM t F c k) i).set i (rMov t F i (c.move.getD i []) (k + 1)) = upTo (aM t F c (k + 1)) (aM t F c k) (i + 1) := by
  refine upTo_set (d := []) (by rw [aM_len, aM_len]) (by rw [aM_len]; exact hi) ?_
  unfold aM; rw [range_getD _ _ hi, Nat.min_eq_left (by omega)]
theorem aS_get {i k : Nat} (hi : i < t.m.start.length) : (upTo (aS t F c (k + 1)) (aS t F c k) i).getD i 0 = (aS t F c k).getD i 0 := upTo_get (by rw [aS_len, aS_len]) (by rw [aS_len]; exact hi)
theorem aE_get {i k : Nat} (hi : i < t.m.start.length) : (upTo (aE t F c (k + 1)) (aE t F c k) i).getD i 0 = (aE t F c k).getD i 0 := upTo_get (by rw [aE_len, aE_len]) (by rw [aE_len]; exact hi)
theorem aY_get {i k : Nat} (hi : i < t.m.start.length) : (upTo (aY t F c (k + 1)) (aY t F c k) i).getD i [] = rSay t F i (c.say.getD i []) k := by rw [upTo_get (by rw [aY_len, aY_len]) (by rw [aY_len]; exact hi)]; exact range_getD _ _ hi
theorem aM_get {i k : Nat} (hi : i < t.m.start.length) (hk : k < t.o.length) : (upTo (aM t F c (k + 1)) (aM t F c k) i).getD i [] = rMov t F i (c.move.getD i []) k := by
  rw [upTo_get (by rw [aM_len, aM_len]) (by rw [aM_len]; exact hi)]
  unfold aM; rw [range_getD _ _ hi, Nat.min_eq_left (by omega)]
theorem aS_upl {i k : Nat} : (upTo (aS t F c (k + 1)) (aS t F c k) i).length = t.m.start.length := by rw [upTo_len (by rw [aS_len, aS_len]), aS_len]
theorem aE_upl {i k : Nat} : (upTo (aE t F c (k + 1)) (aE t F c k) i).length = t.m.start.length := by rw [upTo_len (by rw [aE_len, aE_len]), aE_len]
theorem aY_upl {i k : Nat} : (upTo (aY t F c (k + 1)) (aY t F c k) i).length = t.m.start.length := by rw [upTo_len (by rw [aY_len, aY_len]), aY_len]
theorem aM_upl {i k : Nat} : (upTo (aM t F c (k + 1)) (aM t F c k) i).length = t.m.start.length := by rw [upTo_len (by rw [aM_len, aM_len]), aM_len]
theorem AdB.sB (h : AdB t F c) {k i : Nat} (hk : k = 0) (hi : i < t.m.start.length) : bq ((aS t F c k).getD i 0) ≤ 60000000 := by subst hk; rw [h.S0]; exact h.s i
theorem AdB.eB (h : AdB t F c) {k i : Nat} (hk : k + 1 = t.o.length) (hi : i < t.m.start.length) : bq ((aE t F c k).getD i 0) ≤ 60000000 := by
  unfold aE; rw [range_getD _ _ hi, if_neg (by omega)]; exact h.e i
theorem rMov_zero (i k j : Nat) {a : List Rat} (hj : j < t.m.start.length) (h : (F (k + 1)).getD j 0 = 0) : (rMov t F i a (k + 1)).getD j 0 = (rMov t F i a k).getD j 0 := by
  rw [rMov, range_getD _ _ hj]; unfold Go.Ear.rM; rw [if_pos h, Rat.add_zero]
theorem rMov_add (i k j : Nat) {a : List Rat} (hj : j < t.m.start.length) (h : ¬ (F (k + 1)).getD j 0 = 0) : (rMov t F i a (k + 1)).getD j 0 = (rMov t F i a k).getD j 0 + rWm t F i k j / rTot t F := by
  rw [rMov, range_getD _ _ hj]; unfold Go.Ear.rM; rw [if_neg h]
end
end Go.E3
