/- K35: a part of the proof about training through the decoder: how the program's functions run, and what they compute, for every input. -/
import Derived.Test.YtdciabokggfpbaaGreatK34
import Derived.Test.YtdciabokggfpbaaGreatK33
set_option linter.all false
namespace Go.E3
open Go Go.Ear
theorem or_z {a b : Rat} (h : a * b = 0) : a = 0 \/ b = 0 := by
 by_cases hb : b = 0
 · exact Or.inr hb
 · exact Or.inl (mul_z h hb)
theorem pY_z0 {t : Tr} {i : Nat} (hi : i < t.m.start.length) (h : (t.m.start.getD i fr0).rat = 0) : pY t i 0 = 0 := by
 unfold pY; rw [<- fwd_zero hi,h,Rat.zero_mul,Rat.zero_mul,Rat.div_def,Rat.zero_mul]
theorem pE_z {t : Tr} {i : Nat} (h : (t.m.fin.getD i fr0).rat = 0) : pE t i = 0 := by
 unfold pE; rw [h,Rat.mul_zero,Rat.div_def,Rat.zero_mul]
theorem pM_z {t : Tr} {i j : Nat} (h : ((t.m.move.getD i []).getD j fr0).rat = 0) (k : Nat) : pM t i k j = 0 := by
 unfold pM wM moveT; rw [h,Rat.mul_zero,Rat.zero_mul,Rat.zero_mul,Rat.div_def,Rat.zero_mul]
theorem rep_z (n i : Nat) : (List.replicate n (0 : Rat)).getD i 0 = 0 := by
 rw [List.getD_eq_getElem?_getD,List.getElem?_replicate]; split <;> rfl
theorem rep_z2 (n k i j : Nat) : ((List.replicate n (List.replicate k (0 : Rat))).getD i []).getD j 0 = 0 := by
 rw [List.getD_eq_getElem?_getD (l := List.replicate n (List.replicate k (0 : Rat))),List.getElem?_replicate]
 split
 · exact rep_z k j
 · rfl
theorem mvRow_z {t : Tr} {i j : Nat} (h : ((t.m.move.getD i []).getD j fr0).rat = 0) : ∀ k,(mvRow t i k).getD j 0 = 0
 | 0 => rep_z _ j
 | k + 1 => by
   by_cases hj : j < t.m.start.length
   · rw [<- mvRow_at hj,mvRow_z h k,pM_z h,Rat.add_zero]
   · rw [List.getD_eq_getElem?_getD,List.getElem?_eq_none (by rw [mvRow_len]; omega)]; rfl
theorem pY_zy {t : Tr} {i k : Nat} (hi : i < t.m.start.length) (h : sayT t i k = 0) : pY t i k = 0 := by
 have : (fwd t k).getD i 0 = 0 := by
  match k,h with
  | 0,h => rw [<- fwd_zero hi,h,Rat.mul_zero]
  | k + 1,h => rw [<- fwd_succ hi,h,Rat.zero_mul]
 unfold pY; rw [this,Rat.zero_mul,Rat.div_def,Rat.zero_mul]
theorem sayRow_z {t : Tr} {i x : Nat} (hi : i < t.m.start.length) (h : ((t.m.say.getD i []).getD x fr0).rat = 0) : ∀ k,(sayRow t i k).getD x 0 = 0
 | 0 => rep_z _ x
 | k + 1 => by
   have ih := sayRow_z hi h k
   rw [sayRow]
   by_cases e : (t.o.getD k 0).toNat = x
   · subst e
     by_cases hx : (t.o.getD k 0).toNat < (sayRow t i k).length
     · rw [getD_set_is hx,ih,pY_zy hi h,Rat.add_zero]
     · rw [List.getD_eq_getElem?_getD,List.getElem?_eq_none (by rw [List.length_set]; omega)]; rfl
   · rw [getD_set_ne' e]; exact ih
def CtZ (m : Md) (C : Go.Ear.Ct) : Prop := ∀ i,i < m.start.length -> ((m.start.getD i fr0).rat = 0 -> C.start.getD i 0 = 0) /\ ((m.fin.getD i fr0).rat = 0 -> C.fin.getD i 0 = 0) /\ (∀ j,((m.move.getD i []).getD j fr0).rat = 0 -> (C.move.getD i []).getD j 0 = 0) /\ ∀ x,((m.say.getD i []).getD x fr0).rat = 0 -> (C.say.getD i []).getD x 0 = 0
theorem cntT_z (t : Tr) : CtZ t.m (cntT t) := fun i hi => ⟨fun h => by
 show (cntS t).getD i 0 = 0; rw [cntS,range_getD _ _ hi]; exact pY_z0 hi h,fun h => by
 show (cntE t).getD i 0 = 0; rw [cntE,range_getD _ _ hi]; exact pE_z h,fun j h => by
 show ((cntM t).getD i []).getD j 0 = 0; rw [cntM,range_getD _ _ hi]; exact mvRow_z h _,fun x h => by
 show ((cntY t).getD i []).getD x 0 = 0; rw [cntY,range_getD _ _ hi]; exact sayRow_z hi h _⟩
theorem addR_z {a b : List Rat} {i : Nat} (h : a.getD i 0 = 0) (k : b.getD i 0 = 0) : (addR a b).getD i 0 = 0 := by
 by_cases hi : i < a.length
 · rw [<- addR_at hi,h,k,Rat.add_zero]
 · rw [List.getD_eq_getElem?_getD,List.getElem?_eq_none (by rw [addR_len]; omega)]; rfl
theorem addM_z {a b : List (List Rat)} {i j : Nat} (h : (a.getD i []).getD j 0 = 0) (k : (b.getD i []).getD j 0 = 0) : ((addM a b).getD i []).getD j 0 = 0 := by
 by_cases hi : i < a.length
 · rw [<- addM_at hi]; exact addR_z h k
 · rw [List.getD_eq_getElem?_getD (l := addM a b),List.getElem?_eq_none (by rw [addM_len]; omega)]; rfl
theorem all_z (m : Md) (data : List (List Int)) : ∀ k,CtZ m (allT m data k)
 | 0 => fun i hi => ⟨fun _ => rep_z _ i,fun _ => rep_z _ i,fun j _ => rep_z2 _ _ i j,fun x _ => rep_z2 _ _ i x⟩
 | k + 1 => by
   have ih := all_z m data k
   by_cases h : lk (Go.Ear.trK m data k) = 0
   · rw [allT_t h]; exact ih
   · have hc := cntT_z (Go.Ear.trK m data k)
     rw [allT_f h]
     exact fun i hi => ⟨fun e => addR_z ((ih i hi).1 e) ((hc i hi).1 e),fun e => addR_z ((ih i hi).2.1 e) ((hc i hi).2.1 e),fun j e => addM_z ((ih i hi).2.2.1 j e) ((hc i hi).2.2.1 j e),fun x e => addM_z ((ih i hi).2.2.2 x e) ((hc i hi).2.2.2 x e)⟩
structure CtQ (m : Md) (C : Go.Ear.Ct) (N : Nat) : Prop where
 l1 : C.start.length = m.start.length
 l4 : C.fin.length = m.start.length
 l5 : C.move.length = m.start.length
 l6 : C.say.length = m.start.length
 l2 : ∀ i,i < m.start.length -> (C.move.getD i []).length = m.start.length
 l3 : ∀ i,i < m.start.length -> (C.say.getD i []).length = symb m
 w : ∀ i j,Wh N (C.start.getD i 0) /\ Wh N (C.fin.getD i 0) /\ Wh N ((C.move.getD i []).getD j 0) /\ Wh N ((C.say.getD i []).getD j 0)
 nn : ∀ i j,0 <= C.start.getD i 0 /\ 0 <= C.fin.getD i 0 /\ 0 <= (C.move.getD i []).getD j 0 /\ 0 <= (C.say.getD i []).getD j 0
structure Nxt (m v : Md) (C : Go.Ear.Ct) : Prop where
 s : v.start.length = m.start.length
 st : ∀ i,i < m.start.length -> (v.start.getD i fr0).rat = if sumR C.start = 0 then (m.start.getD i fr0).rat else C.start.getD i 0 / sumR C.start
 mv : ∀ i j,i < m.start.length -> j < m.start.length -> ((v.move.getD i []).getD j fr0).rat = if sumR (lvT C i) = 0 then ((m.move.getD i []).getD j fr0).rat else (C.move.getD i []).getD j 0 / sumR (lvT C i)
 fi : ∀ i,i < m.start.length -> (v.fin.getD i fr0).rat = if sumR (lvT C i) = 0 then (m.fin.getD i fr0).rat else C.fin.getD i 0 / sumR (lvT C i)
 sy : ∀ i x,i < m.start.length -> ((v.say.getD i []).getD x fr0).rat = if sumR (C.say.getD i []) = 0 then ((m.say.getD i []).getD x fr0).rat else (C.say.getD i []).getD x 0 / sumR (C.say.getD i [])
def SameW (m v : Md) : Prop := ∀ i,i < m.start.length -> (v.start.getD i fr0).rat = (m.start.getD i fr0).rat /\ (v.fin.getD i fr0).rat = (m.fin.getD i fr0).rat /\ (∀ j,j < m.start.length -> ((v.move.getD i []).getD j fr0).rat = ((m.move.getD i []).getD j fr0).rat) /\ ∀ x,x < symb m -> ((v.say.getD i []).getD x fr0).rat = ((m.say.getD i []).getD x fr0).rat
theorem phi_ge {m v : Md} {C : Go.Ear.Ct} {N : Nat} (hN : 0 < N) (hv : validM m = true) (x : Nxt m v C) (q : CtQ m C N) (z : CtZ m C) : 1 <= phi m v N C /\ (phi m v N C <= 1 -> SameW m v) := by
 have nn := Nn.of hv
 have on := Ones.of hv
 have hA := gibbs (o := fun i => (m.start.getD i fr0).rat) (v := fun i => (v.start.getD i fr0).rat) (x := fun i => C.start.getD i 0) (n := m.start.length) (N := N) (T := sumR C.start) hN (fun i _ => nn.st i) (fun i _ => (q.nn i 0).1) (fun i _ => (q.w i 0).1) (by unfold sumR; rw [q.l1]) on.st (fun i hi e => (z i hi).1 e) x.st
 have hY : ∀ i,i < m.start.length -> _ := fun i hi => gibbs (o := fun j => ((m.say.getD i []).getD j fr0).rat) (v := fun j => ((v.say.getD i []).getD j fr0).rat) (x := fun j => (C.say.getD i []).getD j 0) (n := symb m) (N := N) (T := sumR (C.say.getD i [])) hN (fun j _ => nn.sy i j) (fun j _ => (q.nn i j).2.2.2) (fun j _ => (q.w i j).2.2.2) (by unfold sumR; rw [q.l3 i hi]) (on.sy i hi) (fun j hj e => (z i hi).2.2.2 j e) (fun j _ => x.sy i j hi)
 have hL : ∀ i,i < m.start.length -> _ := fun i hi => gibbs (o := fun j => if j < m.start.length then ((m.move.getD i []).getD j fr0).rat else (m.fin.getD i fr0).rat) (v := fun j => if j < m.start.length then ((v.move.getD i []).getD j fr0).rat else (v.fin.getD i fr0).rat) (x := fun j => if j < m.start.length then (C.move.getD i []).getD j 0 else C.fin.getD i 0) (n := m.start.length + 1) (N := N) (T := sumR (lvT C i)) hN
  (fun j _ => by split; exact nn.mv i j; exact nn.fi i)
  (fun j _ => by split; exact (q.nn i j).2.2.1; exact (q.nn i 0).2.1)
  (fun j _ => by split; exact (q.w i j).2.2.1; exact (q.w i 0).2.1)
  (by
   unfold lvT
   rw [sumR_snoc,sumTo_succ,if_neg (by omega)]
   unfold sumR; rw [q.l2 i hi]
   congr 1
   exact sumTo_congr _ fun j hj => if_pos hj)
  (by
   rw [sumTo_succ,if_neg (by omega), <- on.lv i hi]
   congr 1
   exact sumTo_congr _ fun j hj => if_pos hj)
  (fun j hj => by
   by_cases h : j < m.start.length
   · rw [if_pos h,if_pos h]; exact (z i hi).2.2.1 j
   · rw [if_neg h,if_neg h]; exact (z i hi).2.1)
  (fun j hj => by
   by_cases h : j < m.start.length
   · rw [if_pos h,if_pos h,if_pos h]; exact x.mv i j hi h
   · rw [if_neg h,if_neg h,if_neg h]; exact x.fi i hi)
 have eL : prodTo (fun i => prodTo (fun j => (((v.move.getD i []).getD j fr0).rat / ((m.move.getD i []).getD j fr0).rat) ^ whN N ((C.move.getD i []).getD j 0)) m.start.length) m.start.length * prodTo (fun i => ((v.fin.getD i fr0).rat / (m.fin.getD i fr0).rat) ^ whN N (C.fin.getD i 0)) m.start.length = prodTo (fun i => prodTo (fun j => ((if j < m.start.length then ((v.move.getD i []).getD j fr0).rat else (v.fin.getD i fr0).rat) / (if j < m.start.length then ((m.move.getD i []).getD j fr0).rat else (m.fin.getD i fr0).rat)) ^ whN N (if j < m.start.length then (C.move.getD i []).getD j 0 else C.fin.getD i 0)) (m.start.length + 1)) m.start.length := by
  rw [<- prodTo_mul]
  refine prodTo_congr _ fun i hi => ?_
  rw [prodTo,if_neg (by omega),if_neg (by omega),if_neg (by omega)]
  congr 1
  exact prodTo_congr _ fun j hj => by rw [if_pos hj,if_pos hj,if_pos hj]
 have gL := prodTo_ge fun i hi => (hL i hi).1
 have gY := prodTo_ge fun i hi => (hY i hi).1
 obtain ⟨a1,a2⟩ := hA
 obtain ⟨l1,l2⟩ := gL
 obtain ⟨y1,y2⟩ := gY
 have e : phi m v N C = prodTo (fun i => ((v.start.getD i fr0).rat / (m.start.getD i fr0).rat) ^ whN N (C.start.getD i 0)) m.start.length * prodTo (fun i => prodTo (fun j => ((if j < m.start.length then ((v.move.getD i []).getD j fr0).rat else (v.fin.getD i fr0).rat) / (if j < m.start.length then ((m.move.getD i []).getD j fr0).rat else (m.fin.getD i fr0).rat)) ^ whN N (if j < m.start.length then (C.move.getD i []).getD j 0 else C.fin.getD i 0)) (m.start.length + 1)) m.start.length * prodTo (fun i => prodTo (fun x => (((v.say.getD i []).getD x fr0).rat / ((m.say.getD i []).getD x fr0).rat) ^ whN N ((C.say.getD i []).getD x 0)) (symb m)) m.start.length := by
  unfold phi; rw [<- eL]; grind
 rw [e]
 generalize prodTo (fun i => ((v.start.getD i fr0).rat / (m.start.getD i fr0).rat) ^ whN N (C.start.getD i 0)) m.start.length = A at *
 generalize prodTo (fun i => prodTo (fun x => (((v.say.getD i []).getD x fr0).rat / ((m.say.getD i []).getD x fr0).rat) ^ whN N ((C.say.getD i []).getD x 0)) (symb m)) m.start.length = Y at *
 generalize prodTo (fun i => prodTo (fun j => ((if j < m.start.length then ((v.move.getD i []).getD j fr0).rat else (v.fin.getD i fr0).rat) / (if j < m.start.length then ((m.move.getD i []).getD j fr0).rat else (m.fin.getD i fr0).rat)) ^ whN N (if j < m.start.length then (C.move.getD i []).getD j 0 else C.fin.getD i 0)) (m.start.length + 1)) m.start.length = L at *
 have mul1 : ∀ {a b : Rat},1 <= a -> 1 <= b -> 1 <= a * b /\ a <= a * b /\ b <= a * b := fun {a b} ha hb => by
  have h1 := Rat.mul_le_mul_of_nonneg_right ha (show 0 <= b by grind)
  have h2 := Rat.mul_le_mul_of_nonneg_left hb (show 0 <= a by grind)
  rw [Rat.one_mul] at h1
  rw [Rat.mul_one] at h2
  exact ⟨Rat.le_trans hb h1,h2,h1⟩
 have b1 := mul1 a1 l1
 have b2 := mul1 b1.1 y1
 refine ⟨b2.1,fun hle i hi => ?_⟩
 have hAL := Rat.le_trans b2.2.1 hle
 have cA := a2 (Rat.le_trans b1.2.1 hAL)
 have cL := (hL i hi).2 (Rat.le_trans (l2 i hi) (Rat.le_trans b1.2.2 hAL))
 have cY := (hY i hi).2 (Rat.le_trans (y2 i hi) (Rat.le_trans b2.2.2 hle))
 refine ⟨cA i hi, ?_,fun j hj => ?_,fun x hx => cY x hx⟩
 · have := cL m.start.length (by omega)
   rw [if_neg (by omega),if_neg (by omega)] at this; exact this
 · have := cL j (by omega)
   rw [if_pos hj,if_pos hj] at this; exact this
theorem pt_add {f x y z : Nat -> Rat} {n N : Nat} (h : ∀ i,i < n -> z i = x i + y i) (wx : ∀ i,i < n -> Wh N (x i) /\ 0 <= x i) (wy : ∀ i,i < n -> Wh N (y i) /\ 0 <= y i) : prodTo (fun i => f i ^ whN N (z i)) n = prodTo (fun i => f i ^ whN N (x i)) n * prodTo (fun i => f i ^ whN N (y i)) n := by
 rw [<- prodTo_mul]
 refine prodTo_congr _ fun i hi => ?_
 rw [h i hi,whN_add (wx i hi).1 (wy i hi).1 (wx i hi).2 (wy i hi).2,pw_add]
theorem phi_add {m v : Md} {C D : Go.Ear.Ct} {N : Nat} (c : CtQ m C N) (d : CtQ m D N) {u u' : Int} {l : Rat} : phi m v N ⟨addR C.start D.start,addM C.move D.move,addR C.fin D.fin,addM C.say D.say,u,u',l⟩ = phi m v N C * phi m v N D := by
 unfold phi
 dsimp only
 rw [pt_add (x := fun i => C.start.getD i 0) (y := fun i => D.start.getD i 0) (fun i hi => (addR_at (by rw [c.l1]; exact hi)).symm) (fun i _ => ⟨(c.w i 0).1,(c.nn i 0).1⟩) (fun i _ => ⟨(d.w i 0).1,(d.nn i 0).1⟩),
  pt_add (x := fun i => C.fin.getD i 0) (y := fun i => D.fin.getD i 0) (fun i hi => (addR_at (by rw [c.l4]; exact hi)).symm) (fun i _ => ⟨(c.w i 0).2.1,(c.nn i 0).2.1⟩) (fun i _ => ⟨(d.w i 0).2.1,(d.nn i 0).2.1⟩)]
 have e1 : prodTo (fun i => prodTo (fun j => (((v.move.getD i []).getD j fr0).rat / ((m.move.getD i []).getD j fr0).rat) ^ whN N (((addM C.move D.move).getD i []).getD j 0)) m.start.length) m.start.length = prodTo (fun i => prodTo (fun j => (((v.move.getD i []).getD j fr0).rat / ((m.move.getD i []).getD j fr0).rat) ^ whN N ((C.move.getD i []).getD j 0)) m.start.length) m.start.length * prodTo (fun i => prodTo (fun j => (((v.move.getD i []).getD j fr0).rat / ((m.move.getD i []).getD j fr0).rat) ^ whN N ((D.move.getD i []).getD j 0)) m.start.length) m.start.length := by
  rw [<- prodTo_mul]
  refine prodTo_congr _ fun i hi => ?_
  exact pt_add (x := fun j => (C.move.getD i []).getD j 0) (y := fun j => (D.move.getD i []).getD j 0) (fun j hj => by rw [<- addM_at (by rw [c.l5]; exact hi),addR_at (by rw [c.l2 i hi]; exact hj)]) (fun j _ => ⟨(c.w i j).2.2.1,(c.nn i j).2.2.1⟩) (fun j _ => ⟨(d.w i j).2.2.1,(d.nn i j).2.2.1⟩)
 have e2 : prodTo (fun i => prodTo (fun j => (((v.say.getD i []).getD j fr0).rat / ((m.say.getD i []).getD j fr0).rat) ^ whN N (((addM C.say D.say).getD i []).getD j 0)) (symb m)) m.start.length = prodTo (fun i => prodTo (fun j => (((v.say.getD i []).getD j fr0).rat / ((m.say.getD i []).getD j fr0).rat) ^ whN N ((C.say.getD i []).getD j 0)) (symb m)) m.start.length * prodTo (fun i => prodTo (fun j => (((v.say.getD i []).getD j fr0).rat / ((m.say.getD i []).getD j fr0).rat) ^ whN N ((D.say.getD i []).getD j 0)) (symb m)) m.start.length := by
  rw [<- prodTo_mul]
  refine prodTo_congr _ fun i hi => ?_
  exact pt_add (x := fun j => (C.say.getD i []).getD j 0) (y := fun j => (D.say.getD i []).getD j 0) (fun j hj => by rw [<- addM_at (by rw [c.l6]; exact hi),addR_at (by rw [c.l3 i hi]; exact hj)]) (fun j _ => ⟨(c.w i j).2.2.2,(c.nn i j).2.2.2⟩) (fun j _ => ⟨(d.w i j).2.2.2,(d.nn i j).2.2.2⟩)
 rw [e1,e2]; grind
theorem phi_zero {m v : Md} {N : Nat} {s k : Nat} : phi m v N (ctZ s k) = 1 := by
 unfold phi ctZ
 dsimp only
 have h1 : ∀ f : Nat -> Rat,prodTo (fun i => f i ^ whN N ((List.replicate s (0 : Rat)).getD i 0)) m.start.length = 1 := fun f => prodTo_one _ fun i _ => by rw [rep_z,whN_zero,Rat.pow_zero]
 have h2 : ∀ (f : Nat -> Nat -> Rat) (k n : Nat),prodTo (fun i => prodTo (fun j => f i j ^ whN N (((List.replicate s (List.replicate k (0 : Rat))).getD i []).getD j 0)) n) m.start.length = 1 := fun f k n => prodTo_one _ fun i _ => prodTo_one _ fun j _ => by rw [rep_z2,whN_zero,Rat.pow_zero]
 rw [h1,h1,h2,h2]; decide +kernel
def lkP (m : Md) (data : List (List Int)) : Nat -> Rat
 | 0 => 1
 | k + 1 => if lk (Go.Ear.trK m data k) = 0 then lkP m data k else lkP m data k * lk (Go.Ear.trK m data k)
def lkQ (m v : Md) (data : List (List Int)) : Nat -> Rat
 | 0 => 1
 | k + 1 => if lk (Go.Ear.trK m data k) = 0 then lkQ m v data k else lkQ m v data k * lk (Go.Ear.trK v data k)
theorem lP_dvd {m : Md} {data : List (List Int)} {a b c : Nat} : ∀ {k n : Nat},k <= n -> lP m data a b c k ∣ lP m data a b c n
 | k,0,h => by rw [show k = 0 by omega]; exact Nat.dvd_refl _
 | k,n + 1,h => by
   by_cases e : k = n + 1
   · rw [e]; exact Nat.dvd_refl _
   · have ih := lP_dvd (m := m) (data := data) (a := a) (b := b) (c := c) (k := k) (n := n) (by omega)
     rw [lP]
     split
     · exact ih
     · exact Nat.dvd_trans ih (Nat.dvd_mul_right _ _)
theorem lN_dvd {m : Md} {data : List (List Int)} {a b c k n : Nat} (hk : k < n) (h : lk (Go.Ear.trK m data k) ≠ 0) : lN (Go.Ear.trK m data k) a b c ∣ lP m data a b c n := by
 have h1 := lP_dvd (m := m) (data := data) (a := a) (b := b) (c := c) (k := k + 1) (n := n) (by omega)
 rw [lP,if_neg h] at h1
 exact Nat.dvd_trans (Nat.dvd_mul_left _ _) h1
section
variable {m v : Md} {data : List (List Int)} {a b c : Nat} (w : WhM m a b c) (pos : 0 < a /\ 0 < b /\ 0 < c) (nn : Nn m) (nv : Nn v) (hs : v.start.length = m.start.length) (tok : ∀ k,k < data.length -> TOk (Go.Ear.trK m data k))
include w pos nn nv hs tok
theorem two_of {k : Nat} (hk : k < data.length) (h : lk (Go.Ear.trK m data k) ≠ 0) : Two (Go.Ear.trK m data k) (Go.Ear.trK v data k) (lP m data a b c data.length) := by
 have hd := lN_dvd (a := a) (b := b) (c := c) hk h
 have hp := lP_pos (data := data) w nn pos.1 pos.2.1 pos.2.2 data.length
 exact ⟨rfl,hs,nn,nv,h,tok k hk,hp,fun i k' hk' => (pY_wh (t := Go.Ear.trK m data k) w nn h hk').of_dvd hd,fun i k' j hk' => (pM_wh (t := Go.Ear.trK m data k) w nn h hk').of_dvd hd,fun i x k' hk' => (sayRow_wh (t := Go.Ear.trK m data k) w nn h i x k' hk').of_dvd hd,fun i j k' hk' => (mvRow_wh (t := Go.Ear.trK m data k) w nn h i j k' hk').of_dvd hd⟩
omit nv hs pos in
theorem ctq_cnt {k : Nat} (hk : k < data.length) (h : lk (Go.Ear.trK m data k) ≠ 0) : CtQ m (cntT (Go.Ear.trK m data k)) (lP m data a b c data.length) := by
 have hd := lN_dvd (a := a) (b := b) (c := c) hk h
 refine ⟨cntS_len _,cntE_len _,cntM_len _,cntY_len _,fun i hi => cntM_row (t := Go.Ear.trK m data k) hi,fun i hi => cntY_row (t := Go.Ear.trK m data k) hi,fun i j => ?_,fun i j => cnt_nn (t := Go.Ear.trK m data k) nn i j⟩
 have := cnt_wh (t := Go.Ear.trK m data k) w nn h i j
 exact ⟨this.1.of_dvd hd,this.2.1.of_dvd hd,this.2.2.1.of_dvd hd,this.2.2.2.of_dvd hd⟩
omit nv hs pos tok in
theorem ctq_all {k : Nat} (hk : k <= data.length) : CtQ m (allT m data k) (lP m data a b c data.length) := by
 have hd := lP_dvd (m := m) (data := data) (a := a) (b := b) (c := c) hk
 have hl := allT_len m data k
 have hr := allT_row' m data k
 refine ⟨hl.1,hl.2.1,hl.2.2.1,hl.2.2.2.1,fun i hi => (hr i hi).1,fun i hi => (hr i hi).2,fun i j => ?_,fun i j => all_nn nn k i j⟩
 have := all_wh (data := data) w nn k i j
 exact ⟨this.1.of_dvd hd,this.2.1.of_dvd hd,this.2.2.1.of_dvd hd,this.2.2.2.of_dvd hd⟩
omit w pos nv hs tok in
theorem lkP_pos : ∀ k,0 < lkP m data k
 | 0 => by show (0 : Rat) < 1; decide +kernel
 | k + 1 => by
   rw [lkP]
   split
   · exact lkP_pos k
   · rename_i h; exact Rat.mul_pos (lkP_pos k) (lk_gt (t := Go.Ear.trK m data k) nn h)
theorem em_all : ∀ k,k <= data.length -> phi m v (lP m data a b c data.length) (allT m data k) * lkP m data k ^ lP m data a b c data.length <= lkQ m v data k ^ lP m data a b c data.length
 | 0,_ => by
   show phi m v _ (ctZ _ _) * 1 ^ _ <= 1 ^ _
   rw [phi_zero,on_pow,Rat.mul_one]; exact Rat.le_refl
 | k + 1,hk => by
   have ih := em_all k (by omega)
   rw [lkP,lkQ]
   by_cases h : lk (Go.Ear.trK m data k) = 0
   · rw [if_pos h,if_pos h,allT_t h]; exact ih
   · rw [if_neg h,if_neg h,allT_f h,phi_add (ctq_all w nn (by omega)) (ctq_cnt w nn tok (by omega) h)]
     have h1 := em_one (two_of w pos nn nv hs tok (show k < data.length by omega) h)
     have hl := lk_gt (t := Go.Ear.trK m data k) nn h
     have hu := lk_nn (t := Go.Ear.trK v data k) nv
     have h2 := Rat.mul_le_mul_of_nonneg_right h1 (Rat.le_of_lt (Rat.pow_pos (n := lP m data a b c data.length) hl))
     rw [<- pw_mul,show lk (Go.Ear.trK v data k) / lk (Go.Ear.trK m data k) * lk (Go.Ear.trK m data k) = lk (Go.Ear.trK v data k) by rw [Rat.div_def,Rat.mul_assoc,Rat.inv_mul_cancel _ h,Rat.mul_one]] at h2
     rw [pw_mul,pw_mul]
     have hp0 : 0 <= phi m v (lP m data a b c data.length) (cntT (Go.Ear.trK m data k)) := by
      unfold phi
      refine Rat.mul_nonneg (Rat.mul_nonneg (Rat.mul_nonneg ?_ ?_) ?_) ?_
      · exact prodTo_nn _ fun i _ => Rat.pow_nonneg (div_nn (nv.st i) (nn.st i))
      · exact prodTo_nn _ fun i _ => prodTo_nn _ fun j _ => Rat.pow_nonneg (div_nn (nv.mv i j) (nn.mv i j))
      · exact prodTo_nn _ fun i _ => Rat.pow_nonneg (div_nn (nv.fi i) (nn.fi i))
      · exact prodTo_nn _ fun i _ => prodTo_nn _ fun j _ => Rat.pow_nonneg (div_nn (nv.sy i j) (nn.sy i j))
     have hq0 : 0 <= phi m v (lP m data a b c data.length) (allT m data k) := by
      unfold phi
      refine Rat.mul_nonneg (Rat.mul_nonneg (Rat.mul_nonneg ?_ ?_) ?_) ?_
      · exact prodTo_nn _ fun i _ => Rat.pow_nonneg (div_nn (nv.st i) (nn.st i))
      · exact prodTo_nn _ fun i _ => prodTo_nn _ fun j _ => Rat.pow_nonneg (div_nn (nv.mv i j) (nn.mv i j))
      · exact prodTo_nn _ fun i _ => Rat.pow_nonneg (div_nn (nv.fi i) (nn.fi i))
      · exact prodTo_nn _ fun i _ => prodTo_nn _ fun j _ => Rat.pow_nonneg (div_nn (nv.sy i j) (nn.sy i j))
     have h3 := mul_le_mul2 (Rat.mul_nonneg hq0 (Rat.le_of_lt (Rat.pow_pos (n := lP m data a b c data.length) (lkP_pos (data := data) nn k)))) (Rat.mul_nonneg hp0 (Rat.le_of_lt (Rat.pow_pos (n := lP m data a b c data.length) hl))) ih h2
     refine Rat.le_trans ?_ h3
     rw [show ∀ a b c d : Rat,a * b * (c * d) = a * c * (b * d) from fun a b c d => by grind]
     exact Rat.le_refl
end
theorem root_le {a b : Rat} (ha : 0 <= a) (hb : 0 <= b) {n : Nat} (hn : 0 < n) (h : a ^ n <= b ^ n) : a <= b := by
 obtain ⟨k,rfl⟩ : ∃ k,n = k + 1 := ⟨n - 1,by omega⟩
 refine Rat.not_lt.1 fun hlt => ?_
 by_cases e : b = 0
 · rw [e,zr_pow (by omega)] at h
   have := Rat.pow_pos (n := k + 1) (show 0 < a by grind)
   grind
 · have hbp : 0 < b := by grind
   have h1 := Rat.pow_pos (n := k) hbp
   have h2 := Rat.mul_lt_mul_of_pos_left hlt h1
   have h3 := Rat.mul_le_mul_of_nonneg_right (pow_le_pow hb (Rat.le_of_lt hlt) k) ha
   rw [Rat.pow_succ,Rat.pow_succ] at h
   grind
structure Zs (m v : Md) : Prop where
 s : v.start.length = m.start.length
 st : ∀ i,i < m.start.length -> (m.start.getD i fr0).rat = 0 -> (v.start.getD i fr0).rat = 0
 mv : ∀ i j,i < m.start.length -> j < m.start.length -> ((m.move.getD i []).getD j fr0).rat = 0 -> ((v.move.getD i []).getD j fr0).rat = 0
 fi : ∀ i,i < m.start.length -> (m.fin.getD i fr0).rat = 0 -> (v.fin.getD i fr0).rat = 0
 sy : ∀ i x,i < m.start.length -> ((m.say.getD i []).getD x fr0).rat = 0 -> ((v.say.getD i []).getD x fr0).rat = 0
theorem zs_of {m v : Md} {C : Go.Ear.Ct} (x : Nxt m v C) (z : CtZ m C) : Zs m v := by
 have q0 : ∀ s : Rat,(0 : Rat) / s = 0 := fun s => by rw [Rat.div_def,Rat.zero_mul]
 refine ⟨x.s,fun i hi h => ?_,fun i j hi hj h => ?_,fun i hi h => ?_,fun i y hi h => ?_⟩
 · rw [x.st i hi,(z i hi).1 h,h,q0]; split <;> rfl
 · rw [x.mv i j hi hj,(z i hi).2.2.1 j h,h,q0]; split <;> rfl
 · rw [x.fi i hi,(z i hi).2.1 h,h,q0]; split <;> rfl
 · rw [x.sy i y hi,(z i hi).2.2.2 y h,h,q0]; split <;> rfl
theorem fwd_zs {m v : Md} {o : List Int} (z : Zs m v) (nn : Nn m) : ∀ k i,i < m.start.length -> (fwd ⟨m,o⟩ k).getD i 0 = 0 -> (fwd ⟨v,o⟩ k).getD i 0 = 0
 | 0,i,hi,h => by
   rw [<- fwd_zero (t := ⟨m,o⟩) hi] at h
   rw [<- fwd_zero (t := ⟨v,o⟩) (by show i < v.start.length; rw [z.s]; exact hi)]
   rcases or_z h with h | h
   · rw [show (Tr.mk v o).m.start = v.start from rfl,z.st i hi h,Rat.zero_mul]
   · have : sayT ⟨v,o⟩ i 0 = 0 := z.sy i _ hi h
     rw [this,Rat.mul_zero]
 | k + 1,i,hi,h => by
   rw [<- fwd_succ (t := ⟨m,o⟩) hi] at h
   rw [<- fwd_succ (t := ⟨v,o⟩) (by show i < v.start.length; rw [z.s]; exact hi)]
   rcases or_z h with h | h
   · have : sayT ⟨v,o⟩ i (k + 1) = 0 := z.sy i _ hi h
     rw [this,Rat.zero_mul]
   · have h1 := sumTo_zero_all (fun j _ => Rat.mul_nonneg (fwd_nn (t := ⟨m,o⟩) nn k j) (nn.mv j i)) h
     have h2 : sumTo (fun j => (fwd ⟨v,o⟩ k).getD j 0 * moveT ⟨v,o⟩ j i) (Tr.mk v o).m.start.length = 0 := sumTo_none fun j hj => by
      have hj' : j < m.start.length := by
       have : j < v.start.length := hj
       rw [z.s] at this; exact this
      rcases or_z (h1 j hj') with e | e
      · rw [fwd_zs z nn k j hj' e,Rat.zero_mul]
      · have : moveT ⟨v,o⟩ j i = 0 := z.mv j i hj' hi e
        rw [this,Rat.mul_zero]
     rw [h2,Rat.mul_zero]
theorem lk_zs {m v : Md} {o : List Int} (z : Zs m v) (nn : Nn m) (h : lk ⟨m,o⟩ = 0) : lk ⟨v,o⟩ = 0 := by
 by_cases h0 : o.length = 0
 · exact lk_zero (t := ⟨v,o⟩) h0
 · rw [lk_fwd (t := ⟨m,o⟩) (by show 0 < o.length; omega)] at h
   rw [lk_fwd (t := ⟨v,o⟩) (by show 0 < o.length; omega)]
   have h1 := sumTo_zero_all (fun j _ => Rat.mul_nonneg (fwd_nn (t := ⟨m,o⟩) nn _ j) (nn.fi j)) h
   refine sumTo_none fun j hj => ?_
   have hj' : j < m.start.length := by
    have : j < v.start.length := hj
    rw [z.s] at this; exact this
   rcases or_z (h1 j hj') with e | e
   · rw [show (Tr.mk v o).o.length - 1 = (Tr.mk m o).o.length - 1 from rfl,fwd_zs z nn _ j hj' e,Rat.zero_mul]
   · rw [show (Tr.mk v o).m.fin = v.fin from rfl,z.fi j hj' e,Rat.mul_zero]
theorem lkQ_nz {m v : Md} {data : List (List Int)} : ∀ {n : Nat},lkQ m v data n ≠ 0 -> ∀ k,k < n -> lk (Go.Ear.trK m data k) ≠ 0 -> lk (Go.Ear.trK v data k) ≠ 0
 | n + 1,h,k,hk,hl => by
   rw [lkQ] at h
   by_cases e : k = n
   · subst e
     rw [if_neg hl] at h
     exact fun e => h (by rw [e,Rat.mul_zero])
   · refine lkQ_nz (n := n) ?_ k (by omega) hl
     split at h
     · exact h
     · exact fun e => h (by rw [e,Rat.zero_mul])
theorem lkQ_P {m v : Md} {data : List (List Int)} : ∀ {n : Nat},(∀ k,k < n -> (lk (Go.Ear.trK m data k) = 0 ↔ lk (Go.Ear.trK v data k) = 0)) -> lkQ m v data n = lkP v data n
 | 0,_ => rfl
 | n + 1,h => by
   have ih := lkQ_P (n := n) fun k hk => h k (by omega)
   rw [lkQ,lkP,ih]
   by_cases e : lk (Go.Ear.trK m data n) = 0
   · rw [if_pos e,if_pos ((h n (by omega)).1 e)]
   · rw [if_neg e,if_neg fun e2 => e ((h n (by omega)).2 e2)]
theorem improves {m v : Md} {data : List (List Int)} {a b c : Nat} (w : WhM m a b c) (pos : 0 < a /\ 0 < b /\ 0 < c) (hv : validM m = true) (nv : Nn v) (tok : ∀ k,k < data.length -> TOk (Go.Ear.trK m data k)) (x : Nxt m v (cntD m data)) : Zs m v /\ (∀ k,k < data.length -> (lk (Go.Ear.trK m data k) = 0 ↔ lk (Go.Ear.trK v data k) = 0)) /\ lkP m data data.length <= lkP v data data.length /\ (lkP v data data.length <= lkP m data data.length -> SameW m v) := by
 have nn := Nn.of hv
 have z := all_z m data data.length
 have zs := zs_of x z
 have hp := lP_pos (data := data) w nn pos.1 pos.2.1 pos.2.2 data.length
 have h1 := em_all w pos nn nv x.s tok data.length (Nat.le_refl _)
 obtain ⟨g1,g2⟩ := phi_ge hp hv x (ctq_all w nn (Nat.le_refl _)) z
 have hP := lkP_pos (data := data) nn data.length
 have hPp := Rat.pow_pos (n := lP m data a b c data.length) hP
 have h2 : lkP m data data.length ^ lP m data a b c data.length <= lkQ m v data data.length ^ lP m data a b c data.length := by
  have := Rat.mul_le_mul_of_nonneg_right g1 (Rat.le_of_lt hPp)
  rw [Rat.one_mul] at this
  exact Rat.le_trans this h1
 have hQ : lkQ m v data data.length ≠ 0 := fun e => by
  rw [e,zr_pow (by omega)] at h2
  grind
 have iff : ∀ k,k < data.length -> (lk (Go.Ear.trK m data k) = 0 ↔ lk (Go.Ear.trK v data k) = 0) := fun k hk => ⟨fun e => lk_zs zs nn e,fun e => by
  by_cases e2 : lk (Go.Ear.trK m data k) = 0
  · exact e2
  · exact absurd e (lkQ_nz hQ k hk e2)⟩
 have hQP := lkQ_P iff
 rw [hQP] at h1 h2
 refine ⟨zs,iff,root_le (Rat.le_of_lt hP) (Rat.le_of_lt (lkP_pos (data := data) nv data.length)) hp h2,fun hle => g2 ?_⟩
 have h3 := pow_le_pow (Rat.le_of_lt (lkP_pos (data := data) nv data.length)) hle (lP m data a b c data.length)
 have h4 := Rat.le_trans h1 h3
 refine Rat.le_of_mul_le_mul_right (c := lkP m data data.length ^ lP m data a b c data.length) ?_ hPp
 rw [Rat.one_mul]; exact h4
end Go.E3
set_option maxRecDepth 20000
set_option maxHeartbeats 8000000
set_option synthInstance.maxSize 1000
namespace Go.E3
open Go Go.Ear Go.Proofs
def usK (m : Md) (data : List (List Int)) : Nat -> Nat
 | 0 => 0
 | k + 1 => if lk (Go.Ear.trK m data k) = 0 then usK m data k else usK m data k + 1
section
variable {m : Md} {data : List (List Int)} {S T : SV}
end
end Go.E3
