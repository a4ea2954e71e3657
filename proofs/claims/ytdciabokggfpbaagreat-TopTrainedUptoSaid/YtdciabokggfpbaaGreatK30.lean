/- K30: a part of the proof about training through the decoder: how the program's functions run, and what they compute, for every input. -/
import Derived.Test.YtdciabokggfpbaaGreatK29
set_option linter.all false
namespace Go.Ear
theorem sumTo_split (q : Nat -> Rat) (a : Nat) : ∀ b,sumTo q (a + b) = sumTo q a + sumTo (fun j => q (a + j)) b
 | 0 => (Rat.add_zero _).symm
 | b + 1 => by rw [<- Nat.add_assoc,sumTo_succ,sumTo_succ,sumTo_split q a b]; exact Rat.add_assoc ..
def stQ (m : Md) (i : Nat) : Rat := (m.start.getD i fr0).rat
def mvE (m : Md) (i j : Nat) : Rat := ((m.move.getD i []).getD j fr0).rat
def fiQ (m : Md) (i : Nat) : Rat := (m.fin.getD i fr0).rat
def syQ (m : Md) (i k : Nat) : Rat := ((m.say.getD i []).getD k fr0).rat
section
variable {j a b : Md} {o : List Int}
end
end Go.Ear
namespace Go.Ear
section
variable {α : Type}
end
theorem sumR_append (a b : List Rat) : sumR (a ++ b) = sumR a + sumR b := by
 unfold sumR
 rw [List.length_append,sumTo_split]
 congr 1
 · exact sumTo_congr _ fun i hi => by rw [List.getD_eq_getElem?_getD,List.getElem?_append_left hi, <- List.getD_eq_getElem?_getD]
 · exact sumTo_congr _ fun i hi => by rw [List.getD_eq_getElem?_getD,List.getElem?_append_right (by omega),Nat.add_sub_cancel_left, <- List.getD_eq_getElem?_getD]
section
variable {ms : List Md}
end
theorem dist_K {l : List Rat} : distF (l.map frK) = true ↔ (∀ i,0 <= l.getD i 0) /\ sumR l = 1 := by
 rw [dist_iff,sumF_K]
 constructor
 · rintro ⟨a,b⟩; exact ⟨fun i => by have := a i; rwa [getD_K'] at this,b⟩
 · rintro ⟨a,b⟩; exact ⟨fun i => by rw [getD_K']; exact a i,b⟩
theorem map_getDR (l : List (List Rat)) (i : Nat) : (l.map (·.map frK)).getD i [] = (l.getD i []).map frK := by
 rw [List.getD_eq_getElem?_getD,List.getElem?_map,List.getD_eq_getElem?_getD]
 cases l[i]? <;> rfl
theorem map_getDK {l : List Rat} {i : Nat} (h : i < l.length) : (l.map frK).getD i fr0 = frK (l.getD i 0) := by
 rw [List.getD_eq_getElem?_getD,List.getElem?_map,List.getD_eq_getElem?_getD,List.getElem?_eq_getElem h]; rfl
structure VK (n k : Nat) (S : List Rat) (M : List (List Rat)) (E : List Rat) (Y : List (List Rat)) : Prop where
 n1 : 1 <= n
 k1 : 1 <= k
 l : S.length = n /\ M.length = n /\ E.length = n /\ Y.length = n
 r : ∀ i,i < n -> (M.getD i []).length = n /\ (Y.getD i []).length = k
 s : (∀ i,i < n -> 0 <= S.getD i 0) /\ sumR S = 1
 m : ∀ i,i < n -> (∀ j,j < n -> 0 <= (M.getD i []).getD j 0) /\ 0 <= E.getD i 0 /\ sumR (M.getD i []) + E.getD i 0 = 1
 y : ∀ i,i < n -> (∀ j,0 <= (Y.getD i []).getD j 0) /\ sumR (Y.getD i []) = 1
theorem nn_pad {l : List Rat} (h : ∀ i,i < l.length -> 0 <= l.getD i 0) (i : Nat) : 0 <= l.getD i 0 := by
 by_cases hi : i < l.length
 · exact h i hi
 · rw [List.getD_eq_getElem?_getD,List.getElem?_eq_none (by omega)]; exact Rat.le_refl
theorem VK.valid {n k : Nat} {S : List Rat} {M : List (List Rat)} {E : List Rat} {Y : List (List Rat)} (v : VK n k S M E Y) : validM (mdK S M E Y) = true := by
 obtain ⟨l1,l2,l3,l4⟩ := v.l
 have n1 := v.n1
 have hsy : symb (mdK S M E Y) = k := by
  show ((Y.map (·.map frK)).getD 0 []).length = k
  rw [map_getDR,List.length_map]; exact (v.r 0 (by omega)).2
 rw [validM_iff]
 refine ⟨?_, ?_, ?_⟩
 · show 1 <= (S.map frK).length /\ (E.map frK).length = (S.map frK).length /\ (M.map (·.map frK)).length = (S.map frK).length /\ (Y.map (·.map frK)).length = (S.map frK).length
   simp only [List.length_map]; omega
 · show distF (S.map frK) = true
   exact dist_K.2 ⟨nn_pad fun i hi => v.s.1 i (by omega),v.s.2⟩
 · rw [List.all_eq_true]
   intro i hi
   have hi : i < n := by have := List.mem_range.1 hi; rw [show (mdK S M E Y).start.length = S.length from List.length_map _,l1] at this; exact this
   obtain ⟨r1,r2⟩ := v.r i hi
   obtain ⟨m1,m2,m3⟩ := v.m i hi
   have hM : (mdK S M E Y).move.getD i [] = (M.getD i []).map frK := map_getDR M i
   have hY : (mdK S M E Y).say.getD i [] = (Y.getD i []).map frK := map_getDR Y i
   have hE : (mdK S M E Y).fin.getD i fr0 = frK (E.getD i 0) := map_getDK (by omega)
   have hL : leaveM (mdK S M E Y) i = (M.getD i [] ++ [E.getD i 0]).map frK := by unfold leaveM; rw [hM,hE,List.map_append]; rfl
   unfold rowM
   simp only [Bool.and_eq_true,decide_eq_true_eq]
   rw [hM,hY,hsy,hL,List.length_map,List.length_map]
   refine ⟨⟨⟨⟨?_,r2⟩,v.k1⟩, ?_⟩, ?_⟩
   · show _ = (S.map frK).length; rw [List.length_map,l1]; exact r1
   · refine dist_K.2 ⟨nn_pad fun j hj => ?_, ?_⟩
     · rw [List.length_append,r1] at hj
       rw [List.getD_eq_getElem?_getD]
       by_cases e : j < n
       · rw [List.getElem?_append_left (by omega), <- List.getD_eq_getElem?_getD]; exact m1 j e
       · rw [List.getElem?_append_right (by omega),r1,show j - n = 0 by have : j < n + 1 := hj; omega]; exact m2
     · rw [sumR_append,show sumR [E.getD i 0] = 0 + E.getD i 0 from rfl,Rat.zero_add]; exact m3
   · exact dist_K.2 (v.y i hi)
end Go.Ear
namespace Go.Ear
structure SideOk (ms : List Md) (k : Nat) : Prop where
 l : 1 <= ms.length
 v : ∀ x,x < ms.length -> validM (ms.getD x md0) = true
 y : ∀ x,x < ms.length -> symb (ms.getD x md0) = k
section
variable {ms : List Md} {k : Nat} (so : SideOk ms k)
include so
end
section
variable {a b : Md} {k : Nat}
theorem stK {S M E Y i} : stQ (mdK S M E Y) i = S.getD i 0 := getD_K' S i
theorem fiK {S M E Y i} : fiQ (mdK S M E Y) i = E.getD i 0 := getD_K' E i
theorem mvK {S M E Y i j} : mvE (mdK S M E Y) i j = (M.getD i []).getD j 0 := by
 show (((M.map (·.map frK)).getD i []).getD j fr0).rat = _
 rw [map_getDR,getD_K']
theorem syK {S M E Y i j} : syQ (mdK S M E Y) i j = (Y.getD i []).getD j 0 := by
 show (((Y.map (·.map frK)).getD i []).getD j fr0).rat = _
 rw [map_getDR,getD_K']
end
end Go.Ear
namespace Go.Ear
theorem bq0 {W : Nat} (h : 1 <= W) : bq (0 : Rat) <= W := by rw [bq_zero]; exact h
section
variable {ms : List Md} (h : ∀ x,MdW 2 (ms.getD x md0))
include h
end
theorem mdK_W {S E : List Rat} {M Y : List (List Rat)} {W : Nat} (h1 : ∀ i,bq (S.getD i 0) <= W) (h2 : ∀ i j,bq ((M.getD i []).getD j 0) <= W) (h3 : ∀ i,bq (E.getD i 0) <= W) (h4 : ∀ i j,bq ((Y.getD i []).getD j 0) <= W) : MdW W (mdK S M E Y) :=
 ⟨fun i => by have := h1 i; rw [<- stK (M := M) (E := E) (Y := Y)] at this; exact this,fun i j => by have := h2 i j; rw [<- mvK (S := S) (E := E) (Y := Y)] at this; exact this,fun i => by have := h3 i; rw [<- fiK (S := S) (M := M) (Y := Y)] at this; exact this,fun i j => by have := h4 i j; rw [<- syK (S := S) (M := M) (E := E)] at this; exact this⟩
theorem wts_le2 {B : Nat} : ∀ {l : List Rat},(∀ q ∈ l,bq q <= B) -> wts (l.map frK) <= (B + 1) * l.length
 | [],_ => Nat.le_refl _
 | q :: l,h => by
   have h1 := h q (List.mem_cons_self ..)
   have h2 := wts_le2 (B := B) (l := l) fun g hg => h g (List.mem_cons_of_mem _ hg)
   rw [List.map_cons,wts_cons,List.length_cons,Nat.mul_succ,bf_frK]; omega
theorem wts_K2 {l : List Rat} {B : Nat} (h : ∀ i,bq (l.getD i 0) <= B) : wts (l.map frK) <= (B + 1) * l.length := wts_le2 fun q hq => by
 obtain ⟨i,hi,rfl⟩ := List.getElem_of_mem hq
 have := h i
 rwa [List.getD_eq_getElem?_getD,List.getElem?_eq_getElem hi] at this
theorem wts_R2 {l : List (List Rat)} {B N K : Nat} (h : ∀ i j,bq ((l.getD i []).getD j 0) <= B) (hn : ∀ i,i < l.length -> (l.getD i []).length <= N) (hK : (B + 1) * N <= K) : ∀ r ∈ l.map (·.map frK),wts r <= K := fun r hr => by
 obtain ⟨q,hq,rfl⟩ := List.mem_map.1 hr
 obtain ⟨i,hi,rfl⟩ := List.getElem_of_mem hq
 have h1 := h i
 have h2 := hn i hi
 rw [List.getD_eq_getElem?_getD,List.getElem?_eq_getElem hi] at h1 h2
 exact Nat.le_trans (wts_K2 h1) (Nat.le_trans (Nat.mul_le_mul_left _ h2) hK)
theorem VK.B {n k : Nat} {S : List Rat} {M : List (List Rat)} {E : List Rat} {Y : List (List Rat)} (v : VK n k S M E Y) {W K : Nat} (hn : n <= 64) (hk : k <= 70) (w : MdW W (mdK S M E Y)) (hK : (W + 1) * 70 <= K) : MdB K (mdK S M E Y) := by
 have w1 : ∀ i,bq (S.getD i 0) <= W := fun i => by rw [<- stK (M := M) (E := E) (Y := Y)]; exact w.st i
 have w2 : ∀ i j,bq ((M.getD i []).getD j 0) <= W := fun i j => by rw [<- mvK (S := S) (E := E) (Y := Y)]; exact w.mv i j
 have w3 : ∀ i,bq (E.getD i 0) <= W := fun i => by rw [<- fiK (S := S) (M := M) (Y := Y)]; exact w.fi i
 have w4 : ∀ i j,bq ((Y.getD i []).getD j 0) <= W := fun i j => by rw [<- syK (S := S) (M := M) (E := E)]; exact w.sy i j
 have hl := v.l
 refine ⟨?_, ?_, ?_, ?_⟩
 · exact Nat.le_trans (wts_K2 w1) (Nat.le_trans (Nat.mul_le_mul_left _ (by omega)) hK)
 · exact wts_R2 w2 (fun i hi => by have := (v.r i (by omega)).1; omega) hK
 · exact Nat.le_trans (wts_K2 w3) (Nat.le_trans (Nat.mul_le_mul_left _ (by omega)) hK)
 · exact wts_R2 w4 (fun i hi => by have := (v.r i (by omega)).2; omega) hK
theorem VK.symb {n k : Nat} {S : List Rat} {M : List (List Rat)} {E : List Rat} {Y : List (List Rat)} (v : VK n k S M E Y) : Go.Ear.symb (mdK S M E Y) = k := by
 show ((Y.map (·.map frK)).getD 0 []).length = k
 rw [map_getDR,List.length_map]; exact (v.r 0 v.n1).2
theorem VK.long {n k : Nat} {S : List Rat} {M : List (List Rat)} {E : List Rat} {Y : List (List Rat)} (v : VK n k S M E Y) (hn : n <= 40) (hk : k <= 64) : longM (mdK S M E Y) = false := by
 have h1 : (mdK S M E Y).start.length = n := by show (S.map frK).length = n; rw [List.length_map]; exact v.l.1
 unfold longM
 rw [v.symb,h1]
 simp only [Bool.or_eq_false_iff,decide_eq_false_iff_not,Bool.and_eq_false_iff]
 exact ⟨by omega,.inr (by omega)⟩
end Go.Ear
set_option maxRecDepth 20000
namespace Go.E3
open Go Go.Ear Go.Proofs
def DsQ (l : List Rat) : Prop := (∀ i,0 <= l.getD i 0) /\ sumR l = 1
theorem dsQ_iff {l : List Rat} : distF (l.map frK) = true ↔ DsQ l := dist_K
theorem dsQ_rats {l : List Fr} (h : distF l = true) : DsQ (ratsL l) := by
 have ⟨h1,h2⟩ := dist_iff.1 h
 have e : ∀ i,(ratsL l).getD i 0 = (l.getD i fr0).rat := fun i => by
  unfold ratsL
  rw [List.getD_eq_getElem?_getD,List.getElem?_map,List.getD_eq_getElem?_getD]
  cases l[i]? with
  | none => show (0 : Rat) = fr0.rat; decide +kernel
  | some x => rfl
 refine ⟨fun i => by rw [e]; exact h1 i, ?_⟩
 rw [<- h2,sumF_sum]
 unfold sumR
 rw [show (ratsL l).length = l.length from List.length_map _]
 exact sumTo_congr _ fun i _ => e i
theorem shrQ_ds {a b : List Fr} (hb : distF b = true) : DsQ (shrQ a b) := by
 unfold shrQ
 split
 · rename_i h
   unfold normE at h
   split at h
   · cases h
   · split at h
     · cases h
     · rename_i h1 h2
       exact dsQ_iff.1 (norm_dist (by simpa using h1) h2)
 · exact dsQ_rats hb
theorem chM_VK {n k : Nat} {s : List Rat} {l y : Nat -> List Rat} (n1 : 1 <= n) (k1 : 1 <= k) (hs : s.length = n /\ DsQ s) (hl : ∀ i,i < n -> (l i).length = n + 1 /\ DsQ (l i)) (hy : ∀ i,i < n -> (y i).length = k /\ DsQ (y i)) : VK n k s ((List.range n).map fun i => (l i).take n) ((List.range n).map fun i => (l i).getD n 0) ((List.range n).map y) := by
 have htk : ∀ i j,j < n -> ((l i).take n).getD j 0 = (l i).getD j 0 := fun i j hj => by
  rw [List.getD_eq_getElem?_getD,List.getElem?_take,if_pos hj,List.getD_eq_getElem?_getD]
 refine ⟨n1,k1,⟨hs.1,by simp,by simp,by simp⟩,fun i hi => ?_,⟨fun i _ => hs.2.1 i,hs.2.2⟩,fun i hi => ?_,fun i hi => ?_⟩
 · rw [range_getD _ _ hi,range_getD _ _ hi]
   exact ⟨by rw [List.length_take,(hl i hi).1]; omega,(hy i hi).1⟩
 · rw [range_getD _ _ hi,range_getD _ _ hi]
   have ⟨h1,h2,h3⟩ := hl i hi
   refine ⟨fun j hj => by rw [htk i j hj]; exact h2 j,h2 n, ?_⟩
   rw [<- h3]
   unfold sumR
   rw [h1,sumTo_succ,List.length_take,h1,Nat.min_eq_left (Nat.le_succ n)]
   congr 1
   exact sumTo_congr _ fun j hj => htk i j hj
 · rw [range_getD _ _ hi]
   exact (hy i hi).2
theorem shrQ_bq {a b : List Fr} (fa : FtS a) (fb : FtS b) (i : Nat) : bq ((shrQ a b).getD i 0) <= 2 * wts a + wts b + 4 := by
 have h0 : bq (0 : Rat) = 1 := bq_zero
 unfold shrQ
 split
 · unfold normF
   split
   · show bq (0 : Rat) <= _; omega
   · rw [List.getD_eq_getElem?_getD,List.getElem?_map]
     cases hi : a[i]? with
     | none => show bq (0 : Rat) <= _; omega
     | some x =>
       show bq (x.rat * (sumF a)⁻¹) <= _
       have hx : a.getD i fr0 = x := by rw [List.getD_eq_getElem?_getD,hi]; rfl
       have h1 := bf_getD a i
       have h2 := fa.bqg i
       rw [hx] at h1 h2
       have h3 := bq_mul x.rat (sumF a)⁻¹
       have h4 := bq_inv' (sumF a)
       have h5 : bq (sumF a) <= 1 + wts a := by rw [<- bq_zero]; exact bq_foldA a 0 fa.bq
       omega
 · unfold ratsL
   rw [List.getD_eq_getElem?_getD,List.getElem?_map]
   cases hi : b[i]? with
   | none => show bq (0 : Rat) <= _; omega
   | some x =>
     show bq x.rat <= _
     have hx : b.getD i fr0 = x := by rw [List.getD_eq_getElem?_getD,hi]; rfl
     have h1 := bf_getD b i
     have h2 := fb.bqg i
     rw [hx] at h1 h2
     omega
theorem chM_W {n W : Nat} {s : List Rat} {l y : Nat -> List Rat} (hW : 1 <= W) (hs : ∀ i,bq (s.getD i 0) <= W) (hl : ∀ i j,i < n -> bq ((l i).getD j 0) <= W) (hy : ∀ i j,i < n -> bq ((y i).getD j 0) <= W) : MdW W (chM n s l y) := by
 have h0 : bq (0 : Rat) = 1 := bq_zero
 refine mdK_W hs (fun i j => ?_) (fun i => ?_) fun i j => ?_
 · by_cases hi : i < n
   · rw [range_getD _ _ hi,List.getD_eq_getElem?_getD,List.getElem?_take]
     split
     · rw [<- List.getD_eq_getElem?_getD]; exact hl i j hi
     · show bq (0 : Rat) <= _; omega
   · have e : ∀ f : Nat -> List Rat,((List.range n).map f).getD i [] = [] := fun f => by rw [List.getD_eq_getElem?_getD,List.getElem?_eq_none (by simp; omega)]; rfl
     rw [e]
     show bq (0 : Rat) <= _; omega
 · by_cases hi : i < n
   · rw [range_getD _ _ hi]; exact hl i n hi
   · rw [List.getD_eq_getElem?_getD,List.getElem?_eq_none (by simp; omega)]
     show bq (0 : Rat) <= _; omega
 · by_cases hi : i < n
   · rw [range_getD _ _ hi]; exact hy i j hi
   · have e : ∀ f : Nat -> List Rat,((List.range n).map f).getD i [] = [] := fun f => by rw [List.getD_eq_getElem?_getD,List.getElem?_eq_none (by simp; omega)]; rfl
     rw [e]
     show bq (0 : Rat) <= _; omega
theorem RwM.of {K : Nat} {m : Md} (hv : validM m = true) (hl : longM m = false) (hb : MdB K m) : RwM K m := by
 have h1 := valid_len hv
 have h40 : m.start.length <= 40 := by
  unfold longM at hl
  simp only [Bool.or_eq_false_iff,decide_eq_false_iff_not] at hl; omega
 refine ⟨⟨by omega,h40⟩,⟨by omega,by omega,by omega⟩,hb.start,hb.fin,fun i hi => ?_,fun i hi => ?_⟩
 · have := valid_row hv hi; exact ⟨this.1,wts_getD hb.move i⟩
 · have := valid_row hv hi; exact ⟨by omega,wts_getD hb.say i⟩
section
variable {m : Md} {c : CtF} {d : Int}
theorem ree_ok {K : Nat} (ft : FtM m) (fc : FtC c) (hv : validM m = true) (hl : longM m = false) (r : RwM K m) (q : RwC K m c) : VK m.start.length (symb m) (shrQ c.start m.start) ((List.range m.start.length).map fun i => (shrQ (lvC c i) (lvM m i)).take m.start.length) ((List.range m.start.length).map fun i => (shrQ (lvC c i) (lvM m i)).getD m.start.length 0) ((List.range m.start.length).map fun i => shrQ (c.say.getD i []) (m.say.getD i [])) /\ MdW (6 * K + 20) (reeM m c) := by
 have hd : distF m.start = true := (validM_iff.1 hv).2.1
 have h1 := r.n.1
 have hk : 1 <= symb m := (valid_row hv (show 0 < m.start.length by omega)).2.2.1
 refine ⟨chM_VK h1 hk ⟨shrQ_len q.l.1 rfl,shrQ_ds hd⟩ (fun i hi => ?_) (fun i hi => ?_),chM_W (by omega) (fun i => ?_) (fun i j hi => ?_) fun i j hi => ?_⟩
 · have hr := valid_row hv hi
   exact ⟨shrQ_len (q.lv hi).1 (r.lv hi).1,shrQ_ds hr.2.2.2.1⟩
 · have hr := valid_row hv hi
   exact ⟨shrQ_len ((q.y i hi).1.trans hr.2.1) hr.2.1,shrQ_ds hr.2.2.2.2⟩
 · have := shrQ_bq (a := c.start) (b := m.start) fc.h.1 ft.h.1 i
   have := q.s; have := r.s; omega
 · have := shrQ_bq (a := lvC c i) (b := lvM m i) inferInstance inferInstance j
   have := (q.lv hi).2.1; have := (r.lv hi).2; omega
 · have := shrQ_bq (a := c.say.getD i []) (b := m.say.getD i []) inferInstance inferInstance j
   have := (q.y i hi).2; have := (r.y i hi).2; omega
end
theorem RwC.weak {K K' : Nat} {m : Md} {c : CtF} (r : RwC K m c) (h : K <= K') : RwC K' m c := ⟨r.l,Nat.le_trans r.s h,Nat.le_trans r.f h,fun i hi => ⟨(r.mv i hi).1,Nat.le_trans (r.mv i hi).2 h⟩,fun i hi => ⟨(r.y i hi).1,Nat.le_trans (r.y i hi).2 h⟩⟩
end Go.E3
namespace Go.Ear
section
variable {ms : List Md} (hl : ∀ x,x < ms.length -> longM (ms.getD x md0) = false)
include hl
end
end Go.Ear
namespace Go.Ear
def Wh (D : Nat) (q : Rat) : Prop := ∃ a : Int,q * (D : Rat) = (a : Rat)
theorem Wh.zero (D : Nat) : Wh D 0 := ⟨0,by rw [Rat.zero_mul]; rfl⟩
theorem Wh.add {D : Nat} {p q : Rat} (h : Wh D p) (k : Wh D q) : Wh D (p + q) := by
 obtain ⟨a,ha⟩ := h; obtain ⟨b,hb⟩ := k
 exact ⟨a + b,by rw [Rat.add_mul,ha,hb,Rat.intCast_add]⟩
theorem Wh.mul {D E : Nat} {p q : Rat} (h : Wh D p) (k : Wh E q) : Wh (D * E) (p * q) := by
 obtain ⟨a,ha⟩ := h; obtain ⟨b,hb⟩ := k
 refine ⟨a * b, ?_⟩
 rw [Rat.intCast_mul, <- ha, <- hb,Rat.natCast_mul]; grind
theorem Wh.up {D : Nat} {q : Rat} (h : Wh D q) (E : Nat) : Wh (D * E) q := by
 obtain ⟨a,ha⟩ := h
 refine ⟨a * E, ?_⟩
 rw [Rat.intCast_mul, <- ha,Rat.natCast_mul,Rat.intCast_natCast]; grind
theorem Wh.of_dvd {D E : Nat} {q : Rat} (h : Wh D q) (d : D ∣ E) : Wh E q := by
 obtain ⟨c,rfl⟩ := d; exact h.up c
theorem Wh.sum {D : Nat} {f : Nat -> Rat} : ∀ n,(∀ i,i < n -> Wh D (f i)) -> Wh D (sumTo f n)
 | 0,_ => Wh.zero D
 | n + 1,h => (Wh.sum n fun i hi => h i (by omega)).add (h n (by omega))
theorem num_eq (q : Rat) : q * (q.den : Rat) = ((q.num : Int) : Rat) := by
 have h0 : (q.den : Rat) ≠ 0 := fun e => q.den_nz (by exact_mod_cast e)
 have h1 : q = (q.num : Rat) / (q.den : Rat) := by
  have := Rat.mkRat_self q
  rw [Rat.mkRat_eq_div] at this
  exact this.symm
 have h2 : (q.num : Rat) / (q.den : Rat) * (q.den : Rat) = (q.num : Rat) := by
  rw [Rat.div_def,Rat.mul_assoc,Rat.inv_mul_cancel _ h0,Rat.mul_one]
 rw [<- h1] at h2; exact h2
theorem Wh.den (q : Rat) : Wh q.den q := ⟨q.num,num_eq q⟩
theorem Wh.bq {D : Nat} {q : Rat} (h : Wh D q) (hD : 0 < D) (h0 : 0 <= q) (h1 : q <= 1) : bq q <= sz D := by
 obtain ⟨a,ha⟩ := h
 have hD0 : (D : Rat) ≠ 0 := fun e => by
  have : D = 0 := by exact_mod_cast e
  omega
 have hDp : (0 : Rat) < (D : Rat) := by
  have := Rat.natCast_pos.2 hD; exact this
 have hd : q.den ∣ D := by
  have e : q = (a : Rat) / (D : Rat) := by rw [<- ha,Rat.div_def,Rat.mul_assoc,Rat.mul_inv_cancel _ hD0,Rat.mul_one]
  have e2 : q = mkRat a D := by rw [Rat.mkRat_eq_div]; exact e
  rw [e2,Rat.den_mkRat,if_neg (by omega)]
  exact Nat.div_dvd_of_dvd (Nat.gcd_dvd_left _ _)
 have hdl : q.den <= D := Nat.le_of_dvd hD hd
 have hn : q.num.natAbs <= q.den := by
  have hnn : 0 <= q.num := Rat.num_nonneg.2 h0
  have hle : q.num <= (q.den : Int) := by
   have h2 := num_eq q
   have h3 : (q.num : Rat) <= ((q.den : Int) : Rat) := by
    rw [<- h2]
    have hdp : (0 : Rat) <= (q.den : Rat) := Rat.natCast_nonneg
    have := Rat.mul_le_mul_of_nonneg_right h1 hdp
    rw [Rat.one_mul] at this
    rw [Rat.intCast_natCast]; exact this
   exact_mod_cast h3
  omega
 unfold Go.Ear.bq
 exact Nat.max_le.2 ⟨sz_mono (Nat.le_trans hn hdl),sz_mono hdl⟩
theorem Wh.cast {D E : Nat} {q : Rat} (h : Wh D q) (e : D = E) : Wh E q := e ▸ h
structure WhM (m : Md) (a b c : Nat) : Prop where
 st : ∀ i,Wh a (m.start.getD i fr0).rat
 mv : ∀ i j,Wh b ((m.move.getD i []).getD j fr0).rat
 fi : ∀ i,Wh b (m.fin.getD i fr0).rat
 sy : ∀ i x,Wh c ((m.say.getD i []).getD x fr0).rat
section
variable {t : Tr} {a b c : Nat} (w : WhM t.m a b c)
include w
theorem WhM.fwd : ∀ k i,Wh (a * (b ^ k * c ^ (k + 1))) ((fwd t k).getD i 0)
 | k,i => by
   by_cases hi : i < t.m.start.length
   · match k with
     | 0 =>
       rw [<- fwd_zero hi]
       exact ((w.st i).mul (w.sy i _)).cast (by simp)
     | k + 1 =>
       rw [<- fwd_succ hi]
       refine ((w.sy i _).mul (Wh.sum _ fun j _ => (WhM.fwd k j).mul (w.mv j i))).cast ?_
       simp only [Nat.pow_succ]; ac_rfl
   · rw [List.getD_eq_getElem?_getD,List.getElem?_eq_none (by rw [fwd_len]; omega)]; exact Wh.zero _
theorem WhM.bwd : ∀ k i,Wh (b ^ (k + 1) * c ^ k) ((bwd t k).getD i 0)
 | k,i => by
   by_cases hi : i < t.m.start.length
   · match k with
     | 0 =>
       rw [<- bwd_zero hi]
       exact (w.fi i).cast (by simp)
     | k + 1 =>
       rw [<- bwd_succ hi]
       refine (Wh.sum _ fun j _ => ((w.mv i j).mul (w.sy j _)).mul (WhM.bwd k j)).cast ?_
       simp only [Nat.pow_succ]; ac_rfl
   · rw [List.getD_eq_getElem?_getD,List.getElem?_eq_none (by rw [bwd_len]; omega)]; exact Wh.zero _
theorem WhM.both {k i : Nat} (hk : k < t.o.length) : Wh (a * (b ^ t.o.length * c ^ t.o.length)) ((Go.Ear.fwd t k).getD i 0 * (Go.Ear.bwd t (t.o.length - 1 - k)).getD i 0) := by
 refine ((w.fwd k i).mul (w.bwd (t.o.length - 1 - k) i)).cast ?_
 have e1 : t.o.length = k + (t.o.length - 1 - k + 1) := by omega
 have e2 : t.o.length = (k + 1) + (t.o.length - 1 - k) := by omega
 rw [show b ^ t.o.length = b ^ k * b ^ (t.o.length - 1 - k + 1) by rw [<- Nat.pow_add, <- e1],show c ^ t.o.length = c ^ (k + 1) * c ^ (t.o.length - 1 - k) by rw [<- Nat.pow_add, <- e2]]
 ac_rfl
theorem WhM.wM {k i j : Nat} (hk : k + 1 < t.o.length) : Wh (a * (b ^ t.o.length * c ^ t.o.length)) (Go.Ear.wM t i k j) := by
 unfold Go.Ear.wM
 refine ((((w.fwd k i).mul (w.mv i j)).mul (w.sy j _)).mul (w.bwd (t.o.length - 1 - (k + 1)) j)).cast ?_
 have e1 : t.o.length = k + (1 + (t.o.length - 1 - (k + 1) + 1)) := by omega
 have e2 : t.o.length = (k + 1) + (1 + (t.o.length - 1 - (k + 1))) := by omega
 rw [show b ^ t.o.length = b ^ k * (b ^ 1 * b ^ (t.o.length - 1 - (k + 1) + 1)) by rw [<- Nat.pow_add, <- Nat.pow_add, <- e1],show c ^ t.o.length = c ^ (k + 1) * (c ^ 1 * c ^ (t.o.length - 1 - (k + 1))) by rw [<- Nat.pow_add, <- Nat.pow_add, <- e2],Nat.pow_one,Nat.pow_one]
 ac_rfl
theorem WhM.lk : Wh (a * (b ^ t.o.length * c ^ t.o.length)) (Go.Ear.lk t) := by
 by_cases h : t.o.length = 0
 · rw [lk_zero h]; exact Wh.zero _
 · rw [<- lk_both' (t := t) (k := 0) (by omega)]
   exact Wh.sum _ fun i _ => w.both (by omega)
end
section
variable {m : Md} (hv : validM m = true)
include hv
theorem sy_le1 {i : Nat} (hi : i < m.start.length) (x : Nat) : ((m.say.getD i []).getD x fr0).rat <= 1 := by
 have on := (Ones.of hv).sy i hi
 have nn := Nn.of hv
 by_cases hx : x < symb m
 · rw [<- on]; exact sumTo_one (fun y _ => nn.sy i y) hx
 · rw [List.getD_eq_getElem?_getD,List.getElem?_eq_none (by rw [(valid_row hv hi).2.1]; omega)]
   show fr0.rat <= 1; decide +kernel
theorem mv_sum1 {i : Nat} (hi : i < m.start.length) : sumTo (fun j => ((m.move.getD i []).getD j fr0).rat) m.start.length <= 1 := by
 have on := (Ones.of hv).lv i hi
 have := (Nn.of hv).fi i
 grind
theorem mv_le1 {i j : Nat} (hi : i < m.start.length) (hj : j < m.start.length) : ((m.move.getD i []).getD j fr0).rat <= 1 :=
 Rat.le_trans (sumTo_one (fun y _ => (Nn.of hv).mv i y) hj) (mv_sum1 hv hi)
theorem fi_le1 {i : Nat} (hi : i < m.start.length) : (m.fin.getD i fr0).rat <= 1 := by
 have on := (Ones.of hv).lv i hi
 have := sumTo_nonneg m.start.length (f := fun j => ((m.move.getD i []).getD j fr0).rat) fun j _ => (Nn.of hv).mv i j
 grind
end
theorem mul_le_l {p q : Rat} (hp : 0 <= p) (q1 : q <= 1) : p * q <= p := by
 have := Rat.mul_le_mul_of_nonneg_left q1 hp
 rw [Rat.mul_one] at this; exact this
theorem mul_le_r {p q : Rat} (hq : 0 <= q) (p1 : p <= 1) : p * q <= q := by
 have := Rat.mul_le_mul_of_nonneg_right p1 hq
 rw [Rat.one_mul] at this; exact this
section
variable {t : Tr} (hv : validM t.m = true)
include hv
theorem fwd_sum1 : ∀ k,sumTo (fun i => (fwd t k).getD i 0) t.m.start.length <= 1
 | 0 => by
   rw [<- (Ones.of hv).st]
   refine sumTo_le _ fun i hi => ?_
   rw [<- fwd_zero hi]
   exact mul_le_l ((Nn.of hv).st i) (sy_le1 hv hi _)
 | k + 1 => by
   refine Rat.le_trans ?_ (fwd_sum1 k)
   have h1 : sumTo (fun i => (fwd t (k + 1)).getD i 0) t.m.start.length <= sumTo (fun i => sumTo (fun j => (fwd t k).getD j 0 * moveT t j i) t.m.start.length) t.m.start.length := by
    refine sumTo_le _ fun i hi => ?_
    rw [<- fwd_succ hi]
    exact mul_le_r (sumTo_nonneg _ fun j _ => Rat.mul_nonneg (fwd_nn (Nn.of hv) k j) ((Nn.of hv).mv j i)) (sy_le1 hv hi _)
   refine Rat.le_trans h1 ?_
   rw [sumTo_swap]
   refine sumTo_le _ fun j hj => ?_
   rw [show (fun i => (fwd t k).getD j 0 * moveT t j i) = fun i => (fwd t k).getD j 0 * (moveT t j i) from rfl,sumTo_mul]
   exact mul_le_l (fwd_nn (Nn.of hv) k j) (mv_sum1 hv hj)
theorem fwd_le1 (k i : Nat) : (fwd t k).getD i 0 <= 1 := by
 by_cases hi : i < t.m.start.length
 · exact Rat.le_trans (sumTo_one (fun y _ => fwd_nn (Nn.of hv) k y) hi) (fwd_sum1 hv k)
 · rw [List.getD_eq_getElem?_getD,List.getElem?_eq_none (by rw [fwd_len]; omega)]
   show (0 : Rat) <= 1; decide +kernel
theorem bwd_le1 : ∀ k i,(bwd t k).getD i 0 <= 1
 | k,i => by
   by_cases hi : i < t.m.start.length
   · match k with
     | 0 => rw [<- bwd_zero hi]; exact fi_le1 hv hi
     | k + 1 =>
       rw [<- bwd_succ hi]
       refine Rat.le_trans (sumTo_le _ fun j hj => ?_) (mv_sum1 hv hi)
       have nn := Nn.of hv
       exact Rat.le_trans (mul_le_l (Rat.mul_nonneg (nn.mv i j) (nn.sy j _)) (bwd_le1 k j)) (mul_le_l (nn.mv i j) (sy_le1 hv hj _))
   · rw [List.getD_eq_getElem?_getD,List.getElem?_eq_none (by rw [bwd_len]; omega)]
     show (0 : Rat) <= 1; decide +kernel
theorem lk_le1 : lk t <= 1 := by
 by_cases h : t.o.length = 0
 · rw [lk_zero h]; decide +kernel
 · rw [lk_fwd (by omega)]
   exact Rat.le_trans (sumTo_le _ fun i hi => mul_le_l (fwd_nn (Nn.of hv) _ i) (fi_le1 hv hi)) (fwd_sum1 hv _)
end
end Go.Ear
namespace Go.Ear
theorem mul_rot {x y z : Rat} (hy : y ≠ 0) : x / y * (y * z) = x * z := by
 rw [Rat.div_def,Rat.mul_assoc, <- Rat.mul_assoc y⁻¹,Rat.inv_mul_cancel _ hy,Rat.one_mul]
def whN (D : Nat) (q : Rat) : Nat := (q * (D : Rat)).num.toNat
theorem whN_eq {D : Nat} {q : Rat} (h : Wh D q) (h0 : 0 <= q) : q * (D : Rat) = ((whN D q : Nat) : Rat) := by
 obtain ⟨a,ha⟩ := h
 have hn : 0 <= q * (D : Rat) := Rat.mul_nonneg h0 Rat.natCast_nonneg
 unfold whN
 rw [ha] at hn ⊢
 have ha0 : 0 <= a := Rat.intCast_nonneg.1 hn
 rw [Rat.num_intCast, <- Rat.intCast_natCast,Int.toNat_of_nonneg ha0]
theorem whN_pos {D : Nat} {q : Rat} (h : Wh D q) (h0 : 0 < q) (hD : 0 < D) : 0 < whN D q := by
 have e := whN_eq h (Rat.le_of_lt h0)
 have : (0 : Rat) < ((whN D q : Nat) : Rat) := by rw [<- e]; exact Rat.mul_pos h0 (Rat.natCast_pos.2 hD)
 exact Rat.natCast_pos.1 this
theorem whN_le {D B : Nat} {q : Rat} (h : Wh D q) (h0 : 0 <= q) (h1 : q <= (B : Rat)) : whN D q <= B * D := by
 have e := whN_eq h h0
 have h2 : ((whN D q : Nat) : Rat) <= ((B * D : Nat) : Rat) := by
  rw [<- e,Rat.natCast_mul]; exact Rat.mul_le_mul_of_nonneg_right h1 Rat.natCast_nonneg
 exact Rat.natCast_le_natCast.1 h2
theorem Wh.part {D : Nat} {p q : Rat} (h : Wh D p) (k : Wh D q) (hq : 0 < q) : Wh (whN D q) (p / q) := by
 obtain ⟨a,ha⟩ := h
 refine ⟨a, ?_⟩
 rw [<- whN_eq k (Rat.le_of_lt hq),mul_rot (fun e => by rw [e] at hq; exact absurd hq (by decide)),ha]
section
variable {t : Tr} {a b c : Nat}
abbrev dT (t : Tr) (a b c : Nat) : Nat := a * (b ^ t.o.length * c ^ t.o.length)
def lN (t : Tr) (a b c : Nat) : Nat := whN (dT t a b c) (lk t)
theorem lk_gt {t : Tr} (nn : Nn t.m) (h : lk t ≠ 0) : 0 < lk t := by
 have := lk_nn (t := t) nn; grind
theorem pY_wh (w : WhM t.m a b c) (nn : Nn t.m) (h : lk t ≠ 0) {i k : Nat} (hk : k < t.o.length) : Wh (lN t a b c) (pY t i k) := (w.both hk).part w.lk (lk_gt nn h)
theorem pM_wh (w : WhM t.m a b c) (nn : Nn t.m) (h : lk t ≠ 0) {i k j : Nat} (hk : k + 1 < t.o.length) : Wh (lN t a b c) (pM t i k j) := (w.wM hk).part w.lk (lk_gt nn h)
theorem pE_pY {t : Tr} {i : Nat} (hi : i < t.m.start.length) : pE t i = pY t i (t.o.length - 1) := by
 unfold pE pY; rw [show t.o.length - 1 - (t.o.length - 1) = 0 by omega, <- bwd_zero hi]
theorem sayRow_wh (w : WhM t.m a b c) (nn : Nn t.m) (h : lk t ≠ 0) (i x : Nat) : ∀ k,k <= t.o.length -> Wh (lN t a b c) ((sayRow t i k).getD x 0)
 | 0,_ => by
   rw [sayRow,List.getD_eq_getElem?_getD,List.getElem?_replicate]; split <;> exact Wh.zero _
 | k + 1,hk => by
   have ih := sayRow_wh w nn h i x k (by omega)
   rw [sayRow]
   by_cases e : (t.o.getD k 0).toNat = x
   · subst e
     by_cases hx : (t.o.getD k 0).toNat < (sayRow t i k).length
     · rw [getD_set_is hx]; exact ih.add (pY_wh w nn h (by omega))
     · rw [List.getD_eq_getElem?_getD,List.getElem?_eq_none (by rw [List.length_set]; omega)]; exact Wh.zero _
   · rw [getD_set_ne' e]; exact ih
theorem mvRow_wh (w : WhM t.m a b c) (nn : Nn t.m) (h : lk t ≠ 0) (i j : Nat) : ∀ k,k < t.o.length -> Wh (lN t a b c) ((mvRow t i k).getD j 0)
 | 0,_ => by
   rw [mvRow,List.getD_eq_getElem?_getD,List.getElem?_replicate]; split <;> exact Wh.zero _
 | k + 1,hk => by
   by_cases hj : j < t.m.start.length
   · rw [<- mvRow_at hj]; exact (mvRow_wh w nn h i j k (by omega)).add (pM_wh w nn h hk)
   · rw [List.getD_eq_getElem?_getD,List.getElem?_eq_none (by rw [mvRow_len]; omega)]; exact Wh.zero _
theorem cnt_wh (w : WhM t.m a b c) (nn : Nn t.m) (h : lk t ≠ 0) (i j : Nat) : Wh (lN t a b c) ((cntT t).start.getD i 0) /\ Wh (lN t a b c) ((cntT t).fin.getD i 0) /\ Wh (lN t a b c) (((cntT t).move.getD i []).getD j 0) /\ Wh (lN t a b c) (((cntT t).say.getD i []).getD j 0) := by
 have hp := lk_pos h
 by_cases hi : i < t.m.start.length
 · refine ⟨?_, ?_, ?_, ?_⟩
   · show Wh _ ((cntS t).getD i 0); rw [cntS,range_getD _ _ hi]; exact pY_wh w nn h hp
   · show Wh _ ((cntE t).getD i 0); rw [cntE,range_getD _ _ hi,pE_pY hi]; exact pY_wh w nn h (by omega)
   · show Wh _ (((cntM t).getD i []).getD j 0); rw [cntM,range_getD _ _ hi]; exact mvRow_wh w nn h i j _ (by omega)
   · show Wh _ (((cntY t).getD i []).getD j 0); rw [cntY,range_getD _ _ hi]; exact sayRow_wh w nn h i j _ (Nat.le_refl _)
 · have z : ∀ {l : List Rat},l.length = t.m.start.length -> l.getD i 0 = 0 := fun {l} hl => by rw [List.getD_eq_getElem?_getD,List.getElem?_eq_none (by omega)]; rfl
   have z2 : ∀ {l : List (List Rat)},l.length = t.m.start.length -> (l.getD i []).getD j 0 = 0 := fun {l} hl => by rw [List.getD_eq_getElem?_getD (l := l),List.getElem?_eq_none (by omega)]; rfl
   refine ⟨?_, ?_, ?_, ?_⟩
   · show Wh _ ((cntS t).getD i 0); rw [z (cntS_len t)]; exact Wh.zero _
   · show Wh _ ((cntE t).getD i 0); rw [z (cntE_len t)]; exact Wh.zero _
   · show Wh _ (((cntM t).getD i []).getD j 0); rw [z2 (cntM_len t)]; exact Wh.zero _
   · show Wh _ (((cntY t).getD i []).getD j 0); rw [z2 (cntY_len t)]; exact Wh.zero _
end
section
variable {m : Md} {data : List (List Int)} {a b c : Nat}
def lP (m : Md) (data : List (List Int)) (a b c : Nat) : Nat -> Nat
 | 0 => 1
 | k + 1 => if lk (trK m data k) = 0 then lP m data a b c k else lP m data a b c k * lN (trK m data k) a b c
theorem addR_wh {D : Nat} {x y : List Rat} (hx : ∀ i,Wh D (x.getD i 0)) (hy : ∀ i,Wh D (y.getD i 0)) (i : Nat) : Wh D ((addR x y).getD i 0) := by
 by_cases hi : i < x.length
 · rw [addR,range_getD _ _ hi]; exact (hx i).add (hy i)
 · rw [List.getD_eq_getElem?_getD,List.getElem?_eq_none (by rw [addR_len]; omega)]; exact Wh.zero _
theorem addM_wh {D : Nat} {x y : List (List Rat)} (hx : ∀ i j,Wh D ((x.getD i []).getD j 0)) (hy : ∀ i j,Wh D ((y.getD i []).getD j 0)) (i j : Nat) : Wh D (((addM x y).getD i []).getD j 0) := by
 by_cases hi : i < x.length
 · rw [<- addM_at hi]; exact addR_wh (hx i) (hy i) j
 · rw [List.getD_eq_getElem?_getD (l := addM x y),List.getElem?_eq_none (by rw [addM_len]; omega)]; exact Wh.zero _
theorem all_wh (w : WhM m a b c) (nn : Nn m) : ∀ k i j,Wh (lP m data a b c k) ((allT m data k).start.getD i 0) /\ Wh (lP m data a b c k) ((allT m data k).fin.getD i 0) /\ Wh (lP m data a b c k) (((allT m data k).move.getD i []).getD j 0) /\ Wh (lP m data a b c k) (((allT m data k).say.getD i []).getD j 0)
 | 0,i,j => by
   have z : ∀ n i,Wh 1 ((List.replicate n (0 : Rat)).getD i 0) := fun n i => by rw [List.getD_eq_getElem?_getD,List.getElem?_replicate]; split <;> exact Wh.zero _
   have z2 : ∀ n k i j,Wh 1 (((List.replicate n (List.replicate k (0 : Rat))).getD i []).getD j 0) := fun n k i j => by
    rw [List.getD_eq_getElem?_getD (l := List.replicate n (List.replicate k (0 : Rat))),List.getElem?_replicate]
    split
    · exact z k j
    · exact Wh.zero _
   exact ⟨z _ i,z _ i,z2 _ _ i j,z2 _ _ i j⟩
 | k + 1,i,j => by
   have ih := all_wh w nn k
   by_cases h : lk (trK m data k) = 0
   · rw [allT_t h,lP,if_pos h]; exact ih i j
   · have hc := cnt_wh (t := trK m data k) w nn h
     rw [allT_f h,lP,if_neg h]
     refine ⟨addR_wh (fun i => (ih i 0).1.up _) (fun i => (hc i 0).1.of_dvd (Nat.dvd_mul_left _ _)) i,addR_wh (fun i => (ih i 0).2.1.up _) (fun i => (hc i 0).2.1.of_dvd (Nat.dvd_mul_left _ _)) i,addM_wh (fun i j => (ih i j).2.2.1.up _) (fun i j => (hc i j).2.2.1.of_dvd (Nat.dvd_mul_left _ _)) i j,addM_wh (fun i j => (ih i j).2.2.2.up _) (fun i j => (hc i j).2.2.2.of_dvd (Nat.dvd_mul_left _ _)) i j⟩
theorem lN_pos {t : Tr} (w : WhM t.m a b c) (nn : Nn t.m) (ha : 0 < a) (hb : 0 < b) (hc : 0 < c) (h : lk t ≠ 0) : 0 < lN t a b c := whN_pos w.lk (lk_gt nn h) (Nat.mul_pos ha (Nat.mul_pos (Nat.pow_pos hb) (Nat.pow_pos hc)))
theorem lP_pos (w : WhM m a b c) (nn : Nn m) (ha : 0 < a) (hb : 0 < b) (hc : 0 < c) : ∀ k,0 < lP m data a b c k
 | 0 => by rw [lP]; decide
 | k + 1 => by
   rw [lP]
   split
   · exact lP_pos w nn ha hb hc k
   · rename_i h; exact Nat.mul_pos (lP_pos w nn ha hb hc k) (lN_pos (t := trK m data k) w nn ha hb hc h)
theorem dT_sz {t : Tr} {F : Nat} (hF : t.o.length <= F) : sz (dT t a b c) <= sz a + F * (sz b + sz c) + 2 := by
 have h1 := sz_mul a (b ^ t.o.length * c ^ t.o.length)
 have h2 := sz_mul (b ^ t.o.length) (c ^ t.o.length)
 have h3 := sz_pow b t.o.length
 have h4 := sz_pow c t.o.length
 have h5 := Nat.mul_le_mul_right (sz b) hF
 have h6 := Nat.mul_le_mul_right (sz c) hF
 rw [Nat.mul_add]
 unfold dT; omega
theorem lN_sz {t : Tr} (w : WhM t.m a b c) (hv : validM t.m = true) : sz (lN t a b c) <= sz (dT t a b c) := by
 have := whN_le (B := 1) w.lk (lk_nn (Nn.of hv)) (lk_le1 hv)
 rw [Nat.one_mul] at this
 exact sz_mono this
theorem lP_sz (w : WhM m a b c) (hv : validM m = true) {F : Nat} (hF : ∀ o ∈ data,o.length <= F) : ∀ k,k <= data.length -> sz (lP m data a b c k) <= 1 + k * (sz a + F * (sz b + sz c) + 2)
 | 0,_ => by rw [lP,sz_one]; omega
 | k + 1,hk => by
   have ih := lP_sz w hv hF k (by omega)
   rw [lP,Nat.succ_mul]
   split
   · omega
   · have h1 := sz_mul (lP m data a b c k) (lN (trK m data k) a b c)
     have h2 := lN_sz (t := trK m data k) w hv
     have h3 := dT_sz (t := trK m data k) (a := a) (b := b) (c := c) (hF _ (getD_mem' data [] (show k < data.length by omega)))
     omega
end
end Go.Ear
