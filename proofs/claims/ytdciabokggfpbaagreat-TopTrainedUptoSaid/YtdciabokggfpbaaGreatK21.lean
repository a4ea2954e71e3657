/- K21: a part of the proof about training through the decoder: how the program's functions run, and what they compute, for every input. -/
import Derived.Test.YtdciabokggfpbaaGreatK20
import Derived.Test.YtdciabokggfpbaaGreatK18
import Derived.Test.YtdciabokggfpbaaGreatK19
set_option linter.all false
namespace Go.Ear
def Q (n d : Int) : Rat := ((n : Int) : Rat) / ((d : Int) : Rat)
attribute [irreducible] Q
end Go.Ear
namespace Go.Ear
theorem bq_floorQ {q : Rat} {d : Int} (h1 : -9223372036854775808 <= d) (h2 : d <= 9223372036854775807) : bq (floorQ q d) <= bq q + 10 := by
 unfold floorQ
 split
 · have := bq_zero; omega
 · have := bq_intc h1 h2; have := bq_mul q (d : Rat); have := bq_floor (q * (d : Rat)); have := bq_inv' (d : Rat)
   have := bq_mul ((q * (d : Rat)).floor : Rat) ((d : Rat))⁻¹
   omega
end Go.Ear
namespace Go.Ear
theorem at_of {l : List Fr} {W : Nat} (hW : 1 <= W) (h : ∀ f ∈ l,bq f.rat <= W) (i : Nat) : bq (l.getD i fr0).rat <= W := by
 rw [List.getD_eq_getElem?_getD]
 cases hi : l[i]? with
 | none => rw [show ((none : Option Fr).getD fr0).rat = 0 by decide +kernel,bq_zero]; exact hW
 | some f => exact h f (List.mem_of_getElem? hi)
theorem at2_of {l : List (List Fr)} {W : Nat} (hW : 1 <= W) (h : ∀ r ∈ l, ∀ f ∈ r,bq f.rat <= W) (i j : Nat) : bq ((l.getD i []).getD j fr0).rat <= W := by
 refine at_of hW ?_ j
 rw [List.getD_eq_getElem?_getD]
 cases hi : l[i]? with
 | none => intro f hf; cases hf
 | some r => exact h r (List.mem_of_getElem? hi)
theorem MdW.of {W : Nat} {m : Md} (hW : 1 <= W) (h1 : ∀ f ∈ m.start,bq f.rat <= W) (h2 : ∀ r ∈ m.move, ∀ f ∈ r,bq f.rat <= W) (h3 : ∀ f ∈ m.fin,bq f.rat <= W) (h4 : ∀ r ∈ m.say, ∀ f ∈ r,bq f.rat <= W) : MdW W m :=
 ⟨at_of hW h1,at2_of hW h2,at_of hW h3,at2_of hW h4⟩
set_option maxRecDepth 10000
theorem MdB.weak {K L : Nat} {m : Md} (b : MdB K m) (h : K <= L) : MdB L m := ⟨Nat.le_trans b.start h,fun l q => Nat.le_trans (b.move l q) h,Nat.le_trans b.fin h,fun l q => Nat.le_trans (b.say l q) h⟩
end Go.Ear
namespace Go.Ear
theorem all_take_succ' {α : Type} {p : α -> Bool} {l : List α} {k : Nat} (d : α) (hk : k < l.length) (hn : (l.take k).all p = true) (hp : p (l.getD k d) = true) : (l.take (k + 1)).all p = true := by
 rw [take_snoc d hk,List.all_append,hn,List.all_cons,hp]; rfl
def rowsB (l : List (List Fr)) (n k : Nat) : Bool := decide (l.length = n) && l.all fun r => decide (r.length = k)
def rowK (k : Nat) (r : List Fr) : Bool := decide (r.length = k)
theorem rowsB_t {l : List (List Fr)} {n k : Nat} (h1 : l.length = n) (h2 : l.all (rowK k) = true) : rowsB l n k = true := by unfold rowsB; rw [Bool.and_eq_true]; exact ⟨decide_eq_true h1,h2⟩
theorem rowsB_f1 {l : List (List Fr)} {n k : Nat} (h1 : l.length ≠ n) : rowsB l n k = false := by unfold rowsB; rw [decide_eq_false h1]; rfl
theorem rowsB_f2 {l : List (List Fr)} {n k i : Nat} (hi : i < l.length) (h1 : (l.getD i []).length ≠ k) : rowsB l n k = false := by
 unfold rowsB
 rw [Bool.and_eq_false_iff]; right
 rw [List.all_eq_false]
 exact ⟨_,getD_mem' l [] hi,by simpa using h1⟩
theorem rowsB_iff {l : List (List Fr)} {n k : Nat} : rowsB l n k = true ↔ l.length = n /\ ∀ i,i < l.length -> (l.getD i []).length = k := by
 constructor
 · intro h
   unfold rowsB at h
   rw [Bool.and_eq_true,List.all_eq_true] at h
   exact ⟨of_decide_eq_true h.1,fun i hi => of_decide_eq_true (h.2 _ (getD_mem' l [] hi))⟩
 · rintro ⟨h1,h2⟩
   refine rowsB_t h1 ?_
   rw [List.all_eq_true]
   intro r hr
   obtain ⟨i,hi,rfl⟩ := List.getElem_of_mem hr
   have := h2 i hi
   rw [List.getD_eq_getElem?_getD,List.getElem?_eq_getElem hi] at this
   exact decide_eq_true this
def dist2 (m : Md) (i : Nat) : Bool := distF (m.say.getD i []) && distF (leaveM m i)
def refV (m : Md) : Bool := decide (1 <= m.start.length) && decide (1 <= symb m) && decide (m.fin.length = m.start.length) && rowsB m.move m.start.length m.start.length && rowsB m.say m.start.length (symb m) && distF m.start && (List.range m.start.length).all (dist2 m)
theorem refV_eq (m : Md) : refV m = validM m := by
 rw [Bool.eq_iff_iff,validM_iff]
 unfold refV
 simp only [Bool.and_eq_true,decide_eq_true_eq,rowsB_iff,List.all_eq_true,List.mem_range,dist2,rowM]
 constructor
 · rintro ⟨⟨⟨⟨⟨⟨h1,h2⟩,h3⟩,h4,h5⟩,h6,h7⟩,h8⟩,h9⟩
   refine ⟨⟨h1,h3,h4,h6⟩,h8,fun i hi => ?_⟩
   have h10 := h9 i hi
   exact ⟨⟨⟨⟨h5 i (by omega),h7 i (by omega)⟩,h2⟩,h10.2⟩,h10.1⟩
 · rintro ⟨⟨h1,h3,h4,h6⟩,h8,h9⟩
   exact ⟨⟨⟨⟨⟨⟨h1,(h9 0 (by omega)).1.1.2⟩,h3⟩,h4,fun i hi => (h9 i (by omega)).1.1.1.1⟩,h6,fun i hi => (h9 i (by omega)).1.1.1.2⟩,h8⟩,fun i hi => ⟨(h9 i hi).2,(h9 i hi).1.2⟩⟩
section
variable {m : Md} {i : Nat}
theorem ref_ok (h : 1 <= m.start.length /\ 1 <= symb m /\ m.fin.length = m.start.length) (h1 : rowsB m.move m.start.length m.start.length = true) (h2 : rowsB m.say m.start.length (symb m) = true) (h3 : distF m.start = true) (ha : (List.range i).all (dist2 m) = true) (hi : m.start.length <= i) : validM m = true := by
 rw [<- refV_eq]
 unfold refV
 simp only [Bool.and_eq_true,decide_eq_true_eq,List.all_eq_true,List.mem_range] at ha ⊢
 exact ⟨⟨⟨⟨⟨⟨h.1,h.2.1⟩,h.2.2⟩,h1⟩,h2⟩,h3⟩,fun j hj => ha j (by omega)⟩
theorem ref_no1 (h : m.start.length < 1 \/ symb m < 1 \/ m.fin.length ≠ m.start.length) : validM m = false := by
 rw [<- refV_eq]
 unfold refV
 rw [<- Bool.not_eq_true]
 simp only [Bool.and_eq_true,decide_eq_true_eq]
 omega
theorem ref_no2 (h : ¬ rowsB m.move m.start.length m.start.length = true) : validM m = false := by
 rw [<- refV_eq]; unfold refV; rw [<- Bool.not_eq_true]; simp only [Bool.and_eq_true]; exact fun e => h e.1.1.1.2
theorem ref_no3 (h : ¬ rowsB m.say m.start.length (symb m) = true) : validM m = false := by
 rw [<- refV_eq]; unfold refV; rw [<- Bool.not_eq_true]; simp only [Bool.and_eq_true]; exact fun e => h e.1.1.2
theorem ref_no4 (h : ¬ distF m.start = true) : validM m = false := by
 rw [<- refV_eq]; unfold refV; rw [<- Bool.not_eq_true]; simp only [Bool.and_eq_true]; exact fun e => h e.1.2
theorem ref_no5 (hi : i < m.start.length) (h : ¬ distF (m.say.getD i []) = true \/ ¬ distF (leaveM m i) = true) : validM m = false := by
 rw [<- refV_eq]; unfold refV; rw [<- Bool.not_eq_true]; simp only [Bool.and_eq_true,List.all_eq_true,List.mem_range,dist2]
 exact fun e => h.elim (fun q => q (e.2 i hi).1) (fun q => q (e.2 i hi).2)
theorem ref_succ (ha : (List.range i).all (dist2 m) = true) (h1 : distF (m.say.getD i []) = true) (h2 : distF (leaveM m i) = true) : (List.range (i + 1)).all (dist2 m) = true := by
 rw [List.range_succ,List.all_append,ha,List.all_cons,dist2,h1,h2]; rfl
end
theorem symb_none {m : Md} (h : m.say.length = 0) : 0 = symb m := by
 unfold symb; rw [List.getD_eq_getElem?_getD,List.getElem?_eq_none (by omega)]; rfl
theorem long_t {m : Md} (h : 40 < m.start.length) : longM m = true := by unfold longM; simp [h]
theorem long_s {m : Md} (h : ¬ 40 < m.start.length) : decide (64 < symb m) = longM m := by
 unfold longM
 rw [decide_eq_false h,Bool.false_or]
 by_cases h0 : m.say.length = 0
 · have := symb_none h0
   rw [decide_eq_false (by omega),decide_eq_false (show ¬ 0 < m.say.length by omega)]; rfl
 · rw [decide_eq_true (show 0 < m.say.length by omega),Bool.true_and]
theorem check_long {m : Md} {data : List (List Int)} (h : longM m = true \/ 200 < data.length) : checkE [m] data = 5 := by
 unfold checkE
 rw [if_pos (by simp only [List.any_cons,List.any_nil,Bool.or_false,Bool.or_eq_true,decide_eq_true_eq]; rcases h with h | h; exact .inl (.inl h); exact .inl (.inr h))]
theorem check_bad {m : Md} {data : List (List Int)} (h1 : ¬ longM m = true) (h2 : ¬ 200 < data.length) (h3 : data.any longO = false) (h : ¬ validM m = true) : checkE [m] data = 2 := by
 unfold checkE
 rw [if_neg (by simp only [List.any_cons,List.any_nil,Bool.or_false,Bool.or_eq_true,decide_eq_true_eq,h3]; simp [h1,h2]),if_pos (by simp [notV,h])]
theorem check_good {m : Md} {data : List (List Int)} (h1 : ¬ longM m = true) (h2 : ¬ 200 < data.length) (h3 : data.any longO = false) (h : validM m = true) (h4 : data.any (heardM [m]) = false) : checkE [m] data = 0 := by
 unfold checkE
 rw [if_neg (by simp only [List.any_cons,List.any_nil,Bool.or_false,Bool.or_eq_true,decide_eq_true_eq,h3]; simp [h1,h2]),if_neg (by simp [notV,h]),if_neg (by rw [h4]; decide)]
theorem heardM1 (m : Md) (o : List Int) : heardM [m] o = o.any (offS (symb m : Int)) := rfl
def bigW (f : Fr) : Bool := decide (2 < f.n.length) || decide (2 < f.d.length)
def allW (m : Md) : List Fr := m.start ++ m.fin ++ m.move.flatten ++ m.say.flatten
def plainM (m : Md) : Bool := !(allW m).any bigW
def totL (l : List (List Fr)) : Nat := l.flatten.length
def smallB (m : Md) (s : Nat) : Bool := decide (m.start.length <= s) && decide (m.move.length <= 50) && decide (m.say.length <= 50) && decide (symb m <= 70) && plainM m
theorem plain_le {m : Md} (h : plainM m = true) {f : Fr} (hf : f ∈ allW m) : bf f <= 2 := by
 unfold plainM at h
 have h1 : (allW m).any bigW = false := by simpa using h
 have h2 := List.any_eq_false.1 h1 f hf
 simp only [bigW,Bool.or_eq_true,decide_eq_true_eq,not_or] at h2
 exact bf_le (by omega) (by omega) (by omega)
theorem small_plain {m : Md} {s : Nat} (h : smallB m s = true) : m.start.length <= s /\ m.move.length <= 50 /\ m.say.length <= 50 /\ symb m <= 70 /\ plainM m = true := by
 unfold smallB at h
 simp only [Bool.and_eq_true,decide_eq_true_eq] at h
 exact ⟨h.1.1.1.1,h.1.1.1.2,h.1.1.2,h.1.2,h.2⟩
theorem wts_le : ∀ {l : List Fr},(∀ f ∈ l,bf f <= 2) -> wts l <= 3 * l.length
 | [],_ => Nat.le_refl _
 | f :: l,h => by rw [wts_cons,List.length_cons]; have := h f (List.mem_cons_self ..); have := wts_le fun g hg => h g (List.mem_cons_of_mem _ hg); omega
end Go.Ear
namespace Go.Ear
section
variable {α : Type} {p : α -> α -> Bool} {d : α} {a b : List α} {i : Nat}
def eqP (p : α -> α -> Bool) (d : α) (a b : List α) (i : Nat) : Bool := p (a.getD i d) (b.getD i d)
def all2 (p : α -> α -> Bool) (d : α) (a b : List α) : Bool := decide (a.length = b.length) && (List.range a.length).all (eqP p d a b)
theorem all2_iff : all2 p d a b = true ↔ a.length = b.length /\ ∀ i,i < a.length -> p (a.getD i d) (b.getD i d) = true := by
 unfold all2
 rw [Bool.and_eq_true,decide_eq_true_iff,List.all_eq_true]
 constructor
 · exact fun h => ⟨h.1,fun i hi => h.2 i (List.mem_range.2 hi)⟩
 · exact fun h => ⟨h.1,fun i hi => h.2 i (List.mem_range.1 hi)⟩
end
def eqV (f g : Fr) : Bool := decide (f.rat = g.rat)
def equalL (a b : List Fr) : Bool := all2 eqV fr0 a b
def equalR (a b : List (List Fr)) : Bool := all2 equalL [] a b
def equalM (a b : Md) : Bool := equalL a.start b.start && (equalL a.fin b.fin && (equalR a.move b.move && equalR a.say b.say))
def ratsL (l : List Fr) : List Rat := l.map Fr.rat
section
variable {a b : Md}
end
theorem wts_copy : ∀ {l : List Fr},(∀ x ∈ l,bq x.rat <= bf x) -> wts ((ratsL l).map frK) <= wts l
 | [],_ => Nat.le_refl _
 | f :: l,h => by
   show wts (frK f.rat :: (ratsL l).map frK) <= _
   rw [wts_cons,wts_cons,bf_frK]; have := h f (List.mem_cons_self ..); have := wts_copy fun g hg => h g (List.mem_cons_of_mem _ hg); omega
end Go.Ear
namespace Go.Ear
section
variable {f g : Nat -> Rat} {n m : Nat} {c : Rat}
theorem sumTo_add : ∀ n,sumTo (fun i => f i + g i) n = sumTo f n + sumTo g n
 | 0 => by show (0 : Rat) = 0 + 0; rw [Rat.add_zero]
 | n + 1 => by rw [sumTo_succ,sumTo_succ,sumTo_succ,sumTo_add n]; grind
theorem sumTo_mul : ∀ n,sumTo (fun i => c * f i) n = c * sumTo f n
 | 0 => by show (0 : Rat) = c * 0; rw [Rat.mul_zero]
 | n + 1 => by rw [sumTo_succ,sumTo_succ,sumTo_mul n]; grind
theorem sumTo_mulR : ∀ n,sumTo (fun i => f i * c) n = sumTo f n * c
 | 0 => by show (0 : Rat) = 0 * c; rw [Rat.zero_mul]
 | n + 1 => by rw [sumTo_succ,sumTo_succ,sumTo_mulR n]; grind
theorem sumTo_zero : ∀ n,sumTo (fun _ => (0 : Rat)) n = 0
 | 0 => rfl
 | n + 1 => by rw [sumTo_succ,sumTo_zero n,Rat.add_zero]
theorem sumTo_comm {F : Nat -> Nat -> Rat} (m : Nat) : ∀ n,sumTo (fun i => sumTo (F i) m) n = sumTo (fun j => sumTo (fun i => F i j) n) m
 | 0 => by show (0 : Rat) = _; exact (sumTo_zero m).symm
 | n + 1 => by rw [sumTo_succ,sumTo_comm m n, <- sumTo_add]; rfl
theorem sumTo_nonneg : ∀ n,(∀ i,i < n -> 0 <= f i) -> 0 <= sumTo f n
 | 0,_ => Rat.le_refl
 | n + 1,h => by rw [sumTo_succ]; have h1 := sumTo_nonneg n fun i hi => h i (by omega); have h2 := h n (by omega); grind
theorem sumTo_le : ∀ n,(∀ i,i < n -> f i <= g i) -> sumTo f n <= sumTo g n
 | 0,_ => Rat.le_refl
 | n + 1,h => by rw [sumTo_succ,sumTo_succ]; have h1 := sumTo_le n fun i hi => h i (by omega); have h2 := h n (by omega); grind
theorem sumTo_one (h : ∀ i,i < n -> 0 <= f i) {k : Nat} (hk : k < n) : f k <= sumTo f n := by
 induction n with
 | zero => omega
 | succ n ih =>
   rw [sumTo_succ]
   have h1 := sumTo_nonneg (f := f) n fun i hi => h i (by omega)
   have h2 := h n (by omega)
   by_cases e : k = n
   · subst e; grind
   · have := ih (fun i hi => h i (by omega)) (by omega); grind
end
section
variable {α β : Type} {f g : α -> Rat} {l l2 : List α} {c : Rat}
end
def pa (p : List Int) (k : Nat) : Nat := (p.getD k 0).toNat
theorem lk_fwd {t : Tr} (h : 0 < t.o.length) : lk t = sumTo (fun i => (fwd t (t.o.length - 1)).getD i 0 * (t.m.fin.getD i fr0).rat) t.m.start.length := by
 unfold lk likT
 rw [if_neg (by rw [fwdAll_len]; omega)]
 refine sumTo_congr _ fun i _ => ?_
 rw [fwdAll_len,fwdAll_at (by omega)]
theorem lk_zero {t : Tr} (h : t.o.length = 0) : lk t = 0 := by unfold lk likT; rw [if_pos (by rw [fwdAll_len]; exact h)]
theorem lk_both {t : Tr} : ∀ {k : Nat},k < t.o.length -> sumTo (fun i => (fwd t (t.o.length - 1 - k)).getD i 0 * (bwd t k).getD i 0) t.m.start.length = lk t
 | 0,h => by
   rw [lk_fwd h]
   refine sumTo_congr _ fun i hi => ?_
   rw [<- bwd_zero hi]; rfl
 | k + 1,h => by
   rw [<- lk_both (show k < t.o.length by omega)]
   have e : t.o.length - 1 - k = t.o.length - 1 - (k + 1) + 1 := by omega
   have h1 : ∀ i,i < t.m.start.length -> (fwd t (t.o.length - 1 - (k + 1))).getD i 0 * (bwd t (k + 1)).getD i 0 = sumTo (fun j => (fwd t (t.o.length - 1 - (k + 1))).getD i 0 * (moveT t i j * sayT t j (t.o.length - 1 - k) * (bwd t k).getD j 0)) t.m.start.length := fun i hi => by
    rw [<- bwd_succ hi,sumTo_mul]
   rw [sumTo_congr _ h1,sumTo_comm]
   refine sumTo_congr _ fun j hj => ?_
   rw [e, <- fwd_succ hj, <- sumTo_mul, <- sumTo_mulR]
   refine sumTo_congr _ fun i _ => ?_
   grind
theorem lk_both' {t : Tr} {k : Nat} (h : k < t.o.length) : sumTo (fun i => (fwd t k).getD i 0 * (bwd t (t.o.length - 1 - k)).getD i 0) t.m.start.length = lk t := by
 have := lk_both (t := t) (k := t.o.length - 1 - k) (by omega)
 rwa [show t.o.length - 1 - (t.o.length - 1 - k) = k by omega] at this
structure Nn (m : Md) : Prop where
 st : ∀ i,0 <= (m.start.getD i fr0).rat
 mv : ∀ i j,0 <= ((m.move.getD i []).getD j fr0).rat
 fi : ∀ i,0 <= (m.fin.getD i fr0).rat
 sy : ∀ i j,0 <= ((m.say.getD i []).getD j fr0).rat
section
variable {t : Tr} (nn : Nn t.m)
include nn
theorem fwd_nn : ∀ k i,0 <= (fwd t k).getD i 0
 | k,i => by
   by_cases hi : i < t.m.start.length
   · match k with
     | 0 => rw [<- fwd_zero hi]; exact Rat.mul_nonneg (nn.st i) (nn.sy i _)
     | k + 1 => rw [<- fwd_succ hi]; exact Rat.mul_nonneg (nn.sy i _) (sumTo_nonneg _ fun j _ => Rat.mul_nonneg (fwd_nn k j) (nn.mv j i))
   · rw [List.getD_eq_getElem?_getD,List.getElem?_eq_none (by rw [fwd_len]; omega)]; exact Rat.le_refl
theorem bwd_nn : ∀ k i,0 <= (bwd t k).getD i 0
 | k,i => by
   by_cases hi : i < t.m.start.length
   · match k with
     | 0 => rw [<- bwd_zero hi]; exact nn.fi i
     | k + 1 => rw [<- bwd_succ hi]; exact sumTo_nonneg _ fun j _ => Rat.mul_nonneg (Rat.mul_nonneg (nn.mv i j) (nn.sy j _)) (bwd_nn k j)
   · rw [List.getD_eq_getElem?_getD,List.getElem?_eq_none (by rw [bwd_len]; omega)]; exact Rat.le_refl
theorem lk_nn : 0 <= lk t := by
 by_cases h : t.o.length = 0
 · rw [lk_zero h]; exact Rat.le_refl
 · rw [lk_fwd (by omega)]; exact sumTo_nonneg _ fun i _ => Rat.mul_nonneg (fwd_nn nn _ i) (nn.fi i)
end
structure Ones (m : Md) (K : Nat) : Prop where
 sy : ∀ i,i < m.start.length -> sumTo (fun x => ((m.say.getD i []).getD x fr0).rat) K = 1
 lv : ∀ i,i < m.start.length -> sumTo (fun j => ((m.move.getD i []).getD j fr0).rat) m.start.length + (m.fin.getD i fr0).rat = 1
 st : sumTo (fun i => (m.start.getD i fr0).rat) m.start.length = 1
section
variable {m : Md} {K : Nat} (on : Ones m K)
include on
omit on in
end
end Go.Ear
namespace Go.Ear
section
variable {t : Tr}
end
section
variable {g : List Int -> Rat} {l : List (List Int)}
end
end Go.Ear
namespace Go.Ear
theorem foldA_shift (l : List Fr) : ∀ q,foldA q l = q + sumF l := by
 induction l with
 | nil => intro q; show q = q + 0; rw [Rat.add_zero]
 | cons f l ih =>
   intro q
   show foldA (q + f.rat) l = q + foldA (0 + f.rat) l
   rw [ih,ih (0 + f.rat),Rat.zero_add,Rat.add_assoc]
theorem sumF_cons (f : Fr) (l : List Fr) : sumF (f :: l) = f.rat + sumF l := by
 show foldA (0 + f.rat) l = _
 rw [foldA_shift,Rat.zero_add]
theorem sumF_mul (c : Rat) : ∀ l : List Fr,sumF ((l.map fun f => f.rat * c).map frK) = sumF l * c
 | [] => by show (0 : Rat) = 0 * c; rw [Rat.zero_mul]
 | f :: l => by rw [List.map_cons,List.map_cons,sumF_cons,sumF_cons,sumF_mul c l,frK_rat,Rat.add_mul]
theorem sumF_nonneg : ∀ {l : List Fr},l.any negF = false -> 0 <= sumF l
 | [],_ => by show (0 : Rat) <= 0; exact Rat.le_refl
 | f :: l,h => by
   rw [List.any_cons,Bool.or_eq_false_iff] at h
   have h1 : 0 <= f.rat := Rat.not_lt.1 (of_decide_eq_false h.1)
   rw [sumF_cons]
   exact Rat.add_nonneg h1 (sumF_nonneg h.2)
theorem normF_ok {l : List Fr} (h : l.any negF = false) (h0 : sumF l ≠ 0) : normF l = l.map fun f => f.rat * (sumF l)⁻¹ := by
 unfold normF
 rw [if_neg (by rintro (x | x); rw [h] at x; cases x; exact h0 x)]
theorem norm_dist {l : List Fr} (h : l.any negF = false) (h0 : sumF l ≠ 0) : distF ((normF l).map frK) = true := by
 have hs : 0 < sumF l := by
  have := sumF_nonneg h
  exact Rat.lt_of_le_of_ne this (fun e => h0 e.symm)
 have hi : 0 < (sumF l)⁻¹ := Rat.inv_pos.2 hs
 rw [normF_ok h h0]
 unfold distF
 rw [Bool.and_eq_true]
 constructor
 · rw [Bool.not_eq_true',List.any_eq_false]
   intro x hx
   obtain ⟨q,hq,rfl⟩ := List.mem_map.1 hx
   obtain ⟨f,hf,rfl⟩ := List.mem_map.1 hq
   have hn := List.any_eq_false.1 h f hf
   unfold negF at hn ⊢
   rw [decide_eq_true_iff] at hn ⊢
   rw [frK_rat]
   intro hlt
   have h1 : 0 <= f.rat := Rat.not_lt.1 hn
   have := Rat.mul_nonneg h1 (Rat.le_of_lt hi)
   exact absurd hlt (Rat.not_lt.2 this)
 · rw [decide_eq_true_iff,sumF_mul,Rat.mul_inv_cancel _ h0]
end Go.Ear
namespace Go.Ear
theorem sumF_take : ∀ {l : List Fr} {k : Nat},k <= l.length -> sumF (l.take k) = sumTo (fun i => (l.getD i fr0).rat) k
 | l,0,_ => rfl
 | l,k + 1,h => by
   have := foldA_succ (q := 0) (l := l) (k := k) (by omega)
   show foldA 0 _ = _
   rw [this,sumTo_succ, <- sumF_take (l := l) (k := k) (by omega)]; rfl
theorem sumF_sum (l : List Fr) : sumF l = sumTo (fun i => (l.getD i fr0).rat) l.length := by
 have := sumF_take (l := l) (k := l.length) (Nat.le_refl _)
 rwa [List.take_length] at this
theorem dist_iff {l : List Fr} : distF l = true ↔ (∀ i,0 <= (l.getD i fr0).rat) /\ sumF l = 1 := by
 unfold distF
 rw [Bool.and_eq_true,decide_eq_true_iff]
 refine and_congr_left fun _ => ?_
 constructor
 · intro h i
   have h := List.any_eq_false.1 (by simpa using h : l.any negF = false)
   rw [List.getD_eq_getElem?_getD]
   cases hi : l[i]? with
   | none => exact (by decide +kernel : (0 : Rat) <= fr0.rat)
   | some f =>
     have := h f (List.mem_of_getElem? hi)
     unfold negF at this
     simp only [decide_eq_true_eq] at this
     exact Rat.not_lt.1 this
 · intro h
   have : l.any negF = false := by
    rw [List.any_eq_false]
    intro f hf
    obtain ⟨i,hi,rfl⟩ := List.getElem_of_mem hf
    have := h i
    rw [List.getD_eq_getElem?_getD,List.getElem?_eq_getElem hi] at this
    unfold negF
    simp only [decide_eq_true_eq]
    exact Rat.not_lt.2 this
   rw [this]; rfl
theorem nil_nn (l : List (List Fr)) {i : Nat} (h : l.length <= i) (j : Nat) : 0 <= ((l.getD i []).getD j fr0).rat := by
 rw [List.getD_eq_getElem?_getD (l := l),List.getElem?_eq_none h]; exact (by decide +kernel : (0 : Rat) <= fr0.rat)
theorem leave_move {m : Md} {i j : Nat} (h : j < (m.move.getD i []).length) : (leaveM m i).getD j fr0 = (m.move.getD i []).getD j fr0 := by
 unfold leaveM; rw [List.getD_eq_getElem?_getD,List.getElem?_append_left h, <- List.getD_eq_getElem?_getD]
theorem leave_fin {m : Md} {i : Nat} : (leaveM m i).getD (m.move.getD i []).length fr0 = m.fin.getD i fr0 := by
 unfold leaveM; rw [List.getD_eq_getElem?_getD,List.getElem?_append_right (Nat.le_refl _),Nat.sub_self]; rfl
theorem Nn.of {m : Md} (h : validM m = true) : Nn m := by
 have hl := valid_len h
 have hr := fun i (hi : i < m.start.length) => valid_row h hi
 have hs := (dist_iff.1 (validM_iff.1 h).2.1).1
 refine ⟨hs,fun i j => ?_,fun i => ?_,fun i j => ?_⟩
 · by_cases hi : i < m.start.length
   · by_cases hj : j < (m.move.getD i []).length
     · rw [<- leave_move hj]; exact (dist_iff.1 (hr i hi).2.2.2.1).1 j
     · rw [List.getD_eq_getElem?_getD (l := m.move.getD i []),List.getElem?_eq_none (by omega)]; exact (by decide +kernel : (0 : Rat) <= fr0.rat)
   · exact nil_nn _ (by omega) _
 · by_cases hi : i < m.start.length
   · rw [<- leave_fin]; exact (dist_iff.1 (hr i hi).2.2.2.1).1 _
   · rw [List.getD_eq_getElem?_getD (l := m.fin),List.getElem?_eq_none (by omega)]; exact (by decide +kernel : (0 : Rat) <= fr0.rat)
 · by_cases hi : i < m.start.length
   · exact (dist_iff.1 (hr i hi).2.2.2.2).1 j
   · exact nil_nn _ (by omega) _
theorem Ones.of {m : Md} (h : validM m = true) : Ones m (symb m) := by
 have hl := valid_len h
 have hr := fun i (hi : i < m.start.length) => valid_row h hi
 refine ⟨fun i hi => ?_,fun i hi => ?_, ?_⟩
 · have := (dist_iff.1 (hr i hi).2.2.2.2).2
   rw [sumF_sum,(hr i hi).2.1] at this; exact this
 · have := (dist_iff.1 (hr i hi).2.2.2.1).2
   rw [sumF_sum] at this
   have e : (leaveM m i).length = m.start.length + 1 := by unfold leaveM; rw [List.length_append,(hr i hi).1]; rfl
   rw [e,sumTo_succ] at this
   rw [<- this, <- leave_fin,(hr i hi).1]
   congr 1
   exact sumTo_congr _ fun j hj => by rw [leave_move (by rw [(hr i hi).1]; exact hj)]
 · have := (dist_iff.1 (validM_iff.1 h).2.1).2
   rw [sumF_sum] at this; exact this
theorem fr0_le : bf fr0 <= 2 := by decide
theorem plain_bf {m : Md} (hp : plainM m = true) : (∀ i,bf (m.start.getD i fr0) <= 2) /\ (∀ i,bf (m.fin.getD i fr0) <= 2) := by
 have hm : ∀ f ∈ allW m,bf f <= 2 := fun f hf => plain_le hp hf
 unfold allW at hm
 have ha : ∀ (l : List Fr),(∀ f ∈ l,bf f <= 2) -> ∀ i,bf (l.getD i fr0) <= 2 := fun l hl i => by
  rw [List.getD_eq_getElem?_getD]
  cases hi : l[i]? with
  | none => exact fr0_le
  | some f => exact hl f (List.mem_of_getElem? hi)
 exact ⟨ha _ fun f hf => hm f (by simp only [List.mem_append]; exact .inl (.inl (.inl hf))),ha _ fun f hf => hm f (by simp only [List.mem_append]; exact .inl (.inl (.inr hf)))⟩
theorem plain_B {m : Md} (hp : plainM m = true) (hv : validM m = true) (hl : longM m = false) : MdB 1000 m := by
 have hm : ∀ f ∈ allW m,bf f <= 2 := fun f hf => plain_le hp hf
 unfold allW at hm
 have h1 := valid_len hv
 have h40 : m.start.length <= 40 /\ symb m <= 64 := by
  unfold longM at hl; simp only [Bool.or_eq_false_iff,decide_eq_false_iff_not,Bool.and_eq_false_iff] at hl; omega
 have hw : ∀ l : List Fr,(∀ f ∈ l,f ∈ m.start ++ m.fin ++ m.move.flatten ++ m.say.flatten) -> l.length <= 64 -> wts l <= 1000 := fun l h1 h2 => by
  have := wts_le fun f hf => hm f (h1 f hf); omega
 have hr : ∀ (ll : List (List Fr)), ∀ r ∈ ll, ∃ i,i < ll.length /\ r = ll.getD i [] := fun ll r hr => by
  obtain ⟨i,hi,rfl⟩ := List.getElem_of_mem hr
  exact ⟨i,hi,by rw [List.getD_eq_getElem?_getD,List.getElem?_eq_getElem hi]; rfl⟩
 refine ⟨hw _ (fun f hf => ?_) (by omega),fun r q => hw r (fun f hf => ?_) ?_,hw _ (fun f hf => ?_) (by omega),fun r q => hw r (fun f hf => ?_) ?_⟩
 · simp only [List.mem_append]; exact .inl (.inl (.inl hf))
 · simp only [List.mem_append]; exact .inl (.inr (List.mem_flatten.2 ⟨r,q,hf⟩))
 · obtain ⟨i,hi,rfl⟩ := hr _ r q; rw [(valid_row hv (by omega)).1]; omega
 · simp only [List.mem_append]; exact .inl (.inl (.inr hf))
 · simp only [List.mem_append]; exact .inr (List.mem_flatten.2 ⟨r,q,hf⟩)
 · obtain ⟨i,hi,rfl⟩ := hr _ r q; rw [(valid_row hv (by omega)).2.1]; omega
structure Fair (m : Md) (o : List Int) (s f : Nat) : Prop where
 e : checkE [m] [o] = 0
 ok : TOk ⟨m,o⟩
 s : m.start.length <= s
 f : o.length <= f
 mb : MdB 1000 m
 w : MdW 2 m
 b1 : ∀ i,bf (m.start.getD i fr0) <= 2
 b2 : ∀ i,bf (m.fin.getD i fr0) <= 2
 v : validM m = true
 nn : Nn m
 y : symb m <= 64
section
variable {m : Md} {o : List Int} {s f : Nat} (u : Fair m o s f)
include u
end
end Go.Ear
set_option maxRecDepth 20000
set_option maxHeartbeats 2000000
set_option synthInstance.maxSize 1000
namespace Go.E3
open Go Go.Ear Go.Proofs
instance rsd_c {a b : List Nat} {S T : SV} [i : Vw uv S a] [j : Vw uv T b] : Ct Tryz.prog 58 [S,T] (a.length <= 1000000000 /\ b.length <= 1000000000) (bv (decide (a = b))) := by
 refine ct2 i j (ctI Tryz.call58 Tryz.func58 Tryz.ntmps58 rfl Tryz.results58 rfl [] fun h0 w0 ⟨h1,h2⟩ => ?_)
 repeat first | refine nx ?_ | intro _
 refine gIf (fun c => ?_) fun c => ?_ <;> repeat first | refine nx ?_ | intro _
 · exact (decide_eq_false fun e => c (congrArg List.length e)).symm
 refine gLp (fun k : Nat => [(5,iv k)]) (fun _ => []) (fun k => k <= a.length /\ a.take k = b.take k) (fun k => a.length - k) 0 ⟨Nat.zero_le _,rfl⟩ fun k ⟨hk,hd⟩ => ?_
 repeat first | refine nx ?_ | intro _
 refine gIf (fun c1 => ?_) fun c1 => ?_ <;> repeat first | refine nx ?_ | intro _
 · refine gIf (fun c2 => ?_) fun c2 => ?_ <;> repeat first | refine nx ?_ | intro _
   · exact (decide_eq_false (ne_of_getD c2)).symm
   · exact gBk (k + 1) ⟨by omega,take_eq_succ (by omega) (by omega) hd (by omega)⟩ (by omega)
 · rw [List.take_of_length_le (by omega),List.take_of_length_le (by omega)] at hd
   exact (decide_eq_true hd).symm
instance rSame_c {a b : Fr} {x y : Rat} {A B : Nat} {S T : SV} [i : VF S a x A] [j : VF T b y B] : Ct Tryz.prog 24 [S,T] (A <= 1000000000 /\ B <= 1000000000) (bv (sameF a b)) := by
 refine ct2 i.v j.v (ctI Tryz.call24 Tryz.func24 Tryz.ntmps24 rfl Tryz.results24 rfl [] fun h0 w0 ⟨h1,h2⟩ => ?_)
 have hl1 := i.le2
 have hl2 := j.le2
 repeat first | refine nx ?_ | intro _
 unfold sameF; cases a.neg <;> cases b.neg <;> simp
class FtR (l : List (List Fr)) : Prop where h : ∀ r ∈ l,FtS r
theorem FtR.getD {l : List (List Fr)} (i : FtR l) (k : Nat) : FtS (l.getD k []) := by
 rw [List.getD_eq_getElem?_getD]
 cases e : l[k]? with
 | none => exact inferInstanceAs (FtS [])
 | some x => exact i.h x (List.mem_of_getElem? e)
instance {l : List (List Fr)} [i : FtR l] {k : Nat} : FtS (l.getD k []) := i.getD k
instance {l : List (List Rat)} : FtR (l.map (·.map frK)) := ⟨fun f hf => by obtain ⟨q,_,rfl⟩ := List.mem_map.1 hf; infer_instance⟩
instance rSum_c {l : List Fr} {S : SV} [j : VL S l] : Ct Tryz.prog 51 [S] (wts l <= 60000000) (kk (sumF l)) := by
 haveI := j.t
 refine ct1 j.v (ctI Tryz.call51 Tryz.func51 Tryz.ntmps51 rfl Tryz.results51 rfl [] fun h0 w0 hb => ?_)
 have hb7 := len_wts l
 repeat first | refine nx ?_ | intro _
 rename_i u v
 refine gLp (fun k : Nat => [(4,iv k)]) (fun k => [rV v [bv (frK (sumF (l.take k))).neg,lv rU (frK (sumF (l.take k))).n,lv rU (frK (sumF (l.take k))).d] 32]) (fun k => k <= l.length) (fun k => l.length - k) 0 (Nat.zero_le _) (fun k hk => ?_) (h2 := by rw [show sumF (l.take 0) = 0 from rfl,frK_zero]; exact ⟨⟨rfl,rfl,rfl⟩,trivial⟩)
 have hb1 := Nat.le_trans (bq_foldA (l.take k) 0 fun x hx => j.t.bq x (List.mem_of_mem_take hx)) (Nat.add_le_add_left (wts_take l k) _)
 have hb2 := bf_getD l k
 have hb3 := j.t.bqg k
 have hb4 := bq_zero
 have hb5 : foldA 0 (l.take k) = sumF (l.take k) := rfl
 rw [hb5] at hb1
 repeat first | refine nx ?_ | intro _
 refine gIf (fun c => ?_) fun c => ?_ <;> repeat first | refine nx ?_ | intro _
 · rw [show sumF (l.take k) + (l.getD k fr0).rat = sumF (l.take (k + 1)) from (foldA_succ c).symm]; exact gBk (k + 1) (by omega) (by omega)
 · rw [List.take_of_length_le (by omega)]; exact ⟨rfl,rfl,rfl⟩
instance rDistribution_c {l : List Fr} {S : SV} [j : VL S l] : Ct Tryz.prog 20 [S] (wts l <= 60000000) (bv (distF l)) := by
 haveI := j.t
 refine ct1 j.v (ctI Tryz.call20 Tryz.func20 Tryz.ntmps20 rfl Tryz.results20 rfl [] fun h0 w0 hb => ?_)
 have hb7 := len_wts l
 have hbs : bq (sumF l) <= 1 + wts l := by rw [<- bq_zero]; exact bq_foldA l 0 j.t.bq
 have hb1 : bq (((1 : Int) : Int) : Rat) <= 2 := bq_intc (by decide) (by decide)
 repeat first | refine nx ?_ | intro _
 refine gLp (fun k : Nat => [(3,iv k)]) (fun _ => []) (fun k => k <= l.length /\ (l.take k).any negF = false) (fun k => l.length - k) 0 ⟨Nat.zero_le _,rfl⟩ fun k ⟨hk,hn⟩ => ?_
 have hb2 := bf_getD l k
 repeat first | refine nx ?_ | intro _
 refine gIf (fun c => ?_) fun c => ?_ <;> repeat first | refine nx ?_ | intro _
 · refine gIf (fun d => ?_) fun d => ?_ <;> repeat first | refine nx ?_ | intro _
   · exact dist_f (any_of_getD c (decide_eq_true (sgQ_neg.1 d)))
   · exact gBk (k + 1) ⟨by omega,any_take_succ fr0 c hn (decide_eq_false fun e => d (sgQ_neg.2 e))⟩ (by omega)
 · exact dist_t (by rw [List.take_of_length_le (by omega)] at hn; rw [hn]; decide)
end Go.E3
