/- K20: a part of the proof about training through the decoder: how the program's functions run, and what they compute, for every input. -/
import Derived.Test.YtdciabokggfpbaaGreatK17
set_option linter.all false
namespace Go.Ear
structure Md where
 start : List Fr
 move : List (List Fr)
 fin : List Fr
 say : List (List Fr)
def md0 : Md := ⟨[],[],[],[]⟩
def symb (m : Md) : Nat := (m.say.getD 0 []).length
def longM (m : Md) : Bool := decide (40 < m.start.length) || (decide (0 < m.say.length) && decide (64 < symb m))
def leaveM (m : Md) (i : Nat) : List Fr := m.move.getD i [] ++ [m.fin.getD i fr0]
def rowM (m : Md) (i : Nat) : Bool :=
 decide ((m.move.getD i []).length = m.start.length) && decide ((m.say.getD i []).length = symb m) && decide (1 <= symb m) && distF (leaveM m i) && distF (m.say.getD i [])
def validM (m : Md) : Bool :=
 decide (1 <= m.start.length) && decide (m.fin.length = m.start.length) && decide (m.move.length = m.start.length) && decide (m.say.length = m.start.length) && distF m.start && (List.range m.start.length).all (rowM m)
structure MdB (K : Nat) (m : Md) : Prop where
 start : wts m.start <= K
 move : ∀ l ∈ m.move,wts l <= K
 fin : wts m.fin <= K
 say : ∀ l ∈ m.say,wts l <= K
theorem wts_getD {K : Nat} {ll : List (List Fr)} (h : ∀ l ∈ ll,wts l <= K) (i : Nat) : wts (ll.getD i []) <= K := by
 rw [List.getD_eq_getElem?_getD]
 cases hi : ll[i]? with
 | none => exact Nat.zero_le _
 | some l => exact h l (List.mem_of_getElem? hi)
theorem MdB.mv {K : Nat} {m : Md} (b : MdB K m) (i : Nat) : wts (m.move.getD i []) <= K := wts_getD b.move i
theorem MdB.sy {K : Nat} {m : Md} (b : MdB K m) (i : Nat) : wts (m.say.getD i []) <= K := wts_getD b.say i
theorem wts_append (a b : List Fr) : wts (a ++ b) = wts a + wts b := by unfold wts; simp
theorem MdB.lv {K : Nat} {m : Md} (b : MdB K m) (i : Nat) : wts (leaveM m i) <= K + K + 2 := by
 unfold leaveM; rw [wts_append,wts_cons,wts_nil]; have := b.mv i; have := bf_getD m.fin i; have := b.fin; omega
theorem rows_succ {m : Md} {k : Nat} (h : (List.range k).all (rowM m) = true) (hk : rowM m k = true) : (List.range (k + 1)).all (rowM m) = true := by
 rw [List.range_succ,List.all_append,h]; simp [hk]
theorem rows_not {m : Md} {k n : Nat} (hk : k < n) (h : rowM m k = false) : (List.range n).all (rowM m) = false := by
 rw [List.all_eq_false]; exact ⟨k,List.mem_range.2 hk,by simp [h]⟩
end Go.Ear
namespace Go.Ear
section
variable {m : Md} {i : Nat}
theorem rowM_ok (h1 : (m.move.getD i []).length = m.start.length) (h2 : (m.say.getD i []).length = (m.say.getD 0 []).length) (h3 : 1 <= (m.say.getD 0 []).length) (h4 : distF (m.move.getD i [] ++ [m.fin.getD i fr0]) = true) (h5 : distF (m.say.getD i []) = true) : rowM m i = true := by
 unfold rowM leaveM symb; rw [decide_eq_true h1,decide_eq_true h2,decide_eq_true h3,h4,h5]; rfl
theorem rowM_no1 (h : (m.move.getD i []).length ≠ m.start.length \/ (m.say.getD i []).length ≠ (m.say.getD 0 []).length \/ (m.say.getD 0 []).length < 1) : rowM m i = false := by
 rw [<- Bool.not_eq_true]; unfold rowM symb; intro e
 simp only [Bool.and_eq_true,decide_eq_true_eq] at e
 omega
theorem rowM_no2 (h : ¬ distF (m.move.getD i [] ++ [m.fin.getD i fr0]) = true) : rowM m i = false := by
 rw [<- Bool.not_eq_true]; unfold rowM leaveM; intro e
 simp only [Bool.and_eq_true,decide_eq_true_eq] at e
 exact h e.1.2
theorem rowM_no3 (h : ¬ distF (m.say.getD i []) = true) : rowM m i = false := by
 rw [<- Bool.not_eq_true]; unfold rowM; intro e
 simp only [Bool.and_eq_true,decide_eq_true_eq] at e
 exact h e.2
theorem validM_iff : validM m = true ↔ (1 <= m.start.length /\ m.fin.length = m.start.length /\ m.move.length = m.start.length /\ m.say.length = m.start.length) /\ distF m.start = true /\ (List.range m.start.length).all (rowM m) = true := by
 unfold validM
 simp only [Bool.and_eq_true,decide_eq_true_eq]
 constructor
 · rintro ⟨⟨⟨⟨⟨a,b⟩,c⟩,d⟩,e⟩,f⟩; exact ⟨⟨a,b,c,d⟩,e,f⟩
 · rintro ⟨⟨a,b,c,d⟩,e,f⟩; exact ⟨⟨⟨⟨⟨a,b⟩,c⟩,d⟩,e⟩,f⟩
theorem valid_no1 (h : m.start.length < 1 \/ m.fin.length ≠ m.start.length \/ m.move.length ≠ m.start.length \/ m.say.length ≠ m.start.length) : validM m = false := by
 rw [<- Bool.not_eq_true,validM_iff]; omega
theorem valid_no2 (h : ¬ distF m.start = true) : validM m = false := by
 rw [<- Bool.not_eq_true,validM_iff]; exact fun e => h e.2.1
theorem valid_no3 (hi : i < m.start.length) (h : rowM m i = false) : validM m = false := by
 rw [<- Bool.not_eq_true,validM_iff]; intro e
 rw [rows_not hi h] at e
 exact Bool.noConfusion e.2.2
theorem valid_ok (h : 1 <= m.start.length /\ m.fin.length = m.start.length /\ m.move.length = m.start.length /\ m.say.length = m.start.length) (ha : (List.range i).all (rowM m) = true) (hi : i = m.start.length) (hd : distF m.start = true) : validM m = true := by
 subst hi; exact validM_iff.2 ⟨h,hd,ha⟩
theorem valid_len (h : validM m = true) : 1 <= m.start.length /\ m.fin.length = m.start.length /\ m.move.length = m.start.length /\ m.say.length = m.start.length := (validM_iff.1 h).1
theorem valid_row (h : validM m = true) (hi : i < m.start.length) : (m.move.getD i []).length = m.start.length /\ (m.say.getD i []).length = symb m /\ 1 <= symb m /\ distF (leaveM m i) = true /\ distF (m.say.getD i []) = true := by
 have := List.all_eq_true.1 (validM_iff.1 h).2.2 i (List.mem_range.2 hi)
 unfold rowM at this
 simp only [Bool.and_eq_true,decide_eq_true_eq] at this
 exact ⟨this.1.1.1.1,this.1.1.1.2,this.1.1.2,this.1.2,this.2⟩
end
end Go.Ear
namespace Go.Ear
section
variable  {n : Nat}    {d : Tmp}  {pos : String} {af : Array Edge} {g : Option (Nat × Bool)}
end
section
variable {α : Type}  
end
end Go.Ear
namespace Go.Ear
def longO (o : List Int) : Bool := decide (1000 < o.length)
def notV (m : Md) : Bool := !validM m
def offS (k : Int) (x : Int) : Bool := decide (x < 0) || decide (k <= x)
def heardM (ms : List Md) (o : List Int) : Bool := o.any (offS (((ms.getD 0 md0).say.getD 0 []).length : Int))
def checkE (ms : List Md) (data : List (List Int)) : Int :=
 if ms.any longM || decide (200 < data.length) || data.any longO then 5 else if ms.any notV then 2 else if data.any (heardM ms) then 2 else 0
end Go.Ear
namespace Go.Ear
theorem any_at {α : Type} {p : α -> Bool} {l : List α} {i : Nat} (d : α) (hi : i < l.length) (h : p (l.getD i d) = true) : l.any p = true := by
 rw [List.any_eq_true]
 refine ⟨l.getD i d, ?_,h⟩
 rw [List.getD_eq_getElem?_getD,List.getElem?_eq_getElem hi]
 exact List.getElem_mem hi
theorem not_any_at {α : Type} {p : α -> Bool} {l : List α} {i : Nat} (d : α) (hi : i < l.length) (h : ¬ l.any p = true) : p (l.getD i d) = false := by
 rw [<- Bool.not_eq_true]; exact fun e => h (any_at d hi e)
theorem valid_first {ms : List Md} (h : ¬ ms.any notV = true) (hl : 0 < ms.length) : validM (ms.getD 0 md0) = true := by
 have := not_any_at md0 hl h
 unfold notV at this
 simpa using this
theorem checkE_long {ms : List Md} {data : List (List Int)} (h : ms.any longM = true \/ 200 < data.length \/ data.any longO = true) : 5 = checkE ms data := by
 unfold checkE
 rcases h with h | h | h
 · rw [h]; rfl
 · rw [decide_eq_true h]; simp
 · rw [h]; simp
theorem checkE_not {ms : List Md} {data : List (List Int)} (h1 : ¬ ms.any longM = true) (h2 : ¬ 200 < data.length) (h3 : ¬ data.any longO = true) : checkE ms data = if ms.any notV then 2 else if data.any (heardM ms) then 2 else 0 := by
 unfold checkE
 rw [Bool.not_eq_true] at h1 h3
 rw [h1,decide_eq_false h2,h3]; rfl
theorem checkE_bad {ms : List Md} {data : List (List Int)} (h1 : ¬ ms.any longM = true) (h2 : ¬ 200 < data.length) (h3 : ¬ data.any longO = true) (h4 : ms.any notV = true) : 2 = checkE ms data := by
 rw [checkE_not h1 h2 h3,if_pos h4]
theorem checkE_off {ms : List Md} {data : List (List Int)} (h1 : ¬ ms.any longM = true) (h2 : ¬ 200 < data.length) (h3 : ¬ data.any longO = true) (h4 : ¬ ms.any notV = true) (h5 : data.any (heardM ms) = true) : 2 = checkE ms data := by
 rw [checkE_not h1 h2 h3,if_neg h4,if_pos h5]
theorem checkE_ok {ms : List Md} {data : List (List Int)} (h1 : ¬ ms.any longM = true) (h2 : ¬ 200 < data.length) (h3 : ¬ data.any longO = true) (h4 : ¬ ms.any notV = true) (h5 : data.any (heardM ms) = false) : 0 = checkE ms data := by
 rw [checkE_not h1 h2 h3,if_neg h4,h5]; rfl
end Go.Ear
namespace Go.Ear
theorem getD_mem' {α : Type} (l : List α) (d : α) {i : Nat} (hi : i < l.length) : l.getD i d ∈ l := by
 rw [List.getD_eq_getElem?_getD,List.getElem?_eq_getElem hi]; exact List.getElem_mem hi
end Go.Ear
namespace Go.Ear
structure Tr where
 m : Md
 o : List Int
def sumTo (q : Nat -> Rat) : Nat -> Rat
 | 0 => 0
 | k + 1 => sumTo q k + q k
theorem sumTo_succ (q : Nat -> Rat) (k : Nat) : sumTo q (k + 1) = sumTo q k + q k := rfl
theorem sumTo_skip {q : Nat -> Rat} {k : Nat} (h : q k = 0) : sumTo q (k + 1) = sumTo q k := by rw [sumTo_succ,h,Rat.add_zero]
theorem bq_sumTo {q : Nat -> Rat} {B : Nat} : ∀ n,(∀ i,i < n -> bq (q i) <= B) -> bq (sumTo q n) <= 1 + n * (B + 1)
 | 0,_ => by show bq 0 <= _; have := bq_zero; omega
 | n + 1,h => by
   rw [sumTo_succ]
   have h1 := bq_sumTo n fun i hi => h i (by omega)
   have h2 := h n (by omega)
   have h3 := bq_add (sumTo q n) (q n)
   rw [Nat.add_mul,Nat.one_mul]; omega
theorem sumTo_congr {q q' : Nat -> Rat} : ∀ n,(∀ i,i < n -> q i = q' i) -> sumTo q n = sumTo q' n
 | 0,_ => rfl
 | n + 1,h => by rw [sumTo_succ,sumTo_succ,sumTo_congr n fun i hi => h i (by omega),h n (by omega)]
end Go.Ear
namespace Go.Ear
def likT (t : Tr) (f : List (List Rat)) : Rat :=
 if f.length = 0 then 0 else sumTo (fun i => (f.getD (f.length - 1) []).getD i 0 * (t.m.fin.getD i fr0).rat) t.m.start.length
end Go.Ear
namespace Go.Ear
theorem le_of_mul {s B L : Nat} (h0 : 0 < s) (h : s * (B + 1) <= L) : B <= L := by
 have : B + 1 <= s * (B + 1) := Nat.le_mul_of_pos_left _ h0
 omega
end Go.Ear
namespace Go.Ear
end Go.Ear
namespace Go.Ear
end Go.Ear
namespace Go.Ear
section
variable {α : Type}    {bo n k l : Nat}  {pos : Nat -> Nat} {row : Nat -> List α}  
def rowAt (row : List α) (d : α) (s i : Nat) : List α := row.take i ++ List.replicate (s - i) d
theorem rowAt_zero (row : List α) (d : α) (s : Nat) : rowAt row d s 0 = List.replicate s d := by simp [rowAt]
theorem rowAt_len {row : List α} {d : α} {s i : Nat} (hl : row.length = s) (hi : i <= s) : (rowAt row d s i).length = s := by unfold rowAt; simp; omega
theorem rowAt_end {row : List α} {d : α} {s i : Nat} (hl : row.length = s) (hi : s <= i) : rowAt row d s i = row := by
 unfold rowAt; rw [List.take_of_length_le (by omega),Nat.sub_eq_zero_of_le hi]; simp
theorem rowAt_set {row : List α} {d q : α} {s i : Nat} (hl : row.length = s) (hi : i < s) (hq : q = row.getD i d) : (rowAt row d s i).set i q = rowAt row d s (i + 1) := by
 subst hq
 unfold rowAt
 apply List.ext_getElem?
 intro j
 have hmin : min i row.length = i := Nat.min_eq_left (by omega)
 rw [List.getElem?_set]
 by_cases hj : i = j
 · subst hj
   rw [if_pos rfl,if_pos (by simp; omega),List.getElem?_append_left (by simp; omega),List.getElem?_take,if_pos (by omega),List.getD_eq_getElem?_getD,List.getElem?_eq_getElem (by omega)]; rfl
 · rw [if_neg hj]
   by_cases hlt : j < i
   · rw [List.getElem?_append_left (by simp; omega),List.getElem?_append_left (by simp; omega),List.getElem?_take,List.getElem?_take,if_pos hlt,if_pos (by omega)]
   · rw [List.getElem?_append_right (by simp; omega),List.getElem?_append_right (by simp; omega)]
     simp only [List.length_take,hmin,Nat.min_eq_left (show i + 1 <= row.length by omega),List.getElem?_replicate]
     by_cases hs : j < s
     · rw [if_pos (by omega),if_pos (by omega)]
     · rw [if_neg (by omega),if_neg (by omega)]
end
section rules
variable  {n : Nat}   
end rules
def sayT (t : Tr) (i k : Nat) : Rat := ((t.m.say.getD i []).getD (t.o.getD k 0).toNat fr0).rat
def moveT (t : Tr) (i j : Nat) : Rat := ((t.m.move.getD i []).getD j fr0).rat
def fwd (t : Tr) : Nat -> List Rat
 | 0 => (List.range t.m.start.length).map fun i => (t.m.start.getD i fr0).rat * sayT t i 0
 | k + 1 => (List.range t.m.start.length).map fun i => sayT t i (k + 1) * sumTo (fun j => (fwd t k).getD j 0 * moveT t j i) t.m.start.length
def bwd (t : Tr) : Nat -> List Rat
 | 0 => (List.range t.m.start.length).map fun i => (t.m.fin.getD i fr0).rat
 | k + 1 => (List.range t.m.start.length).map fun i => sumTo (fun j => moveT t i j * sayT t j (t.o.length - 1 - k) * (bwd t k).getD j 0) t.m.start.length
def fwdAll (t : Tr) : List (List Rat) := (List.range t.o.length).map (fwd t)
def bwdAll (t : Tr) : List (List Rat) := (List.range t.o.length).map fun p => bwd t (t.o.length - 1 - p)
theorem range_getD {α : Type} (f : Nat -> α) (d : α) {n i : Nat} (hi : i < n) : ((List.range n).map f).getD i d = f i := by
 rw [List.getD_eq_getElem?_getD,List.getElem?_map,List.getElem?_range hi]; rfl
theorem fwd_len (t : Tr) (k : Nat) : (fwd t k).length = t.m.start.length := by cases k <;> simp [fwd]
theorem bwd_len (t : Tr) (k : Nat) : (bwd t k).length = t.m.start.length := by cases k <;> simp [bwd]
theorem fwd_zero {t : Tr} {i : Nat} (hi : i < t.m.start.length) : (t.m.start.getD i fr0).rat * sayT t i 0 = (fwd t 0).getD i 0 := by rw [fwd,range_getD _ _ hi]
theorem fwd_succ {t : Tr} {i k : Nat} (hi : i < t.m.start.length) : sayT t i (k + 1) * sumTo (fun j => (fwd t k).getD j 0 * moveT t j i) t.m.start.length = (fwd t (k + 1)).getD i 0 := by rw [fwd,range_getD _ _ hi]
theorem bwd_zero {t : Tr} {i : Nat} (hi : i < t.m.start.length) : (t.m.fin.getD i fr0).rat = (bwd t 0).getD i 0 := by rw [bwd,range_getD _ _ hi]
theorem bwd_succ {t : Tr} {i k : Nat} (hi : i < t.m.start.length) : sumTo (fun j => moveT t i j * sayT t j (t.o.length - 1 - k) * (bwd t k).getD j 0) t.m.start.length = (bwd t (k + 1)).getD i 0 := by rw [bwd,range_getD _ _ hi]
structure TOk (t : Tr) : Prop where
 s1 : 1 <= t.m.start.length
 s40 : t.m.start.length <= 40
 n : t.o.length <= 1000
 mv : t.m.move.length = t.m.start.length
 mvi : ∀ i,i < t.m.start.length -> (t.m.move.getD i []).length = t.m.start.length
 fin : t.m.fin.length = t.m.start.length
 say : t.m.say.length = t.m.start.length
 sayi : ∀ i k,i < t.m.start.length -> k < t.o.length -> 0 <= t.o.getD k 0 /\ (t.o.getD k 0).toNat < (t.m.say.getD i []).length
def FwB (t : Tr) : Prop := ∀ k i,k < t.o.length -> bq ((fwd t k).getD i 0) <= 300000
def BwB (t : Tr) : Prop := ∀ k i,k < t.o.length -> bq ((bwd t k).getD i 0) <= 300000
theorem MdB.mvb {K : Nat} {m : Md} (b : MdB K m) (i j : Nat) : bf ((m.move.getD i []).getD j fr0) <= K + 1 := Nat.le_trans (bf_getD _ _) (Nat.succ_le_succ (b.mv i))
theorem MdB.syb {K : Nat} {m : Md} (b : MdB K m) (i j : Nat) : bf ((m.say.getD i []).getD j fr0) <= K + 1 := Nat.le_trans (bf_getD _ _) (Nat.succ_le_succ (b.sy i))
theorem MdB.fb {K : Nat} {m : Md} (b : MdB K m) (j : Nat) : bf (m.fin.getD j fr0) <= K + 1 := Nat.le_trans (bf_getD _ _) (Nat.succ_le_succ b.fin)
theorem MdB.sb {K : Nat} {m : Md} (b : MdB K m) (j : Nat) : bf (m.start.getD j fr0) <= K + 1 := Nat.le_trans (bf_getD _ _) (Nat.succ_le_succ b.start)
structure TW (t : Tr) : Prop where
 mv : ∀ i j,bq (moveT t i j) <= 100001
 sy : ∀ i k,bq (sayT t i k) <= 100001
theorem bq_f2 {t : Tr} (tw : TW t) {p : List Rat} (hp : ∀ j,bq (p.getD j 0) <= 300000) (i c : Nat) : bq (p.getD i 0 * moveT t i c) <= 500000 := by
 have := bq_mul (p.getD i 0) (moveT t i c); have := hp i; have := tw.mv i c; omega
theorem bq_b3 {t : Tr} (tw : TW t) {p : List Rat} (hp : ∀ j,bq (p.getD j 0) <= 300000) (c i k : Nat) : bq (moveT t c i * sayT t i k * p.getD i 0) <= 600000 := by
 have := bq_mul (moveT t c i * sayT t i k) (p.getD i 0); have := bq_mul (moveT t c i) (sayT t i k); have := hp i; have := tw.mv c i; have := tw.sy i k; omega
theorem bq_sumF' {t : Tr} (ok : TOk t) (tw : TW t) {p : List Rat} (hp : ∀ j,bq (p.getD j 0) <= 300000) (c : Nat) : bq (sumTo (fun j => p.getD j 0 * moveT t j c) t.m.start.length) <= 30000000 := by
 have := bq_sumTo (q := fun j => p.getD j 0 * moveT t j c) (B := 500000) t.m.start.length (fun i _ => bq_f2 tw hp i c)
 have := ok.s40; omega
theorem bq_sumB {t : Tr} (ok : TOk t) (tw : TW t) {p : List Rat} (hp : ∀ j,bq (p.getD j 0) <= 300000) (c k : Nat) : bq (sumTo (fun j => moveT t c j * sayT t j k * p.getD j 0) t.m.start.length) <= 30000000 := by
 have := bq_sumTo (q := fun j => moveT t c j * sayT t j k * p.getD j 0) (B := 600000) t.m.start.length (fun i _ => bq_b3 tw hp c i k)
 have := ok.s40; omega
theorem fwd_z {t : Tr} {i k : Nat} (h0 : k = 0) (hi : i < t.m.start.length) : (t.m.start.getD i fr0).rat * ((t.m.say.getD i []).getD (t.o.getD k 0).toNat fr0).rat = (fwd t k).getD i 0 := by subst h0; exact fwd_zero hi
theorem fwd_s {t : Tr} {i k : Nat} (h0 : 1 <= k) (hi : i < t.m.start.length) : ((t.m.say.getD i []).getD (t.o.getD k 0).toNat fr0).rat * sumTo (fun j => (fwd t (k - 1)).getD j 0 * moveT t j i) t.m.start.length = (fwd t k).getD i 0 := by
 obtain ⟨k,rfl⟩ : ∃ k',k = k' + 1 := ⟨k - 1,by omega⟩
 exact fwd_succ hi
theorem bwd_z {t : Tr} {i k : Nat} (h0 : k = 0) (hi : i < t.m.start.length) : (t.m.fin.getD i fr0).rat = (bwd t k).getD i 0 := by subst h0; exact bwd_zero hi
theorem bwd_s {t : Tr} {i k : Nat} (h0 : 1 <= k) (hk : k < t.o.length) (hi : i < t.m.start.length) : sumTo (fun j => moveT t i j * sayT t j (t.o.length - 1 - k + 1) * (bwd t (k - 1)).getD j 0) t.m.start.length = (bwd t k).getD i 0 := by
 obtain ⟨k,rfl⟩ : ∃ k',k = k' + 1 := ⟨k - 1,by omega⟩
 rw [show t.o.length - 1 - (k + 1) + 1 = t.o.length - 1 - k by omega]
 exact bwd_succ hi
theorem prodF3 (a b c : Fr) : prodF [a,b,c] = a.rat * b.rat * c.rat := by show 1 * a.rat * b.rat * c.rat = _; rw [Rat.one_mul]
theorem prodF4 (a b c d : Fr) : prodF [a,b,c,d] = a.rat * b.rat * c.rat * d.rat := by show 1 * a.rat * b.rat * c.rat * d.rat = _; rw [Rat.one_mul]
end Go.Ear
namespace Go.Ear
section dag
variable  {n : Nat} {ops : Array Oper} {σ : Nat -> Nat} {m : Nat}     
end dag
end Go.Ear
namespace Go.Ear
theorem checkE_TOk {m : Md} {o : List Int} (h : checkE [m] [o] = 0) : TOk ⟨m,o⟩ := by
 have h1 : longM m = false /\ longO o = false /\ validM m = true /\ heardM [m] o = false := by
  unfold checkE at h
  split at h
  · cases h
  · rename_i c1
    split at h
    · cases h
    · rename_i c2
      split at h
      · cases h
      · rename_i c3
        simp only [List.any_cons,List.any_nil,Bool.or_false,List.length_cons,List.length_nil,Bool.or_eq_true,decide_eq_true_eq,not_or,Bool.not_eq_true] at c1 c2 c3
        unfold notV at c2
        exact ⟨c1.1.1,c1.2,by simpa using c2,c3⟩
 obtain ⟨a,b,c,d⟩ := h1
 have hl := valid_len c
 unfold longM at a
 unfold longO at b
 simp only [Bool.or_eq_false_iff,decide_eq_false_iff_not] at a b
 refine ⟨hl.1,by show m.start.length <= 40; omega,by show o.length <= 1000; omega,hl.2.2.1,fun i hi => (valid_row c hi).1,hl.2.1,hl.2.2.2, ?_⟩
 intro i k hi hk
 unfold heardM at d
 have := not_any_at 0 hk (by rw [d]; exact Bool.false_ne_true)
 unfold offS at this
 simp only [Bool.or_eq_false_iff,decide_eq_false_iff_not] at this
 have h2 := (valid_row c hi).2.1
 unfold symb at h2
 have e : ((List.getD [m] 0 md0).say.getD 0 []) = m.say.getD 0 [] := rfl
 rw [e] at this
 show 0 <= o.getD k 0 /\ (o.getD k 0).toNat < (m.say.getD i []).length
 omega
def likM (m : Md) (o : List Int) : Rat := if checkE [m] [o] = 0 then likT ⟨m,o⟩ (fwdAll ⟨m,o⟩) else 0
theorem fwdAll_len (t : Tr) : (fwdAll t).length = t.o.length := by simp [fwdAll]
theorem bwdAll_len (t : Tr) : (bwdAll t).length = t.o.length := by simp [bwdAll]
theorem fwdAll_at {t : Tr} {k : Nat} (h : k < t.o.length) : (fwdAll t).getD k [] = fwd t k := range_getD _ _ h
theorem bwdAll_at {t : Tr} {k : Nat} (h : k < t.o.length) : (bwdAll t).getD k [] = bwd t (t.o.length - 1 - k) := range_getD (fun p => bwd t (t.o.length - 1 - p)) _ h
theorem lik_len (t : Tr) : (fwdAll t).length = 0 \/ ((fwdAll t).getD ((fwdAll t).length - 1) []).length = t.m.start.length := by
 rw [fwdAll_len]
 by_cases h : t.o.length = 0
 · exact .inl h
 · right; rw [fwdAll_at (by omega),fwd_len]
theorem lik_bd {t : Tr} (fb : FwB t) (mb : MdB 100000 t.m) (i : Nat) : bq (((fwdAll t).getD ((fwdAll t).length - 1) []).getD i 0) + bf (t.m.fin.getD i fr0) <= 400001 := by
 have := mb.fb i
 by_cases h : t.o.length = 0
 · have e : fwdAll t = [] := by unfold fwdAll; rw [h]; rfl
   rw [e]
   have hz := bq_zero
   show bq (([] : List Rat).getD i 0) + _ <= _
   rw [show ([] : List Rat).getD i 0 = 0 from rfl]
   omega
 · rw [fwdAll_len,fwdAll_at (by omega)]
   have := fb (t.o.length - 1) i (by omega)
   omega
def argN (q : Nat -> Rat) : Nat -> Nat
 | 0 => 0
 | k + 1 => if q (argN q k) < q k then k else argN q k
theorem argN_t {q : Nat -> Rat} {i : Nat} (h : q (argN q i) < q i) : argN q (i + 1) = i := by rw [argN]; exact if_pos h
theorem argN_f {q : Nat -> Rat} {i : Nat} (h : ¬ q (argN q i) < q i) : argN q (i + 1) = argN q i := by rw [argN]; exact if_neg h
theorem argN_one (q : Nat -> Rat) : argN q 1 = 0 := by
 rw [argN]; split <;> rfl
theorem argN_lt {q : Nat -> Rat} : ∀ {k : Nat},1 <= k -> argN q k < k
 | k + 1,_ => by
   rw [argN]
   split
   · omega
   · cases k with
     | zero => exact Nat.zero_lt_one
     | succ k => have := argN_lt (q := q) (k := k + 1) (by omega); omega
def rq (t : Tr) (p : List Fr) (i k : Nat) : Nat -> Rat := fun j => moveT t i j * sayT t j k * (p.getD j fr0).rat
section
variable {m : Md} {o : List Int}
end
end Go.Ear
namespace Go.Ear
section late
variable  {n : Nat} {ops : Array Oper} {σ : Nat -> Nat} {m : Nat}     {late : Nat -> Bool}
end late
end Go.Ear
namespace Go.Ear
section
variable {α : Type}  {lo b n wd x : Nat}    {rows : List (List α)} 
end
section
variable {α : Type} {lo b n x : Nat}   
section
variable {b1 b2 b3 b4 k : Nat} {l1 l3 : List Rat} {m2 m4 : List (List Rat)}
end
end
end Go.Ear
namespace Go.Ear
section
variable {α : Type}
theorem getD_set_is {l : List α} {i : Nat} {x d : α} (hi : i < l.length) : (l.set i x).getD i d = x := by
 rw [List.getD_eq_getElem?_getD,List.getElem?_set,if_pos rfl,if_pos hi]; rfl
theorem getD_set_ne' {l : List α} {i j : Nat} {x d : α} (h : i ≠ j) : (l.set i x).getD j d = l.getD j d := by
 rw [List.getD_eq_getElem?_getD,List.getElem?_set,if_neg h, <- List.getD_eq_getElem?_getD]
theorem set_getD {l : List α} {i : Nat} {d : α} : l.set i (l.getD i d) = l := by
 apply List.ext_getElem?
 intro j
 rw [List.getElem?_set]
 by_cases h : i = j
 · subst h
   rw [if_pos rfl]
   split
   · rename_i h; rw [List.getD_eq_getElem?_getD,List.getElem?_eq_getElem h]; rfl
   · rename_i h; rw [List.getElem?_eq_none (by omega)]
 · rw [if_neg h]
theorem set_row2 {X : List (List α)} {r : List α} {i j : Nat} {q : α} (hi : i < X.length) : (X.set i r).set i (((X.set i r).getD i []).set j q) = X.set i (r.set j q) := by
 rw [getD_set_is hi,List.set_set]
theorem rep_getD {x d : α} {k j : Nat} (hj : j < k) : x = (List.replicate k x).getD j d := by
 rw [List.getD_eq_getElem?_getD,List.getElem?_replicate,if_pos hj]; rfl
end
def mdK (s : List Rat) (m : List (List Rat)) (f : List Rat) (y : List (List Rat)) : Md := ⟨s.map frK,m.map (·.map frK),f.map frK,y.map (·.map frK)⟩
def halfQ : Rat := (((1 : Nat) : Int) : Rat) / (((2 : Nat) : Int) : Rat)
def eachQ (k : Nat) : Rat := (((1 : Nat) : Int) : Rat) / (((k : Nat) : Int) : Rat)
def leftS (n : Nat) : List Rat := (List.replicate n 0).set 0 ((((1 : Nat) : Int) : Rat))
def leftF (n : Nat) : List Rat := (List.replicate n 0).set (n - 1) halfQ
def leftRow (n i : Nat) : List Rat := if i + 1 < n then ((List.replicate n (0 : Rat)).set i halfQ).set (i + 1) halfQ else (List.replicate n 0).set i halfQ
def leftMv (n : Nat) : List (List Rat) := (List.range n).map (leftRow n)
def leftY (n k : Nat) : List (List Rat) := List.replicate n (List.replicate k (eachQ k))
def leftMd (n k : Nat) : Md := mdK (leftS n) (leftMv n) (leftF n) (leftY n k)
def leftE (a b : Int) : Int := if a < 1 \/ 40 < a \/ b < 1 \/ 64 < b then 2 else 0
def leftR (a b : Int) : Md := if leftE a b = 0 then leftMd a.toNat b.toNat else md0
end Go.Ear
namespace Go.Ear
section
variable {M M2 : Nat -> Prop}   {b : Nat} 
end
section
variable  {n : Nat}    {d : Tmp}  {pos : String} {af : Array Edge} {g : Option (Nat × Bool)} {M : Nat -> Prop}
end
section dag
variable  {n : Nat} {ops : Array Oper} {σ : Nat -> Nat} {m : Nat}    {c : Nat}
end dag
end Go.Ear
namespace Go.Ear
section
variable {α : Type}
def upTo (r l : List α) (i : Nat) : List α := r.take i ++ l.drop i
theorem upTo_zero (r l : List α) : upTo r l 0 = l := by simp [upTo]
theorem upTo_len {r l : List α} {i : Nat} (h : r.length = l.length) : (upTo r l i).length = l.length := by unfold upTo; simp; omega
theorem upTo_get {r l : List α} {i : Nat} {d : α} (h : r.length = l.length) (hi : i < l.length) : (upTo r l i).getD i d = l.getD i d := by
 unfold upTo
 rw [List.getD_eq_getElem?_getD,List.getElem?_append_right (by simp; omega),List.getD_eq_getElem?_getD]
 simp only [List.length_take,Nat.min_eq_left (show i <= r.length by omega),Nat.sub_self,List.getElem?_drop,Nat.add_zero]
theorem upTo_end {r l : List α} {i : Nat} (h : r.length = l.length) (hi : l.length <= i) : upTo r l i = r := by
 unfold upTo; rw [List.take_of_length_le (by omega),List.drop_of_length_le hi,List.append_nil]
theorem upTo_set {r l : List α} {i : Nat} {d q : α} (h : r.length = l.length) (hi : i < l.length) (hq : q = r.getD i d) : (upTo r l i).set i q = upTo r l (i + 1) := by
 subst hq
 unfold upTo
 apply List.ext_getElem?
 intro j
 have hmin : min i r.length = i := Nat.min_eq_left (by omega)
 rw [List.getElem?_set]
 by_cases hj : i = j
 · subst hj
   rw [if_pos rfl,if_pos (by simp; omega),List.getElem?_append_left (by simp; omega),List.getElem?_take,if_pos (by omega),List.getD_eq_getElem?_getD,List.getElem?_eq_getElem (by omega)]; rfl
 · rw [if_neg hj]
   by_cases hlt : j < i
   · rw [List.getElem?_append_left (by simp; omega),List.getElem?_append_left (by simp; omega),List.getElem?_take,List.getElem?_take,if_pos hlt,if_pos (by omega)]
   · rw [List.getElem?_append_right (by simp; omega),List.getElem?_append_right (by simp; omega)]
     simp only [List.length_take,hmin,Nat.min_eq_left (show i + 1 <= r.length by omega),List.getElem?_drop]
     congr 1; omega
end
def addR (a b : List Rat) : List Rat := (List.range a.length).map fun i => a.getD i 0 + b.getD i 0
theorem addR_len (a b : List Rat) : (addR a b).length = a.length := by simp [addR]
theorem addR_at {a b : List Rat} {i : Nat} (hi : i < a.length) : a.getD i 0 + b.getD i 0 = (addR a b).getD i 0 := by rw [addR,range_getD _ _ hi]
def addM (a b : List (List Rat)) : List (List Rat) := (List.range a.length).map fun i => addR (a.getD i []) (b.getD i [])
theorem addM_len (a b : List (List Rat)) : (addM a b).length = a.length := by simp [addM]
theorem addM_at {a b : List (List Rat)} {i : Nat} (hi : i < a.length) : addR (a.getD i []) (b.getD i []) = (addM a b).getD i [] := by rw [addM,range_getD _ _ hi]
section
variable {α : Type}  {lo b n wd x : Nat}    {rows : List (List α)} {M : Nat -> Prop}
end
end Go.Ear
namespace Go.Ear
section
variable {b bm n x b2 n2 : Nat}
end
structure Ct where
 start : List Rat
 move : List (List Rat)
 fin : List Rat
 say : List (List Rat)
 used : Int
 unused : Int
 tot : Rat
end Go.Ear
namespace Go.Ear
theorem zero_div_rat (q : Rat) : (0 : Rat) / q = 0 := by rw [Rat.div_def,Rat.zero_mul]
def lk (t : Tr) : Rat := likT t (fwdAll t)
def pS (t : Tr) (i : Nat) : Rat := (fwd t 0).getD i 0 * (bwd t (t.o.length - 1)).getD i 0 / lk t
def pE (t : Tr) (i : Nat) : Rat := (fwd t (t.o.length - 1)).getD i 0 * (t.m.fin.getD i fr0).rat / lk t
def pY (t : Tr) (i k : Nat) : Rat := (fwd t k).getD i 0 * (bwd t (t.o.length - 1 - k)).getD i 0 / lk t
def wM (t : Tr) (i k j : Nat) : Rat := (fwd t k).getD i 0 * moveT t i j * sayT t j (k + 1) * (bwd t (t.o.length - 1 - (k + 1))).getD j 0
def pM (t : Tr) (i k j : Nat) : Rat := wM t i k j / lk t
def cntS (t : Tr) : List Rat := (List.range t.m.start.length).map (pS t)
def cntE (t : Tr) : List Rat := (List.range t.m.start.length).map (pE t)
def sayRow (t : Tr) (i : Nat) : Nat -> List Rat
 | 0 => List.replicate (symb t.m) 0
 | k + 1 => (sayRow t i k).set (t.o.getD k 0).toNat ((sayRow t i k).getD (t.o.getD k 0).toNat 0 + pY t i k)
def mvRow (t : Tr) (i : Nat) : Nat -> List Rat
 | 0 => List.replicate t.m.start.length 0
 | k + 1 => (List.range t.m.start.length).map fun j => (mvRow t i k).getD j 0 + pM t i k j
def cntM (t : Tr) : List (List Rat) := (List.range t.m.start.length).map fun i => mvRow t i (t.o.length - 1)
def cntY (t : Tr) : List (List Rat) := (List.range t.m.start.length).map fun i => sayRow t i t.o.length
def cntT (t : Tr) : Ct := ⟨cntS t,cntM t,cntE t,cntY t,0,0,lk t⟩
theorem sayRow_len (t : Tr) (i : Nat) : ∀ k,(sayRow t i k).length = symb t.m
 | 0 => by simp [sayRow]
 | k + 1 => by rw [sayRow,List.length_set]; exact sayRow_len t i k
theorem mvRow_len (t : Tr) (i k : Nat) : (mvRow t i k).length = t.m.start.length := by cases k <;> simp [mvRow]
theorem cntS_len (t : Tr) : (cntS t).length = t.m.start.length := by simp [cntS]
theorem cntE_len (t : Tr) : (cntE t).length = t.m.start.length := by simp [cntE]
theorem cntM_len (t : Tr) : (cntM t).length = t.m.start.length := by simp [cntM]
theorem cntY_len (t : Tr) : (cntY t).length = t.m.start.length := by simp [cntY]
theorem mvRow_at {t : Tr} {i k j : Nat} (hj : j < t.m.start.length) : (mvRow t i k).getD j 0 + pM t i k j = (mvRow t i (k + 1)).getD j 0 := by rw [mvRow,range_getD _ _ hj]
structure CnB (t : Tr) : Prop where
 l : bq (lk t) <= 60000000
 y : ∀ i k x,k <= t.o.length -> bq ((sayRow t i k).getD x 0) <= 60000000
 m : ∀ i k x,k <= t.o.length -> bq ((mvRow t i k).getD x 0) <= 60000000
 pY : ∀ i k,k < t.o.length -> bq (pY t i k) <= 60000000
 pM : ∀ i k j,k < t.o.length -> bq (pM t i k j) <= 60000000
theorem FwB.all {t : Tr} (b : FwB t) (k i : Nat) : bq (((fwdAll t).getD k []).getD i 0) <= 300000 := by
 by_cases h : k < t.o.length
 · rw [fwdAll_at h]; exact b k i h
 · have e : (fwdAll t).getD k [] = [] := by rw [List.getD_eq_getElem?_getD,List.getElem?_eq_none (by rw [fwdAll_len]; omega)]; rfl
   have := bq_zero
   rw [e,show ([] : List Rat).getD i 0 = 0 from rfl]; omega
theorem BwB.all {t : Tr} (b : BwB t) (k i : Nat) : bq (((bwdAll t).getD k []).getD i 0) <= 300000 := by
 by_cases h : k < t.o.length
 · rw [bwdAll_at h]; exact b _ i (by omega)
 · have e : (bwdAll t).getD k [] = [] := by rw [List.getD_eq_getElem?_getD,List.getElem?_eq_none (by rw [bwdAll_len]; omega)]; rfl
   have := bq_zero
   rw [e,show ([] : List Rat).getD i 0 = 0 from rfl]; omega
theorem lk_pos {t : Tr} (h : lk t ≠ 0) : 0 < t.o.length := by
 cases hn : t.o.length with
 | zero => exact absurd (by unfold lk likT; rw [if_pos (by rw [fwdAll_len,hn])]) h
 | succ n => omega
theorem pS_eq {t : Tr} {i : Nat} (h : 0 < t.o.length) : ((fwdAll t).getD 0 []).getD i 0 * ((bwdAll t).getD 0 []).getD i 0 / lk t = pS t i := by rw [fwdAll_at h,bwdAll_at h]; rfl
theorem pE_eq {t : Tr} {i : Nat} (h : 0 < t.o.length) : ((fwdAll t).getD (t.o.length - 1) []).getD i 0 * (t.m.fin.getD i fr0).rat / lk t = pE t i := by rw [fwdAll_at (by omega)]; rfl
theorem pY_eq {t : Tr} {i k : Nat} (h : k < t.o.length) : ((fwdAll t).getD k []).getD i 0 * ((bwdAll t).getD k []).getD i 0 / lk t = pY t i k := by rw [fwdAll_at h,bwdAll_at h]; rfl
theorem wM_eq {t : Tr} {i k j : Nat} (h : k + 1 < t.o.length) : prodF [frK (((fwdAll t).getD k []).getD i 0),(t.m.move.getD i []).getD j fr0,(t.m.say.getD j []).getD (t.o.getD (k + 1) 0).toNat fr0,frK (((bwdAll t).getD (k + 1) []).getD j 0)] = wM t i k j := by
 rw [prodF4,frK_rat,frK_rat,fwdAll_at (by omega),bwdAll_at h]; rfl
theorem wM_bd {t : Tr} (tw : TW t) (fb : FwB t) (bb : BwB t) (i j : Nat) {k : Nat} (h : k + 1 < t.o.length) : bq (wM t i k j) <= 1000000 := by
 unfold wM
 have := bq_mul ((fwd t k).getD i 0 * moveT t i j * sayT t j (k + 1)) ((bwd t (t.o.length - 1 - (k + 1))).getD j 0)
 have := bq_mul ((fwd t k).getD i 0 * moveT t i j) (sayT t j (k + 1))
 have := bq_mul ((fwd t k).getD i 0) (moveT t i j)
 have := fb k i (by omega); have := bb (t.o.length - 1 - (k + 1)) j (by omega); have := tw.mv i j; have := tw.sy j (k + 1)
 omega
theorem TOk.sy0 {t : Tr} (ok : TOk t) {k : Nat} (h : k < t.o.length) : 0 <= t.o.getD k 0 /\ (t.o.getD k 0).toNat < symb t.m := ok.sayi 0 k ok.s1 h
theorem fwdRow_len {t : Tr} {k : Nat} (h : k < t.o.length) : ((fwdAll t).getD k []).length = t.m.start.length := by rw [fwdAll_at h]; exact fwd_len t k
theorem bwdRow_len {t : Tr} {k : Nat} (h : k < t.o.length) : ((bwdAll t).getD k []).length = t.m.start.length := by rw [bwdAll_at h]; exact bwd_len t _
end Go.Ear
namespace Go.Ear
def ctZ (s k : Nat) : Ct := ⟨List.replicate s 0,List.replicate s (List.replicate s 0),List.replicate s 0,List.replicate s (List.replicate k 0),0,0,0⟩
def trK (m : Md) (data : List (List Int)) (k : Nat) : Tr := ⟨m,data.getD k []⟩
def allT (m : Md) (data : List (List Int)) : Nat -> Ct
 | 0 => ctZ m.start.length (symb m)
 | k + 1 => let c := allT m data k; let d := cntT (trK m data k)
   if lk (trK m data k) = 0 then { c with unused := c.unused + 1 } else ⟨addR c.start d.start,addM c.move d.move,addR c.fin d.fin,addM c.say d.say,c.used + 1,c.unused,0⟩
section
variable {m : Md} {data : List (List Int)} {k : Nat}
theorem allT_t (h : lk (trK m data k) = 0) : allT m data (k + 1) = { allT m data k with unused := (allT m data k).unused + 1 } := by rw [allT]; exact if_pos h
theorem allT_f (h : ¬ lk (trK m data k) = 0) : allT m data (k + 1) = ⟨addR (allT m data k).start (cntT (trK m data k)).start,addM (allT m data k).move (cntT (trK m data k)).move,addR (allT m data k).fin (cntT (trK m data k)).fin,addM (allT m data k).say (cntT (trK m data k)).say,(allT m data k).used + 1,(allT m data k).unused,0⟩ := by rw [allT]; exact if_neg h
theorem allT_len (m : Md) (data : List (List Int)) : ∀ k,(allT m data k).start.length = m.start.length /\ (allT m data k).fin.length = m.start.length /\ (allT m data k).move.length = m.start.length /\ (allT m data k).say.length = m.start.length /\ (allT m data k).tot = 0
 | 0 => by simp [allT,ctZ]
 | k + 1 => by
   have ih := allT_len m data k
   by_cases h : lk (trK m data k) = 0
   · rw [allT_t h]; exact ih
   · rw [allT_f h]; exact ⟨by rw [addR_len]; exact ih.1,by rw [addR_len]; exact ih.2.1,by rw [addM_len]; exact ih.2.2.1,by rw [addM_len]; exact ih.2.2.2.1,rfl⟩
end
theorem cntM_row {t : Tr} {i : Nat} (hi : i < t.m.start.length) : ((cntM t).getD i []).length = t.m.start.length := by rw [cntM,range_getD _ _ hi]; exact mvRow_len t i _
theorem cntY_row {t : Tr} {i : Nat} (hi : i < t.m.start.length) : ((cntY t).getD i []).length = symb t.m := by rw [cntY,range_getD _ _ hi]; exact sayRow_len t i _
structure DOk (m : Md) (data : List (List Int)) : Prop where
 n : data.length <= 200
 mb : MdB 100000 m
 s : m.start.length <= 1048576
 y : symb m <= 1048576 /\ 0 < m.say.length
 tok : ∀ k,k < data.length -> TOk (trK m data k)
 fw : ∀ k,k < data.length -> FwB (trK m data k)
 bw : ∀ k,k < data.length -> BwB (trK m data k)
 cn : ∀ k,k < data.length -> CnB (trK m data k)
 a1 : ∀ k i,k < data.length -> bq ((allT m data k).start.getD i 0) + bq ((cntT (trK m data k)).start.getD i 0) <= 134217000
 a2 : ∀ k i,k < data.length -> bq ((allT m data k).fin.getD i 0) + bq ((cntT (trK m data k)).fin.getD i 0) <= 134217000
 a3 : ∀ k i j,k < data.length -> bq (((allT m data k).move.getD i []).getD j 0) + bq (((cntT (trK m data k)).move.getD i []).getD j 0) <= 134217000
 a4 : ∀ k i j,k < data.length -> bq (((allT m data k).say.getD i []).getD j 0) + bq (((cntT (trK m data k)).say.getD i []).getD j 0) <= 134217000
def cntD (m : Md) (data : List (List Int)) : Ct := allT m data data.length
end Go.Ear
namespace Go.Ear
end Go.Ear
namespace Go.Ear
section
variable {ms : List Md}
end
section
variable {ws : List Fr} {ms : List Md}
end
end Go.Ear
namespace Go.Ear
structure MdW (W : Nat) (m : Md) : Prop where
 st : ∀ i,bq (m.start.getD i fr0).rat <= W
 mv : ∀ i j,bq ((m.move.getD i []).getD j fr0).rat <= W
 fi : ∀ i,bq (m.fin.getD i fr0).rat <= W
 sy : ∀ i j,bq ((m.say.getD i []).getD j fr0).rat <= W
def fB (S W : Nat) : Nat -> Nat
 | 0 => 2 * W
 | k + 1 => W + (1 + S * (fB S W k + W + 1))
theorem out_bq {l : List Rat} {i : Nat} (h : l.length <= i) : bq (l.getD i 0) = 1 := by
 rw [List.getD_eq_getElem?_getD,List.getElem?_eq_none h]; exact bq_zero
theorem fwd_bq {t : Tr} {S W : Nat} (h : MdW W t.m) (hs : t.m.start.length <= S) (hW : 1 <= W) : ∀ k i,bq ((fwd t k).getD i 0) <= fB S W k
 | 0,i => by
   by_cases hi : i < t.m.start.length
   · rw [<- fwd_zero hi]
     have := bq_mul (t.m.start.getD i fr0).rat (sayT t i 0); have := h.st i; have := h.sy i (t.o.getD 0 0).toNat
     unfold sayT at *; show _ <= 2 * W; omega
   · rw [out_bq (by rw [fwd_len]; omega)]; show 1 <= 2 * W; omega
 | k + 1,i => by
   by_cases hi : i < t.m.start.length
   · rw [<- fwd_succ hi]
     have h1 := bq_mul (sayT t i (k + 1)) (sumTo (fun j => (fwd t k).getD j 0 * moveT t j i) t.m.start.length)
     have h2 : bq (sayT t i (k + 1)) <= W := h.sy i _
     have h3 := bq_sumTo (q := fun j => (fwd t k).getD j 0 * moveT t j i) (B := fB S W k + W) t.m.start.length (fun j _ => by
      have := bq_mul ((fwd t k).getD j 0) (moveT t j i); have := fwd_bq h hs hW k j; have : bq (moveT t j i) <= W := h.mv j i
      show bq ((fwd t k).getD j 0 * moveT t j i) <= _; omega)
     have h4 := Nat.mul_le_mul_right (fB S W k + W + 1) hs
     show _ <= W + (1 + S * (fB S W k + W + 1)); omega
   · rw [out_bq (by rw [fwd_len]; omega)]; show 1 <= W + (1 + _); omega
theorem fB_mono {S W : Nat} (hS : 1 <= S) : ∀ {a b : Nat},a <= b -> fB S W a <= fB S W b
 | a,0,h => by rw [show a = 0 by omega]; exact Nat.le_refl _
 | a,b + 1,h => by
   by_cases e : a = b + 1
   · subst e; exact Nat.le_refl _
   · have := fB_mono hS (W := W) (a := a) (b := b) (by omega)
     have h2 := Nat.mul_le_mul_right (fB S W b + W + 1) hS
     show _ <= W + (1 + S * (fB S W b + W + 1)); omega
section
variable {t : Tr} {S W N : Nat} (h : MdW W t.m) (hs : t.m.start.length <= S) (hW : 1 <= W) (hS : 1 <= S) (hn : t.o.length <= N + 1)
include h hs hW hS hn
theorem FwB.of (hb : fB S W N <= 300000) : FwB t := fun k i hk => Nat.le_trans (fwd_bq h hs hW k i) (Nat.le_trans (fB_mono hS (by omega)) hb)
theorem lk_bq : bq (lk t) <= 1 + S * (fB S W N + W + 1) := by
 unfold lk likT
 split
 · have := bq_zero; omega
 · rename_i hl
   rw [fwdAll_len] at hl
   have h3 := bq_sumTo (q := fun i => ((fwdAll t).getD ((fwdAll t).length - 1) []).getD i 0 * (t.m.fin.getD i fr0).rat) (B := fB S W N + W) t.m.start.length (fun i _ => by
    have h1 := bq_mul (((fwdAll t).getD ((fwdAll t).length - 1) []).getD i 0) (t.m.fin.getD i fr0).rat
    have h2 := h.fi i
    have h4 : bq (((fwdAll t).getD ((fwdAll t).length - 1) []).getD i 0) <= fB S W N := by
     rw [fwdAll_len,fwdAll_at (by omega)]; exact Nat.le_trans (fwd_bq h hs hW _ i) (fB_mono hS (by omega))
    show bq (((fwdAll t).getD ((fwdAll t).length - 1) []).getD i 0 * (t.m.fin.getD i fr0).rat) <= _; omega)
   have h4 := Nat.mul_le_mul_right (fB S W N + W + 1) hs
   omega
end
theorem checkE_one {m : Md} {data : List (List Int)} (h : checkE [m] data = 0) {o : List Int} (ho : o ∈ data) : checkE [m] [o] = 0 := by
 unfold checkE at h ⊢
 split at h
 · cases h
 · rename_i c1
   split at h
   · cases h
   · rename_i c2
     split at h
     · cases h
     · rename_i c3
       simp only [Bool.or_eq_true,not_or,Bool.not_eq_true] at c1 c2 c3
       have h1 := List.any_eq_false.1 c1.2 o ho; have h2 := List.any_eq_false.1 c3 o ho
       rw [if_neg (by simp only [Bool.or_eq_true,not_or,Bool.not_eq_true]; exact ⟨⟨c1.1.1,rfl⟩,by simp only [List.any_cons,List.any_nil,Bool.or_false]; simpa using h1⟩),if_neg (by simp only [Bool.not_eq_true]; exact c2),if_neg (by simp only [List.any_cons,List.any_nil,Bool.or_false]; exact h2)]
theorem checkE_n {m : Md} {data : List (List Int)} (h : checkE [m] data = 0) : data.length <= 200 /\ validM m = true /\ longM m = false := by
 unfold checkE at h
 split at h
 · cases h
 · rename_i c1
   split at h
   · cases h
   · rename_i c2
     simp only [Bool.or_eq_true,not_or,Bool.not_eq_true,decide_eq_false_iff_not,decide_eq_true_eq,List.any_cons,List.any_nil,Bool.or_false] at c1 c2
     refine ⟨by omega, ?_,c1.1.1⟩
     unfold notV at c2; simpa using c2
section
variable {t : Tr} {S W N : Nat} (h : MdW W t.m) (hs : t.m.start.length <= S) (hW : 1 <= W) (hS : 1 <= S) (hn : t.o.length <= N + 1)
include h hs hW hS hn
end
theorem rep_bq (n : Nat) (i : Nat) : bq ((List.replicate n (0 : Rat)).getD i 0) <= 1 := by
 have : (List.replicate n (0 : Rat)).getD i 0 = 0 := by rw [List.getD_eq_getElem?_getD,List.getElem?_replicate]; split <;> rfl
 rw [this,bq_zero]; exact Nat.le_refl _
section
variable {m : Md} {data : List (List Int)} {S W N D : Nat} (h : MdW W m) (hs : m.start.length <= S) (hW : 1 <= W) (hS : 1 <= S) (hn : ∀ o ∈ data,o.length <= N + 1)
include h hs hW hS hn
end
end Go.Ear
