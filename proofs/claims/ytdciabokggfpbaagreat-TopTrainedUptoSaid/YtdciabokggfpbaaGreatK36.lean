/- K36: a part of the proof about training through the decoder: how the program's functions run, and what they compute, for every input. -/
import Derived.Test.YtdciabokggfpbaaGreatK35
set_option linter.all false
set_option maxRecDepth 20000
namespace Go.E3
open Go Go.Ear Go.Proofs
theorem fwd_same {m v : Md} {o : List Int} (hs : v.start.length = m.start.length) (h1 : ∀ i,i < m.start.length -> (v.start.getD i fr0).rat = (m.start.getD i fr0).rat) (h2 : ∀ i j,i < m.start.length -> j < m.start.length -> ((v.move.getD i []).getD j fr0).rat = ((m.move.getD i []).getD j fr0).rat) (h4 : ∀ i x,i < m.start.length -> ((v.say.getD i []).getD x fr0).rat = ((m.say.getD i []).getD x fr0).rat) : ∀ k i,i < m.start.length -> (fwd ⟨v,o⟩ k).getD i 0 = (fwd ⟨m,o⟩ k).getD i 0
 | 0,i,hi => by
   rw [<- fwd_zero (t := ⟨m,o⟩) hi, <- fwd_zero (t := ⟨v,o⟩) (by show i < v.start.length; omega)]
   show (v.start.getD i fr0).rat * ((v.say.getD i []).getD _ fr0).rat = (m.start.getD i fr0).rat * ((m.say.getD i []).getD _ fr0).rat
   rw [h1 i hi,h4 i _ hi]
 | k + 1,i,hi => by
   rw [<- fwd_succ (t := ⟨m,o⟩) hi, <- fwd_succ (t := ⟨v,o⟩) (by show i < v.start.length; omega)]
   show ((v.say.getD i []).getD _ fr0).rat * sumTo (fun j => (fwd ⟨v,o⟩ k).getD j 0 * ((v.move.getD j []).getD i fr0).rat) v.start.length = ((m.say.getD i []).getD _ fr0).rat * sumTo (fun j => (fwd ⟨m,o⟩ k).getD j 0 * ((m.move.getD j []).getD i fr0).rat) m.start.length
   rw [h4 i _ hi,hs]
   congr 1
   exact sumTo_congr _ fun j hj => by rw [fwd_same hs h1 h2 h4 k j hj,h2 j i hj hi]
theorem lk_same {m v : Md} {o : List Int} (hs : v.start.length = m.start.length) (h1 : ∀ i,i < m.start.length -> (v.start.getD i fr0).rat = (m.start.getD i fr0).rat) (h2 : ∀ i j,i < m.start.length -> j < m.start.length -> ((v.move.getD i []).getD j fr0).rat = ((m.move.getD i []).getD j fr0).rat) (h3 : ∀ i,i < m.start.length -> (v.fin.getD i fr0).rat = (m.fin.getD i fr0).rat) (h4 : ∀ i x,i < m.start.length -> ((v.say.getD i []).getD x fr0).rat = ((m.say.getD i []).getD x fr0).rat) : lk ⟨v,o⟩ = lk ⟨m,o⟩ := by
 by_cases h0 : o.length = 0
 · rw [lk_zero (t := ⟨v,o⟩) h0,lk_zero (t := ⟨m,o⟩) h0]
 · rw [lk_fwd (t := ⟨m,o⟩) (by show 0 < o.length; omega),lk_fwd (t := ⟨v,o⟩) (by show 0 < o.length; omega)]
   show sumTo (fun i => (fwd ⟨v,o⟩ (o.length - 1)).getD i 0 * (v.fin.getD i fr0).rat) v.start.length = sumTo (fun i => (fwd ⟨m,o⟩ (o.length - 1)).getD i 0 * (m.fin.getD i fr0).rat) m.start.length
   rw [hs]
   exact sumTo_congr _ fun i hi => by rw [fwd_same hs h1 h2 h4 _ i hi,h3 i hi]
theorem lkP_congr {m v : Md} {data : List (List Int)} (h : ∀ o,lk ⟨v,o⟩ = lk ⟨m,o⟩) : ∀ k,lkP v data k = lkP m data k /\ usK v data k = usK m data k
 | 0 => ⟨rfl,rfl⟩
 | k + 1 => by
   obtain ⟨a,b⟩ := lkP_congr (data := data) h k
   have e : lk (Go.Ear.trK v data k) = lk (Go.Ear.trK m data k) := h _
   rw [lkP,lkP,usK,usK,e,a,b]; exact ⟨rfl,rfl⟩
theorem usK_congr {m v : Md} {data : List (List Int)} : ∀ {n : Nat},(∀ k,k < n -> (lk (Go.Ear.trK m data k) = 0 ↔ lk (Go.Ear.trK v data k) = 0)) -> usK v data n = usK m data n
 | 0,_ => rfl
 | n + 1,h => by
   have ih := usK_congr (n := n) fun k hk => h k (by omega)
   rw [usK,usK,ih]
   by_cases e : lk (Go.Ear.trK m data n) = 0
   · rw [if_pos e,if_pos ((h n (by omega)).1 e)]
   · rw [if_neg e,if_neg fun e2 => e ((h n (by omega)).2 e2)]
theorem lkP_bq {m : Md} {data : List (List Int)} {E : Nat} (h : ∀ k,k < data.length -> bq (lk (Go.Ear.trK m data k)) <= E) : ∀ k,k <= data.length -> bq (lkP m data k) <= 2 + k * E
 | 0,_ => by
   have := bq_intc (n := 1) (by decide) (by decide)
   rw [lkP]; exact Nat.le_trans this (by omega)
 | k + 1,hk => by
   have ih := lkP_bq h k (by omega)
   have h1 := h k (by omega)
   have h2 := bq_mul (lkP m data k) (lk (Go.Ear.trK m data k))
   rw [lkP,Nat.succ_mul]
   split <;> omega
theorem nxt_ree {M : Md} {data : List (List Int)} (hv : validM M = true) (hl : (reeM M (cntK (cntD M data))).start.length = M.start.length) : Nxt M (reeM M (cntK (cntD M data))) (cntD M data) := by
 have nn := Nn.of hv
 have hn := all_nn (m := M) (data := data) nn data.length
 have hr := allT_row' M data data.length
 have hm := fun i (hi : i < M.start.length) => (valid_row hv hi).1
 refine ⟨hl,fun i hi => ?_,fun i j hi hj => ?_,fun i hi => ?_,fun i x hi => ?_⟩
 · rw [ch_st]
   exact shr_at (x := (cntD M data).start) (b := M.start) (fun i => (hn i 0).1) i
 · have e : ((cntD M data).move.getD i []).length = M.start.length := (hr i hi).1
   have e1 : (lvT (cntD M data) i).getD j 0 = ((cntD M data).move.getD i []).getD j 0 := by
    unfold lvT; rw [snoc_at,if_pos (by rw [e]; exact hj)]
   have e2 : ((lvM M i).getD j fr0).rat = ((M.move.getD i []).getD j fr0).rat := by rw [lvM_at,if_pos (by rw [hm i hi]; exact hj)]
   rw [ch_mv hi hj,lvC_K,shr_at (x := lvT (cntD M data) i) (lvT_nn hn i),e1,e2]
 · have e : ((cntD M data).move.getD i []).length = M.start.length := (hr i hi).1
   have e1 : (lvT (cntD M data) i).getD M.start.length 0 = (cntD M data).fin.getD i 0 := by
    unfold lvT; rw [snoc_at,if_neg (by rw [e]; omega),if_pos e.symm]
   have e2 : ((lvM M i).getD M.start.length fr0).rat = (M.fin.getD i fr0).rat := by rw [lvM_at,if_neg (by rw [hm i hi]; omega),if_pos (hm i hi).symm]
   rw [ch_fi hi,lvC_K,shr_at (x := lvT (cntD M data) i) (lvT_nn hn i),e1,e2]
 · rw [ch_sy hi,sy_K]
   exact shr_at (fun j => (hn i j).2.2.2) x
theorem equalM_of {m v : Md} (hs : v.start.length = m.start.length) (hm : validM m = true) (hv : validM v = true) (hy : symb v = symb m) (h : SameW m v) : equalM m v = true := by
 have l1 := valid_len hm
 have l2 := valid_len hv
 have e1 : equalL m.start v.start = true := all2_iff.2 ⟨hs.symm,fun i hi => decide_eq_true (h i hi).1.symm⟩
 have e2 : equalL m.fin v.fin = true := all2_iff.2 ⟨by omega,fun i hi => decide_eq_true (h i (by omega)).2.1.symm⟩
 have e3 : equalR m.move v.move = true := all2_iff.2 ⟨by omega,fun i hi => all2_iff.2 ⟨by rw [(valid_row hm (i := i) (by omega)).1,(valid_row hv (i := i) (by omega)).1,hs],fun j hj => decide_eq_true ((h i (by omega)).2.2.1 j (by rw [(valid_row hm (i := i) (by omega)).1] at hj; exact hj)).symm⟩⟩
 have e4 : equalR m.say v.say = true := all2_iff.2 ⟨by omega,fun i hi => all2_iff.2 ⟨by rw [(valid_row hm (i := i) (by omega)).2.1,(valid_row hv (i := i) (by omega)).2.1,hy],fun j hj => decide_eq_true ((h i (by omega)).2.2.2 j (by rw [(valid_row hm (i := i) (by omega)).2.1] at hj; exact hj)).symm⟩⟩
 unfold equalM
 rw [e1,e2,e3,e4]; rfl
structure ImpOk (m : Md) (data : List (List Int)) (V : Md) : Prop where
 rnd : Rnd (canM m) 0 data
 v : validM V = true
 l : longM V = false
 s : V.start.length = m.start.length
 y : symb V = symb m
 R : RwM 60380 V
 c : checkE [V] data = 0
 fm : ∀ k,k < data.length -> FwB (Go.Ear.trK m data k)
 fv : ∀ k,k < data.length -> FwB (Go.Ear.trK V data k)
 bm : ∀ k,k <= data.length -> bq (lkP m data k) <= 1000000
 bv : ∀ k,k <= data.length -> bq (lkP V data k) <= 1000000
 lm : ∀ k,k < data.length -> bq (lk (Go.Ear.trK m data k)) <= 1000000
 lv : ∀ k,k < data.length -> bq (lk (Go.Ear.trK V data k)) <= 1000000
 z : Zs m V
 u : usK V data data.length = usK m data data.length
 le : lkP m data data.length <= lkP V data data.length
 eq : lkP V data data.length <= lkP m data data.length -> equalM m V = true
end Go.E3
