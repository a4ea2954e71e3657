/- K32: a part of the proof about training through the decoder: how the program's functions run, and what they compute, for every input. -/
import Derived.Test.YtdciabokggfpbaaGreatK31
set_option linter.all false
set_option maxRecDepth 20000
namespace Go.E3
open Go Go.Ear Go.Proofs
theorem div_zr (q : Rat) : q / 0 = 0 := by rw [Rat.div_def,Rat.inv_zero,Rat.mul_zero]
theorem cn_nil {t : Tr} (h : t.o.length = 0) : CnB t /\ ∀ i j,bq ((cntT t).start.getD i 0) <= 60000000 /\ bq ((cntT t).fin.getD i 0) <= 60000000 /\ bq (((cntT t).move.getD i []).getD j 0) <= 60000000 /\ bq (((cntT t).say.getD i []).getD j 0) <= 60000000 := by
 have h0 : bq (0 : Rat) = 1 := bq_zero
 have hlk := lk_zero h
 refine ⟨⟨by rw [hlk]; omega,fun i k x hk => ?_,fun i k x hk => ?_,fun i k hk => by omega,fun i k j hk => by omega⟩,fun i j => ?_⟩
 · have : k = 0 := by omega
   subst this
   rw [sayRow]; have := rep_bq (symb t.m) x; omega
 · have : k = 0 := by omega
   subst this
   rw [mvRow]; have := rep_bq t.m.start.length x; omega
 · by_cases hi : i < t.m.start.length
   · refine ⟨?_, ?_, ?_, ?_⟩
     · show bq ((cntS t).getD i 0) <= _; rw [cntS,range_getD _ _ hi]; unfold pS; rw [hlk,div_zr]; omega
     · show bq ((cntE t).getD i 0) <= _; rw [cntE,range_getD _ _ hi]; unfold pE; rw [hlk,div_zr]; omega
     · show bq (((cntM t).getD i []).getD j 0) <= _; rw [cntM,range_getD _ _ hi,h]; show bq ((mvRow t i 0).getD j 0) <= _; rw [mvRow]; have := rep_bq t.m.start.length j; omega
     · show bq (((cntY t).getD i []).getD j 0) <= _; rw [cntY,range_getD _ _ hi,h,sayRow]; have := rep_bq (symb t.m) j; omega
   · have z : ∀ {l : List Rat},l.length = t.m.start.length -> l.getD i 0 = 0 := fun {l} hl => by rw [List.getD_eq_getElem?_getD,List.getElem?_eq_none (by omega)]; rfl
     have z2 : ∀ {l : List (List Rat)},l.length = t.m.start.length -> (l.getD i []).getD j 0 = 0 := fun {l} hl => by rw [List.getD_eq_getElem?_getD (l := l),List.getElem?_eq_none (by omega)]; rfl
     refine ⟨?_, ?_, ?_, ?_⟩
     · show bq ((cntS t).getD i 0) <= _; rw [z (cntS_len t)]; omega
     · show bq ((cntE t).getD i 0) <= _; rw [z (cntE_len t)]; omega
     · show bq (((cntM t).getD i []).getD j 0) <= _; rw [z2 (cntM_len t)]; omega
     · show bq (((cntY t).getD i []).getD j 0) <= _; rw [z2 (cntY_len t)]; omega
theorem used_bd (m : Md) (data : List (List Int)) : ∀ k,0 <= (allT m data k).used /\ (allT m data k).used <= k
 | 0 => ⟨Int.le_refl _,Int.le_refl _⟩
 | k + 1 => by
   have ih := used_bd m data k
   by_cases h : lk (Go.Ear.trK m data k) = 0
   · rw [allT_t h]; dsimp only; omega
   · rw [allT_f h]; dsimp only; omega
theorem frm_bdF {m : Md} {data : List (List Int)} {F : Nat} (h : ∀ o ∈ data,o.length <= F) : ∀ k,k <= data.length -> (allT m data k).used <= frmT m data k /\ frmT m data k <= ((F * k : Nat) : Int)
 | 0,_ => ⟨Int.le_refl _,by rw [frmT]; omega⟩
 | k + 1,hk => by
   have ih := frm_bdF (m := m) h k (by omega)
   have h1 := h _ (getD_mem' data [] (show k < data.length by omega))
   have h2 : F * (k + 1) = F * k + F := Nat.mul_succ F k
   by_cases hl : lk (Go.Ear.trK m data k) = 0
   · rw [allT_t hl,frm_t hl]; dsimp only; omega
   · have hp : 0 < (Go.Ear.trK m data k).o.length := lk_pos hl
     have e1 : (Go.Ear.trK m data k).o.length = (data.getD k []).length := rfl
     rw [allT_f hl,frm_f hl]; dsimp only; omega
section
variable {m : Md} {data : List (List Int)} {F : Nat} (nn : Nn m) (tok : ∀ k,k < data.length -> TOk (Go.Ear.trK m data k)) (hF : ∀ o ∈ data,o.length <= F)
include nn tok hF
theorem row_sums (k : Nat) (hk : k <= data.length) (i : Nat) : sumR (allT m data k).start <= ((F * k : Nat) : Rat) /\ sumR (lvT (allT m data k) i) <= ((F * k : Nat) : Rat) /\ sumR ((allT m data k).say.getD i []) <= ((F * k : Nat) : Rat) := by
 have ⟨s1,s2,s3,s4⟩ := all_sums tok k hk
 have hn := all_nn (m := m) (data := data) nn k
 have hu := used_bd m data k
 have hf := frm_bdF (m := m) hF k hk
 have hl := allT_len m data k
 have hle : ∀ {z : Int},z <= ((F * k : Nat) : Int) -> ((z : Int) : Rat) <= ((F * k : Nat) : Rat) := fun {z} hz => by
  rw [<- Rat.intCast_natCast]; exact Rat.intCast_le_intCast.2 hz
 have hsub : ((frmT m data k - (allT m data k).used : Int) : Rat) + (((allT m data k).used : Int) : Rat) = ((frmT m data k : Int) : Rat) := by
  rw [<- Rat.intCast_add]; congr 1; omega
 have h0 : (0 : Rat) <= ((F * k : Nat) : Rat) := Rat.natCast_nonneg
 have hrow : ∀ {l : List (List Rat)},(∀ i j,0 <= (l.getD i []).getD j 0) -> ∀ i,sumR (l.getD i []) <= sumX l := fun {l} h i => by
  by_cases hi : i < l.length
  · exact sumTo_one (fun j _ => sumR_nn (h j)) hi
  · rw [List.getD_eq_getElem?_getD,List.getElem?_eq_none (by omega)]
    exact sumTo_nonneg _ fun j _ => sumR_nn (h j)
 refine ⟨by rw [s1]; exact hle (by omega), ?_, ?_⟩
 · unfold lvT
   rw [sumR_snoc]
   have h1 := hrow (fun i j => (hn i j).2.2.1) i
   have h2 := le_sumR (fun i => (hn i 0).2.1) i
   rw [s4] at h1
   rw [s2] at h2
   have h3 := hle hf.2
   grind
 · have h1 := hrow (fun i j => (hn i j).2.2.2) i
   rw [s3] at h1
   exact Rat.le_trans h1 (hle hf.2)
theorem all_le (k : Nat) (hk : k <= data.length) (i j : Nat) : (allT m data k).start.getD i 0 <= ((F * k : Nat) : Rat) /\ (allT m data k).fin.getD i 0 <= ((F * k : Nat) : Rat) /\ ((allT m data k).move.getD i []).getD j 0 <= ((F * k : Nat) : Rat) /\ ((allT m data k).say.getD i []).getD j 0 <= ((F * k : Nat) : Rat) := by
 have hn := all_nn (m := m) (data := data) nn k
 have ⟨r1,r2,r3⟩ := row_sums nn tok hF k hk i
 have hl := lvT_nn (C := allT m data k) hn i
 have hlv := le_sumR hl
 refine ⟨Rat.le_trans (le_sumR (fun i => (hn i 0).1) i) r1, ?_, ?_,Rat.le_trans (le_sumR (fun j => (hn i j).2.2.2) j) r3⟩
 · have := hlv ((allT m data k).move.getD i []).length
   rw [show (lvT (allT m data k) i).getD ((allT m data k).move.getD i []).length 0 = (allT m data k).fin.getD i 0 by unfold lvT; rw [snoc_at,if_neg (by omega),if_pos rfl]] at this
   exact Rat.le_trans this r2
 · by_cases hj : j < ((allT m data k).move.getD i []).length
   · have := hlv j
     rw [show (lvT (allT m data k) i).getD j 0 = ((allT m data k).move.getD i []).getD j 0 by unfold lvT; rw [snoc_at,if_pos hj]] at this
     exact Rat.le_trans this r2
   · rw [List.getD_eq_getElem?_getD,List.getElem?_eq_none (by omega)]; exact Rat.natCast_nonneg
end
theorem sz_lt32 {n : Nat} (h : n < 4294967296) : sz n <= 1 := by
 by_cases h0 : n = 0
 · rw [h0,sz_zero]; omega
 · exact Nat.le_of_eq (sz_eq_one h0 h)
theorem DOk.wh {m : Md} {data : List (List Int)} {a b c F D E W : Nat} (w : WhM m a b c) (pos : 0 < a /\ 0 < b /\ 0 < c) (hc : checkE [m] data = 0) (mb : MdB 100000 m) (hw : MdW W m) (hF : ∀ o ∈ data,o.length <= F) (hD : data.length <= D) (hE : sz a + F * (sz b + sz c) + 2 <= E) (e1 : E <= 300000) (e2 : 1 + F * (3 * E + 2 * W + 1) <= 60000000) (e3 : 2 + D * E <= 70000000) (e4 : F * D < 4294967296) : DOk m data := by
 have hx := checkE_n hc
 have hv := hx.2.1
 have hl := valid_len hv
 have nn := Nn.of hv
 have hlong := hx.2.2
 unfold longM at hlong
 simp only [Bool.or_eq_false_iff,decide_eq_false_iff_not,Bool.and_eq_false_iff] at hlong
 have hy : symb m <= 64 := by rcases hlong.2 with q | q <;> omega
 have tok : ∀ k,k < data.length -> TOk (Go.Ear.trK m data k) := fun k hk => checkE_TOk (checkE_one hc (getD_mem' data [] hk))
 have hFk : ∀ k,k < data.length -> (Go.Ear.trK m data k).o.length <= F := fun k hk => hF _ (getD_mem' data [] hk)
 have hE1 : 1 <= E := by omega
 have hcn : ∀ k,k < data.length -> CnB (Go.Ear.trK m data k) /\ ∀ i j,bq ((cntT (Go.Ear.trK m data k)).start.getD i 0) <= 60000000 /\ bq ((cntT (Go.Ear.trK m data k)).fin.getD i 0) <= 60000000 /\ bq (((cntT (Go.Ear.trK m data k)).move.getD i []).getD j 0) <= 60000000 /\ bq (((cntT (Go.Ear.trK m data k)).say.getD i []).getD j 0) <= 60000000 := fun k hk => by
  by_cases h0 : (Go.Ear.trK m data k).o.length = 0
  · exact cn_nil h0
  · exact cn_of (t := Go.Ear.trK m data k) (fun k' i h => wh_fw (t := Go.Ear.trK m data k) w hv pos (hFk k hk) hE k' i h) (fun k' i h => wh_bw (t := Go.Ear.trK m data k) w hv pos (hFk k hk) hE k' i h) (wh_lk (t := Go.Ear.trK m data k) w hv pos (hFk k hk) hE) hw (hFk k hk) (by omega) hE1 e2
 have hall : ∀ k i j,k < data.length -> bq ((allT m data k).start.getD i 0) <= 70000000 /\ bq ((allT m data k).fin.getD i 0) <= 70000000 /\ bq (((allT m data k).move.getD i []).getD j 0) <= 70000000 /\ bq (((allT m data k).say.getD i []).getD j 0) <= 70000000 := fun k i j hk => by
  have hp := lP_pos (data := data) w nn pos.1 pos.2.1 pos.2.2 k
  have hz := lP_sz (data := data) w hv hF k (by omega)
  have hle := all_le nn tok hF k (by omega) i j
  have hnn := all_nn (m := m) (data := data) nn k i j
  have hwh := all_wh (data := data) w nn k i j
  have hB : 0 < F * k + 1 := by omega
  have hB2 : sz (F * k + 1) <= 1 := sz_lt32 (by have := Nat.mul_le_mul_left F (show k <= D - 1 by omega); have : F * D = F * (D - 1) + F := by rw [<- Nat.mul_succ]; congr 1; omega
                                                by_cases hF0 : F = 0
                                                · subst hF0; omega
                                                · omega)
  have hup : ∀ {q : Rat},q <= ((F * k : Nat) : Rat) -> q <= ((F * k + 1 : Nat) : Rat) := fun {q} h => Rat.le_trans h (Rat.natCast_le_natCast.2 (Nat.le_succ _))
  have hkE : 1 + k * (sz a + F * (sz b + sz c) + 2) <= 1 + D * E := Nat.add_le_add_left (Nat.mul_le_mul (by omega) hE) 1
  refine ⟨?_, ?_, ?_, ?_⟩
  · have := hwh.1.bqB hp hB hnn.1 (hup hle.1); omega
  · have := hwh.2.1.bqB hp hB hnn.2.1 (hup hle.2.1); omega
  · have := hwh.2.2.1.bqB hp hB hnn.2.2.1 (hup hle.2.2.1); omega
  · have := hwh.2.2.2.bqB hp hB hnn.2.2.2 (hup hle.2.2.2); omega
 exact ⟨hx.1,mb,by omega,⟨by omega,by omega⟩,tok,fun k hk k' i h => Nat.le_trans (wh_fw (t := Go.Ear.trK m data k) w hv pos (hFk k hk) hE k' i h) e1,fun k hk k' i h => Nat.le_trans (wh_bw (t := Go.Ear.trK m data k) w hv pos (hFk k hk) hE k' i h) e1,fun k hk => (hcn k hk).1,
  fun k i hk => by have := (hall k i 0 hk).1; have := ((hcn k hk).2 i 0).1; omega,fun k i hk => by have := (hall k i 0 hk).2.1; have := ((hcn k hk).2 i 0).2.1; omega,
  fun k i j hk => by have := (hall k i j hk).2.2.1; have := ((hcn k hk).2 i j).2.2.1; omega,fun k i j hk => by have := (hall k i j hk).2.2.2; have := ((hcn k hk).2 i j).2.2.2; omega⟩
structure Rec (m : Md) (a b c W R : Nat) : Prop where
 v : validM m = true
 l : longM m = false
 w : WhM m a b c
 p : 0 < a /\ 0 < b /\ 0 < c
 W : MdW W m
 R : RwM R m
theorem shr_bq {L d K : Nat} {x : List Rat} {b : List Fr} (hx : ∀ i,0 <= x.getD i 0) (hw : ∀ i,Wh L (x.getD i 0)) (hL : 0 < L) (hd : 0 < d) (hb : ∀ i,Wh d (b.getD i fr0).rat) (h01 : ∀ i,0 <= (b.getD i fr0).rat /\ (b.getD i fr0).rat <= 1) (hK : sz (rD L d x) <= K) (i : Nat) : bq ((shrQ (x.map frK) b).getD i 0) <= K := by
 have h1 := rD_wh (b := b) hx hw i hb
 have h2 := shr_01 (b := b) hx h01 i
 exact Nat.le_trans (h1.bq (rD_pos hx hw hL hd) h2.1 h2.2) hK
theorem shr_wts {x : List Rat} {b : List Fr} {K N R l : Nat} (hx : ∀ i,0 <= x.getD i 0) (hb : ∀ i,bq ((shrQ (x.map frK) b).getD i 0) <= K) (hn : nz x <= N) (hl : x.length <= l) (hR : wts ((ratsL b).map frK) <= R) (hR2 : 2 * l + N * K <= R) : wts ((shrQ (x.map frK) b).map frK) <= R := by
 by_cases h : sumR x = 0
 · rw [shr_K hx,if_pos h]; exact hR
 · have h1 := wts_few hb (Nat.le_trans (shr_nz (b := b) hx h) hn)
   have h2 : (shrQ (x.map frK) b).length = x.length := by rw [shr_K hx,if_neg h,List.length_map]
   rw [h2] at h1
   omega
theorem wts_rats {l : List Fr} (f : FtS l) : wts ((ratsL l).map frK) <= wts l := wts_copy f.bq
theorem lv_01 {m : Md} (hv : validM m = true) {i : Nat} (hi : i < m.start.length) (j : Nat) : 0 <= ((lvM m i).getD j fr0).rat /\ ((lvM m i).getD j fr0).rat <= 1 := by
 have nn := Nn.of hv
 have hr := (valid_row hv hi).1
 rw [lvM_at]
 split
 · exact ⟨nn.mv i j,mv_le1 hv hi (by omega)⟩
 · split
   · exact ⟨nn.fi i,fi_le1 hv hi⟩
   · exact ⟨Rat.le_refl,by decide +kernel⟩
theorem lv_wh {m : Md} {a b c : Nat} (w : WhM m a b c) (i j : Nat) : Wh b ((lvM m i).getD j fr0).rat := by
 rw [lvM_at]
 split
 · exact w.mv i j
 · split
   · exact w.fi i
   · exact Wh.zero _
theorem st_01 {m : Md} (hv : validM m = true) (i : Nat) : 0 <= (m.start.getD i fr0).rat /\ (m.start.getD i fr0).rat <= 1 := by
 have nn := Nn.of hv
 refine ⟨nn.st i, ?_⟩
 by_cases hi : i < m.start.length
 · rw [<- (Ones.of hv).st]; exact sumTo_one (fun j _ => nn.st j) hi
 · rw [List.getD_eq_getElem?_getD,List.getElem?_eq_none (by omega)]
   show fr0.rat <= 1; decide +kernel
theorem wts_bd {l : List Rat} {B : Nat} (h : ∀ i,bq (l.getD i 0) <= B) : wts (l.map frK) <= (B + 1) * l.length := by
 have := wts_leB (B := B) (l := l.map frK) fun f hf => by
  obtain ⟨q,hq,rfl⟩ := List.mem_map.1 hf
  obtain ⟨i,hi,rfl⟩ := List.getElem_of_mem hq
  have := h i
  rw [List.getD_eq_getElem?_getD,List.getElem?_eq_getElem hi] at this
  rw [bf_frK]; exact this
 rw [List.length_map] at this; exact this
def nA (m : Md) (data : List (List Int)) (a b c : Nat) : Nat := rD (lP m data a b c data.length) a (cntD m data).start
def nB (m : Md) (data : List (List Int)) (a b c : Nat) : Nat := prN (fun i => rD (lP m data a b c data.length) b (lvT (cntD m data) i)) m.start.length
def nC (m : Md) (data : List (List Int)) (a b c : Nat) : Nat := prN (fun i => rD (lP m data a b c data.length) c ((cntD m data).say.getD i [])) m.start.length
section
variable {m : Md} {data : List (List Int)} {a b c W R F D E K S : Nat} (r : Rec m a b c W R) (tok : ∀ k,k < data.length -> TOk (Go.Ear.trK m data k)) (hF : ∀ o ∈ data,o.length <= F) (hD : data.length <= D) (hE : sz a + F * (sz b + sz c) + 2 <= E) (hK : 2 + D * E <= K) (hS : m.start.length <= S) (h32 : F * D < 4294967296)
include r tok hF hD hE hK hS h32
theorem next_sz : sz (nA m data a b c) <= max (sz a) K /\ (∀ i,sz (rD (lP m data a b c data.length) b (lvT (cntD m data) i)) <= max (sz b) K) /\ (∀ i,sz (rD (lP m data a b c data.length) c ((cntD m data).say.getD i [])) <= max (sz c) K) := by
 have nn := Nn.of r.v
 have hn := all_nn (m := m) (data := data) nn data.length
 have hw := all_wh (data := data) r.w nn data.length
 have hs := row_sums nn tok hF data.length (Nat.le_refl _)
 have hz := lP_sz (data := data) r.w r.v hF data.length (Nat.le_refl _)
 have hkE : 1 + data.length * (sz a + F * (sz b + sz c) + 2) <= 1 + D * E := Nat.add_le_add_left (Nat.mul_le_mul hD hE) 1
 have hB : sz (F * data.length) <= 1 := sz_lt32 (Nat.lt_of_le_of_lt (Nat.mul_le_mul_left F hD) h32)
 refine ⟨?_,fun i => ?_,fun i => ?_⟩
 · have := rD_sz (L := lP m data a b c data.length) (d := a) (x := (cntD m data).start) (fun i => (hn i 0).1) (fun i => (hw i 0).1) (hs 0).1
   unfold nA; omega
 · have := rD_sz (L := lP m data a b c data.length) (d := b) (x := lvT (cntD m data) i) (lvT_nn hn i) (lvT_wh hw i) (hs i).2.1
   omega
 · have := rD_sz (L := lP m data a b c data.length) (d := c) (x := (cntD m data).say.getD i []) (fun j => (hn i j).2.2.2) (fun j => (hw i j).2.2.2) (hs i).2.2
   omega
theorem cnt_rw (hk : 1 <= K) {R2 : Nat} (h1 : (K + 1) * S <= R2) (h2 : 2 * 64 + D * F * K <= R2) : RwC R2 m (cntK (cntD m data)) := by
 have hv := r.v
 have nn := Nn.of hv
 have hn := all_nn (m := m) (data := data) nn data.length
 have hw := all_wh (data := data) r.w nn data.length
 have hs := all_le nn tok hF data.length (Nat.le_refl _)
 have hp := lP_pos (data := data) r.w nn r.p.1 r.p.2.1 r.p.2.2 data.length
 have hz := lP_sz (data := data) r.w hv hF data.length (Nat.le_refl _)
 have hkE : 1 + data.length * (sz a + F * (sz b + sz c) + 2) <= 1 + D * E := Nat.add_le_add_left (Nat.mul_le_mul hD hE) 1
 have hl := allT_len m data data.length
 have hr := allT_row' m data data.length
 have hnz := nz_all (m := m) hF (data := data)
 have hB : sz (F * data.length) <= 1 := sz_lt32 (Nat.lt_of_le_of_lt (Nat.mul_le_mul_left F hD) h32)
 have h0 : bq (0 : Rat) = 1 := bq_zero
 have hq : ∀ {q : Rat},Wh (lP m data a b c data.length) q -> 0 <= q -> q <= ((F * data.length : Nat) : Rat) -> bq q <= K := fun {q} x y z => by
  by_cases hb : 0 < F * data.length
  · have := x.bqB hp hb y z; omega
  · have e : F * data.length = 0 := by omega
    rw [e] at z
    have : q = 0 := by
     have z' : q <= 0 := z
     grind
    rw [this]; omega
 have hy : symb m <= 64 := by
  have := r.l
  unfold longM at this
  simp only [Bool.or_eq_false_iff,decide_eq_false_iff_not,Bool.and_eq_false_iff] at this
  have := valid_len hv
  omega
 have hwt : ∀ {l : List Rat},(∀ i,bq (l.getD i 0) <= K) -> l.length <= S -> wts (l.map frK) <= R2 := fun {l} hb hn => by
  have := wts_bd hb
  have := Nat.mul_le_mul_left (K + 1) hn
  omega
 have hnz' : ∀ i,nz ((cntD m data).say.getD i []) <= D * F := fun i => Nat.le_trans (hnz i data.length (Nat.le_refl _)) (Nat.mul_le_mul_right F hD)
 refine ⟨?_, ?_, ?_,fun i hi => ⟨?_, ?_⟩,fun i hi => ⟨?_, ?_⟩⟩
 · show ((cntD m data).start.map frK).length = _ /\ ((cntD m data).move.map _).length = _ /\ ((cntD m data).fin.map frK).length = _ /\ ((cntD m data).say.map _).length = _
   rw [List.length_map,List.length_map,List.length_map,List.length_map]
   unfold cntD
   exact ⟨hl.1,hl.2.2.1,hl.2.1,hl.2.2.2.1⟩
 · exact hwt (fun i => hq (hw i 0).1 (hn i 0).1 (hs i 0).1) (by unfold cntD; omega)
 · exact hwt (fun i => hq (hw i 0).2.1 (hn i 0).2.1 (hs i 0).2.1) (by unfold cntD; omega)
 · show (((cntD m data).move.map (·.map frK)).getD i []).length = _
   rw [getD_KR,List.length_map]; exact (hr i hi).1
 · show wts (((cntD m data).move.map (·.map frK)).getD i []) <= _
   rw [getD_KR]
   exact hwt (fun j => hq (hw i j).2.2.1 (hn i j).2.2.1 (hs i j).2.2.1) (by have := (hr i hi).1; unfold cntD; omega)
 · rw [sy_K,List.length_map,(valid_row hv hi).2.1]; exact (hr i hi).2
 · rw [sy_K]
   have h3 := wts_few (K := K) (l := (cntD m data).say.getD i []) (fun j => hq (hw i j).2.2.2 (hn i j).2.2.2 (hs i j).2.2.2) (hnz' i)
   have h4 : ((cntD m data).say.getD i []).length = symb m := (hr i hi).2
   rw [h4] at h3
   omega
theorem Rec.ree [ft : FtM m] (hk : sz a <= K /\ sz b <= K /\ sz c <= K) {R' : Nat} (h0 : R <= R') (h1 : (K + 1) * (S + 1) <= R') (h2 : 2 * 64 + D * F * K <= R') : Rec (reeM m (cntK (cntD m data))) (nA m data a b c) (nB m data a b c) (nC m data a b c) K R' /\ sz (nA m data a b c) <= K /\ sz (nB m data a b c) <= 1 + S * K /\ sz (nC m data a b c) <= 1 + S * K := by
 have hv := r.v
 have nn := Nn.of hv
 have hn := all_nn (m := m) (data := data) nn data.length
 have hw := all_wh (data := data) r.w nn data.length
 have hp := lP_pos (data := data) r.w nn r.p.1 r.p.2.1 r.p.2.2 data.length
 have hns := next_sz r tok hF hD hE hK hS h32
 have hl := allT_len m data data.length
 have hr := allT_row' m data data.length
 have hnz := nz_all (m := m) hF (data := data)
 have hnz' : ∀ i,nz ((cntD m data).say.getD i []) <= D * F := fun i => Nat.le_trans (hnz i data.length (Nat.le_refl _)) (Nat.mul_le_mul_right F hD)
 have hK1 : 1 <= K := by omega
 have hy : 1 <= symb m /\ symb m <= 64 /\ m.start.length <= 40 := by
  have := r.l
  unfold longM at this
  simp only [Bool.or_eq_false_iff,decide_eq_false_iff_not,Bool.and_eq_false_iff] at this
  have h1 := valid_len hv
  have h2 := valid_row hv (show 0 < m.start.length by omega)
  omega
 have rc := cnt_rw r tok hF hD hE hK hS h32 hK1 (R2 := R') (by have := Nat.mul_le_mul_left (K + 1) (show S <= S + 1 by omega); omega) h2
 have rm : RwM R' m := ⟨r.R.n,r.R.l,Nat.le_trans r.R.s h0,Nat.le_trans r.R.f h0,fun i hi => ⟨(r.R.mv i hi).1,Nat.le_trans (r.R.mv i hi).2 h0⟩,fun i hi => ⟨(r.R.y i hi).1,Nat.le_trans (r.R.y i hi).2 h0⟩⟩
 have vk := (ree_ok (c := cntK (cntD m data)) ft inferInstance hv r.l rm rc).1
 have b1 : ∀ i,bq ((shrQ (cntK (cntD m data)).start m.start).getD i 0) <= K := shr_bq (L := lP m data a b c data.length) (d := a) (x := (cntD m data).start) (fun i => (hn i 0).1) (fun i => (hw i 0).1) hp r.p.1 r.w.st (st_01 hv) (by have := hns.1; unfold nA at this; omega)
 have b2 : ∀ i j,i < m.start.length -> bq ((shrQ (lvC (cntK (cntD m data)) i) (lvM m i)).getD j 0) <= K := fun i j hi => by
  rw [lvC_K]
  exact shr_bq (L := lP m data a b c data.length) (d := b) (lvT_nn hn i) (lvT_wh hw i) hp r.p.2.1 (lv_wh r.w i) (lv_01 hv hi) (Nat.le_trans (hns.2.1 i) (Nat.max_le.2 ⟨hk.2.1,Nat.le_refl K⟩)) j
 have b3 : ∀ i j,i < m.start.length -> bq ((shrQ ((cntK (cntD m data)).say.getD i []) (m.say.getD i [])).getD j 0) <= K := fun i j hi => by
  rw [sy_K]
  exact shr_bq (L := lP m data a b c data.length) (d := c) (fun j => (hn i j).2.2.2) (fun j => (hw i j).2.2.2) hp r.p.2.2 (r.w.sy i) (fun j => ⟨nn.sy i j,sy_le1 hv hi j⟩) (Nat.le_trans (hns.2.2 i) (Nat.max_le.2 ⟨hk.2.2,Nat.le_refl K⟩)) j
 have hwt : ∀ {l : List Rat},(∀ i,bq (l.getD i 0) <= K) -> l.length <= S + 1 -> wts (l.map frK) <= R' := fun {l} hb hn => by
  have := wts_bd hb
  have := Nat.mul_le_mul_left (K + 1) hn
  omega
 have hlen := ch_out (n := m.start.length) (s := shrQ (cntK (cntD m data)).start m.start) (l := fun i => shrQ (lvC (cntK (cntD m data)) i) (lvM m i)) (y := fun i => shrQ ((cntK (cntD m data)).say.getD i []) (m.say.getD i [])) fun i hi => shrQ_len (rc.lv hi).1 (rm.lv hi).1
 refine ⟨⟨vk.valid,vk.long hy.2.2 hy.2.1,⟨fun i => ?_,fun i j => ?_,fun i => ?_,fun i x => ?_⟩,⟨?_, ?_, ?_⟩,chM_W hK1 b1 b2 b3,⟨?_, ?_, ?_, ?_,fun i hi => ⟨?_, ?_⟩,fun i hi => ⟨?_, ?_⟩⟩⟩, ?_, ?_, ?_⟩
 · rw [ch_st]
   exact rD_wh (L := lP m data a b c data.length) (x := (cntD m data).start) (fun i => (hn i 0).1) (fun i => (hw i 0).1) i r.w.st
 · by_cases hi : i < m.start.length
   · by_cases hj : j < m.start.length
     · rw [ch_mv hi hj,lvC_K]
       exact (rD_wh (L := lP m data a b c data.length) (lvT_nn hn i) (lvT_wh hw i) j (lv_wh r.w i)).of_dvd (prN_dvd _ hi)
     · rw [hlen.2 i j hi (by omega)]; exact Wh.zero _
   · rw [(hlen.1 i j (by omega)).1]; exact Wh.zero _
 · by_cases hi : i < m.start.length
   · rw [ch_fi hi,lvC_K]
     exact (rD_wh (L := lP m data a b c data.length) (lvT_nn hn i) (lvT_wh hw i) _ (lv_wh r.w i)).of_dvd (prN_dvd _ hi)
   · rw [(hlen.1 i 0 (by omega)).2.1]; exact Wh.zero _
 · by_cases hi : i < m.start.length
   · rw [ch_sy hi,sy_K]
     exact (rD_wh (L := lP m data a b c data.length) (fun j => (hn i j).2.2.2) (fun j => (hw i j).2.2.2) x (r.w.sy i)).of_dvd (prN_dvd _ hi)
   · rw [(hlen.1 i x (by omega)).2.2]; exact Wh.zero _
 · exact rD_pos (fun i => (hn i 0).1) (fun i => (hw i 0).1) hp r.p.1
 · exact prN_pos _ fun i _ => rD_pos (lvT_nn hn i) (lvT_wh hw i) hp r.p.2.1
 · exact prN_pos _ fun i _ => rD_pos (fun j => (hn i j).2.2.2) (fun j => (hw i j).2.2.2) hp r.p.2.2
 · show 1 <= (List.map frK _).length /\ (List.map frK _).length <= 40
   rw [List.length_map,vk.l.1]; exact ⟨vk.n1,hy.2.2⟩
 · show (List.map _ _).length = (List.map frK _).length /\ (List.map frK _).length = (List.map frK _).length /\ (List.map _ _).length = (List.map frK _).length
   simp only [List.length_map,List.length_range,vk.l.1,and_self]
 · exact hwt b1 (by rw [vk.l.1]; omega)
 · exact hwt (fun i => by
    by_cases hi : i < m.start.length
    · rw [range_getD _ _ hi]; exact b2 i _ hi
    · rw [List.getD_eq_getElem?_getD,List.getElem?_eq_none (by simp; omega)]; show bq (0 : Rat) <= K; rw [bq_zero]; omega) (by simp; omega)
 · show ((((List.range m.start.length).map fun i => (shrQ (lvC (cntK (cntD m data)) i) (lvM m i)).take m.start.length).map (·.map frK)).getD i []).length = (List.map frK _).length
   rw [getD_KR,List.length_map,List.length_map,vk.l.1]
   exact (vk.r i (by have : i < (List.map frK (shrQ (cntK (cntD m data)).start m.start)).length := hi; rw [List.length_map,vk.l.1] at this; exact this)).1
 · have hi' : i < m.start.length := by have : i < (List.map frK (shrQ (cntK (cntD m data)).start m.start)).length := hi; rw [List.length_map,vk.l.1] at this; exact this
   show wts ((((List.range m.start.length).map fun i => (shrQ (lvC (cntK (cntD m data)) i) (lvM m i)).take m.start.length).map (·.map frK)).getD i []) <= R'
   rw [getD_KR,range_getD _ _ hi']
   refine hwt (fun j => ?_) (by rw [List.length_take]; omega)
   rw [List.getD_eq_getElem?_getD,List.getElem?_take]
   split
   · rw [<- List.getD_eq_getElem?_getD]; exact b2 i j hi'
   · show bq (0 : Rat) <= K; rw [bq_zero]; omega
 · have hi' : i < m.start.length := by have : i < (List.map frK (shrQ (cntK (cntD m data)).start m.start)).length := hi; rw [List.length_map,vk.l.1] at this; exact this
   show 1 <= ((((List.range m.start.length).map fun i => shrQ ((cntK (cntD m data)).say.getD i []) (m.say.getD i [])).map (·.map frK)).getD i []).length
   rw [getD_KR,List.length_map,(vk.r i hi').2]; exact vk.k1
 · have hi' : i < m.start.length := by have : i < (List.map frK (shrQ (cntK (cntD m data)).start m.start)).length := hi; rw [List.length_map,vk.l.1] at this; exact this
   show wts ((((List.range m.start.length).map fun i => shrQ ((cntK (cntD m data)).say.getD i []) (m.say.getD i [])).map (·.map frK)).getD i []) <= R'
   rw [getD_KR,range_getD _ _ hi']
   have b3' := fun j => b3 i j hi'
   rw [sy_K] at b3' ⊢
   exact shr_wts (fun j => (hn i j).2.2.2) b3' (hnz' i) (l := 64) (by have := (hr i hi').2; unfold cntD; omega) (Nat.le_trans (wts_rats inferInstance) (rm.y i hi').2) h2
 · have := hns.1; omega
 · exact Nat.le_trans (prN_sz m.start.length fun i _ => by have := hns.2.1 i; exact Nat.le_trans this (by omega)) (Nat.add_le_add_left (Nat.mul_le_mul_right K hS) 1)
 · exact Nat.le_trans (prN_sz m.start.length fun i _ => by have := hns.2.2 i; exact Nat.le_trans this (by omega)) (Nat.add_le_add_left (Nat.mul_le_mul_right K hS) 1)
end
set_option maxHeartbeats 8000000
set_option synthInstance.maxSize 1000
def trN (m : Md) (d : Int) (data : List (List Int)) : Md := if 0 < d then coaM (reeM m (cntK (cntD m data))) d else reeM m (cntK (cntD m data))
def trS (m : Md) (d : Int) (data : List (List Int)) : Nat -> Md
 | 0 => canM m
 | k + 1 => trN (trS m d data k) d data
instance trN_ft {m : Md} {d : Int} {data : List (List Int)} : FtM (trN m d data) := by
 unfold trN; split
 · exact inferInstanceAs (FtM (coaM _ d))
 · exact inferInstanceAs (FtM (reeM _ _))
instance trS_ft {m : Md} {d : Int} {data : List (List Int)} : ∀ {k : Nat},FtM (trS m d data k)
 | 0 => inferInstanceAs (FtM (canM m))
 | k + 1 => trN_ft
structure Rnd (m : Md) (d : Int) (data : List (List Int)) : Prop where
 dk : DOk m data
 r : RwM 2600000 m
 c : RwC 2600000 m (cntK (cntD m data))
 n : 0 < d -> RwM 2600000 (reeM m (cntK (cntD m data)))
def trE (rounds d : Int) : Int := if rounds < 0 \/ 20 < rounds \/ d < 0 then 2 else 0
def trR (m : Md) (rounds d : Int) (data : List (List Int)) : Md := if rounds < 0 \/ 20 < rounds \/ d < 0 then md0 else trS m d data rounds.toNat
theorem ct14 {α β : Type} {v : α -> SV} {x : α} {v2 : β -> SV} {y : β} {P : Program} {f : FuncId} {sd : Prop} {S T U V R : SV} {l : List SV} (i : Vw v S x) (j : Vw v2 T y) (c : Ct P f (v x :: U :: V :: v2 y :: l) sd R) : Ct P f (S :: U :: V :: T :: l) sd R := c.az fun {h vs} u => by
 match vs,u with
 | _ :: _ :: _ :: _ :: _,u => exact ⟨i.h u.1,u.2.1,u.2.2.1,j.h u.2.2.2.1,u.2.2.2.2⟩
section
variable {m : Md} {data : List (List Int)} {rounds d : Int} {S T : SV}
instance Train_c [i : VM S m] [j : Vw (lv (rL rI)) T data] : Ct Tryz.prog 9 [S,iv rounds,iv d,T] (((data.length <= 1048576 /\ ∀ o ∈ data,o.length <= 1048576) /\ MdB 10000000 m /\ checkE [m] data = 0 /\ RwM 2600000 m) /\ (-9223372036854775808 <= d /\ d <= 9223372036854775807) /\ (0 <= rounds -> rounds <= 20 -> 0 <= d -> ∀ k,k < rounds.toNat -> Rnd (trS m d data k) d data)) (.tp [mv (trR m rounds d data),iv (trE rounds d)]) := by
 haveI := i.t
 refine ct14 i.v j (ctI Tryz.call9 Tryz.func9 Tryz.ntmps9 rfl Tryz.results9 rfl [4] fun h0 w0 ⟨⟨h1,h2,h3,h4⟩,⟨d1,d2⟩,h5⟩ => ?_)
 have hx := one_mdb h2
 obtain ⟨h1,h1'⟩ := h1
 have ho : ∀ o ∈ data,o.length <= 1099511627776 := fun o h => Nat.le_trans (h1' o h) (by decide)
 repeat first | refine nx ?_ | intro _
 rw [h3]
 refine gIf (fun c1 => ?_) fun c1 => ?_
 · exact absurd rfl c1
 repeat first | refine nx ?_ | intro _
 refine gIf (fun c2 => ?_) fun c2 => ?_
 · have c2' : rounds < 0 \/ 20 < rounds \/ d < 0 := by rcases c2 with (c | c) | c <;> omega
   have e1 : trR m rounds d data = md0 := if_pos c2'
   have e2 : trE rounds d = 2 := if_pos c2'
   rw [e1,e2]
   repeat first | refine nx ?_ | intro _
   (repeat' (first | refine And.intro ?_ ?_ | trivial | rfl | omega))
 have c2' : ¬ (rounds < 0 \/ 20 < rounds \/ d < 0) := fun c => c2 (by rcases c with c | c | c <;> omega)
 have e1 : trR m rounds d data = trS m d data rounds.toNat := if_neg c2'
 have e2 : trE rounds d = 0 := if_neg c2'
 rw [e1,e2]
 simp only [not_or,Int.not_lt] at c2'
 obtain ⟨r0,r20,hd0⟩ := c2'
 obtain ⟨n,rfl⟩ : ∃ n : Nat,rounds = (n : Int) := ⟨rounds.toNat,by omega⟩
 rw [Int.toNat_natCast]
 have hR := h5 r0 r20 hd0
 rw [Int.toNat_natCast] at hR
 clear e1 e2 c2 c1 h5
 repeat first | refine nx ?_ | intro _
 rename_i v4 v8 _
 refine gLp (fun k : Nat => [(33,iv k)]) (fun k => [rV v4 [lv rF (trS m d data k).start,lv (rL rF) (trS m d data k).move,lv rF (trS m d data k).fin,lv (rL rF) (trS m d data k).say] 25]) (fun k => k <= n) (fun k => n - k) 0 (Nat.zero_le _) fun k hk => ?_
 repeat first | refine nx ?_ | intro _
 refine gIf (fun ck => ?_) fun ck => ?_
 · have rk := hR k ck
   have r1 := rk.dk
   have r2 := rk.r
   have r3 := rk.c
   have r4 := rk.n
   generalize hM : trS m d data k = M at *
   haveI : FtM M := by rw [<- hM]; infer_instance
   repeat first | refine gDs 9 8 (by rfl) (by kernel_rfl) ?_ | refine nx ?_ | intro _
   have hs : trS m d data (k + 1) = trN M d data := by rw [<- hM]; rfl
   refine gIf (fun cd => ?_) fun cd => ?_
   · have r5 := r4 cd
     have e : trN M d data = coaM (reeM M (cntK (cntD M data))) d := if_pos cd
     repeat first | refine nx ?_ | intro _
     refine gBk (k + 1) (by omega) (by omega) (h2 := ?_)
     rw [hs,e]; (repeat' (first | refine And.intro ?_ ?_ | trivial | rfl | omega))
   · have e : trN M d data = reeM M (cntK (cntD M data)) := if_neg cd
     repeat first | refine nx ?_ | intro _
     refine gBk (k + 1) (by omega) (by omega) (h2 := ?_)
     rw [hs,e]; (repeat' (first | refine And.intro ?_ ?_ | trivial | rfl | omega))
 · have ek : k = n := by omega
   subst ek
   repeat first | refine nx ?_ | intro _
   (repeat' (first | refine And.intro ?_ ?_ | trivial | rfl | omega))
end
end Go.E3
