/- LawModelCounts: a part of the proofs about package model: how the program's functions run, and what they compute, for every input. -/
import Derived.Test.YtpmndikbfalfoaaGreatH18
import Derived.Test.YtpmndikbfalfoaaGreatP4
import Derived.Test.YtpmndikbfalfoaaGreatQ1
set_option linter.all false
set_option linter.unusedVariables false
set_option maxRecDepth 20000
set_option maxHeartbeats 16000000
set_option synthInstance.maxSize 1000
namespace Go.E3
open Go Go.Ear Go.Proofs
theorem heardN_all {m : Md} {data : List (List Int)} {s f n : Nat} (h : heardN m data s f n = true) : data.length ≤ n ∧ smallB m s = true ∧ checkE [m] data = 0 ∧ ∀ o ∈ data, o.length ≤ f := by
  unfold heardN at h
  simp only [Bool.and_eq_true, decide_eq_true_eq, List.all_eq_true] at h
  exact ⟨h.1.1.1, h.1.1.2, h.1.2, h.2⟩
theorem wts_Kc {l : List Rat} {B n K : Nat} (h : ∀ i, bq (l.getD i 0) ≤ B) (hn : l.length ≤ n) (hK : (B + 1) * n ≤ K) : wts (l.map frK) ≤ K := by
  have := wts_leB (B := B) (l := l.map frK) fun f hf => by
    obtain ⟨q, hq, rfl⟩ := List.mem_map.1 hf
    obtain ⟨i, hi, rfl⟩ := List.getElem_of_mem hq
    have := h i
    rw [List.getD_eq_getElem?_getD, List.getElem?_eq_getElem hi] at this
    rw [bf_frK]; exact this
  rw [List.length_map] at this
  exact Nat.le_trans this (Nat.le_trans (Nat.mul_le_mul_left _ hn) hK)
theorem bq_sumK (l : List Rat) : bq (sumR l) ≤ 1 + wts (l.map frK) := by
  have h : bq (sumF (l.map frK)) ≤ bq 0 + wts (l.map frK) := bq_foldA _ 0 fun f hf => by
    obtain ⟨q, _, rfl⟩ := List.mem_map.1 hf
    rw [frK_rat, bf_frK]; exact Nat.le_refl _
  rw [sumF_K, bq_zero] at h; exact h
theorem cnt_one (m : Md) (o : List Int) : (cntD m [o]).used = (if lk ⟨m, o⟩ = 0 then 0 else 1) ∧ (cntD m [o]).unused = (if lk ⟨m, o⟩ = 0 then 1 else 0) := by
  show (allT m [o] 1).used = _ ∧ (allT m [o] 1).unused = _
  by_cases h : lk ⟨m, o⟩ = 0
  · have h' : lk (Go.Ear.trK m [o] 0) = 0 := h
    rw [allT_t h', if_pos h, if_pos h]; exact ⟨rfl, rfl⟩
  · have h' : ¬ lk (Go.Ear.trK m [o] 0) = 0 := h
    rw [allT_f h', if_neg h, if_neg h]; exact ⟨rfl, rfl⟩
theorem frm_bd (m : Md) (data : List (List Int)) (h : ∀ o ∈ data, o.length ≤ 6) : ∀ k, k ≤ data.length → 0 ≤ frmT m data k ∧ frmT m data k ≤ 6 * k
  | 0, _ => ⟨Int.le_refl _, Int.le_refl _⟩
  | k + 1, hk => by
    have ih := frm_bd m data h k (by omega)
    have := h _ (getD_mem' data [] (show k < data.length by omega))
    rw [frmT]; split <;> omega
theorem all_used (m : Md) (data : List (List Int)) : ∀ k, 0 ≤ (allT m data k).used ∧ (allT m data k).used ≤ k
  | 0 => ⟨Int.le_refl _, Int.le_refl _⟩
  | k + 1 => by
    have ih := all_used m data k
    by_cases h : lk (Go.Ear.trK m data k) = 0
    · rw [allT_t h]; dsimp only; omega
    · rw [allT_f h]; dsimp only; omega
theorem modelCounts_c {m : Md} {data : List (List Int)} (up : UpK m) (ud : data.length ≤ 1048576 ∧ (∀ o ∈ data, o.length ≤ 1048576) ∧ ∀ o ∈ data, I64s o) : Ct Tryz.prog 5 [mv m, lv (rL rI) data] True (bv true) := by
  refine (ctI Tryz.call5 Tryz.func5 Tryz.ntmps5 rfl Tryz.results5 rfl [] fun h0 w0 _ => ?_)
  have ft := up.t
  have hb := up.b
  have hw := up.w
  have hdl := ud.1
  repeat first | refine nx ?_ | intro _
  refine gIf (fun c => ?_) fun c => ?_
  · repeat first | refine nx ?_ | intro _
    trivial
  obtain ⟨hd4, hsm, hE, hf6⟩ := heardN_all (Classical.not_not.1 c)
  clear c
  have g := Good.of ft hsm hE
  have hmB := g.mB (K := 100000)
  have hW2 := g.w
  have hs3 := g.s
  have hv := checkE_n hE
  have nn := Nn.of hv.2.1
  have hsy : symb m ≤ 64 := by
    have h1 := hv.2.2
    have h2 := valid_len hv.2.1
    unfold longM at h1
    simp only [Bool.or_eq_false_iff, decide_eq_false_iff_not, Bool.and_eq_false_iff] at h1
    rcases h1.2 with h | h <;> omega
  have hn6 : ∀ o ∈ data, o.length ≤ 5 + 1 := fun o ho => hf6 o ho
  have dk : DOk m data := DOk.of (S := 3) (W := 2) (N := 5) (D := 4) hW2 hs3 (by decide) (by decide) hn6 hE hmB hd4 (by decide) (by decide) (by decide) (by decide)
  have rd : RDk m data := RDk.of (S := 3) (W := 2) (N := 5) (D := 4) hW2 hs3 (by decide) (by decide) hn6 hE hmB (by decide) hd4 (by decide) nn (by omega) (by decide) (by decide) (by decide)
  have f1 : (data.length ≤ 1099511627776 ∧ ∀ o ∈ data, o.length ≤ 1099511627776) ∧ MdB 10000000 m ∧ (checkE [m] data = 0 → DOk m data) := ⟨⟨by omega, fun o ho => by have := hf6 o ho; omega⟩, hw, fun _ => dk⟩
  have hC : cntC m data = cntD m data := if_pos hE
  have hall := allT_bq hW2 hs3 (by decide) (by decide) hn6 data.length (Nat.le_refl _)
  have hlen := allT_len m data data.length
  have hrow := allT_row' m data data.length
  have hsum := all_sums (m := m) (data := data) rd.tok data.length (Nat.le_refl _)
  have hk4 : 1 + data.length * (qB 3 2 5 + 1) ≤ 291201 := by
    have := Nat.mul_le_mul_right (qB 3 2 5 + 1) hd4
    have e : qB 3 2 5 = 72799 := by decide
    rw [e] at this ⊢; omega
  have rowM : ∀ i, wts (((cntD m data).move.getD i []).map frK) ≤ 20000000 := fun i => by
    refine wts_Kc (B := 291201) (n := 64) (fun j => Nat.le_trans (hall i j).2.2.1 hk4) ?_ (by decide)
    by_cases hi : i < m.start.length
    · have := (hrow i hi).1; unfold cntD; omega
    · rw [List.getD_eq_getElem?_getD, List.getElem?_eq_none (by unfold cntD; omega)]; exact Nat.zero_le _
  have rowY : ∀ i, wts (((cntD m data).say.getD i []).map frK) ≤ 20000000 := fun i => by
    refine wts_Kc (B := 291201) (n := 64) (fun j => Nat.le_trans (hall i j).2.2.2 hk4) ?_ (by decide)
    by_cases hi : i < m.start.length
    · have := (hrow i hi).2; unfold cntD; omega
    · rw [List.getD_eq_getElem?_getD, List.getElem?_eq_none (by unfold cntD; omega)]; exact Nat.zero_le _
  have rowS : wts ((cntD m data).start.map frK) ≤ 20000000 := wts_Kc (B := 291201) (n := 64) (fun j => Nat.le_trans (hall j 0).1 hk4) (by have := hlen.1; unfold cntD; omega) (by decide)
  have rowE : wts ((cntD m data).fin.map frK) ≤ 20000000 := wts_Kc (B := 291201) (n := 64) (fun j => Nat.le_trans (hall j 0).2.1 hk4) (by have := hlen.2.1; unfold cntD; omega) (by decide)
  have mem : ∀ {l : List (List Rat)}, (∀ i, wts ((l.getD i []).map frK) ≤ 20000000) → ∀ r ∈ l.map (·.map frK), wts r ≤ 900000000 := fun {l} h r hr => by
    obtain ⟨r0, h0, rfl⟩ := List.mem_map.1 hr
    obtain ⟨i, hi, rfl⟩ := List.getElem_of_mem h0
    have := h i
    rw [List.getD_eq_getElem?_getD, List.getElem?_eq_getElem hi] at this
    exact Nat.le_trans this (by decide)
  have hcc : CtC (cntK (cntD m data)) := ⟨⟨Nat.le_trans rowS (by decide), Nat.le_trans rowE (by decide), by show ((cntD m data).move.map _).length ≤ _; rw [List.length_map]; have := hlen.2.2.1; unfold cntD; omega, by show ((cntD m data).say.map _).length ≤ _; rw [List.length_map]; have := hlen.2.2.2.1; unfold cntD; omega⟩, mem rowM, mem rowY⟩
  repeat first | refine nx ?_ | intro _
  rw [hC, hE]
  have hs1 := sameC_self (cntK (cntD m data))
  repeat first | refine nx ?_ | intro _
  rw [hs1]
  refine gIf (fun c => ?_) fun c => ?_
  · rcases c with c | c
    · exact absurd rfl c
    · exact absurd c (by decide)
  clear c
  repeat first | refine nx ?_ | intro _
  refine gLp (fun k : Nat => [(7, iv (frmT m data k)), (8, iv k)]) (fun _ => []) (fun k => k ≤ data.length) (fun k => data.length - k) 0 (Nat.zero_le _) (fun k hk => ?_)
  repeat first | refine nx ?_ | intro _
  refine gIf (fun ck => ?_) fun ck => ?_
  · have ho6 := hf6 _ (getD_mem' data [] ck)
    have hE1 : checkE [m] [data.getD k []] = 0 := checkE_one hE (getD_mem' data [] ck)
    have dk1 : DOk m [data.getD k []] := DOk.of (S := 3) (W := 2) (N := 5) (D := 4) hW2 hs3 (by decide) (by decide) (fun o ho => by rw [List.mem_singleton.1 ho]; exact ho6) hE1 hmB (by simp) (by decide) (by decide) (by decide) (by decide)
    have hx := one_mdb hw
    have f2 : ([data.getD k []].length ≤ 1099511627776 ∧ ∀ o ∈ [data.getD k []], o.length ≤ 1099511627776) ∧ MdB 10000000 m ∧ (checkE [m] [data.getD k []] = 0 → DOk m [data.getD k []]) := ⟨⟨by simp, fun o ho => by rw [List.mem_singleton.1 ho]; omega⟩, hw, fun _ => dk1⟩
    have hC1 : cntC m [data.getD k []] = cntD m [data.getD k []] := if_pos hE1
    have hu := cnt_one m (data.getD k [])
    have hfb := frm_bd m data hf6 k hk
    repeat first | refine gDwL 13 (fun j => Nat.beq j 9) 12 (by rfl) (by kernel_rfl) ?_ | refine nx ?_ | intro _
    rw [hC1, hE1, hu.1, hu.2]
    by_cases hz : lk ⟨m, data.getD k []⟩ = 0
    · have hz' : lk (Go.Ear.trK m data k) = 0 := hz
      rw [if_pos hz, if_pos hz]
      repeat first | refine nx ?_ | intro _
      refine gIf (fun c0 => ?_) fun c0 => ?_
      · exact absurd c0 (by decide)
      repeat first | refine gDz 11 10 (by rfl) (by kernel_rfl) ?_ | refine nx ?_ | intro _
      refine gBk (k + 1) (by omega) (by omega) (h1 := ?_)
      rw [frm_t hz']; (repeat' (first | refine And.intro ?_ ?_ | trivial | rfl | omega))
    · have hz' : ¬ lk (Go.Ear.trK m data k) = 0 := hz
      rw [if_neg hz, if_neg hz]
      repeat first | refine nx ?_ | intro _
      refine gIf (fun c0 => ?_) fun c0 => ?_
      · exact absurd c0 (by decide)
      repeat first | refine gDz 11 10 (by rfl) (by kernel_rfl) ?_ | refine nx ?_ | intro _
      refine gBk (k + 1) (by omega) (by omega) (h1 := ?_)
      rw [frm_f hz']; (repeat' (first | refine And.intro ?_ ?_ | trivial | rfl | omega))
  · have ek : k = data.length := by omega
    subst ek
    repeat first | refine nx ?_ | intro _
    rename_i v11 v12
    have sY : ∀ i, bq (sumR ((cntD m data).say.getD i [])) ≤ 20000001 := fun i => by
      have := rowY i; have := bq_sumK ((cntD m data).say.getD i []); omega
    have sM : ∀ i, bq (sumR ((cntD m data).move.getD i [])) ≤ 20000001 := fun i => by
      have := rowM i; have := bq_sumK ((cntD m data).move.getD i []); omega
    have eY : ((cntD m data).say.map (·.map frK)).length = m.start.length := by rw [List.length_map]; exact hlen.2.2.2.1
    have eM : ((cntD m data).move.map (·.map frK)).length = m.start.length := by rw [List.length_map]; exact hlen.2.2.1
    refine gLp (fun i : Nat => [(13, iv i)]) (fun i => [rV v11 [bv (frK (sumTo (fun i => sumR ((cntD m data).say.getD i [])) i)).neg, lv rU (frK (sumTo (fun i => sumR ((cntD m data).say.getD i [])) i)).n, lv rU (frK (sumTo (fun i => sumR ((cntD m data).say.getD i [])) i)).d] 31, rV v12 [bv (frK (sumTo (fun i => sumR ((cntD m data).move.getD i [])) i)).neg, lv rU (frK (sumTo (fun i => sumR ((cntD m data).move.getD i [])) i)).n, lv rU (frK (sumTo (fun i => sumR ((cntD m data).move.getD i [])) i)).d] 31]) (fun i => i ≤ m.start.length) (fun i => m.start.length - i) 0 (Nat.zero_le _) (fun i hi => ?_) (h2 := by rw [show ∀ f : Nat → Rat, sumTo f 0 = 0 from fun _ => rfl, show ∀ f : Nat → Rat, sumTo f 0 = 0 from fun _ => rfl, frK_zero]; (repeat' (first | refine And.intro ?_ ?_ | trivial | rfl | omega)))
    repeat first | refine nx ?_ | intro _
    rw [eY]
    refine gIf (fun ci => ?_) fun ci => ?_
    · have rY : wts (((cntD m data).say.map (·.map frK)).getD i []) ≤ 20000000 := by rw [getD_KR]; exact rowY i
      have rM : wts (((cntD m data).move.map (·.map frK)).getD i []) ≤ 20000000 := by rw [getD_KR]; exact rowM i
      have rYs : bq (sumF (((cntD m data).say.map (·.map frK)).getD i [])) ≤ 20000001 := by rw [getD_KR, sumF_K]; exact sY i
      have rMs : bq (sumF (((cntD m data).move.map (·.map frK)).getD i [])) ≤ 20000001 := by rw [getD_KR, sumF_K]; exact sM i
      have tY := bq_sumTo i fun j _ => sY j
      have tM := bq_sumTo i fun j _ => sM j
      repeat first | refine nx ?_ | intro _
      rw [getD_KR, getD_KR, sumF_K, sumF_K]
      exact gBk (i + 1) (by omega) (by omega)
    · have ei : i = m.start.length := by omega
      subst ei
      have tY : sumTo (fun i => sumR ((cntD m data).say.getD i [])) m.start.length = ((frmT m data data.length : Int) : Rat) := by
        rw [← hsum.2.2.1]; unfold sumX cntD; rw [hlen.2.2.2.1]
      have tM : sumTo (fun i => sumR ((cntD m data).move.getD i [])) m.start.length = ((frmT m data data.length - (cntD m data).used : Int) : Rat) := by
        refine Eq.trans ?_ hsum.2.2.2; unfold sumX cntD; rw [hlen.2.2.1]
      have tS : sumF ((cntD m data).start.map frK) = (((cntD m data).used : Int) : Rat) := by rw [sumF_K]; exact hsum.1
      have tE : sumF ((cntD m data).fin.map frK) = (((cntD m data).used : Int) : Rat) := by rw [sumF_K]; exact hsum.2.1
      have hfb := frm_bd m data hf6 data.length (Nat.le_refl _)
      have hub : 0 ≤ (cntD m data).used ∧ (cntD m data).used ≤ data.length := all_used m data data.length
      rw [tY, tM]
      generalize frmT m data data.length = fr at *
      generalize hus : (cntD m data).used = us at *
      have b1 : bq (fr : Rat) ≤ 2 := bq_intc (by omega) (by omega)
      have b2 : bq ((fr - us : Int) : Rat) ≤ 2 := bq_intc (by omega) (by omega)
      have b3 : bq (us : Rat) ≤ 2 := bq_intc (by omega) (by omega)
      have b4 : bq (sumF ((cntD m data).start.map frK)) ≤ 2 := by rw [tS]; exact b3
      have b5 : bq (sumF ((cntD m data).fin.map frK)) ≤ 2 := by rw [tE]; exact b3
      repeat first | refine nx ?_ | intro _
      rw [sameF_self, sameF_self, tS, tE, sameF_self]
      rfl
end Go.E3
