/- LawModelFew: a part of the proofs about package model: how the program's functions run, and what they compute, for every input. -/
import Derived.Test.YtpmndikbfalfoaaGreatF10
set_option linter.all false
set_option linter.unusedVariables false
set_option maxRecDepth 20000
set_option maxHeartbeats 16000000
set_option synthInstance.maxSize 1000
namespace Go.E3
open Go Go.Ear Go.Proofs
theorem wts_Kf {l : List Rat} {B n K : Nat} (h : ∀ i, bq (l.getD i 0) ≤ B) (hn : l.length ≤ n) (hK : (B + 1) * n ≤ K) : wts (l.map frK) ≤ K := by
  have := wts_leB (B := B) (l := l.map frK) fun f hf => by
    obtain ⟨q, hq, rfl⟩ := List.mem_map.1 hf
    obtain ⟨i, hi, rfl⟩ := List.getElem_of_mem hq
    have := h i
    rw [List.getD_eq_getElem?_getD, List.getElem?_eq_getElem hi] at this
    rw [bf_frK]; exact this
  rw [List.length_map] at this
  exact Nat.le_trans this (Nat.le_trans (Nat.mul_le_mul_left _ hn) hK)
theorem ctC_of {c : Go.Ear.Ct} {B : Nat} (hB : (B + 1) * 64 ≤ 900000000) (h : ∀ i j, bq (c.start.getD i 0) ≤ B ∧ bq (c.fin.getD i 0) ≤ B ∧ bq ((c.move.getD i []).getD j 0) ≤ B ∧ bq ((c.say.getD i []).getD j 0) ≤ B) (l : c.start.length ≤ 64 ∧ c.fin.length ≤ 64 ∧ c.move.length ≤ 64 ∧ c.say.length ≤ 64) (r : ∀ i, (c.move.getD i []).length ≤ 64 ∧ (c.say.getD i []).length ≤ 64) : CtC (cntK c) := by
  have mem : ∀ {l : List (List Rat)}, (∀ i, wts ((l.getD i []).map frK) ≤ 900000000) → ∀ r ∈ l.map (·.map frK), wts r ≤ 900000000 := fun {l} h r hr => by
    obtain ⟨r0, h0, rfl⟩ := List.mem_map.1 hr
    obtain ⟨i, hi, rfl⟩ := List.getElem_of_mem h0
    have := h i
    rw [List.getD_eq_getElem?_getD, List.getElem?_eq_getElem hi] at this
    exact this
  exact ⟨⟨wts_Kf (fun i => (h i 0).1) l.1 hB, wts_Kf (fun i => (h i 0).2.1) l.2.1 hB, by show (c.move.map _).length ≤ _; rw [List.length_map]; omega, by show (c.say.map _).length ≤ _; rw [List.length_map]; omega⟩, mem fun i => wts_Kf (fun j => (h i j).2.2.1) (r i).1 hB, mem fun i => wts_Kf (fun j => (h i j).2.2.2) (r i).2 hB⟩
theorem modelFew_c {m : Md} {o : List Int} {keep : Int} (up : UpK m) (uo : o.length ≤ 1048576 ∧ I64s o) (hk : -9223372036854775808 ≤ keep ∧ keep ≤ 9223372036854775807) : Ct Tryz.prog 17 [mv m, lv rI o, iv keep] True (bv true) := by
  refine (ctI Tryz.call17 Tryz.func17 Tryz.ntmps17 rfl Tryz.results17 rfl [] fun h0 w0 _ => ?_)
  have ft := up.t
  have hb := up.b
  have hw := up.w
  have ho := uo.1
  repeat first | refine nx ?_ | intro _
  refine gIf (fun c => ?_) fun c => ?_
  · repeat first | refine nx ?_ | intro _
    trivial
  obtain ⟨g, hol, hE⟩ := fair_all' ft (Classical.not_not.1 c)
  clear c
  have hmB := g.mB (K := 100000)
  have hW2 := g.w
  have hs4 := g.s
  have nn := g.nn
  have tk := checkE_TOk hE
  have hn6 : o.length ≤ 5 + 1 := hol
  have hsy := g.y
  have hfw := g.fw (o := o) 5 hn6 (by decide) (by decide)
  have hlk : bq (lk ⟨m, o⟩) ≤ 60000000 := Nat.le_trans (g.lk 5 hn6 (by decide)) (by decide)
  have hfB : ∀ k i, k < (Tr.mk m o).o.length → bq ((rfw ⟨m, o⟩ keep k).getD i 0) ≤ 20000 := fun k i h => Nat.le_trans (rfw_fB (t := ⟨m, o⟩) (S := 4) (W := 2) (N := 5) hW2 hs4 (by decide) (by decide) hn6 k i h) (by decide)
  have hbB : ∀ k i, k < (Tr.mk m o).o.length → bq ((bwP ⟨m, o⟩ keep k).getD i 0) ≤ 20000 := fun k i h => Nat.le_trans (bwP_bq (t := ⟨m, o⟩) (S := 4) (W := 2) hW2 hs4 (by decide) k i) (Nat.le_trans (bB_mono (S := 4) (W := 2) (b := 5) (by decide) (by have : k < o.length := h; omega)) (by decide))
  have hT : bq (kT ⟨m, o⟩ keep) ≤ 80013 := by
    have := rTot_bq (t := ⟨m, o⟩) (F := rfw ⟨m, o⟩ keep) (S := 4) (W := 2) (N := 5) (A := 20000) hW2 hs4 (by decide) (by decide) hn6 (by decide) hfB
    unfold kT; omega
  obtain ⟨hkn, hkq⟩ := KnB.of (t := ⟨m, o⟩) (keep := keep) (E := 80013) (W := 2) (F := 6) (fun k i h => Nat.le_trans (hfB k i h) (by decide)) (fun k i h => Nat.le_trans (hbB k i h) (by decide)) hT hW2 hol (by decide) (by decide)
  have hrf : RfB ⟨m, o⟩ keep := RfB.of (t := ⟨m, o⟩) (S := 4) (W := 2) (N := 5) hW2 hs4 (by decide) (by decide) hn6 (by decide)
  have hrs : RfB ⟨m, o⟩ (m.start.length : Int) := RfB.of (t := ⟨m, o⟩) (S := 4) (W := 2) (N := 5) hW2 hs4 (by decide) (by decide) hn6 (by decide)
  have hbp : BpB ⟨m, o⟩ keep := fun k i h => Nat.le_trans (hbB k i h) (by decide)
  have f1 : (o.length ≤ 1048576) ∧ MdB 10000000 m ∧ (checkE [m] [o] = 0 → MdB 100000 m ∧ FwB ⟨m, o⟩ ∧ RfB ⟨m, o⟩ keep ∧ BpB ⟨m, o⟩ keep ∧ KnB ⟨m, o⟩ keep ∧ m.start.length ≤ 19 ∧ bq (lk ⟨m, o⟩) ≤ 60000000) := ⟨ho, hw, fun _ => ⟨hmB, hfw, hrf, hbp, hkn, by omega, hlk⟩⟩
  have c0 : CtC (cntK ct0) := ⟨⟨Nat.zero_le _, Nat.zero_le _, Nat.zero_le _, Nat.zero_le _⟩, (fun r h => by cases h), fun r h => by cases h⟩
  have h0b : bq (0 : Rat) ≤ 1 := Nat.le_of_eq bq_zero
  have hz1 := sameC_self (cntK ct0)
  have hkk := rfT_kT m o keep
  have had : AdB ⟨m, o⟩ (fT m o keep) (zeC m) := by
    have z1 : ∀ n i, bq ((List.replicate n (0 : Rat)).getD i 0) ≤ 1 := fun n i => by
      rw [List.getD_eq_getElem?_getD, List.getElem?_replicate]; split <;> exact h0b
    have z2 : ∀ n k i j, bq (((List.replicate n (List.replicate k (0 : Rat))).getD i []).getD j 0) ≤ 1 := fun n k i j => by
      rw [List.getD_eq_getElem?_getD (l := List.replicate n (List.replicate k (0 : Rat))), List.getElem?_replicate]
      split
      · exact z1 k j
      · exact h0b
    refine AdB.of (t := ⟨m, o⟩) (F := fT m o keep) (A := 20000) (S := 4) (W := 2) (N := 5) (C := 1) hW2 hs4 (by decide) (by decide) hn6 (by decide) (fun k i h => by rw [fT_rfw h]; exact hfB k i h) (fun i => z1 _ i) (fun i => z1 _ i) (fun i j => z2 _ _ i j) (fun i j => z2 _ _ i j) ⟨by simp, by simp, by simp, by simp⟩ (fun i hi => ?_) (by decide) (by decide) (by decide)
    have hi : i < m.start.length := hi
    show ((List.replicate m.start.length (List.replicate m.start.length (0 : Rat))).getD i []).length = _ ∧ ((List.replicate m.start.length (List.replicate (symb m) (0 : Rat))).getD i []).length = _
    rw [rep_row _ _ _ _ hi, rep_row _ _ _ _ hi]; simp
  have hle := kT_le (t := ⟨m, o⟩) (keep := keep) nn
  have hge := kT_nn (t := ⟨m, o⟩) (keep := keep) nn
  have f2 : TOk ⟨m, o⟩ ∧ MdB 100000 m ∧ MdW 100 m ∧ RfB ⟨m, o⟩ keep ∧ RfB ⟨m, o⟩ (m.start.length : Int) ∧ FwB ⟨m, o⟩ ∧ AdB ⟨m, o⟩ (fT m o keep) (zeC m) ∧ (symb m ≤ 1048576 ∧ bq (lk ⟨m, o⟩) ≤ 60000000) ∧ (rfT m o keep ≠ 0 → lk ⟨m, o⟩ ≠ 0) := ⟨tk, hmB, ⟨fun i => Nat.le_trans (hW2.st i) (by decide), fun i j => Nat.le_trans (hW2.mv i j) (by decide), fun i => Nat.le_trans (hW2.fi i) (by decide), fun i x => Nat.le_trans (hW2.sy i x) (by decide)⟩, hrf, hrs, hfw, had, ⟨by omega, hlk⟩, fun h e => h (by rw [hkk]; rw [e] at hle; exact Rat.le_antisymm hle hge)⟩
  repeat first | refine nx ?_ | intro _
  have hE1 : ¬ checkE [m] [o] ≠ 0 := fun h => h hE
  refine gIf (fun c1 => ?_) fun c1 => ?_
  · have e0 : fewE m o keep = 2 := by unfold fewE; rw [if_neg hE1, if_pos c1]
    have e1 : fewC m o keep = ct0 := if_neg (by rw [e0]; decide)
    have e2 : fewL m o keep = 0 := if_neg (by rw [e0]; decide)
    rw [e0, e1, e2]
    repeat first | refine nx ?_ | intro _
    rw [show (⟨[], [], [], [], 0, 0⟩ : CtF) = cntK ct0 from rfl, hz1]; rfl
  · repeat first | refine nx ?_ | intro _
    rw [hkk]
    by_cases hz : kT ⟨m, o⟩ keep = 0
    · have e0 : fewE m o keep = 7 := by unfold fewE; rw [if_neg hE1, if_neg c1, if_pos hz]
      have e1 : fewC m o keep = ct0 := if_neg (by rw [e0]; decide)
      have e2 : fewL m o keep = 0 := if_neg (by rw [e0]; decide)
      rw [e0, e1, e2, decide_eq_true hz]
      refine gIf (fun c2 => ?_) fun c2 => ?_
      · repeat first | refine nx ?_ | intro _
        rw [show (⟨[], [], [], [], 0, 0⟩ : CtF) = cntK ct0 from rfl, hz1]; rfl
      · exact absurd (by simp) c2
    · have hl0 : lk ⟨m, o⟩ ≠ 0 := fun e => hz (by rw [e] at hle; exact Rat.le_antisymm hle hge)
      have hlp : 0 < lk ⟨m, o⟩ := by grind
      have hli := Rat.inv_pos.2 hlp
      have hmi := Rat.mul_inv_cancel _ hl0
      have h0 : 0 < o.length := lk_pos hl0
      have e0 : fewE m o keep = 0 := by unfold fewE; rw [if_neg hE1, if_neg c1, if_neg hz]
      have e1 : fewC m o keep = { ktT ⟨m, o⟩ keep with used := 1 } := if_pos e0
      have e2 : fewL m o keep = 1 - kT ⟨m, o⟩ keep / lk ⟨m, o⟩ := if_pos e0
      have hz' : rfT m o keep ≠ 0 := by rw [hkk]; exact hz
      have e4 : rfL m o keep = 1 - kT ⟨m, o⟩ keep / lk ⟨m, o⟩ := by unfold rfL; rw [if_neg hz', hkk]
      obtain ⟨q1, q2, q3, q4⟩ := ktT_add (keep := keep) nn h0
      have e3 : rfC m o keep = { ktT ⟨m, o⟩ keep with used := 1, tot := 0 } := by
        unfold rfC
        rw [if_neg hz']
        show Go.Ear.Ct.mk _ _ _ _ _ _ _ = Go.Ear.Ct.mk (ktS ⟨m, o⟩ keep) (ktM ⟨m, o⟩ keep) (ktE ⟨m, o⟩ keep) (ktY ⟨m, o⟩ keep) 1 0 0
        rw [q1, q2, q3, q4]; rfl
      rw [e0, e1, e2, e3, e4, decide_eq_false hz]
      refine gIf (fun c2 => ?_) fun c2 => ?_
      · exact absurd c2 (by simp)
      clear c2
      have hcX : CtC (cntK { ktT ⟨m, o⟩ keep with used := 1 }) := by
        have rl : ∀ i, ((ktM ⟨m, o⟩ keep).getD i []).length ≤ 64 ∧ ((ktY ⟨m, o⟩ keep).getD i []).length ≤ 64 := fun i => by
          by_cases hi : i < m.start.length
          · rw [ktM, ktY, range_getD _ _ hi, range_getD _ _ hi, kMv_len, kSay_len]
            exact ⟨by show m.start.length ≤ 64; omega, hsy⟩
          · rw [List.getD_eq_getElem?_getD, List.getElem?_eq_none (by rw [ktM_len]; show m.start.length ≤ i; omega), List.getD_eq_getElem?_getD, List.getElem?_eq_none (by rw [ktY_len]; show m.start.length ≤ i; omega)]
            exact ⟨Nat.zero_le _, Nat.zero_le _⟩
        exact ctC_of (B := 1 + (6 + 1) * (3 * 80013 + 2 * 2 + 1)) (by decide) (fun i j => hkq i j) ⟨by show (ktS ⟨m, o⟩ keep).length ≤ _; rw [ktS_len]; show m.start.length ≤ _; omega, by show (ktE ⟨m, o⟩ keep).length ≤ _; rw [ktE_len]; show m.start.length ≤ _; omega, by show (ktM ⟨m, o⟩ keep).length ≤ _; rw [ktM_len]; show m.start.length ≤ _; omega, by show (ktY ⟨m, o⟩ keep).length ≤ _; rw [ktY_len]; show m.start.length ≤ _; omega⟩ rl
      have hcY : CtC (cntK { ktT ⟨m, o⟩ keep with used := 1, tot := 0 }) := hcX
      have hsX : sameC (cntK { ktT ⟨m, o⟩ keep with used := 1 }) (cntK { ktT ⟨m, o⟩ keep with used := 1, tot := 0 }) = true := sameC_self _
      have hd1 := bq_div (kT ⟨m, o⟩ keep) (lk ⟨m, o⟩)
      have hd2 := bq_sub 1 (kT ⟨m, o⟩ keep / lk ⟨m, o⟩)
      have h11 : bq (1 : Rat) ≤ 2 := bq_intc (n := 1) (by decide) (by decide)
      have h12 : bq ((1 : Int) : Rat) ≤ 2 := bq_intc (n := 1) (by decide) (by decide)
      have hql : bq (1 - kT ⟨m, o⟩ keep / lk ⟨m, o⟩) ≤ 60100000 := by omega
      have hdv : kT ⟨m, o⟩ keep / lk ⟨m, o⟩ ≤ 1 ∧ 0 < kT ⟨m, o⟩ keep / lk ⟨m, o⟩ := by
        rw [Rat.div_def]
        have h1 := Rat.mul_le_mul_of_nonneg_right hle (Rat.le_of_lt hli)
        rw [hmi] at h1
        exact ⟨h1, Rat.mul_pos (by grind) hli⟩
      have hn1 : ∀ o' ∈ [o], o'.length ≤ 5 + 1 := fun o' h => by rw [List.mem_singleton.1 h]; exact hn6
      have dk : DOk m [o] := DOk.of (S := 4) (W := 2) (N := 5) (D := 1) hW2 hs4 (by decide) (by decide) hn1 hE hmB (Nat.le_refl 1) (by decide) (by decide) (by decide) (by decide)
      have f3 : ([o].length ≤ 1099511627776 ∧ ∀ o' ∈ [o], o'.length ≤ 1099511627776) ∧ MdB 10000000 m ∧ (checkE [m] [o] = 0 → DOk m [o]) := ⟨⟨by simp, fun o' h => by have := hn1 o' h; omega⟩, hw, fun _ => dk⟩
      have hC : cntC m [o] = cntD m [o] := if_pos hE
      have hcD : CtC (cntK (cntD m [o])) := by
        have hall := allT_bq (data := [o]) hW2 hs4 (by decide) (by decide) hn1 1 (Nat.le_refl _)
        have hlen := allT_len m [o] 1
        have hrow := allT_row' m [o] 1
        have rl : ∀ i, ((cntD m [o]).move.getD i []).length ≤ 64 ∧ ((cntD m [o]).say.getD i []).length ≤ 64 := fun i => by
          by_cases hi : i < m.start.length
          · have := hrow i hi
            show ((allT m [o] 1).move.getD i []).length ≤ 64 ∧ ((allT m [o] 1).say.getD i []).length ≤ 64
            omega
          · show ((allT m [o] 1).move.getD i []).length ≤ 64 ∧ ((allT m [o] 1).say.getD i []).length ≤ 64
            rw [List.getD_eq_getElem?_getD, List.getElem?_eq_none (by omega), List.getD_eq_getElem?_getD, List.getElem?_eq_none (by omega)]
            exact ⟨Nat.zero_le _, Nat.zero_le _⟩
        exact ctC_of (B := 1 + 1 * (qB 4 2 5 + 1)) (by decide) (fun i j => hall i j) ⟨by show (allT m [o] 1).start.length ≤ _; omega, by show (allT m [o] 1).fin.length ≤ _; omega, by show (allT m [o] 1).move.length ≤ _; omega, by show (allT m [o] 1).say.length ≤ _; omega⟩ rl
      have hall : (m.start.length : Int) ≤ keep → kT ⟨m, o⟩ keep = lk ⟨m, o⟩ ∧ sameC (cntK { ktT ⟨m, o⟩ keep with used := 1 }) (cntK (cntD m [o])) = true := fun hk => by
        obtain ⟨p1, p2, p3, p4, p5⟩ := ktT_all nn tk hl0 hk
        refine ⟨p1, ?_⟩
        have hu : (cntD m [o]).used = 1 ∧ (cntD m [o]).unused = 0 := by
          show (allT m [o] 1).used = _ ∧ (allT m [o] 1).unused = _
          have h' : ¬ lk (Go.Ear.trK m [o] 0) = 0 := hl0
          rw [allT_f h']; exact ⟨rfl, rfl⟩
        have e : cntK { ktT ⟨m, o⟩ keep with used := 1 } = cntK (cntD m [o]) := by
          show CtF.mk ((ktS ⟨m, o⟩ keep).map frK) ((ktM ⟨m, o⟩ keep).map (·.map frK)) ((ktE ⟨m, o⟩ keep).map frK) ((ktY ⟨m, o⟩ keep).map (·.map frK)) 1 0 = CtF.mk ((cntD m [o]).start.map frK) ((cntD m [o]).move.map (·.map frK)) ((cntD m [o]).fin.map frK) ((cntD m [o]).say.map (·.map frK)) (cntD m [o]).used (cntD m [o]).unused
          rw [p2, p3, p4, p5, hu.1, hu.2]
        rw [e]; exact sameC_self _
      generalize hX : ({ ktT ⟨m, o⟩ keep with used := 1 } : Go.Ear.Ct) = XX at *
      generalize hY : ({ ktT ⟨m, o⟩ keep with used := 1, tot := 0 } : Go.Ear.Ct) = YY at *
      repeat first | refine nx ?_ | intro _
      refine gIf (fun c3 => ?_) fun c3 => ?_
      · exact absurd c3 (by
          rintro ((((h | h) | h) | h) | h)
          · exact h rfl
          · exact h hsX
          · exact h (sameF_self _)
          · have := sgQ_neg.1 h
            have := hdv.1
            grind
          · have h2 : sgQ (1 - kT ⟨m, o⟩ keep / lk ⟨m, o⟩ - ((1 : Int) : Rat)) < 0 := sgQ_neg.2 (by have := hdv.2; show 1 - kT ⟨m, o⟩ keep / lk ⟨m, o⟩ - 1 < 0; grind)
            omega)
      clear c3
      have hcC : CtC (cntK (cntC m [o])) := by rw [hC]; exact hcD
      repeat first | refine nx ?_ | intro _
      rw [hC, decide_eq_true hE]
      by_cases hks : keep < (m.start.length : Int)
      · rw [decide_eq_true hks]; rfl
      · obtain ⟨p1, p2⟩ := hall (Int.not_lt.1 hks)
        have hs0 : sgQ (1 - kT ⟨m, o⟩ keep / lk ⟨m, o⟩) = 0 := sgQ_zero.2 (by rw [p1, Rat.div_def, hmi]; decide +kernel)
        rw [decide_eq_false hks, decide_eq_true hs0, p2]; rfl
end Go.E3
