/- TB: a part of the proofs about package model: how the program's functions run, and what they compute, for every input. -/
import Derived.Test.YtpmndikbfalfoaaGreatTA
set_option linter.all false
set_option linter.unusedVariables false
set_option maxRecDepth 20000
set_option maxHeartbeats 8000000
set_option synthInstance.maxSize 1000
namespace Go.E3
open Go Go.Ear Go.Proofs
def trN (m : Md) (d : Int) (data : List (List Int)) : Md := if 0 < d then coaM (reeM m (cntK (cntD m data))) d else reeM m (cntK (cntD m data))
def trS (m : Md) (d : Int) (data : List (List Int)) : Nat → Md
  | 0 => canM m
  | k + 1 => trN (trS m d data k) d data
instance trN_ft {m : Md} {d : Int} {data : List (List Int)} : FtM (trN m d data) := by
  unfold trN; split
  · exact inferInstanceAs (FtM (coaM _ d))
  · exact inferInstanceAs (FtM (reeM _ _))
instance trS_ft {m : Md} {d : Int} {data : List (List Int)} : ∀ {k : Nat}, FtM (trS m d data k)
  | 0 => inferInstanceAs (FtM (canM m))
  | k + 1 => trN_ft
structure Rnd (m : Md) (d : Int) (data : List (List Int)) : Prop where
  dk : DOk m data
  r : RwM 2600000 m
  c : RwC 2600000 m (cntK (cntD m data))
  n : 0 < d → RwM 2600000 (reeM m (cntK (cntD m data)))
def trE (rounds d : Int) : Int := if rounds < 0 ∨ 20 < rounds ∨ d < 0 then 2 else 0
def trR (m : Md) (rounds d : Int) (data : List (List Int)) : Md := if rounds < 0 ∨ 20 < rounds ∨ d < 0 then md0 else trS m d data rounds.toNat
instance trR_ft {m : Md} {rounds d : Int} {data : List (List Int)} : FtM (trR m rounds d data) := by
  unfold trR; split
  · exact inferInstanceAs (FtM md0)
  · exact trS_ft
theorem ct14 {α β : Type} {v : α → SV} {x : α} {v2 : β → SV} {y : β} {P : Program} {f : FuncId} {sd : Prop} {S T U V R : SV} {l : List SV} (i : Vw v S x) (j : Vw v2 T y) (c : Ct P f (v x :: U :: V :: v2 y :: l) sd R) : Ct P f (S :: U :: V :: T :: l) sd R := c.az fun {h vs} u => by
  match vs, u with
  | _ :: _ :: _ :: _ :: _, u => exact ⟨i.h u.1, u.2.1, u.2.2.1, j.h u.2.2.2.1, u.2.2.2.2⟩
section
variable {m : Md} {data : List (List Int)} {rounds d : Int} {S T : SV}
instance Train_c [i : VM S m] [j : Vw (lv (rL rI)) T data] : Ct Tryz.prog 67 [S, iv rounds, iv d, T] (((data.length ≤ 1048576 ∧ ∀ o ∈ data, o.length ≤ 1048576) ∧ MdB 10000000 m ∧ checkE [m] data = 0 ∧ RwM 2600000 m) ∧ (-9223372036854775808 ≤ d ∧ d ≤ 9223372036854775807) ∧ (0 ≤ rounds → rounds ≤ 20 → 0 ≤ d → ∀ k, k < rounds.toNat → Rnd (trS m d data k) d data)) (.tp [mv (trR m rounds d data), iv (trE rounds d)]) := by
  haveI := i.t
  refine ct14 i.v j (ctI Tryz.call67 Tryz.func67 Tryz.ntmps67 rfl Tryz.results67 rfl [4] fun h0 w0 ⟨⟨h1, h2, h3, h4⟩, ⟨d1, d2⟩, h5⟩ => ?_)
  have hx := one_mdb h2
  obtain ⟨h1, h1'⟩ := h1
  have ho : ∀ o ∈ data, o.length ≤ 1099511627776 := fun o h => Nat.le_trans (h1' o h) (by decide)
  repeat first | refine nx ?_ | intro _
  rw [h3]
  refine gIf (fun c1 => ?_) fun c1 => ?_
  · exact absurd rfl c1
  repeat first | refine nx ?_ | intro _
  refine gIf (fun c2 => ?_) fun c2 => ?_
  · have c2' : rounds < 0 ∨ 20 < rounds ∨ d < 0 := by rcases c2 with (c | c) | c <;> omega
    have e1 : trR m rounds d data = md0 := if_pos c2'
    have e2 : trE rounds d = 2 := if_pos c2'
    rw [e1, e2]
    repeat first | refine nx ?_ | intro _
    (repeat' (first | refine And.intro ?_ ?_ | trivial | rfl | omega))
  have c2' : ¬ (rounds < 0 ∨ 20 < rounds ∨ d < 0) := fun c => c2 (by rcases c with c | c | c <;> omega)
  have e1 : trR m rounds d data = trS m d data rounds.toNat := if_neg c2'
  have e2 : trE rounds d = 0 := if_neg c2'
  rw [e1, e2]
  simp only [not_or, Int.not_lt] at c2'
  obtain ⟨r0, r20, hd0⟩ := c2'
  obtain ⟨n, rfl⟩ : ∃ n : Nat, rounds = (n : Int) := ⟨rounds.toNat, by omega⟩
  rw [Int.toNat_natCast]
  have hR := h5 r0 r20 hd0
  rw [Int.toNat_natCast] at hR
  clear e1 e2 c2 c1 h5
  repeat first | refine nx ?_ | intro _
  rename_i v4 v8 _
  refine gLp (fun k : Nat => [(33, iv k)]) (fun k => [rV v4 [lv rF (trS m d data k).start, lv (rL rF) (trS m d data k).move, lv rF (trS m d data k).fin, lv (rL rF) (trS m d data k).say] 25]) (fun k => k ≤ n) (fun k => n - k) 0 (Nat.zero_le _) fun k hk => ?_
  repeat first | refine nx ?_ | intro _
  refine gIf (fun ck => ?_) fun ck => ?_
  · have rk := hR k ck
    have r1 := rk.dk
    have r2 := rk.r
    have r3 := rk.c
    have r4 := rk.n
    generalize hM : trS m d data k = M at *
    haveI : FtM M := by rw [← hM]; infer_instance
    repeat first | refine gDs 9 8 (by rfl) (by kernel_rfl) ?_ | refine nx ?_ | intro _
    have hs : trS m d data (k + 1) = trN M d data := by rw [← hM]; rfl
    refine gIf (fun cd => ?_) fun cd => ?_
    · have r5 := r4 cd
      have e : trN M d data = coaM (reeM M (cntK (cntD M data))) d := if_pos cd
      repeat first | refine nx ?_ | intro _
      refine gBk (k + 1) (by omega) (by omega) (h2 := ?_)
      rw [hs, e]; (repeat' (first | refine And.intro ?_ ?_ | trivial | rfl | omega))
    · have e : trN M d data = reeM M (cntK (cntD M data)) := if_neg cd
      repeat first | refine nx ?_ | intro _
      refine gBk (k + 1) (by omega) (by omega) (h2 := ?_)
      rw [hs, e]; (repeat' (first | refine And.intro ?_ ?_ | trivial | rfl | omega))
  · have ek : k = n := by omega
    subst ek
    repeat first | refine nx ?_ | intro _
    (repeat' (first | refine And.intro ?_ ?_ | trivial | rfl | omega))
end
end Go.E3
set_option linter.unusedVariables false
set_option maxRecDepth 20000
namespace Go.E3
open Go Go.Ear Go.Proofs
theorem shr_self {l : List Fr} (h : distF l = true) : shrQ l l = ratsL l := by
  have ⟨h1, h2⟩ := dist_iff.1 h
  have hn : l.any negF = false := any_of rfl fun i _ => decide_eq_false fun e => by have := h1 i; grind
  unfold shrQ normE normF
  rw [hn, h2]
  simp only [Bool.false_eq_true, if_false, show (1 : Rat) ≠ 0 by decide, or_self, if_true]
  unfold ratsL
  refine List.map_congr_left fun f _ => ?_
  rw [show (1 : Rat)⁻¹ = 1 by decide +kernel, Rat.mul_one]
section
variable {m : Md} (hv : validM m = true)
include hv
theorem can_eq {i : Nat} (hi : i < m.start.length) : shrQ m.start m.start = ratsL m.start ∧ shrQ (lvM m i) (lvM m i) = ratsL (lvM m i) ∧ shrQ (m.say.getD i []) (m.say.getD i []) = ratsL (m.say.getD i []) := by
  have hr := valid_row hv hi
  exact ⟨shr_self (validM_iff.1 hv).2.1, shr_self hr.2.2.2.1, shr_self hr.2.2.2.2⟩
theorem can_len {i : Nat} (hi : i < m.start.length) : (shrQ (lvM m i) (lvM m i)).length = m.start.length + 1 := by
  rw [(can_eq hv hi).2.1]
  unfold ratsL lvM
  rw [List.length_map, List.length_append, (valid_row hv hi).1]; rfl
theorem can_rat : (∀ i, ((canM m).start.getD i fr0).rat = (m.start.getD i fr0).rat) ∧ (∀ i j, i < m.start.length → j < m.start.length → (((canM m).move.getD i []).getD j fr0).rat = ((m.move.getD i []).getD j fr0).rat) ∧ (∀ i, i < m.start.length → ((canM m).fin.getD i fr0).rat = (m.fin.getD i fr0).rat) ∧ ∀ i x, i < m.start.length → (((canM m).say.getD i []).getD x fr0).rat = ((m.say.getD i []).getD x fr0).rat := by
  have hl := valid_len hv
  refine ⟨fun i => ?_, fun i j hi hj => ?_, fun i hi => ?_, fun i x hi => ?_⟩
  · rw [ch_st, (can_eq hv (show 0 < m.start.length by omega)).1, rats_at]
  · rw [ch_mv hi hj, (can_eq hv hi).2.1, rats_at, lvM_at, if_pos (by rw [(valid_row hv hi).1]; exact hj)]
  · rw [ch_fi hi, (can_eq hv hi).2.1, rats_at, lvM_at, (valid_row hv hi).1, if_neg (by omega), if_pos rfl]
  · rw [ch_sy hi, (can_eq hv hi).2.2, rats_at]
theorem can_VK : VK m.start.length (symb m) (shrQ m.start m.start) ((List.range m.start.length).map fun i => (shrQ (lvM m i) (lvM m i)).take m.start.length) ((List.range m.start.length).map fun i => (shrQ (lvM m i) (lvM m i)).getD m.start.length 0) ((List.range m.start.length).map fun i => shrQ (m.say.getD i []) (m.say.getD i [])) := by
  have hl := valid_len hv
  have h0 : 0 < m.start.length := by omega
  refine chM_VK (by omega) (valid_row hv h0).2.2.1 ⟨shrQ_len rfl rfl, shrQ_ds (validM_iff.1 hv).2.1⟩ (fun i hi => ⟨can_len hv hi, shrQ_ds (valid_row hv hi).2.2.2.1⟩) fun i hi => ⟨shrQ_len (valid_row hv hi).2.1 (valid_row hv hi).2.1, shrQ_ds (valid_row hv hi).2.2.2.2⟩
end
def dA (m : Md) : Nat := prN (fun i => (m.start.getD i fr0).rat.den) m.start.length
def dB (m : Md) : Nat := prN (fun i => prN (fun j => ((lvM m i).getD j fr0).rat.den) (m.start.length + 1)) m.start.length
def dC (m : Md) : Nat := prN (fun i => prN (fun x => ((m.say.getD i []).getD x fr0).rat.den) (symb m)) m.start.length
theorem Rec.can {m : Md} {S : Nat} [ft : FtM m] (hv : validM m = true) (hl : longM m = false) (hw : MdW 2 m) (hS : m.start.length ≤ S) : Rec (canM m) (dA m) (dB m) (dC m) 2 210 ∧ sz (dA m) ≤ 1 + S * 2 ∧ sz (dB m) ≤ 1 + S * (1 + (S + 1) * 2) ∧ sz (dC m) ≤ 1 + S * (1 + 64 * 2) := by
  have hlen := valid_len hv
  have h0 : 0 < m.start.length := by omega
  have hy : symb m ≤ 64 ∧ m.start.length ≤ 40 := by
    unfold longM at hl
    simp only [Bool.or_eq_false_iff, decide_eq_false_iff_not, Bool.and_eq_false_iff] at hl
    omega
  have vk := can_VK hv
  have hR := can_rat hv
  have hout := ch_out (n := m.start.length) (s := shrQ m.start m.start) (l := fun i => shrQ (lvM m i) (lvM m i)) (y := fun i => shrQ (m.say.getD i []) (m.say.getD i [])) fun i hi => can_len hv hi
  have hz : ∀ {q : Rat}, bq q ≤ 2 → sz q.den ≤ 2 := fun {q} h => Nat.le_trans (bq_den q) h
  have h02 : bq (0 : Rat) ≤ 2 := by rw [bq_zero]; decide
  have hlv : ∀ i j, bq ((lvM m i).getD j fr0).rat ≤ 2 := fun i j => by
    rw [lvM_at]
    split
    · exact hw.mv i j
    · split
      · exact hw.fi i
      · exact h02
  have d1 : ∀ {q : Rat}, 0 < q.den := fun {q} => Nat.pos_of_ne_zero q.den_nz
  have hWc : MdW 2 (canM m) := ⟨fun i => by rw [hR.1]; exact hw.st i, fun i j => by
      by_cases hi : i < m.start.length
      · by_cases hj : j < m.start.length
        · rw [hR.2.1 i j hi hj]; exact hw.mv i j
        · rw [hout.2 i j hi (by omega)]; exact h02
      · rw [(hout.1 i j (by omega)).1]; exact h02, fun i => by
      by_cases hi : i < m.start.length
      · rw [hR.2.2.1 i hi]; exact hw.fi i
      · rw [(hout.1 i 0 (by omega)).2.1]; exact h02, fun i x => by
      by_cases hi : i < m.start.length
      · rw [hR.2.2.2 i x hi]; exact hw.sy i x
      · rw [(hout.1 i x (by omega)).2.2]; exact h02⟩
  refine ⟨⟨vk.valid, vk.long hy.2 hy.1, ⟨fun i => ?_, fun i j => ?_, fun i => ?_, fun i x => ?_⟩, ⟨prN_pos _ fun i _ => d1, prN_pos _ fun i _ => prN_pos _ fun j _ => d1, prN_pos _ fun i _ => prN_pos _ fun j _ => d1⟩, hWc, ?_⟩, ?_, ?_, ?_⟩
  · rw [hR.1]
    by_cases hi : i < m.start.length
    · exact (Wh.den _).of_dvd (prN_dvd (fun i => (m.start.getD i fr0).rat.den) hi)
    · rw [List.getD_eq_getElem?_getD, List.getElem?_eq_none (by omega)]
      show Wh _ fr0.rat
      rw [show fr0.rat = 0 by decide +kernel]; exact Wh.zero _
  · by_cases hi : i < m.start.length
    · by_cases hj : j < m.start.length
      · rw [hR.2.1 i j hi hj]
        have e : ((m.move.getD i []).getD j fr0).rat = ((lvM m i).getD j fr0).rat := by rw [lvM_at, if_pos (by rw [(valid_row hv hi).1]; exact hj)]
        rw [e]
        exact (Wh.den _).of_dvd (Nat.dvd_trans (prN_dvd (fun j => ((lvM m i).getD j fr0).rat.den) (show j < m.start.length + 1 by omega)) (prN_dvd (fun i => prN (fun j => ((lvM m i).getD j fr0).rat.den) (m.start.length + 1)) hi))
      · rw [hout.2 i j hi (by omega)]; exact Wh.zero _
    · rw [(hout.1 i j (by omega)).1]; exact Wh.zero _
  · by_cases hi : i < m.start.length
    · rw [hR.2.2.1 i hi]
      have e : (m.fin.getD i fr0).rat = ((lvM m i).getD m.start.length fr0).rat := by rw [lvM_at, (valid_row hv hi).1, if_neg (by omega), if_pos rfl]
      rw [e]
      exact (Wh.den _).of_dvd (Nat.dvd_trans (prN_dvd (fun j => ((lvM m i).getD j fr0).rat.den) (show m.start.length < m.start.length + 1 by omega)) (prN_dvd (fun i => prN (fun j => ((lvM m i).getD j fr0).rat.den) (m.start.length + 1)) hi))
    · rw [(hout.1 i 0 (by omega)).2.1]; exact Wh.zero _
  · by_cases hi : i < m.start.length
    · rw [hR.2.2.2 i x hi]
      by_cases hx : x < symb m
      · exact (Wh.den _).of_dvd (Nat.dvd_trans (prN_dvd (fun x => ((m.say.getD i []).getD x fr0).rat.den) hx) (prN_dvd (fun i => prN (fun x => ((m.say.getD i []).getD x fr0).rat.den) (symb m)) hi))
      · rw [List.getD_eq_getElem?_getD, List.getElem?_eq_none (by rw [(valid_row hv hi).2.1]; omega)]
        show Wh _ fr0.rat
        rw [show fr0.rat = 0 by decide +kernel]; exact Wh.zero _
    · rw [(hout.1 i x (by omega)).2.2]; exact Wh.zero _
  · exact RwM.of vk.valid (vk.long hy.2 hy.1) (vk.B (K := 210) (by omega) (by omega) hWc (by decide))
  · exact Nat.le_trans (prN_sz m.start.length fun i _ => hz (hw.st i)) (Nat.add_le_add_left (Nat.mul_le_mul_right 2 hS) 1)
  · refine Nat.le_trans (prN_sz (K := 1 + (S + 1) * 2) m.start.length fun i _ => Nat.le_trans (prN_sz (m.start.length + 1) fun j _ => hz (hlv i j)) ?_) (Nat.add_le_add_left (Nat.mul_le_mul_right _ hS) 1)
    have := Nat.mul_le_mul_right 2 (show m.start.length + 1 ≤ S + 1 by omega); omega
  · refine Nat.le_trans (prN_sz (K := 1 + 64 * 2) m.start.length fun i _ => Nat.le_trans (prN_sz (symb m) fun j _ => hz (hw.sy i j)) ?_) (Nat.add_le_add_left (Nat.mul_le_mul_right _ hS) 1)
    omega
theorem Wh.int (D : Nat) (z : Int) : Wh D (z : Rat) := ⟨z * D, by rw [Rat.intCast_mul, Rat.intCast_natCast]⟩
theorem Wh.neg {D : Nat} {q : Rat} (h : Wh D q) : Wh D (-q) := by
  obtain ⟨a, ha⟩ := h
  exact ⟨-a, by rw [Rat.neg_mul, ha, Rat.intCast_neg]⟩
end Go.E3
