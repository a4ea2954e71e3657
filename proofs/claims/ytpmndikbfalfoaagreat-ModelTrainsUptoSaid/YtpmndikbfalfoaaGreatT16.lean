/- T16: a part of the proofs about package model: how the program's functions run, and what they compute, for every input. -/
import Derived.Test.YtpmndikbfalfoaaGreatT15
set_option linter.all false
set_option linter.unusedVariables false
set_option maxRecDepth 20000
namespace Go.E3
open Go Go.Ear Go.Proofs
theorem RwM.mdb {R : Nat} {m : Md} (r : RwM R m) : MdB R m := by
  have hl := r.l
  refine ⟨r.s, fun l hlm => ?_, r.f, fun l hlm => ?_⟩
  · obtain ⟨i, hi, rfl⟩ := List.getElem_of_mem hlm
    have := (r.mv i (by omega)).2
    rw [List.getD_eq_getElem?_getD, List.getElem?_eq_getElem hi] at this
    exact this
  · obtain ⟨i, hi, rfl⟩ := List.getElem_of_mem hlm
    have := (r.y i (by omega)).2
    rw [List.getD_eq_getElem?_getD, List.getElem?_eq_getElem hi] at this
    exact this
theorem RwM.weak {K K' : Nat} {m : Md} (r : RwM K m) (h : K ≤ K') : RwM K' m := ⟨r.n, r.l, Nat.le_trans r.s h, Nat.le_trans r.f h, fun i hi => ⟨(r.mv i hi).1, Nat.le_trans (r.mv i hi).2 h⟩, fun i hi => ⟨(r.y i hi).1, Nat.le_trans (r.y i hi).2 h⟩⟩
theorem cnt_z {m : Md} {data : List (List Int)} (nn : Nn m) : NnC m (cntK (cntD m data)) := by
  have hn := all_nn (m := m) (data := data) nn data.length
  refine ⟨negK fun i => (hn i 0).1, fun i _ => ?_, fun i _ => ?_⟩
  · rw [lvC_K]; exact negK (lvT_nn hn i)
  · rw [sy_K]; exact negK fun j => (hn i j).2.2.2
theorem check_parts {m : Md} {data : List (List Int)} (hc : checkE [m] data = 0) : data.length ≤ 200 ∧ data.any longO = false ∧ data.any (heardM [m]) = false := by
  unfold checkE at hc
  split at hc
  · cases hc
  · rename_i c1
    split at hc
    · cases hc
    · split at hc
      · cases hc
      · rename_i c3
        simp only [Bool.or_eq_true, not_or, Bool.not_eq_true, decide_eq_true_eq, decide_eq_false_iff_not] at c1
        exact ⟨by omega, c1.2, by simpa using c3⟩
theorem check_next {m m' : Md} {data : List (List Int)} (hc : checkE [m] data = 0) (v : validM m' = true) (l : longM m' = false) (sy : symb m' = symb m) : checkE [m'] data = 0 := by
  obtain ⟨h1, h2, h3⟩ := check_parts hc
  refine check_good (by rw [l]; decide) (by omega) h2 v ?_
  rw [← h3]
  congr 1
  funext o
  rw [heardM1, heardM1, sy]
theorem Rec.tok {m : Md} {a b c W R : Nat} (r : Rec m a b c W R) {data : List (List Int)} (hc : checkE [m] data = 0) (k : Nat) (hk : k < data.length) : TOk (Go.Ear.trK m data k) := checkE_TOk (checkE_one hc (getD_mem' data [] hk))
theorem round_ok {m : Md} {data : List (List Int)} {a b c W R E K R' : Nat} {d : Int} [ft : FtM m] (r : Rec m a b c W R) (hc : checkE [m] data = 0) (hF : ∀ o ∈ data, o.length ≤ 4) (hD : data.length ≤ 3) (hS : m.start.length ≤ 2)
    (hE : sz a + 4 * (sz b + sz c) + 2 ≤ E) (hK : 2 + 3 * E ≤ K) (hk : sz a ≤ K ∧ sz b ≤ K ∧ sz c ≤ K) (w1 : 1 ≤ W) (w2 : W ≤ 5000) (hR : R ≤ 100000) (hR' : R ≤ R') (e1 : E ≤ 300000) (e2 : 1 + 4 * (3 * E + 2 * W + 1) ≤ 60000000) (e3 : (K + 1) * 3 ≤ R') (e4 : 2 * 64 + 3 * 4 * K ≤ R') (e5 : R' ≤ 2600000)
    (b1 : fB 2 W 3 ≤ 300000) (b2 : bB 2 W 3 ≤ 300000) (b3 : 1 + 3 * (qB 2 W 3 + 1) + (3 + 1) * (fB 2 W 3 + 2 * W + bB 2 W 3 + (1 + 2 * (fB 2 W 3 + W + 1)) + 1) ≤ 60000000) (d2 : d ≤ 9223372036854775807) :
    (Rnd m d data ∧ RRnd m d data) ∧ Rec (reeM m (cntK (cntD m data))) (nA m data a b c) (nB m data a b c) (nC m data a b c) K R' ∧ (sz (nA m data a b c) ≤ K ∧ sz (nB m data a b c) ≤ 1 + 2 * K ∧ sz (nC m data a b c) ≤ 1 + 2 * K) ∧ checkE [reeM m (cntK (cntD m data))] data = 0 := by
  have hv := r.v
  have nn := Nn.of hv
  have mb : MdB 100000 m := (r.R.weak hR).mdb
  have h32 : 4 * 3 < 4294967296 := by decide
  have rc := cnt_rw r (r.tok hc) hF hD hE hK hS h32 (by omega) (R2 := R') (by omega) (by omega)
  have rr := Rec.ree r (r.tok hc) hF hD hE hK hS h32 hk hR' (by omega) (by omega)
  have rm : RwM 2600000 m := r.R.weak (by omega)
  have rc2 : RwC 2600000 m (cntK (cntD m data)) := rc.weak e5
  have hy : symb m ≤ 64 := by
    have := r.l
    unfold longM at this
    simp only [Bool.or_eq_false_iff, decide_eq_false_iff_not, Bool.and_eq_false_iff] at this
    have := valid_len hv
    omega
  have vk := (ree_ok (c := cntK (cntD m data)) ft inferInstance hv r.l rm rc2).1
  have sy : symb (reeM m (cntK (cntD m data))) = symb m := vk.symb
  have hc' := check_next hc rr.1.v rr.1.l sy
  have rn : 0 < d → RwM 2600000 (reeM m (cntK (cntD m data))) := fun _ => rr.1.R.weak e5
  have hn : ∀ o ∈ data, o.length ≤ 3 + 1 := hF
  have rk : RDk m data := RDk.of (S := 2) (W := W) (N := 3) (D := 3) r.W hS w1 (by decide) hn hc mb w2 hD (by decide) nn (by omega) b1 b2 b3
  exact ⟨⟨⟨DOk.wh r.w r.p hc mb r.W hF hD hE e1 e2 (by omega) h32, rm, rc2, rn⟩, ⟨rk, rm, rc2, cnt_z nn, fun i hi => by rw [(valid_row hv hi).2.1]; omega, rn⟩⟩, rr.1, rr.2, hc'⟩
theorem ch_n {n : Nat} {s : List Rat} {l y : Nat → List Rat} (h : s.length = n) : (chM n s l y).start.length = n := by
  show (List.map frK s).length = n
  rw [List.length_map, h]
theorem trains_ok {m : Md} {data : List (List Int)} {d : Int} [ft : FtM m] (g : Good m 2) (hE : checkE [m] data = 0) (hF : ∀ o ∈ data, o.length ≤ 4) (hD : data.length ≤ 3) (hd : 0 ≤ d) (d2 : d ≤ 9223372036854775807) :
    (∀ k, k < 2 → Rnd (trS m d data k) d data ∧ RRnd (trS m d data k) d data) ∧ ∀ n, n ≤ 2 → ∃ a b c W R, Rec (trS m d data n) a b c W R ∧ R ≤ 2600000 := by
  obtain ⟨r0, s1, s2, s3⟩ := Rec.can (S := 2) g.v g.l g.w g.s
  have c0 : checkE [canM m] data = 0 := check_next hE r0.v r0.l (can_VK g.v).symb
  have l0 : (canM m).start.length = m.start.length := ch_n (shrQ_len rfl rfl)
  have hS0 : (canM m).start.length ≤ 2 := by have := g.s; omega
  have q0 := round_ok (E := 1103) (K := 3311) (R' := 39860) (d := d) r0 c0 hF hD hS0 (by omega) (by decide) (by omega) (by decide) (by decide) (by decide) (by decide) (by decide) (by decide) (by decide) (by decide) (by decide) (by decide) (by decide) (by decide) d2
  obtain ⟨q1, q2, ⟨z1, z2, z3⟩, q4⟩ := q0
  have l1 : (reeM (canM m) (cntK (cntD (canM m) data))).start.length = (canM m).start.length := ch_n (by
    have h1 := q1.1.c.l.1
    exact shrQ_len h1 rfl)
  have hS1 : (reeM (canM m) (cntK (cntD (canM m) data))).start.length ≤ 2 := by omega
  by_cases cd : 0 < d
  · obtain ⟨r1, w1⟩ := Rec.coa q2 cd d2
    have e1 : trS m d data 1 = coaM (reeM (canM m) (cntK (cntD (canM m) data))) d := if_pos cd
    have l2 : (coaM (reeM (canM m) (cntK (cntD (canM m) data))) d).start.length = (reeM (canM m) (cntK (cntD (canM m) data))).start.length := ch_n (by unfold coaQ flrQ; rw [List.length_set, List.length_map])
    have sy1 : symb (coaM (reeM (canM m) (cntK (cntD (canM m) data))) d) = symb (reeM (canM m) (cntK (cntD (canM m) data))) := (coa_ok inferInstance q2.v q2.R (by omega) d2).1.symb
    have c1 := check_next q4 r1.v r1.l sy1
    have q5 := round_ok (E := 1103) (K := 3311) (R' := 39860) (d := d) r1 c1 hF hD (by omega) (by omega) (by decide) (by omega) (by decide) (by decide) (by decide) (by decide) (by decide) (by decide) (by decide) (by decide) (by decide) (by decide) (by decide) (by decide) d2
    obtain ⟨q5, q6, _, q8⟩ := q5
    obtain ⟨r2, _⟩ := Rec.coa q6 cd d2
    have e2 : trS m d data 2 = coaM (reeM (coaM (reeM (canM m) (cntK (cntD (canM m) data))) d) (cntK (cntD (coaM (reeM (canM m) (cntK (cntD (canM m) data))) d) data))) d := by
      show trN (trS m d data 1) d data = _
      rw [e1]; exact if_pos cd
    refine ⟨fun k hk => ?_, fun n hn => ?_⟩
    · match k, hk with
      | 0, _ => exact q1
      | 1, _ => rw [e1]; exact q5
    · match n, hn with
      | 0, _ => exact ⟨_, _, _, _, _, r0, by decide⟩
      | 1, _ => rw [e1]; exact ⟨_, _, _, _, _, r1, by decide⟩
      | 2, _ => rw [e2]; exact ⟨_, _, _, _, _, r2, by decide⟩
  · have e1 : trS m d data 1 = reeM (canM m) (cntK (cntD (canM m) data)) := if_neg cd
    have q5 := round_ok (E := 56297) (K := 168893) (R' := 2026844) (d := d) q2 q4 hF hD hS1 (by omega) (by decide) (by omega) (by decide) (by decide) (by decide) (by decide) (by decide) (by decide) (by decide) (by decide) (by decide) (by decide) (by decide) (by decide) d2
    obtain ⟨q5, q6, _, q8⟩ := q5
    have e2 : trS m d data 2 = reeM (reeM (canM m) (cntK (cntD (canM m) data))) (cntK (cntD (reeM (canM m) (cntK (cntD (canM m) data))) data)) := by
      show trN (trS m d data 1) d data = _
      rw [e1]; exact if_neg cd
    refine ⟨fun k hk => ?_, fun n hn => ?_⟩
    · match k, hk with
      | 0, _ => exact q1
      | 1, _ => rw [e1]; exact q5
    · match n, hn with
      | 0, _ => exact ⟨_, _, _, _, _, r0, by decide⟩
      | 1, _ => rw [e1]; exact ⟨_, _, _, _, _, q2, by decide⟩
      | 2, _ => rw [e2]; exact ⟨_, _, _, _, _, q6, by decide⟩
end Go.E3
