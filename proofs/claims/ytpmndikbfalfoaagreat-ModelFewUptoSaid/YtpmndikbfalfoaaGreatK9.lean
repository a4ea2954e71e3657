/- K9: a part of the proofs about package model: how the program's functions run, and what they compute, for every input. -/
import Derived.Test.YtpmndikbfalfoaaGreatK8
import Derived.Test.YtpmndikbfalfoaaGreatK7
set_option linter.all false
set_option linter.unusedVariables false
namespace Go.Ear
def smallL (l : List Fr) : Bool := !(l.any fun f => decide (12 < f.n.length) || decide (12 < f.d.length))
def bigF (f : Fr) : Bool := decide (12 < f.n.length) || decide (12 < f.d.length)
theorem smallL_t {l : List Fr} (h : l.any bigF = false) : smallL l = true := by unfold smallL; show (!l.any bigF) = true; rw [h]; rfl
theorem smallL_f {l : List Fr} {k : Nat} (hk : k < l.length) (h : bigF (l.getD k fr0) = true) : smallL l = false := by
  unfold smallL; show (!l.any bigF) = false; rw [any_of_getD hk h]; rfl
theorem bigF_t {f : Fr} (h : 12 < f.n.length ∨ 12 < f.d.length) : bigF f = true := by unfold bigF; rw [Bool.or_eq_true, decide_eq_true_iff, decide_eq_true_iff]; exact h
theorem bigF_f {f : Fr} (h : ¬ (12 < f.n.length ∨ 12 < f.d.length)) : bigF f = false := by rw [← Bool.not_eq_true]; unfold bigF; rw [Bool.or_eq_true, decide_eq_true_iff, decide_eq_true_iff]; exact h
theorem small_bf1 {a : Fr} (h : smallL [a] = true) : bf a ≤ 12 := by
  have h1 : (![a].any bigF) = true := h
  simp [bigF] at h1; unfold bf; omega
theorem small_bf2 {a b : Fr} (h : smallL [a, b] = true) : bf a ≤ 12 ∧ bf b ≤ 12 := by
  have h1 : (![a, b].any bigF) = true := h
  simp [bigF] at h1; unfold bf; omega
theorem sameF_self (f : Fr) : sameF f f = true := by unfold sameF; simp
theorem sameF_cast {f g : Fr} (h : f = g) : sameF f g = true := by rw [h]; exact sameF_self g
theorem bq_quo {n d : Int} (h1 : -9223372036854775808 ≤ n) (h2 : n ≤ 9223372036854775807) (h3 : -9223372036854775808 ≤ d) (h4 : d ≤ 9223372036854775807) : bq ((n : Rat) / (d : Rat)) ≤ 4 := by
  have := bq_div (n : Rat) (d : Rat); have := bq_intc h1 h2; have := bq_intc h3 h4; omega
theorem bq_lit {q : Rat} (h1 : q.num.natAbs < 4294967296) (h2 : q.den < 4294967296) : bq q ≤ 2 := by
  have := sz_small (n := q.num.natAbs) (by omega); have := sz_small (n := q.den) (by omega)
  unfold bq; omega
def Q (n d : Int) : Rat := ((n : Int) : Rat) / ((d : Int) : Rat)
theorem bq_Q {n d : Int} (h1 : -9223372036854775808 ≤ n) (h2 : n ≤ 9223372036854775807) (h3 : -9223372036854775808 ≤ d) (h4 : d ≤ 9223372036854775807) : bq (Q n d) ≤ 4 := bq_quo h1 h2 h3 h4
theorem Q_def (n d : Int) : Q n d = ((n : Int) : Rat) / ((d : Int) : Rat) := rfl
theorem eA : Q (6) (-4) = mkRat (-3) 2 := by decide +kernel
theorem eB : powQ (Q (-2) (3)) 3 = mkRat (-8) 27 := by decide +kernel
theorem eB0 : powE (Q (-2) (3)) 3 = 0 := by decide +kernel
theorem eC : floorQ (Q (5) (7)) 10 = mkRat 7 10 := by decide +kernel
theorem eD : Q (2) (3) = mkRat 2 3 := by decide +kernel
theorem eS : Q (1) (2) + Q (1) (3) = mkRat 5 6 := by decide +kernel
theorem eH : Q (1) (2) = mkRat 1 2 := by decide +kernel
theorem e46 : Q (4) (6) = mkRat 2 3 := by decide +kernel
theorem tH : sizeQ (Q (1) (2)) = 3 := by
  rw [eH]; show bitlen 1 + bitlen 2 = 3
  rw [bitlen_pos (n := 1) (by decide), bitlen_pos (n := 2) (by decide), show 2 / 2 = 1 from rfl, bitlen_pos (n := 1) (by decide), show 1 / 2 = 0 from rfl, bitlen_zero]
theorem tM : bestAt [frK (Q (1) (2)), frK (Q (2) (3)), frK (Q (4) (6))] 3 = 1 := by
  have m1 : bestAt [frK (Q (1) (2)), frK (Q (2) (3)), frK (Q (4) (6))] 1 = 0 := by
    rw [bestAt_succ, bestAt_zero, if_pos (.inl (by decide))]; rfl
  have m2 : bestAt [frK (Q (1) (2)), frK (Q (2) (3)), frK (Q (4) (6))] 2 = 1 := by
    rw [bestAt_succ, m1, if_pos (.inr (by show (frK _).rat < (frK _).rat; rw [frK_rat, frK_rat]; decide +kernel))]; rfl
  rw [bestAt_succ, m2, if_neg]
  rintro (h | h)
  · exact absurd h (by decide)
  · revert h; show ¬ ((frK _).rat < (frK _).rat); rw [frK_rat, frK_rat]; decide +kernel
theorem kA : bq (Q (6) (-4)) ≤ 2 := by rw [eA]; exact bq_lit (by decide) (by decide)
theorem kB : bq (powQ (Q (-2) (3)) 3) ≤ 2 := by rw [eB]; exact bq_lit (by decide) (by decide)
theorem kC : bq (floorQ (Q (5) (7)) 10) ≤ 2 := by rw [eC]; exact bq_lit (by decide) (by decide)
theorem kS : bq (Q (1) (2) + Q (1) (3)) ≤ 2 := by rw [eS]; exact bq_lit (by decide) (by decide)
attribute [irreducible] Q
end Go.Ear
namespace Go.Ear
theorem cond_t {c t f : Bool} (h : cond c t f = true) : (c = true ∧ t = true) ∨ (c = false ∧ f = true) := by cases c <;> simp_all
theorem cond_f {c t f : Bool} (h : cond c t f = false) : (c = true ∧ t = false) ∨ (c = false ∧ f = false) := by cases c <;> simp_all
theorem sameF_z {q : Rat} (h : q = 0) : sameF (frK q) ⟨false, [], []⟩ = true := by
  subst h
  have : frK 0 = ⟨false, [], []⟩ := by unfold frK; simp [digs_zero]
  rw [this]; exact sameF_self _
theorem powE_long {q : Rat} {n : Int} (h : n > 4096 ∨ n < -4096) : powE q n = 5 := by unfold powE; rw [if_pos h]
theorem powQ_long {q : Rat} {n : Int} (h : n > 4096 ∨ n < -4096) : powQ q n = 0 := by unfold powQ; rw [if_pos h]
theorem powE_zero {q : Rat} {n : Int} (h : ¬ (n > 4096 ∨ n < -4096)) (h1 : n < 0) (h2 : q = 0) : powE q n = 3 := by unfold powE; rw [if_neg h, if_pos ⟨h1, h2⟩]
theorem powE_ok {q : Rat} {n : Int} (h : ¬ (n > 4096 ∨ n < -4096)) (h1 : ¬ (n < 0 ∧ q = 0)) : powE q n = 0 := by unfold powE; rw [if_neg h, if_neg h1]
theorem zero_pow' {k : Nat} (h : k ≠ 0) : (0 : Rat) ^ k = 0 := by
  cases k with
  | zero => exact absurd rfl h
  | succ k => rw [Rat.pow_succ, Rat.mul_zero]
theorem powQ_zero {q : Rat} {n : Int} (h1 : n < 0) (h2 : q = 0) : powQ q n = 0 := by
  unfold powQ
  by_cases h : n > 4096 ∨ n < -4096
  · rw [if_pos h]
  · rw [if_neg h, if_pos h1, h2, Rat.inv_zero]; exact zero_pow' (by omega)
theorem powQ_powR {q : Rat} {n : Int} (h : ¬ (n > 4096 ∨ n < -4096)) : powQ q n = powR q n := by
  unfold powQ powR powB; rw [if_neg h]; split <;> rfl
theorem sgQ_bd (q : Rat) : -1 ≤ sgQ q ∧ sgQ q ≤ 1 := by unfold sgQ; split <;> (try split) <;> decide
theorem sgQ_flip (a b : Rat) : sgQ (b - a) = -sgQ (a - b) := by
  have h1 := sgQ_neg (q := b - a); have h2 := sgQ_neg (q := a - b)
  have h3 := sgQ_pos (q := b - a); have h4 := sgQ_pos (q := a - b)
  have hb := sgQ_bd (b - a); have ha := sgQ_bd (a - b)
  have e1 : (b - a < 0) ↔ (0 < a - b) := by constructor <;> intro h <;> grind
  have e2 : (0 < b - a) ↔ (a - b < 0) := by constructor <;> intro h <;> grind
  rw [e1, ← h4] at h1; rw [e2, ← h2] at h3
  omega
theorem bq_floorQ {q : Rat} {d : Int} (h1 : -9223372036854775808 ≤ d) (h2 : d ≤ 9223372036854775807) : bq (floorQ q d) ≤ bq q + 10 := by
  unfold floorQ
  split
  · have := bq_zero; omega
  · have := bq_intc h1 h2; have := bq_mul q (d : Rat); have := bq_floor (q * (d : Rat)); have := bq_inv' (d : Rat)
    have := bq_mul ((q * (d : Rat)).floor : Rat) ((d : Rat))⁻¹
    omega
theorem floor_ge {q : Rat} {d : Int} (h : ¬ d < 1) : 0 ≤ sgQ (q - floorQ q d) := by
  have hd : (0 : Rat) < (d : Rat) := Rat.intCast_pos.2 (by omega)
  have h0 : (d : Rat) ≠ 0 := fun e => by rw [e] at hd; exact absurd hd (by decide)
  unfold floorQ; rw [if_neg h]
  have h1 := Rat.floor_le (a := q * (d : Rat))
  have h2 : ((q * (d : Rat)).floor : Rat) * (d : Rat)⁻¹ ≤ q * (d : Rat) * (d : Rat)⁻¹ := Rat.mul_le_mul_of_nonneg_right h1 (Rat.le_of_lt (Rat.inv_pos.2 hd))
  rw [Rat.mul_assoc, Rat.mul_inv_cancel _ h0, Rat.mul_one] at h2
  have h3 := sgQ_neg (q := q - ((q * (d : Rat)).floor : Rat) * (d : Rat)⁻¹)
  have h4 : ¬ (q - ((q * (d : Rat)).floor : Rat) * (d : Rat)⁻¹ < 0) := by grind
  have := mt h3.1 h4
  omega
theorem floor_lt {q : Rat} {d : Int} (h : ¬ d < 1) : sgQ ((q - floorQ q d) - (((1 : Int) : Rat) / (d : Rat))) < 0 := by
  have hd : (0 : Rat) < (d : Rat) := Rat.intCast_pos.2 (by omega)
  have h0 : (d : Rat) ≠ 0 := fun e => by rw [e] at hd; exact absurd hd (by decide)
  unfold floorQ; rw [if_neg h]
  rw [sgQ_neg]
  have h1 := Rat.lt_floor_add_one (a := q * (d : Rat))
  have h2 := Rat.mul_lt_mul_of_pos_right h1 (Rat.inv_pos.2 hd)
  rw [Rat.mul_assoc, Rat.mul_inv_cancel _ h0, Rat.mul_one, Rat.intCast_add, Rat.add_mul] at h2
  rw [Rat.div_def]
  grind
theorem bq_powQ {q : Rat} {n : Int} (h : n.natAbs ≤ 12 ∨ (n > 4096 ∨ n < -4096)) : bq (powQ q n) ≤ 12 * bq q + 1 := by
  unfold powQ
  by_cases h1 : n > 4096 ∨ n < -4096
  · rw [if_pos h1]; have := bq_zero; omega
  · rw [if_neg h1]
    have h2 : n.natAbs ≤ 12 := by omega
    split
    · have := bq_pow q⁻¹ n.natAbs; have := bq_inv' q; have := Nat.mul_le_mul h2 this; omega
    · have := bq_pow q n.natAbs; have := Nat.mul_le_mul_right (bq q) h2; omega
theorem bq_powP {q : Rat} {n : Int} (h : n.natAbs ≤ 200) : bq (powQ q n) ≤ 200 * bq q + 1 := by
  unfold powQ
  by_cases h1 : n > 4096 ∨ n < -4096
  · rw [if_pos h1]; have := bq_zero; omega
  · rw [if_neg h1]
    split
    · have := bq_pow q⁻¹ n.natAbs; have := bq_inv' q; have := Nat.mul_le_mul h this; omega
    · have := bq_pow q n.natAbs; have := Nat.mul_le_mul_right (bq q) h; omega
theorem pow_add' (q : Rat) (n : Nat) : ∀ m : Nat, q ^ (n + m) = q ^ n * q ^ m
  | 0 => by rw [Nat.add_zero, Rat.pow_zero, Rat.mul_one]
  | m + 1 => by rw [← Nat.add_assoc, Rat.pow_succ, pow_add' q n m, Rat.pow_succ, Rat.mul_assoc]
theorem powQ_add {q : Rat} {n m : Int} (h1 : 0 ≤ n) (h2 : n ≤ 100) (h3 : 0 ≤ m) (h4 : m ≤ 100) : powQ q n * powQ q m = powQ q (n + m) := by
  unfold powQ
  rw [if_neg (by omega), if_neg (by omega), if_neg (by omega), if_neg (by omega), if_neg (by omega), if_neg (by omega), show (n + m).natAbs = n.natAbs + m.natAbs by omega, pow_add']
theorem ord_trans {a b c : Rat} (h1 : sgQ (a - b) ≤ 0) (h2 : sgQ (b - c) ≤ 0) : ¬ (0 < sgQ (a - c)) := by
  intro h
  have h3 := sgQ_pos.1 h
  have h4 : ¬ (0 < a - b) := fun e => by have := sgQ_pos.2 e; omega
  have h5 : ¬ (0 < b - c) := fun e => by have := sgQ_pos.2 e; omega
  grind
theorem sgQ_eq {x y : Rat} (h : x = y) : sgQ x = sgQ y := by rw [h]
theorem sg_mul_bd (x y : Rat) : -1 ≤ sgQ x * sgQ y ∧ sgQ x * sgQ y ≤ 1 := by
  have h1 := sgQ_bd x; have h2 := sgQ_bd y
  have h3 : sgQ x = -1 ∨ sgQ x = 0 ∨ sgQ x = 1 := by omega
  rcases h3 with h | h | h <;> rw [h] <;> omega
theorem sgQ_mul (x y : Rat) : sgQ (x * y) = sgQ x * sgQ y := by
  have px := sgQ_pos (q := x); have nx := sgQ_neg (q := x); have zx := sgQ_zero (q := x)
  have py := sgQ_pos (q := y); have ny := sgQ_neg (q := y); have zy := sgQ_zero (q := y)
  have p := sgQ_pos (q := x * y); have n := sgQ_neg (q := x * y); have z := sgQ_zero (q := x * y)
  have bx := sgQ_bd x; have by' := sgQ_bd y; have bz := sgQ_bd (x * y)
  by_cases x0 : x = 0
  · rw [zx.2 x0, z.2 (by rw [x0, Rat.zero_mul])]; omega
  · by_cases y0 : y = 0
    · rw [zy.2 y0, z.2 (by rw [y0, Rat.mul_zero])]; omega
    · by_cases hx : 0 < x
      · by_cases hy : 0 < y
        · have e1 : sgQ x = 1 := by have := px.2 hx; omega
          have e2 : sgQ y = 1 := by have := py.2 hy; omega
          have := p.2 (Rat.mul_pos hx hy)
          rw [e1, e2]; omega
        · have hy' : y < 0 := by grind
          have e1 : sgQ x = 1 := by have := px.2 hx; omega
          have e2 : sgQ y = -1 := by have := ny.2 hy'; omega
          have h9 : x * y < 0 := by have := Rat.mul_pos hx (show 0 < -y by grind); grind
          have := n.2 h9
          rw [e1, e2]; omega
      · have hx' : x < 0 := by grind
        have e1 : sgQ x = -1 := by have := nx.2 hx'; omega
        by_cases hy : 0 < y
        · have e2 : sgQ y = 1 := by have := py.2 hy; omega
          have h9 : x * y < 0 := by have := Rat.mul_pos (show 0 < -x by grind) hy; grind
          have := n.2 h9
          rw [e1, e2]; omega
        · have hy' : y < 0 := by grind
          have e2 : sgQ y = -1 := by have := ny.2 hy'; omega
          have h9 : 0 < x * y := by have := Rat.mul_pos (show 0 < -x by grind) (show 0 < -y by grind); grind
          have := p.2 h9
          rw [e1, e2]; omega
theorem sameF_K (p q : Rat) : sameF (frK p) (frK q) = decide (p = q) := by
  by_cases h : p = q
  · rw [h, sameF_self]; simp
  · rw [decide_eq_false h, ← Bool.not_eq_true]
    intro e
    apply h
    have e2 : frK p = frK q := by
      unfold sameF at e
      simp only [Bool.and_eq_true, decide_eq_true_eq] at e
      obtain ⟨e1, e2, e3⟩ := e
      cases hp : frK p; cases hq : frK q; simp_all
    rw [← frK_rat p, e2, frK_rat]
theorem same_cmp (p q : Rat) : (decide (sgQ (p - q) = 0) == sameF (frK p) (frK q)) = true := by
  rw [sameF_K, beq_iff_eq, Bool.eq_iff_iff, decide_eq_true_iff, decide_eq_true_iff, sgQ_zero]
  constructor <;> intro h <;> grind
def bigN (m : Nat) (f : Fr) : Bool := decide (m < f.n.length) || decide (m < f.d.length)
theorem bigN_t {m : Nat} {f : Fr} (h : m < f.n.length ∨ m < f.d.length) : bigN m f = true := by unfold bigN; rw [Bool.or_eq_true, decide_eq_true_iff, decide_eq_true_iff]; exact h
theorem bigN_f {m : Nat} {f : Fr} (h : ¬ (m < f.n.length ∨ m < f.d.length)) : bigN m f = false := by rw [← Bool.not_eq_true]; unfold bigN; rw [Bool.or_eq_true, decide_eq_true_iff, decide_eq_true_iff]; exact h
theorem wts_small {m : Nat} : ∀ {l : List Fr}, l.any (bigN m) = false → wts l ≤ (m + 2) * l.length
  | [], _ => by simp [wts]
  | f :: l, h => by
    rw [List.any_cons, Bool.or_eq_false_iff] at h
    have h1 := wts_small h.2
    have h2 : ¬ (m < f.n.length ∨ m < f.d.length) := fun e => by rw [bigN_t e] at h; exact absurd h.1 (by decide)
    rw [wts_cons, List.length_cons, Nat.mul_succ]
    unfold bf; omega
end Go.Ear
namespace Go.Ear
theorem at_of {l : List Fr} {W : Nat} (hW : 1 ≤ W) (h : ∀ f ∈ l, bq f.rat ≤ W) (i : Nat) : bq (l.getD i fr0).rat ≤ W := by
  rw [List.getD_eq_getElem?_getD]
  cases hi : l[i]? with
  | none => rw [show ((none : Option Fr).getD fr0).rat = 0 by decide +kernel, bq_zero]; exact hW
  | some f => exact h f (List.mem_of_getElem? hi)
theorem at2_of {l : List (List Fr)} {W : Nat} (hW : 1 ≤ W) (h : ∀ r ∈ l, ∀ f ∈ r, bq f.rat ≤ W) (i j : Nat) : bq ((l.getD i []).getD j fr0).rat ≤ W := by
  refine at_of hW ?_ j
  rw [List.getD_eq_getElem?_getD]
  cases hi : l[i]? with
  | none => intro f hf; cases hf
  | some r => exact h r (List.mem_of_getElem? hi)
theorem MdW.of {W : Nat} {m : Md} (hW : 1 ≤ W) (h1 : ∀ f ∈ m.start, bq f.rat ≤ W) (h2 : ∀ r ∈ m.move, ∀ f ∈ r, bq f.rat ≤ W) (h3 : ∀ f ∈ m.fin, bq f.rat ≤ W) (h4 : ∀ r ∈ m.say, ∀ f ∈ r, bq f.rat ≤ W) : MdW W m :=
  ⟨at_of hW h1, at2_of hW h2, at_of hW h3, at2_of hW h4⟩
def exA : Md := mdK [((1 : Int) : Rat)] [[((1 : Int) : Rat) / ((2 : Int) : Rat)]] [((1 : Int) : Rat) / ((2 : Int) : Rat)] [[((1 : Int) : Rat) / ((3 : Int) : Rat), ((2 : Int) : Rat) / ((3 : Int) : Rat)]]
abbrev exB : Md := leftR ((2 : Nat) : Int) ((2 : Nat) : Int)
abbrev exH : List Fr := ([((((1 : Nat) : Int)) : Rat) / ((((2 : Nat) : Int)) : Rat), ((((1 : Nat) : Int)) : Rat) / ((((2 : Nat) : Int)) : Rat)]).map frK
abbrev exM : Md := mixR exH [exA, exB]
abbrev o01 : List Int := [((0 : Nat) : Int), ((1 : Nat) : Int)]
abbrev o010 : List Int := [((0 : Nat) : Int), ((1 : Nat) : Int), ((0 : Nat) : Int)]
abbrev d01 : List (List Int) := [[((0 : Nat) : Int), ((1 : Nat) : Int)], [((1 : Nat) : Int)]]
set_option maxRecDepth 10000
theorem exA_W : MdW 2 exA := MdW.of (by decide) (by decide +kernel) (by decide +kernel) (by decide +kernel) (by decide +kernel)
theorem exB_W : MdW 2 exB := MdW.of (by decide) (by decide +kernel) (by decide +kernel) (by decide +kernel) (by decide +kernel)
theorem exM_W : MdW 2 exM := MdW.of (by decide) (by decide +kernel) (by decide +kernel) (by decide +kernel) (by decide +kernel)
theorem exA_B : MdB 1000 exA := ⟨by decide +kernel, by decide +kernel, by decide +kernel, by decide +kernel⟩
theorem exB_B : MdB 1000 exB := ⟨by decide +kernel, by decide +kernel, by decide +kernel, by decide +kernel⟩
theorem exM_B : MdB 1000 exM := ⟨by decide +kernel, by decide +kernel, by decide +kernel, by decide +kernel⟩
theorem MdB.weak {K L : Nat} {m : Md} (b : MdB K m) (h : K ≤ L) : MdB L m := ⟨Nat.le_trans b.start h, fun l q => Nat.le_trans (b.move l q) h, Nat.le_trans b.fin h, fun l q => Nat.le_trans (b.say l q) h⟩
theorem ex_len : exA.start.length = 1 ∧ exB.start.length = 2 ∧ exM.start.length = 3 := by decide +kernel
theorem exA_f : FwB ⟨exA, o01⟩ := FwB.of (S := 3) (N := 2) exA_W (by decide +kernel) (by decide) (by decide) (by decide) (by decide)
theorem exM_f : FwB ⟨exM, o01⟩ := FwB.of (S := 3) (N := 2) exM_W (by decide +kernel) (by decide) (by decide) (by decide) (by decide)
theorem exB_r : RsB ⟨exB, o010⟩ := RsB.of (N := 2) (W := 2) exB_W (fun i => by
    have h : ∀ f ∈ exB.fin, bf f ≤ 2 := by decide +kernel
    show bf (exB.fin.getD i fr0) ≤ 2
    rw [List.getD_eq_getElem?_getD]
    cases hi : exB.fin[i]? with
    | none => exact (by decide : bf fr0 ≤ 2)
    | some f => exact h f (List.mem_of_getElem? hi)) (by decide) (by decide) (by decide)
theorem ex_dok : DOk exA d01 := DOk.of (S := 3) (N := 2) (D := 2) exA_W (by decide +kernel) (by decide) (by decide) (by decide) (by decide +kernel) (exA_B.weak (by decide)) (by decide) (by decide) (by decide) (by decide) (by decide)
theorem xE0 : leftE ((2 : Nat) : Int) ((2 : Nat) : Int) = 0 := by decide
theorem xE1 : checkE [exA] [o01] = 0 := by decide +kernel
theorem xE2 : bestE exB o010 = 0 := by decide +kernel
theorem xE3 : checkE [exA] d01 = 0 := by decide +kernel
theorem xE4 : mixE exH [exA, exB] = 0 := by decide +kernel
theorem xE5 : checkE [exM] [o01] = 0 := by decide +kernel
theorem xP : bestP exB o010 = [0, 0, 1] := by decide +kernel
theorem xS : (cntC exA d01).start.length = 1 ∧ (cntC exA d01).say.length = 1 ∧ ((cntC exA d01).say.getD 0 []).length = 2 ∧ (cntC exA d01).used = 2 := by decide +kernel
theorem vL : likM exA o01 = ((((1 : Nat) : Int)) : Rat) / ((((18 : Nat) : Int)) : Rat) := by decide +kernel
theorem vW : bestM exB o010 = ((((1 : Nat) : Int)) : Rat) / ((((64 : Nat) : Int)) : Rat) := by decide +kernel
theorem vC : ((cntC exA d01).say.getD 0 []).getD 1 0 = ((((2 : Nat) : Int)) : Rat) := by decide +kernel
theorem vX : likM exM o01 = ((((17 : Nat) : Int)) : Rat) / ((((288 : Nat) : Int)) : Rat) := by decide +kernel
theorem bL : bq (likM exA o01) ≤ 2 ∧ bq (bestM exB o010) ≤ 2 ∧ bq (((cntC exA d01).say.getD 0 []).getD 1 0) ≤ 2 ∧ bq (likM exM o01) ≤ 2 := by rw [vL, vW, vC, vX]; exact ⟨bq_lit (by decide +kernel) (by decide +kernel), bq_lit (by decide +kernel) (by decide +kernel), bq_lit (by decide +kernel) (by decide +kernel), bq_lit (by decide +kernel) (by decide +kernel)⟩
theorem lt_eq {a b c : Nat} (h : a = b) (h2 : c < b) : c < a := h ▸ h2
theorem sameT {f g : Fr} (h : f = g) : sameF f g = true := by subst h; simp [sameF]
theorem exH_w : wts exH ≤ 10000000 ∧ exH.length ≤ 1048576 := by decide +kernel
theorem ex_ab : ∀ m ∈ [exA, exB], MdB 10000000 m := fun m hm => by
  simp only [List.mem_cons, List.not_mem_nil, or_false] at hm
  rcases hm with rfl | rfl
  · exact exA_B.weak (by decide)
  · exact exB_B.weak (by decide)
theorem le_eq {a b c : Nat} (h : a = b) (h2 : b ≤ c) : a ≤ c := h ▸ h2
end Go.Ear
namespace Go.Ear
theorem all_take_succ' {α : Type} {p : α → Bool} {l : List α} {k : Nat} (d : α) (hk : k < l.length) (hn : (l.take k).all p = true) (hp : p (l.getD k d) = true) : (l.take (k + 1)).all p = true := by
  rw [take_snoc d hk, List.all_append, hn, List.all_cons, hp]; rfl
theorem heardM1' (m : Md) (o : List Int) : heardM [m] o = o.any (offS (symb m : Int)) := rfl
def rowsB (l : List (List Fr)) (n k : Nat) : Bool := decide (l.length = n) && l.all fun r => decide (r.length = k)
def rowK (k : Nat) (r : List Fr) : Bool := decide (r.length = k)
theorem rowsB_t {l : List (List Fr)} {n k : Nat} (h1 : l.length = n) (h2 : l.all (rowK k) = true) : rowsB l n k = true := by unfold rowsB; rw [Bool.and_eq_true]; exact ⟨decide_eq_true h1, h2⟩
theorem rowsB_f1 {l : List (List Fr)} {n k : Nat} (h1 : l.length ≠ n) : rowsB l n k = false := by unfold rowsB; rw [decide_eq_false h1]; rfl
theorem rowsB_f2 {l : List (List Fr)} {n k i : Nat} (hi : i < l.length) (h1 : (l.getD i []).length ≠ k) : rowsB l n k = false := by
  unfold rowsB
  rw [Bool.and_eq_false_iff]; right
  rw [List.all_eq_false]
  exact ⟨_, getD_mem' l [] hi, by simpa using h1⟩
theorem rowsB_iff {l : List (List Fr)} {n k : Nat} : rowsB l n k = true ↔ l.length = n ∧ ∀ i, i < l.length → (l.getD i []).length = k := by
  constructor
  · intro h
    unfold rowsB at h
    rw [Bool.and_eq_true, List.all_eq_true] at h
    exact ⟨of_decide_eq_true h.1, fun i hi => of_decide_eq_true (h.2 _ (getD_mem' l [] hi))⟩
  · rintro ⟨h1, h2⟩
    refine rowsB_t h1 ?_
    rw [List.all_eq_true]
    intro r hr
    obtain ⟨i, hi, rfl⟩ := List.getElem_of_mem hr
    have := h2 i hi
    rw [List.getD_eq_getElem?_getD, List.getElem?_eq_getElem hi] at this
    exact decide_eq_true this
def dist2 (m : Md) (i : Nat) : Bool := distF (m.say.getD i []) && distF (leaveM m i)
def refV (m : Md) : Bool := decide (1 ≤ m.start.length) && decide (1 ≤ symb m) && decide (m.fin.length = m.start.length) && rowsB m.move m.start.length m.start.length && rowsB m.say m.start.length (symb m) && distF m.start && (List.range m.start.length).all (dist2 m)
theorem refV_eq (m : Md) : refV m = validM m := by
  rw [Bool.eq_iff_iff, validM_iff]
  unfold refV
  simp only [Bool.and_eq_true, decide_eq_true_eq, rowsB_iff, List.all_eq_true, List.mem_range, dist2, rowM]
  constructor
  · rintro ⟨⟨⟨⟨⟨⟨h1, h2⟩, h3⟩, h4, h5⟩, h6, h7⟩, h8⟩, h9⟩
    refine ⟨⟨h1, h3, h4, h6⟩, h8, fun i hi => ?_⟩
    have h10 := h9 i hi
    exact ⟨⟨⟨⟨h5 i (by omega), h7 i (by omega)⟩, h2⟩, h10.2⟩, h10.1⟩
  · rintro ⟨⟨h1, h3, h4, h6⟩, h8, h9⟩
    exact ⟨⟨⟨⟨⟨⟨h1, (h9 0 (by omega)).1.1.2⟩, h3⟩, h4, fun i hi => (h9 i (by omega)).1.1.1.1⟩, h6, fun i hi => (h9 i (by omega)).1.1.1.2⟩, h8⟩, fun i hi => ⟨(h9 i hi).2, (h9 i hi).1.2⟩⟩
section
variable {m : Md} {i : Nat}
theorem ref_ok (h : 1 ≤ m.start.length ∧ 1 ≤ symb m ∧ m.fin.length = m.start.length) (h1 : rowsB m.move m.start.length m.start.length = true) (h2 : rowsB m.say m.start.length (symb m) = true) (h3 : distF m.start = true) (ha : (List.range i).all (dist2 m) = true) (hi : m.start.length ≤ i) : validM m = true := by
  rw [← refV_eq]
  unfold refV
  simp only [Bool.and_eq_true, decide_eq_true_eq, List.all_eq_true, List.mem_range] at ha ⊢
  exact ⟨⟨⟨⟨⟨⟨h.1, h.2.1⟩, h.2.2⟩, h1⟩, h2⟩, h3⟩, fun j hj => ha j (by omega)⟩
theorem ref_no1 (h : m.start.length < 1 ∨ symb m < 1 ∨ m.fin.length ≠ m.start.length) : validM m = false := by
  rw [← refV_eq]
  unfold refV
  rw [← Bool.not_eq_true]
  simp only [Bool.and_eq_true, decide_eq_true_eq]
  omega
theorem ref_no2 (h : ¬ rowsB m.move m.start.length m.start.length = true) : validM m = false := by
  rw [← refV_eq]; unfold refV; rw [← Bool.not_eq_true]; simp only [Bool.and_eq_true]; exact fun e => h e.1.1.1.2
theorem ref_no3 (h : ¬ rowsB m.say m.start.length (symb m) = true) : validM m = false := by
  rw [← refV_eq]; unfold refV; rw [← Bool.not_eq_true]; simp only [Bool.and_eq_true]; exact fun e => h e.1.1.2
theorem ref_no4 (h : ¬ distF m.start = true) : validM m = false := by
  rw [← refV_eq]; unfold refV; rw [← Bool.not_eq_true]; simp only [Bool.and_eq_true]; exact fun e => h e.1.2
theorem ref_no5 (hi : i < m.start.length) (h : ¬ distF (m.say.getD i []) = true ∨ ¬ distF (leaveM m i) = true) : validM m = false := by
  rw [← refV_eq]; unfold refV; rw [← Bool.not_eq_true]; simp only [Bool.and_eq_true, List.all_eq_true, List.mem_range, dist2]
  exact fun e => h.elim (fun q => q (e.2 i hi).1) (fun q => q (e.2 i hi).2)
theorem ref_succ (ha : (List.range i).all (dist2 m) = true) (h1 : distF (m.say.getD i []) = true) (h2 : distF (leaveM m i) = true) : (List.range (i + 1)).all (dist2 m) = true := by
  rw [List.range_succ, List.all_append, ha, List.all_cons, dist2, h1, h2]; rfl
end
theorem symb_none {m : Md} (h : m.say.length = 0) : 0 = symb m := by
  unfold symb; rw [List.getD_eq_getElem?_getD, List.getElem?_eq_none (by omega)]; rfl
theorem long_t {m : Md} (h : 40 < m.start.length) : longM m = true := by unfold longM; simp [h]
theorem long_s {m : Md} (h : ¬ 40 < m.start.length) : decide (64 < symb m) = longM m := by
  unfold longM
  rw [decide_eq_false h, Bool.false_or]
  by_cases h0 : m.say.length = 0
  · have := symb_none h0
    rw [decide_eq_false (by omega), decide_eq_false (show ¬ 0 < m.say.length by omega)]; rfl
  · rw [decide_eq_true (show 0 < m.say.length by omega), Bool.true_and]
def heardB (m : Md) (o : List Int) : Bool := !heardM [m] o
theorem heard_t {m : Md} {o : List Int} (h : o.any (offS (symb m : Int)) = false) : heardB m o = true := by unfold heardB; rw [heardM1', h]; rfl
theorem heard_f {m : Md} {o : List Int} {i : Nat} (hi : i < o.length) (h : o.getD i 0 < 0 ∨ (symb m : Int) ≤ o.getD i 0) : heardB m o = false := by
  unfold heardB; rw [heardM1', any_at 0 hi (by unfold offS; simpa using h)]; rfl
theorem offS_no {m : Md} {x : Int} (h : ¬ (x < 0 ∨ (symb m : Int) ≤ x)) : offS (symb m : Int) x = false := by rw [← Bool.not_eq_true]; unfold offS; simpa using h
theorem heard_not {m : Md} {o : List Int} (h : ¬ heardB m o = true) : heardM [m] o = true := by unfold heardB at h; simpa using h
theorem heard_is {m : Md} {o : List Int} (h : heardB m o = true) : heardM [m] o = false := by unfold heardB at h; simpa using h
theorem check_long {m : Md} {data : List (List Int)} (h : longM m = true ∨ 200 < data.length) : checkE [m] data = 5 := by
  unfold checkE
  rw [if_pos (by simp only [List.any_cons, List.any_nil, Bool.or_false, Bool.or_eq_true, decide_eq_true_eq]; rcases h with h | h; exact .inl (.inl h); exact .inl (.inr h))]
theorem check_longO {m : Md} {data : List (List Int)} {i : Nat} (hi : i < data.length) (h : 1000 < (data.getD i []).length) : checkE [m] data = 5 := by
  unfold checkE
  rw [if_pos]
  simp only [Bool.or_eq_true]; right
  exact any_at [] hi (by unfold longO; exact decide_eq_true h)
theorem check_bad {m : Md} {data : List (List Int)} (h1 : ¬ longM m = true) (h2 : ¬ 200 < data.length) (h3 : data.any longO = false) (h : ¬ validM m = true) : checkE [m] data = 2 := by
  unfold checkE
  rw [if_neg (by simp only [List.any_cons, List.any_nil, Bool.or_false, Bool.or_eq_true, decide_eq_true_eq, h3]; simp [h1, h2]), if_pos (by simp [notV, h])]
theorem check_off {m : Md} {data : List (List Int)} {i : Nat} (h1 : ¬ longM m = true) (h2 : ¬ 200 < data.length) (h3 : data.any longO = false) (h : validM m = true) (hi : i < data.length) (h4 : heardM [m] (data.getD i []) = true) : checkE [m] data = 2 := by
  unfold checkE
  rw [if_neg (by simp only [List.any_cons, List.any_nil, Bool.or_false, Bool.or_eq_true, decide_eq_true_eq, h3]; simp [h1, h2]), if_neg (by simp [notV, h]), if_pos (any_at [] hi h4)]
theorem check_good {m : Md} {data : List (List Int)} (h1 : ¬ longM m = true) (h2 : ¬ 200 < data.length) (h3 : data.any longO = false) (h : validM m = true) (h4 : data.any (heardM [m]) = false) : checkE [m] data = 0 := by
  unfold checkE
  rw [if_neg (by simp only [List.any_cons, List.any_nil, Bool.or_false, Bool.or_eq_true, decide_eq_true_eq, h3]; simp [h1, h2]), if_neg (by simp [notV, h]), if_neg (by rw [h4]; decide)]
theorem heardM1 (m : Md) (o : List Int) : heardM [m] o = o.any (offS (symb m : Int)) := rfl
theorem lenO {data : List (List Int)} {j : Nat} (h : data.any longO = false) (hj : j < data.length) : (data.getD j []).length ≤ 1099511627776 := by
  have := List.any_eq_false.1 h _ (getD_mem' data [] hj)
  unfold longO at this
  simp only [decide_eq_true_eq] at this
  omega
def bigW (f : Fr) : Bool := decide (2 < f.n.length) || decide (2 < f.d.length)
def allW (m : Md) : List Fr := m.start ++ m.fin ++ m.move.flatten ++ m.say.flatten
def plainM (m : Md) : Bool := !(allW m).any bigW
def totL (l : List (List Fr)) : Nat := l.flatten.length
theorem flat_succ {l : List (List Fr)} {i : Nat} (hi : i < l.length) : (l.take i).flatten ++ l.getD i [] = (l.take (i + 1)).flatten := by
  rw [take_snoc [] hi, List.flatten_append]; simp
theorem flat_le (l : List (List Fr)) (i : Nat) : (l.take i).flatten.length ≤ totL l := by
  unfold totL
  have h := congrArg List.flatten (List.take_append_drop i l)
  rw [List.flatten_append] at h
  rw [← h, List.length_append]; omega
theorem flat_len {l : List (List Fr)} {i : Nat} (hi : i < l.length) : (l.take i).flatten.length + (l.getD i []).length ≤ totL l := by
  rw [← List.length_append, flat_succ hi]; exact flat_le l _
theorem plain_t {m : Md} (h : (allW m).any bigW = false) : plainM m = true := by unfold plainM; rw [h]; rfl
theorem plain_f {m : Md} {k : Nat} (hk : k < (allW m).length) (h : bigW ((allW m).getD k fr0) = true) : plainM m = false := by unfold plainM; rw [any_of_getD hk h]; rfl
theorem bigW_t {f : Fr} (h : 2 < f.n.length ∨ 2 < f.d.length) : bigW f = true := by unfold bigW; rw [Bool.or_eq_true, decide_eq_true_iff, decide_eq_true_iff]; exact h
theorem bigW_f {f : Fr} (h : ¬ (2 < f.n.length ∨ 2 < f.d.length)) : bigW f = false := by rw [← Bool.not_eq_true]; unfold bigW; rw [Bool.or_eq_true, decide_eq_true_iff, decide_eq_true_iff]; exact h
def smallB (m : Md) (s : Nat) : Bool := decide (m.start.length ≤ s) && decide (m.move.length ≤ 50) && decide (m.say.length ≤ 50) && decide (symb m ≤ 70) && plainM m
def fairB (m : Md) (o : List Int) (s f : Nat) : Bool := smallB m s && decide (o.length ≤ f) && decide (checkE [m] [o] = 0)
theorem smallB_f {m : Md} {s : Nat} (h : s < m.start.length ∨ 50 < m.move.length ∨ 50 < m.say.length ∨ 70 < symb m) : smallB m s = false := by
  rw [← Bool.not_eq_true]; unfold smallB; simp only [Bool.and_eq_true, decide_eq_true_eq]; omega
theorem smallB_p {m : Md} {s : Nat} (h : m.start.length ≤ s ∧ m.move.length ≤ 50 ∧ m.say.length ≤ 50 ∧ symb m ≤ 70) : plainM m = smallB m s := by
  unfold smallB; rw [decide_eq_true h.1, decide_eq_true h.2.1, decide_eq_true h.2.2.1, decide_eq_true h.2.2.2]; rfl
theorem fairB_f1 {m : Md} {o : List Int} {s f : Nat} (h : ¬ smallB m s = true) : fairB m o s f = false := by
  rw [← Bool.not_eq_true]; unfold fairB; simp only [Bool.and_eq_true]; exact fun e => h e.1.1
theorem fairB_f2 {m : Md} {o : List Int} {s f : Nat} (h : f < o.length) : fairB m o s f = false := by
  rw [← Bool.not_eq_true]; unfold fairB; simp only [Bool.and_eq_true, decide_eq_true_eq]; omega
theorem fairB_p {m : Md} {o : List Int} {s f : Nat} (h : smallB m s = true) (h2 : o.length ≤ f) : decide (checkE [m] [o] = 0) = fairB m o s f := by
  unfold fairB; rw [h, decide_eq_true h2]; rfl
structure UpM (m : Md) : Prop where
  n : m.start.length + m.fin.length + totL m.move + totL m.say ≤ 1048576
  r : m.move.length + m.say.length ≤ 1048576
  b : MdB 10000000 m
theorem plain_le {m : Md} (h : plainM m = true) {f : Fr} (hf : f ∈ allW m) : bf f ≤ 2 := by
  unfold plainM at h
  have h1 : (allW m).any bigW = false := by simpa using h
  have h2 := List.any_eq_false.1 h1 f hf
  simp only [bigW, Bool.or_eq_true, decide_eq_true_eq, not_or] at h2
  exact bf_le (by omega) (by omega) (by omega)
theorem small_plain {m : Md} {s : Nat} (h : smallB m s = true) : m.start.length ≤ s ∧ m.move.length ≤ 50 ∧ m.say.length ≤ 50 ∧ symb m ≤ 70 ∧ plainM m = true := by
  unfold smallB at h
  simp only [Bool.and_eq_true, decide_eq_true_eq] at h
  exact ⟨h.1.1.1.1, h.1.1.1.2, h.1.1.2, h.1.2, h.2⟩
theorem fair_all {m : Md} {o : List Int} {s f : Nat} (h : fairB m o s f = true) : smallB m s = true ∧ o.length ≤ f ∧ checkE [m] [o] = 0 := by
  unfold fairB at h
  simp only [Bool.and_eq_true, decide_eq_true_eq] at h
  exact ⟨h.1.1, h.1.2, h.2⟩
theorem wts_le : ∀ {l : List Fr}, (∀ f ∈ l, bf f ≤ 2) → wts l ≤ 3 * l.length
  | [], _ => Nat.le_refl _
  | f :: l, h => by rw [wts_cons, List.length_cons]; have := h f (List.mem_cons_self ..); have := wts_le fun g hg => h g (List.mem_cons_of_mem _ hg); omega
end Go.Ear
namespace Go.Ear
section
variable {α : Type} {p : α → α → Bool} {d : α} {a b : List α} {i : Nat}
def eqP (p : α → α → Bool) (d : α) (a b : List α) (i : Nat) : Bool := p (a.getD i d) (b.getD i d)
def all2 (p : α → α → Bool) (d : α) (a b : List α) : Bool := decide (a.length = b.length) && (List.range a.length).all (eqP p d a b)
theorem all2_f1 (h : a.length ≠ b.length) : all2 p d a b = false := by unfold all2; rw [decide_eq_false h]; rfl
theorem all2_f2 (hi : i < a.length) (h : ¬ p (a.getD i d) (b.getD i d) = true) : all2 p d a b = false := by
  unfold all2
  rw [Bool.and_eq_false_iff]; right
  rw [List.all_eq_false]
  exact ⟨i, List.mem_range.2 hi, h⟩
theorem all2_t (h : a.length = b.length) (ha : (List.range i).all (eqP p d a b) = true) (hi : a.length ≤ i) : all2 p d a b = true := by
  unfold all2
  rw [decide_eq_true h, Bool.true_and, List.all_eq_true]
  intro j hj
  exact List.all_eq_true.1 ha j (List.mem_range.2 (by have := List.mem_range.1 hj; omega))
theorem all2_succ (ha : (List.range i).all (eqP p d a b) = true) (h : p (a.getD i d) (b.getD i d) = true) : (List.range (i + 1)).all (eqP p d a b) = true := by
  rw [List.range_succ, List.all_append, ha, List.all_cons, eqP, h]; rfl
theorem all2_refl (h : ∀ x, p x x = true) : all2 p d a a = true := by
  unfold all2
  rw [decide_eq_true rfl, Bool.true_and, List.all_eq_true]
  intro j _; exact h _
theorem all2_iff : all2 p d a b = true ↔ a.length = b.length ∧ ∀ i, i < a.length → p (a.getD i d) (b.getD i d) = true := by
  unfold all2
  rw [Bool.and_eq_true, decide_eq_true_iff, List.all_eq_true]
  constructor
  · exact fun h => ⟨h.1, fun i hi => h.2 i (List.mem_range.2 hi)⟩
  · exact fun h => ⟨h.1, fun i hi => h.2 i (List.mem_range.1 hi)⟩
theorem getD_map' {β : Type} {f : α → β} {e : β} (hi : i < a.length) : (a.map f).getD i e = f (a.getD i d) := by
  rw [List.getD_eq_getElem?_getD, List.getD_eq_getElem?_getD, List.getElem?_map, List.getElem?_eq_getElem hi]; rfl
theorem all2_map {β : Type} {f : α → β} {q : β → β → Bool} {e : β} (h : ∀ x y, p x y = q (f x) (f y)) : all2 p d a b = all2 q e (a.map f) (b.map f) := by
  rw [Bool.eq_iff_iff, all2_iff, all2_iff, List.length_map, List.length_map]
  constructor
  · rintro ⟨h1, h2⟩
    refine ⟨h1, fun i hi => ?_⟩
    rw [getD_map' (d := d) hi, getD_map' (d := d) (by omega), ← h]; exact h2 i hi
  · rintro ⟨h1, h2⟩
    refine ⟨h1, fun i hi => ?_⟩
    have := h2 i hi
    rw [getD_map' (d := d) hi, getD_map' (d := d) (by omega), ← h] at this; exact this
end
def eqV (f g : Fr) : Bool := decide (f.rat = g.rat)
def equalL (a b : List Fr) : Bool := all2 eqV fr0 a b
def equalR (a b : List (List Fr)) : Bool := all2 equalL [] a b
def equalM (a b : Md) : Bool := equalL a.start b.start && (equalL a.fin b.fin && (equalR a.move b.move && equalR a.say b.say))
def sameL (a b : List Fr) : Bool := all2 sameF fr0 a b
def sameR (a b : List (List Fr)) : Bool := all2 sameL [] a b
def sameM (a b : Md) : Bool := sameL a.start b.start && (sameR a.move b.move && (sameL a.fin b.fin && sameR a.say b.say))
def ratsL (l : List Fr) : List Rat := l.map Fr.rat
def ratsR (l : List (List Fr)) : List (List Rat) := l.map ratsL
def copyM (m : Md) : Md := mdK (ratsL m.start) (ratsR m.move) (ratsL m.fin) (ratsR m.say)
theorem rat_sub_zero {a b : Rat} : a - b = 0 ↔ a = b := by constructor <;> intro h <;> grind
theorem eqV_same (f g : Fr) : eqV f g = sameF (frK f.rat) (frK g.rat) := by
  rw [Bool.eq_iff_iff, sameF_iff]
  unfold eqV
  rw [decide_eq_true_iff]
  exact ⟨congrArg frK, fun h => by have := congrArg Fr.rat h; rw [frK_rat, frK_rat] at this; exact this⟩
theorem equalL_same (a b : List Fr) : equalL a b = sameL ((ratsL a).map frK) ((ratsL b).map frK) := by
  unfold equalL sameL ratsL
  rw [List.map_map, List.map_map]
  exact all2_map fun x y => eqV_same x y
theorem equalR_same (a b : List (List Fr)) : equalR a b = sameR ((ratsR a).map (·.map frK)) ((ratsR b).map (·.map frK)) := by
  unfold equalR sameR ratsR
  rw [List.map_map, List.map_map]
  exact all2_map fun x y => equalL_same x y
theorem equal_same (a b : Md) : equalM a b = sameM (copyM a) (copyM b) := by
  unfold equalM sameM copyM mdK
  dsimp only
  rw [equalL_same, equalL_same, equalR_same, equalR_same]
  generalize sameL _ _ = p; generalize sameL _ _ = q; generalize sameR _ _ = r; generalize sameR _ _ = s
  cases p <;> cases q <;> cases r <;> cases s <;> rfl
theorem equal_refl (a : Md) : equalM a a = true := by
  have h1 : ∀ l, equalL l l = true := fun l => all2_refl fun x => decide_eq_true rfl
  have h2 : ∀ l, equalR l l = true := fun l => all2_refl h1
  unfold equalM; rw [h1, h1, h2, h2]; rfl
section
variable {a b : Md}
theorem eqM_f1 (h : ¬ equalL a.start b.start = true) : equalM a b = false := by rw [Bool.not_eq_true] at h; unfold equalM; rw [h]; rfl
theorem eqM_f2 (h1 : equalL a.start b.start = true) (h : ¬ equalL a.fin b.fin = true) : equalM a b = false := by rw [Bool.not_eq_true] at h; unfold equalM; rw [h1, h]; rfl
theorem eqM_f3 (h1 : equalL a.start b.start = true) (h2 : equalL a.fin b.fin = true) (h : ¬ equalR a.move b.move = true) : equalM a b = false := by rw [Bool.not_eq_true] at h; unfold equalM; rw [h1, h2, h]; rfl
theorem eqM_p (h1 : equalL a.start b.start = true) (h2 : equalL a.fin b.fin = true) (h : equalR a.move b.move = true) : equalR a.say b.say = equalM a b := by unfold equalM; rw [h1, h2, h]; rfl
theorem smM_f1 (h : ¬ sameL a.start b.start = true) : sameM a b = false := by rw [Bool.not_eq_true] at h; unfold sameM; rw [h]; rfl
theorem smM_f2 (h1 : sameL a.start b.start = true) (h : ¬ sameR a.move b.move = true) : sameM a b = false := by rw [Bool.not_eq_true] at h; unfold sameM; rw [h1, h]; rfl
theorem smM_f3 (h1 : sameL a.start b.start = true) (h2 : sameR a.move b.move = true) (h : ¬ sameL a.fin b.fin = true) : sameM a b = false := by rw [Bool.not_eq_true] at h; unfold sameM; rw [h1, h2, h]; rfl
theorem smM_p (h1 : sameL a.start b.start = true) (h2 : sameR a.move b.move = true) (h : sameL a.fin b.fin = true) : sameR a.say b.say = sameM a b := by unfold sameM; rw [h1, h2, h]; rfl
end
theorem rats_succ {l : List Fr} {i : Nat} (hi : i < l.length) : ratsL (l.take i) ++ [(l.getD i fr0).rat] = ratsL (l.take (i + 1)) := by
  unfold ratsL; rw [take_snoc fr0 hi, List.map_append]; rfl
theorem ratsR_succ {l : List (List Fr)} {i : Nat} (hi : i < l.length) : ratsR (l.take i) ++ [ratsL (l.getD i [])] = ratsR (l.take (i + 1)) := by
  unfold ratsR; rw [take_snoc [] hi, List.map_append]; rfl
theorem rats_len (l : List Fr) (i : Nat) (hi : i ≤ l.length) : (ratsL (l.take i)).length = i := by unfold ratsL; rw [List.length_map, List.length_take]; omega
theorem ratsR_len (l : List (List Fr)) (i : Nat) (hi : i ≤ l.length) : (ratsR (l.take i)).length = i := by unfold ratsR; rw [List.length_map, List.length_take]; omega
theorem wts_copy : ∀ {l : List Fr}, (∀ x ∈ l, bq x.rat ≤ bf x) → wts ((ratsL l).map frK) ≤ wts l
  | [], _ => Nat.le_refl _
  | f :: l, h => by
    show wts (frK f.rat :: (ratsL l).map frK) ≤ _
    rw [wts_cons, wts_cons, bf_frK]; have := h f (List.mem_cons_self ..); have := wts_copy fun g hg => h g (List.mem_cons_of_mem _ hg); omega
theorem wts_copyR {K : Nat} {ll : List (List Fr)} (h : ∀ l ∈ ll, ∀ x ∈ l, bq x.rat ≤ bf x) (b : ∀ l ∈ ll, wts l ≤ K) : ∀ l ∈ (ratsR ll).map (·.map frK), wts l ≤ K := by
  intro l hl
  unfold ratsR at hl
  rw [List.map_map] at hl
  obtain ⟨r, hr, rfl⟩ := List.mem_map.1 hl
  exact Nat.le_trans (wts_copy (h r hr)) (b r hr)
theorem same_eq {a b : Md} : decide (equalM a b = sameM (copyM a) (copyM b)) = true := decide_eq_true (equal_same a b)
end Go.Ear
namespace Go.Ear
section
variable {f g : Nat → Rat} {n m : Nat} {c : Rat}
theorem sumTo_add : ∀ n, sumTo (fun i => f i + g i) n = sumTo f n + sumTo g n
  | 0 => by show (0 : Rat) = 0 + 0; rw [Rat.add_zero]
  | n + 1 => by rw [sumTo_succ, sumTo_succ, sumTo_succ, sumTo_add n]; grind
theorem sumTo_mul : ∀ n, sumTo (fun i => c * f i) n = c * sumTo f n
  | 0 => by show (0 : Rat) = c * 0; rw [Rat.mul_zero]
  | n + 1 => by rw [sumTo_succ, sumTo_succ, sumTo_mul n]; grind
theorem sumTo_mulR : ∀ n, sumTo (fun i => f i * c) n = sumTo f n * c
  | 0 => by show (0 : Rat) = 0 * c; rw [Rat.zero_mul]
  | n + 1 => by rw [sumTo_succ, sumTo_succ, sumTo_mulR n]; grind
theorem sumTo_zero : ∀ n, sumTo (fun _ => (0 : Rat)) n = 0
  | 0 => rfl
  | n + 1 => by rw [sumTo_succ, sumTo_zero n, Rat.add_zero]
theorem sumTo_comm {F : Nat → Nat → Rat} (m : Nat) : ∀ n, sumTo (fun i => sumTo (F i) m) n = sumTo (fun j => sumTo (fun i => F i j) n) m
  | 0 => by show (0 : Rat) = _; exact (sumTo_zero m).symm
  | n + 1 => by rw [sumTo_succ, sumTo_comm m n, ← sumTo_add]; rfl
theorem sumTo_nonneg : ∀ n, (∀ i, i < n → 0 ≤ f i) → 0 ≤ sumTo f n
  | 0, _ => Rat.le_refl
  | n + 1, h => by rw [sumTo_succ]; have h1 := sumTo_nonneg n fun i hi => h i (by omega); have h2 := h n (by omega); grind
theorem sumTo_le : ∀ n, (∀ i, i < n → f i ≤ g i) → sumTo f n ≤ sumTo g n
  | 0, _ => Rat.le_refl
  | n + 1, h => by rw [sumTo_succ, sumTo_succ]; have h1 := sumTo_le n fun i hi => h i (by omega); have h2 := h n (by omega); grind
theorem sumTo_one (h : ∀ i, i < n → 0 ≤ f i) {k : Nat} (hk : k < n) : f k ≤ sumTo f n := by
  induction n with
  | zero => omega
  | succ n ih =>
    rw [sumTo_succ]
    have h1 := sumTo_nonneg (f := f) n fun i hi => h i (by omega)
    have h2 := h n (by omega)
    by_cases e : k = n
    · subst e; grind
    · have := ih (fun i hi => h i (by omega)) (by omega); grind
end
def sumL {α : Type} (f : α → Rat) : List α → Rat
  | [] => 0
  | x :: l => f x + sumL f l
section
variable {α β : Type} {f g : α → Rat} {l l2 : List α} {c : Rat}
theorem sumL_append : ∀ l, sumL f (l ++ l2) = sumL f l + sumL f l2
  | [] => by show _ = 0 + _; rw [Rat.zero_add]; rfl
  | x :: l => by show f x + sumL f (l ++ l2) = f x + sumL f l + _; rw [sumL_append l, Rat.add_assoc]
theorem sumL_snoc (x : α) : sumL f (l ++ [x]) = sumL f l + f x := by rw [sumL_append]; show _ + (f x + 0) = _; rw [Rat.add_zero]
theorem sumL_take (d : α) {k : Nat} (hk : k < l.length) : sumL f (l.take (k + 1)) = sumL f (l.take k) + f (l.getD k d) := by rw [take_snoc d hk, sumL_snoc]
theorem sumL_map {h : β → α} : ∀ l : List β, sumL f (l.map h) = sumL (fun x => f (h x)) l
  | [] => rfl
  | x :: l => by show f (h x) + sumL f (l.map h) = _; rw [sumL_map l]; rfl
theorem sumL_flatMap {h : β → List α} : ∀ l : List β, sumL f (l.flatMap h) = sumL (fun x => sumL f (h x)) l
  | [] => rfl
  | x :: l => by rw [List.flatMap_cons, sumL_append, sumL_flatMap l]; rfl
theorem sumL_congr : ∀ l, (∀ x ∈ l, f x = g x) → sumL f l = sumL g l
  | [], _ => rfl
  | x :: l, h => by show f x + sumL f l = g x + sumL g l; rw [h x (List.mem_cons_self ..), sumL_congr l fun y hy => h y (List.mem_cons_of_mem _ hy)]
theorem sumL_mul : ∀ l, sumL (fun x => c * f x) l = c * sumL f l
  | [] => by show (0 : Rat) = c * 0; rw [Rat.mul_zero]
  | x :: l => by show c * f x + sumL _ l = c * (f x + sumL f l); rw [sumL_mul l]; grind
theorem sumL_add : ∀ l, sumL (fun x => f x + g x) l = sumL f l + sumL g l
  | [] => by show (0 : Rat) = 0 + 0; rw [Rat.add_zero]
  | x :: l => by show f x + g x + sumL _ l = f x + sumL f l + (g x + sumL g l); rw [sumL_add l]; grind
theorem sumL_range {f : Nat → Rat} : ∀ n, sumL f (List.range n) = sumTo f n
  | 0 => rfl
  | n + 1 => by rw [List.range_succ, sumL_snoc, sumL_range n]; rfl
theorem sumL_sumTo {F : α → Nat → Rat} (n : Nat) : ∀ l, sumL (fun x => sumTo (F x) n) l = sumTo (fun i => sumL (fun x => F x i) l) n
  | [] => by show (0 : Rat) = _; exact (sumTo_zero n).symm
  | x :: l => by show sumTo (F x) n + sumL _ l = _; rw [sumL_sumTo n l, ← sumTo_add]; rfl
theorem sumL_nonneg : ∀ l, (∀ x ∈ l, 0 ≤ f x) → 0 ≤ sumL f l
  | [], _ => Rat.le_refl
  | x :: l, h => by show 0 ≤ f x + sumL f l; have h1 := h x (List.mem_cons_self ..); have h2 := sumL_nonneg l fun y hy => h y (List.mem_cons_of_mem _ hy); grind
theorem sumL_one {x : α} : ∀ l, (∀ x ∈ l, 0 ≤ f x) → x ∈ l → f x ≤ sumL f l
  | y :: l, h, hx => by
    show _ ≤ f y + sumL f l
    have h1 := h y (List.mem_cons_self ..)
    have h2 := sumL_nonneg l fun y hy => h y (List.mem_cons_of_mem _ hy)
    rcases List.mem_cons.1 hx with rfl | hx
    · grind
    · have := sumL_one l (fun y hy => h y (List.mem_cons_of_mem _ hy)) hx; grind
end
def pathsL (s : Nat) : Nat → List (List Int)
  | 0 => [[]]
  | n + 1 => (pathsL s n).flatMap fun p => (List.range s).map fun i => p ++ [((i : Nat) : Int)]
def pa (p : List Int) (k : Nat) : Nat := (p.getD k 0).toNat
theorem pa_snoc (p : List Int) (i : Nat) : pa (p ++ [((i : Nat) : Int)]) p.length = i := by
  unfold pa; rw [List.getD_eq_getElem?_getD, List.getElem?_append_right (Nat.le_refl _), Nat.sub_self]; rfl
theorem pa_left {p q : List Int} {k : Nat} (h : k < p.length) : pa (p ++ q) k = pa p k := by
  unfold pa; rw [List.getD_eq_getElem?_getD, List.getElem?_append_left h, ← List.getD_eq_getElem?_getD]
def wF (t : Tr) (p : List Int) : Nat → Rat
  | 0 => (t.m.start.getD (pa p 0) fr0).rat
  | 1 => (t.m.start.getD (pa p 0) fr0).rat * sayT t (pa p 0) 0
  | k + 2 => wF t p (k + 1) * moveT t (pa p k) (pa p (k + 1)) * sayT t (pa p (k + 1)) (k + 1)
def weightT (t : Tr) (p : List Int) : Rat := if t.o.length = 0 then 0 else wF t p t.o.length * (t.m.fin.getD (pa p (t.o.length - 1)) fr0).rat
theorem wF_left {t : Tr} {p q : List Int} : ∀ {k : Nat}, 1 ≤ k → k ≤ p.length → wF t (p ++ q) k = wF t p k
  | 1, _, h => by rw [wF, wF, pa_left (by omega)]
  | k + 2, _, h => by rw [wF, wF, wF_left (by omega) (by omega), pa_left (by omega), pa_left (by omega)]
theorem paths_len {s : Nat} : ∀ {n : Nat} {p : List Int}, p ∈ pathsL s n → p.length = n
  | 0, p, h => by rw [pathsL, List.mem_singleton] at h; rw [h]; rfl
  | n + 1, p, h => by
    rw [pathsL, List.mem_flatMap] at h
    obtain ⟨q, hq, h⟩ := h
    obtain ⟨i, _, rfl⟩ := List.mem_map.1 h
    rw [List.length_append, paths_len hq]; rfl
theorem sum_paths {s : Nat} (f : List Int → Rat) (n : Nat) : sumL f (pathsL s (n + 1)) = sumL (fun p => sumTo (fun i => f (p ++ [((i : Nat) : Int)])) s) (pathsL s n) := by
  rw [pathsL, sumL_flatMap]
  refine sumL_congr _ fun p _ => ?_
  rw [sumL_map, sumL_range]
theorem paths_fwd (t : Tr) : ∀ (n : Nat) (c : Nat → Rat), sumL (fun p => wF t p (n + 1) * c (pa p n)) (pathsL t.m.start.length (n + 1)) = sumTo (fun i => (fwd t n).getD i 0 * c i) t.m.start.length
  | 0, c => by
    rw [sum_paths]
    show sumTo _ _ + 0 = _
    rw [Rat.add_zero]
    refine sumTo_congr _ fun i hi => ?_
    have h : pa ([] ++ [((i : Nat) : Int)]) 0 = i := pa_snoc [] i
    rw [wF, h, fwd_zero hi]
  | n + 1, c => by
    rw [sum_paths]
    have h1 : ∀ p ∈ pathsL t.m.start.length (n + 1), sumTo (fun i => wF t (p ++ [((i : Nat) : Int)]) (n + 1 + 1) * c (pa (p ++ [((i : Nat) : Int)]) (n + 1))) t.m.start.length
        = wF t p (n + 1) * sumTo (fun i => moveT t (pa p n) i * (sayT t i (n + 1) * c i)) t.m.start.length := fun p hp => by
      rw [← sumTo_mul]
      refine sumTo_congr _ fun i _ => ?_
      have hl := paths_len hp
      have h2 : pa (p ++ [((i : Nat) : Int)]) (n + 1) = i := hl ▸ pa_snoc p i
      rw [wF, h2, wF_left (by omega) (by omega), pa_left (by omega)]
      grind
    rw [sumL_congr _ h1, paths_fwd t n fun j => sumTo (fun i => moveT t j i * (sayT t i (n + 1) * c i)) t.m.start.length]
    have h3 : ∀ j, j < t.m.start.length → (fwd t n).getD j 0 * sumTo (fun i => moveT t j i * (sayT t i (n + 1) * c i)) t.m.start.length = sumTo (fun i => (fwd t n).getD j 0 * (moveT t j i * (sayT t i (n + 1) * c i))) t.m.start.length := fun j _ => (sumTo_mul _).symm
    rw [sumTo_congr _ h3, sumTo_comm]
    refine sumTo_congr _ fun i hi => ?_
    rw [← fwd_succ hi, ← sumTo_mul, ← sumTo_mulR]
    refine sumTo_congr _ fun j _ => ?_
    grind
theorem lk_fwd {t : Tr} (h : 0 < t.o.length) : lk t = sumTo (fun i => (fwd t (t.o.length - 1)).getD i 0 * (t.m.fin.getD i fr0).rat) t.m.start.length := by
  unfold lk likT
  rw [if_neg (by rw [fwdAll_len]; omega)]
  refine sumTo_congr _ fun i _ => ?_
  rw [fwdAll_len, fwdAll_at (by omega)]
theorem lk_zero {t : Tr} (h : t.o.length = 0) : lk t = 0 := by unfold lk likT; rw [if_pos (by rw [fwdAll_len]; exact h)]
theorem lk_paths (t : Tr) : sumL (weightT t) (pathsL t.m.start.length t.o.length) = lk t := by
  by_cases h : t.o.length = 0
  · rw [lk_zero h, h]
    show weightT t [] + 0 = 0
    unfold weightT; rw [if_pos h, Rat.add_zero]
  · rw [lk_fwd (by omega), ← paths_fwd]
    rw [show t.o.length - 1 + 1 = t.o.length by omega]
    refine sumL_congr _ fun p _ => ?_
    unfold weightT; rw [if_neg h]
theorem lk_both {t : Tr} : ∀ {k : Nat}, k < t.o.length → sumTo (fun i => (fwd t (t.o.length - 1 - k)).getD i 0 * (bwd t k).getD i 0) t.m.start.length = lk t
  | 0, h => by
    rw [lk_fwd h]
    refine sumTo_congr _ fun i hi => ?_
    rw [← bwd_zero hi]; rfl
  | k + 1, h => by
    rw [← lk_both (show k < t.o.length by omega)]
    have e : t.o.length - 1 - k = t.o.length - 1 - (k + 1) + 1 := by omega
    have h1 : ∀ i, i < t.m.start.length → (fwd t (t.o.length - 1 - (k + 1))).getD i 0 * (bwd t (k + 1)).getD i 0 = sumTo (fun j => (fwd t (t.o.length - 1 - (k + 1))).getD i 0 * (moveT t i j * sayT t j (t.o.length - 1 - k) * (bwd t k).getD j 0)) t.m.start.length := fun i hi => by
      rw [← bwd_succ hi, sumTo_mul]
    rw [sumTo_congr _ h1, sumTo_comm]
    refine sumTo_congr _ fun j hj => ?_
    rw [e, ← fwd_succ hj, ← sumTo_mul, ← sumTo_mulR]
    refine sumTo_congr _ fun i _ => ?_
    grind
theorem lk_both' {t : Tr} {k : Nat} (h : k < t.o.length) : sumTo (fun i => (fwd t k).getD i 0 * (bwd t (t.o.length - 1 - k)).getD i 0) t.m.start.length = lk t := by
  have := lk_both (t := t) (k := t.o.length - 1 - k) (by omega)
  rwa [show t.o.length - 1 - (t.o.length - 1 - k) = k by omega] at this
structure Nn (m : Md) : Prop where
  st : ∀ i, 0 ≤ (m.start.getD i fr0).rat
  mv : ∀ i j, 0 ≤ ((m.move.getD i []).getD j fr0).rat
  fi : ∀ i, 0 ≤ (m.fin.getD i fr0).rat
  sy : ∀ i j, 0 ≤ ((m.say.getD i []).getD j fr0).rat
section
variable {t : Tr} (nn : Nn t.m)
include nn
theorem Nn.mvT (i j : Nat) : 0 ≤ moveT t i j := nn.mv i j
theorem Nn.syT (i k : Nat) : 0 ≤ sayT t i k := nn.sy i _
theorem fwd_nn : ∀ k i, 0 ≤ (fwd t k).getD i 0
  | k, i => by
    by_cases hi : i < t.m.start.length
    · match k with
      | 0 => rw [← fwd_zero hi]; exact Rat.mul_nonneg (nn.st i) (nn.sy i _)
      | k + 1 => rw [← fwd_succ hi]; exact Rat.mul_nonneg (nn.sy i _) (sumTo_nonneg _ fun j _ => Rat.mul_nonneg (fwd_nn k j) (nn.mv j i))
    · rw [List.getD_eq_getElem?_getD, List.getElem?_eq_none (by rw [fwd_len]; omega)]; exact Rat.le_refl
theorem bwd_nn : ∀ k i, 0 ≤ (bwd t k).getD i 0
  | k, i => by
    by_cases hi : i < t.m.start.length
    · match k with
      | 0 => rw [← bwd_zero hi]; exact nn.fi i
      | k + 1 => rw [← bwd_succ hi]; exact sumTo_nonneg _ fun j _ => Rat.mul_nonneg (Rat.mul_nonneg (nn.mv i j) (nn.sy j _)) (bwd_nn k j)
    · rw [List.getD_eq_getElem?_getD, List.getElem?_eq_none (by rw [bwd_len]; omega)]; exact Rat.le_refl
theorem lk_nn : 0 ≤ lk t := by
  by_cases h : t.o.length = 0
  · rw [lk_zero h]; exact Rat.le_refl
  · rw [lk_fwd (by omega)]; exact sumTo_nonneg _ fun i _ => Rat.mul_nonneg (fwd_nn nn _ i) (nn.fi i)
theorem wF_nn (p : List Int) : ∀ k, 0 ≤ wF t p k
  | 0 => nn.st _
  | 1 => Rat.mul_nonneg (nn.st _) (nn.sy _ _)
  | k + 2 => Rat.mul_nonneg (Rat.mul_nonneg (wF_nn p (k + 1)) (nn.mv _ _)) (nn.sy _ _)
theorem weightT_nn (p : List Int) : 0 ≤ weightT t p := by
  unfold weightT; split
  · exact Rat.le_refl
  · exact Rat.mul_nonneg (wF_nn nn p _) (nn.fi _)
end
theorem fwd_o {m : Md} {o q : List Int} : ∀ {k : Nat}, k < o.length → fwd ⟨m, o ++ q⟩ k = fwd ⟨m, o⟩ k
  | 0, h => by
    unfold fwd sayT
    dsimp only
    rw [List.getD_eq_getElem?_getD (l := o ++ q), List.getElem?_append_left h, ← List.getD_eq_getElem?_getD]
  | k + 1, h => by
    rw [fwd, fwd, fwd_o (show k < o.length by omega)]
    unfold sayT
    dsimp only
    rw [List.getD_eq_getElem?_getD (l := o ++ q), List.getElem?_append_left h, ← List.getD_eq_getElem?_getD]
    rfl
def leftA (m : Md) : Nat → Nat → Rat
  | 0, i => (m.start.getD i fr0).rat
  | n + 1, i => sumTo (fun j => leftA m n j * ((m.move.getD j []).getD i fr0).rat) m.start.length
structure Ones (m : Md) (K : Nat) : Prop where
  sy : ∀ i, i < m.start.length → sumTo (fun x => ((m.say.getD i []).getD x fr0).rat) K = 1
  lv : ∀ i, i < m.start.length → sumTo (fun j => ((m.move.getD i []).getD j fr0).rat) m.start.length + (m.fin.getD i fr0).rat = 1
  st : sumTo (fun i => (m.start.getD i fr0).rat) m.start.length = 1
section
variable {m : Md} {K : Nat} (on : Ones m K)
include on
theorem sum_fwd : ∀ n i, i < m.start.length → sumL (fun o => (fwd ⟨m, o⟩ n).getD i 0) (pathsL K (n + 1)) = leftA m n i
  | 0, i, hi => by
    rw [sum_paths]
    show sumTo _ _ + 0 = _
    rw [Rat.add_zero]
    have h1 : ∀ x, x < K → (fwd ⟨m, [] ++ [((x : Nat) : Int)]⟩ 0).getD i 0 = (m.start.getD i fr0).rat * ((m.say.getD i []).getD x fr0).rat := fun x _ => by
      rw [← fwd_zero hi]; rfl
    rw [sumTo_congr _ h1, sumTo_mul, on.sy i hi, Rat.mul_one]; rfl
  | n + 1, i, hi => by
    rw [sum_paths]
    have h1 : ∀ o ∈ pathsL K (n + 1), sumTo (fun x => (fwd ⟨m, o ++ [((x : Nat) : Int)]⟩ (n + 1)).getD i 0) K = sumTo (fun j => (fwd ⟨m, o⟩ n).getD j 0 * ((m.move.getD j []).getD i fr0).rat) m.start.length := fun o ho => by
      have hl := paths_len ho
      have h2 : ∀ x, x < K → (fwd ⟨m, o ++ [((x : Nat) : Int)]⟩ (n + 1)).getD i 0 = ((m.say.getD i []).getD x fr0).rat * sumTo (fun j => (fwd ⟨m, o⟩ n).getD j 0 * ((m.move.getD j []).getD i fr0).rat) m.start.length := fun x _ => by
        rw [← fwd_succ hi]
        unfold sayT
        dsimp only
        rw [fwd_o (by omega)]
        have h3 : ((o ++ [((x : Nat) : Int)]).getD (n + 1) 0).toNat = x := hl ▸ pa_snoc o x
        rw [h3]; rfl
      rw [sumTo_congr _ h2, sumTo_mulR, on.sy i hi, Rat.one_mul]
    rw [sumL_congr _ h1, sumL_sumTo, leftA]
    refine sumTo_congr _ fun j hj => ?_
    have h4 : sumL (fun o => (fwd ⟨m, o⟩ n).getD j 0 * ((m.move.getD j []).getD i fr0).rat) (pathsL K (n + 1)) = ((m.move.getD j []).getD i fr0).rat * sumL (fun o => (fwd ⟨m, o⟩ n).getD j 0) (pathsL K (n + 1)) := by
      rw [← sumL_mul]; exact sumL_congr _ fun o _ => Rat.mul_comm _ _
    rw [h4, sum_fwd n j hj, Rat.mul_comm]
theorem sum_lk (n : Nat) : sumL (fun o => lk ⟨m, o⟩) (pathsL K (n + 1)) = sumTo (fun i => leftA m n i * (m.fin.getD i fr0).rat) m.start.length := by
  have h1 : ∀ o ∈ pathsL K (n + 1), lk ⟨m, o⟩ = sumTo (fun i => (fwd ⟨m, o⟩ n).getD i 0 * (m.fin.getD i fr0).rat) m.start.length := fun o ho => by
    have hl := paths_len ho
    rw [lk_fwd (by show 0 < o.length; omega)]
    show sumTo (fun i => (fwd ⟨m, o⟩ (o.length - 1)).getD i 0 * _) _ = _
    rw [hl]; rfl
  rw [sumL_congr _ h1, sumL_sumTo]
  refine sumTo_congr _ fun i hi => ?_
  have h4 : sumL (fun o => (fwd ⟨m, o⟩ n).getD i 0 * (m.fin.getD i fr0).rat) (pathsL K (n + 1)) = (m.fin.getD i fr0).rat * sumL (fun o => (fwd ⟨m, o⟩ n).getD i 0) (pathsL K (n + 1)) := by
    rw [← sumL_mul]; exact sumL_congr _ fun o _ => Rat.mul_comm _ _
  rw [h4, sum_fwd on n i hi, Rat.mul_comm]
theorem left_step (n : Nat) : sumTo (fun i => leftA m n i * (m.fin.getD i fr0).rat) m.start.length + sumTo (leftA m (n + 1)) m.start.length = sumTo (leftA m n) m.start.length := by
  have h1 : sumTo (leftA m (n + 1)) m.start.length = sumTo (fun j => leftA m n j * sumTo (fun i => ((m.move.getD j []).getD i fr0).rat) m.start.length) m.start.length := by
    show sumTo (fun i => sumTo (fun j => leftA m n j * ((m.move.getD j []).getD i fr0).rat) m.start.length) _ = _
    rw [sumTo_comm]
    exact sumTo_congr _ fun j _ => sumTo_mul _
  rw [h1, ← sumTo_add]
  refine sumTo_congr _ fun i hi => ?_
  have := on.lv i hi
  grind
theorem totals (n : Nat) : sumTo (fun k => sumL (fun o => lk ⟨m, o⟩) (pathsL K (k + 1))) n + sumTo (leftA m n) m.start.length = 1 := by
  induction n with
  | zero => show (0 : Rat) + sumTo (fun i => (m.start.getD i fr0).rat) _ = 1; rw [on.st, Rat.zero_add]
  | succ n ih => rw [sumTo_succ, sum_lk on]; have := left_step on n; grind
omit on in
theorem left_nn (nn : Nn m) : ∀ n i, 0 ≤ leftA m n i
  | 0, i => nn.st i
  | n + 1, i => sumTo_nonneg _ fun j _ => Rat.mul_nonneg (left_nn nn n j) (nn.mv j i)
theorem totals_le (nn : Nn m) (n : Nat) : sumTo (fun k => sumL (fun o => lk ⟨m, o⟩) (pathsL K (k + 1))) n ≤ 1 := by
  have h1 := totals on n
  have h2 := sumTo_nonneg (f := leftA m n) m.start.length fun i _ => left_nn nn n i
  grind
end
end Go.Ear
namespace Go.Ear
theorem rle {a b : Rat} (h : a = b) : a ≤ b := h ▸ Rat.le_refl
theorem argN_le {q : Nat → Rat} : ∀ {n j : Nat}, j < n → q j ≤ q (argN q n)
  | n + 1, j, h => by
    by_cases e : q (argN q n) < q n
    · rw [argN_t e]
      by_cases hj : j = n
      · subst hj; exact Rat.le_refl
      · have := argN_le (q := q) (n := n) (j := j) (by omega); grind
    · rw [argN_f e]
      by_cases hj : j = n
      · subst hj; exact Rat.not_lt.1 e
      · exact argN_le (by omega)
theorem argN_first {q : Nat → Rat} : ∀ {n j : Nat}, j < argN q n → q j < q (argN q n)
  | 0, j, h => by rw [argN] at h; omega
  | n + 1, j, h => by
    by_cases e : q (argN q n) < q n
    · rw [argN_t e] at h ⊢
      by_cases hj : j < argN q n
      · have := argN_first hj; grind
      · have := argN_le (q := q) (n := n) (j := j) h; grind
    · rw [argN_f e] at h ⊢; exact argN_first h
section
variable {t : Tr}
abbrev rstR (t : Tr) (d i : Nat) : Rat := ((rst t d).getD i fr0).rat
theorem rst_rat0 {i : Nat} (hi : i < t.m.start.length) : rstR t 0 i = (t.m.fin.getD i fr0).rat := by unfold rstR; rw [rst, range_getD _ _ hi]
theorem rst_ratS {i d : Nat} (hi : i < t.m.start.length) : rstR t (d + 1) i = rq t (rst t d) i (t.o.length - 1 - d) (argN (rq t (rst t d) i (t.o.length - 1 - d)) t.m.start.length) := by
  unfold rstR; rw [rst, range_getD _ _ hi, frK_rat]
def InS (s n : Nat) (p : List Int) : Prop := ∀ k, k < n → pa p k < s
theorem weight_le (nn : Nn t.m) {p : List Int} (hp : InS t.m.start.length t.o.length p) : ∀ {d : Nat}, d < t.o.length → weightT t p ≤ wF t p (t.o.length - d) * rstR t d (pa p (t.o.length - d - 1))
  | 0, h => by
    unfold weightT
    rw [if_neg (by omega), rst_rat0 (hp _ (by omega)), Nat.sub_zero]; exact Rat.le_refl
  | d + 1, h => by
    refine Rat.le_trans (weight_le nn hp (show d < t.o.length by omega)) ?_
    obtain ⟨k, hk⟩ : ∃ k, t.o.length - d = k + 2 := ⟨t.o.length - d - 2, by omega⟩
    have e1 : t.o.length - (d + 1) = k + 1 := by omega
    rw [hk, e1, wF, show k + 2 - 1 = k + 1 by omega, show k + 1 - 1 = k by omega, rst_ratS (hp _ (by omega)), show t.o.length - 1 - d = k + 1 by omega]
    have h1 : rq t (rst t d) (pa p k) (k + 1) (pa p (k + 1)) ≤ _ := argN_le (q := rq t (rst t d) (pa p k) (k + 1)) (hp (k + 1) (by omega))
    have h2 := Rat.mul_le_mul_of_nonneg_left h1 (wF_nn nn p (k + 1))
    refine Rat.le_trans (rle ?_) h2
    unfold rq; grind
theorem pa_path (n : Nat) {k : Nat} (h : k < n) : pa (pathN t n) k = atT t k := by
  unfold pa pathN; rw [range_getD _ _ h]; rfl
theorem path_in (h : 1 ≤ t.m.start.length) (n : Nat) : InS t.m.start.length n (pathN t n) := fun k hk => by rw [pa_path n hk]; exact atT_lt h k
theorem weight_best (hs : 1 ≤ t.m.start.length) : ∀ {d : Nat}, d < t.o.length → weightT t (pathN t t.o.length) = wF t (pathN t t.o.length) (t.o.length - d) * rstR t d (atT t (t.o.length - d - 1))
  | 0, h => by
    unfold weightT
    rw [if_neg (by omega), rst_rat0 (atT_lt hs _), Nat.sub_zero, pa_path _ (by omega)]
  | d + 1, h => by
    rw [weight_best hs (show d < t.o.length by omega)]
    obtain ⟨k, hk⟩ : ∃ k, t.o.length - d = k + 2 := ⟨t.o.length - d - 2, by omega⟩
    have e1 : t.o.length - (d + 1) = k + 1 := by omega
    rw [hk, e1, wF, show k + 2 - 1 = k + 1 by omega, show k + 1 - 1 = k by omega, rst_ratS (atT_lt hs _), show t.o.length - 1 - d = k + 1 by omega, pa_path _ (by omega), pa_path _ (by omega)]
    have e2 : atT t (k + 1) = argN (rq t (rst t d) (atT t k) (k + 1)) t.m.start.length := by
      rw [atT, show t.o.length - 1 - (k + 1) = d by omega]
    rw [← e2]
    unfold rq; grind
theorem weight_bestW (hs : 1 ≤ t.m.start.length) (h : 0 < t.o.length) : weightT t (pathN t t.o.length) = bestW t := by
  rw [weight_best hs (show t.o.length - 1 < t.o.length by omega), show t.o.length - (t.o.length - 1) = 1 by omega, wF, pa_path _ h]; rfl
theorem path_wF {p q : List Int} : ∀ {k : Nat}, 1 ≤ k → (∀ j, j < k → pa p j = pa q j) → wF t p k = wF t q k
  | 1, _, h => by rw [wF, wF, h 0 (by omega)]
  | k + 2, _, h => by rw [wF, wF, path_wF (by omega) fun j hj => h j (by omega), h k (by omega), h (k + 1) (by omega)]
theorem pos_left {a b : Rat} (ha : 0 ≤ a) (h : 0 < a * b) : 0 < a := by
  rcases Rat.le_iff_lt_or_eq.1 ha with h1 | h1
  · exact h1
  · rw [← h1, Rat.zero_mul] at h; exact absurd h (Rat.lt_irrefl)
theorem weight_lt (nn : Nn t.m) (hs : 1 ≤ t.m.start.length) {p : List Int} (hp : InS t.m.start.length t.o.length p) {k : Nat} (hk : k < t.o.length) (he : ∀ j, j < k → pa p j = atT t j) (hl : pa p k < atT t k) (hw : 0 < bestW t) :
    weightT t p < bestW t := by
  have h1 := weight_le nn hp (show t.o.length - 1 - k < t.o.length by omega)
  rw [show t.o.length - (t.o.length - 1 - k) = k + 1 by omega, show k + 1 - 1 = k by omega] at h1
  have h2 := weight_best hs (show t.o.length - 1 - k < t.o.length by omega)
  rw [show t.o.length - (t.o.length - 1 - k) = k + 1 by omega, show k + 1 - 1 = k by omega, weight_bestW hs (by omega)] at h2
  cases k with
  | zero =>
    rw [wF] at h1
    have h3 : rq0 t (rst t (t.o.length - 1)) (pa p 0) < rq0 t (rst t (t.o.length - 1)) (atT t 0) := argN_first (by rw [atT] at hl; exact hl)
    rw [Nat.sub_zero] at h1
    have h4 : weightT t p ≤ rq0 t (rst t (t.o.length - 1)) (pa p 0) := h1
    exact Std.lt_of_le_of_lt h4 h3
  | succ k =>
    rw [wF, path_wF (q := pathN t t.o.length) (by omega) fun j hj => by rw [pa_path _ (by omega)]; exact he j hj, he k (by omega)] at h1
    rw [wF, pa_path _ (by omega), pa_path _ (by omega)] at h2
    have e2 : atT t (k + 1) = argN (rq t (rst t (t.o.length - 1 - (k + 1))) (atT t k) (k + 1)) t.m.start.length := by rw [atT]
    have h3 : rq t (rst t (t.o.length - 1 - (k + 1))) (atT t k) (k + 1) (pa p (k + 1)) < rq t (rst t (t.o.length - 1 - (k + 1))) (atT t k) (k + 1) (atT t (k + 1)) := by
      rw [e2] at hl ⊢; exact argN_first hl
    have h5 : bestW t = wF t (pathN t t.o.length) (k + 1) * rq t (rst t (t.o.length - 1 - (k + 1))) (atT t k) (k + 1) (atT t (k + 1)) := by
      rw [h2]; unfold rq; grind
    have h6 : 0 < wF t (pathN t t.o.length) (k + 1) := pos_left (wF_nn nn _ _) (h5 ▸ hw)
    have h7 := Rat.mul_lt_mul_of_pos_left h3 h6
    rw [h5]
    refine Std.lt_of_le_of_lt (Rat.le_trans h1 (rle ?_)) h7
    unfold rq; grind
theorem weight_leW (nn : Nn t.m) (hs : 1 ≤ t.m.start.length) {p : List Int} (hp : InS t.m.start.length t.o.length p) (h : 0 < t.o.length) : weightT t p ≤ bestW t := by
  have h1 := weight_le nn hp (show t.o.length - 1 < t.o.length by omega)
  rw [show t.o.length - (t.o.length - 1) = 1 by omega, show 1 - 1 = 0 from rfl, wF] at h1
  refine Rat.le_trans h1 ?_
  have := argN_le (q := rq0 t (rst t (t.o.length - 1))) (hp 0 h)
  exact this
end
def LexLt (p q : List Int) : Prop := ∃ k, k < p.length ∧ (∀ j, j < k → pa p j = pa q j) ∧ pa p k < pa q k
theorem paths_in {s : Nat} : ∀ {n : Nat} {p : List Int}, p ∈ pathsL s n → InS s n p
  | 0, p, h => fun k hk => by omega
  | n + 1, p, h => by
    have hl := paths_len h
    rw [pathsL, List.mem_flatMap] at h
    obtain ⟨q, hq, h⟩ := h
    obtain ⟨i, hi, rfl⟩ := List.mem_map.1 h
    have hql := paths_len hq
    intro k hk
    by_cases e : k = n
    · subst e; rw [← hql, pa_snoc]; exact List.mem_range.1 hi
    · rw [pa_left (by omega)]; exact paths_in hq k (by omega)
theorem paths_mem {s : Nat} (f : Nat → Nat) : ∀ n, (∀ k, k < n → f k < s) → ((List.range n).map fun k => ((f k : Nat) : Int)) ∈ pathsL s n
  | 0, _ => by rw [pathsL]; exact List.mem_singleton.2 rfl
  | n + 1, h => by
    rw [pathsL, List.mem_flatMap]
    refine ⟨_, paths_mem f n fun k hk => h k (by omega), ?_⟩
    rw [List.range_succ, List.map_append]
    exact List.mem_map.2 ⟨f n, List.mem_range.2 (h n (by omega)), rfl⟩
theorem paths_lex {s : Nat} : ∀ n, List.Pairwise LexLt (pathsL s n)
  | 0 => by rw [pathsL]; exact List.pairwise_singleton ..
  | n + 1 => by
    rw [pathsL, List.pairwise_flatMap]
    refine ⟨fun p hp => ?_, List.Pairwise.imp_of_mem ?_ (paths_lex n)⟩
    · rw [List.pairwise_map]
      refine List.Pairwise.imp_of_mem ?_ List.pairwise_lt_range
      intro i j _ _ hij
      exact ⟨p.length, by simp, fun k hk => by rw [pa_left hk, pa_left hk], by rw [pa_snoc, pa_snoc]; exact hij⟩
    · rintro p q hp hq ⟨k, hk, he, hl⟩ x hx y hy
      obtain ⟨i, _, rfl⟩ := List.mem_map.1 hx
      obtain ⟨j, _, rfl⟩ := List.mem_map.1 hy
      have h1 := paths_len hp; have h2 := paths_len hq
      exact ⟨k, by rw [List.length_append]; omega, fun m hm => by rw [pa_left (by omega), pa_left (by omega)]; exact he m hm, by rw [pa_left (by omega), pa_left (by omega)]; exact hl⟩
def scanG (g : List Int → Rat) (l : List (List Int)) : Nat → Int × Rat
  | 0 => (-1, 0)
  | k + 1 => if (scanG g l k).2 < g (l.getD k []) then ((k : Int), g (l.getD k [])) else scanG g l k
theorem scanG_t {g : List Int → Rat} {l : List (List Int)} {k : Nat} (h : (scanG g l k).2 < g (l.getD k [])) : scanG g l (k + 1) = ((k : Int), g (l.getD k [])) := by rw [scanG]; exact if_pos h
theorem scanG_f {g : List Int → Rat} {l : List (List Int)} {k : Nat} (h : ¬ (scanG g l k).2 < g (l.getD k [])) : scanG g l (k + 1) = scanG g l k := by rw [scanG]; exact if_neg h
section
variable {g : List Int → Rat} {l : List (List Int)}
theorem scan_none (h : ∀ k, k < l.length → g (l.getD k []) ≤ 0) : ∀ n, n ≤ l.length → scanG g l n = (-1, 0)
  | 0, _ => rfl
  | n + 1, hn => by
    have ih := scan_none h n (by omega)
    rw [scanG_f (by rw [ih]; exact Rat.not_lt.2 (h n (by omega))), ih]
theorem scan_lt {w : Rat} : ∀ n, (∀ k, k < n → g (l.getD k []) < w) → 0 < w → (scanG g l n).2 < w
  | 0, _, hw => hw
  | n + 1, h, hw => by
    by_cases e : (scanG g l n).2 < g (l.getD n [])
    · rw [scanG_t e]; exact h n (by omega)
    · rw [scanG_f e]; exact scan_lt n (fun k hk => h k (by omega)) hw
theorem scan_is {j : Nat} {w : Rat} (hj : g (l.getD j []) = w) (hw : 0 < w) (h1 : ∀ k, k < j → g (l.getD k []) < w) (h2 : ∀ k, k < l.length → g (l.getD k []) ≤ w) : ∀ n, j < n → n ≤ l.length → scanG g l n = ((j : Int), w)
  | n + 1, hn, hl => by
    by_cases e : n = j
    · subst e
      rw [scanG_t (by rw [hj]; exact scan_lt n h1 hw), hj]
    · have ih := scan_is hj hw h1 h2 n (by omega) (by omega)
      rw [scanG_f (by rw [ih]; exact Rat.not_lt.2 (h2 n (by omega))), ih]
end
theorem scan_best {t : Tr} (nn : Nn t.m) (hs : 1 ≤ t.m.start.length) (h : 0 < t.o.length) (hw : bestW t ≠ 0) :
    ∃ j, j < (pathsL t.m.start.length t.o.length).length ∧ (pathsL t.m.start.length t.o.length).getD j [] = pathN t t.o.length ∧ scanG (weightT t) (pathsL t.m.start.length t.o.length) (pathsL t.m.start.length t.o.length).length = ((j : Int), bestW t) := by
  have hm : pathN t t.o.length ∈ pathsL t.m.start.length t.o.length := paths_mem (atT t) _ fun k _ => atT_lt hs k
  obtain ⟨j, hj, he⟩ := List.getElem_of_mem hm
  have hg : (pathsL t.m.start.length t.o.length).getD j [] = pathN t t.o.length := by rw [List.getD_eq_getElem?_getD, List.getElem?_eq_getElem hj]; exact he
  have h0 : 0 < bestW t := by
    rw [← weight_bestW hs h] at hw ⊢
    rcases Rat.le_iff_lt_or_eq.1 (weightT_nn nn (pathN t t.o.length)) with q | q
    · exact q
    · exact absurd q.symm hw
  refine ⟨j, hj, hg, scan_is (by rw [hg]; exact weight_bestW hs h) h0 (fun k hk => ?_) (fun k hk => ?_) _ hj (Nat.le_refl _)⟩
  · have hkl : k < (pathsL t.m.start.length t.o.length).length := by omega
    have hx := List.pairwise_iff_getElem.1 (paths_lex (s := t.m.start.length) t.o.length) k j hkl hj hk
    have hkg : (pathsL t.m.start.length t.o.length).getD k [] = (pathsL t.m.start.length t.o.length)[k] := by rw [List.getD_eq_getElem?_getD, List.getElem?_eq_getElem hkl]; rfl
    rw [hkg]
    obtain ⟨i, hi, e, hl⟩ := hx
    have hlen := paths_len (List.getElem_mem hkl)
    rw [he] at e hl
    exact weight_lt (k := i) nn hs (paths_in (List.getElem_mem hkl)) (by omega) (fun m hm => by rw [e m hm, pa_path _ (by omega)]) (by rw [pa_path _ (by omega)] at hl; exact hl) h0
  · have hkg : (pathsL t.m.start.length t.o.length).getD k [] = (pathsL t.m.start.length t.o.length)[k] := by rw [List.getD_eq_getElem?_getD, List.getElem?_eq_getElem hk]; rfl
    rw [hkg]
    exact weight_leW nn hs (paths_in (List.getElem_mem hk)) h
theorem scan_zero {t : Tr} (nn : Nn t.m) (hs : 1 ≤ t.m.start.length) (h : 0 < t.o.length) (hw : bestW t = 0) :
    scanG (weightT t) (pathsL t.m.start.length t.o.length) (pathsL t.m.start.length t.o.length).length = (-1, 0) := by
  refine scan_none (fun k hk => ?_) _ (Nat.le_refl _)
  have hkg : (pathsL t.m.start.length t.o.length).getD k [] = (pathsL t.m.start.length t.o.length)[k] := by rw [List.getD_eq_getElem?_getD, List.getElem?_eq_getElem hk]; rfl
  rw [hkg, ← hw]
  exact weight_leW nn hs (paths_in (List.getElem_mem hk)) h
theorem best_le_lk {t : Tr} (nn : Nn t.m) (hs : 1 ≤ t.m.start.length) (h : 0 < t.o.length) : bestW t ≤ lk t := by
  rw [← weight_bestW hs h, ← lk_paths]
  exact sumL_one _ (fun p _ => weightT_nn nn p) (paths_mem (atT t) _ fun k _ => atT_lt hs k)
theorem lk_none {t : Tr} (nn : Nn t.m) (hs : 1 ≤ t.m.start.length) (h : 0 < t.o.length) (hw : bestW t = 0) : lk t = 0 := by
  rw [← lk_paths]
  have h1 : ∀ p ∈ pathsL t.m.start.length t.o.length, weightT t p = 0 := fun p hp => by
    have h2 := weight_leW nn hs (paths_in hp) h
    have h3 := weightT_nn nn p
    grind
  rw [sumL_congr (g := fun _ => 0) _ h1]
  clear h1
  induction pathsL t.m.start.length t.o.length with
  | nil => rfl
  | cons x l ih => show (0 : Rat) + sumL _ l = 0; rw [ih, Rat.add_zero]
end Go.Ear
namespace Go.Ear
theorem any_snoc {α : Type} {p : α → Bool} {l : List α} {k : Nat} (d : α) (hk : k < l.length) : (l.take (k + 1)).any p = ((l.take k).any p || p (l.getD k d)) := by
  rw [take_snoc d hk, List.any_append]; simp
theorem foldA_shift (l : List Fr) : ∀ q, foldA q l = q + sumF l := by
  induction l with
  | nil => intro q; show q = q + 0; rw [Rat.add_zero]
  | cons f l ih =>
    intro q
    show foldA (q + f.rat) l = q + foldA (0 + f.rat) l
    rw [ih, ih (0 + f.rat), Rat.zero_add, Rat.add_assoc]
theorem sumF_cons (f : Fr) (l : List Fr) : sumF (f :: l) = f.rat + sumF l := by
  show foldA (0 + f.rat) l = _
  rw [foldA_shift, Rat.zero_add]
theorem sumF_mul (c : Rat) : ∀ l : List Fr, sumF ((l.map fun f => f.rat * c).map frK) = sumF l * c
  | [] => by show (0 : Rat) = 0 * c; rw [Rat.zero_mul]
  | f :: l => by rw [List.map_cons, List.map_cons, sumF_cons, sumF_cons, sumF_mul c l, frK_rat, Rat.add_mul]
theorem sumF_nonneg : ∀ {l : List Fr}, l.any negF = false → 0 ≤ sumF l
  | [], _ => by show (0 : Rat) ≤ 0; exact Rat.le_refl
  | f :: l, h => by
    rw [List.any_cons, Bool.or_eq_false_iff] at h
    have h1 : 0 ≤ f.rat := Rat.not_lt.1 (of_decide_eq_false h.1)
    rw [sumF_cons]
    exact Rat.add_nonneg h1 (sumF_nonneg h.2)
theorem normF_ok {l : List Fr} (h : l.any negF = false) (h0 : sumF l ≠ 0) : normF l = l.map fun f => f.rat * (sumF l)⁻¹ := by
  unfold normF
  rw [if_neg (by rintro (x | x); rw [h] at x; cases x; exact h0 x)]
theorem norm_len {l : List Fr} (h : l.any negF = false) (h0 : sumF l ≠ 0) : (normF l).length = l.length := by rw [normF_ok h h0, List.length_map]
theorem norm_at {l : List Fr} {k : Nat} (h : l.any negF = false) (h0 : sumF l ≠ 0) (hk : k < l.length) : (normF l).getD k 0 = (l.getD k fr0).rat / sumF l := by
  rw [normF_ok h h0, Rat.div_def, List.getD_eq_getElem?_getD, List.getD_eq_getElem?_getD, List.getElem?_map, List.getElem?_eq_getElem hk]; rfl
theorem norm_dist {l : List Fr} (h : l.any negF = false) (h0 : sumF l ≠ 0) : distF ((normF l).map frK) = true := by
  have hs : 0 < sumF l := by
    have := sumF_nonneg h
    exact Rat.lt_of_le_of_ne this (fun e => h0 e.symm)
  have hi : 0 < (sumF l)⁻¹ := Rat.inv_pos.2 hs
  rw [normF_ok h h0]
  unfold distF
  rw [Bool.and_eq_true]
  constructor
  · rw [Bool.not_eq_true', List.any_eq_false]
    intro x hx
    obtain ⟨q, hq, rfl⟩ := List.mem_map.1 hx
    obtain ⟨f, hf, rfl⟩ := List.mem_map.1 hq
    have hn := List.any_eq_false.1 h f hf
    unfold negF at hn ⊢
    rw [decide_eq_true_iff] at hn ⊢
    rw [frK_rat]
    intro hlt
    have h1 : 0 ≤ f.rat := Rat.not_lt.1 hn
    have := Rat.mul_nonneg h1 (Rat.le_of_lt hi)
    exact absurd hlt (Rat.not_lt.2 this)
  · rw [decide_eq_true_iff, sumF_mul, Rat.mul_inv_cancel _ h0]
theorem norm_wts {l : List Fr} {B : Nat} (hb : ∀ x ∈ l, bq x.rat ≤ bf x) (hs : bq (sumF l) ≤ B) (h : l.any negF = false) (h0 : sumF l ≠ 0) : wts ((normF l).map frK) ≤ wts l + B * l.length := by
  rw [normF_ok h h0]
  have hi := bq_inv' (sumF l)
  generalize (sumF l)⁻¹ = c at hi
  clear h h0
  induction l with
  | nil => simp [wts_nil]
  | cons f l ih =>
    rw [List.map_cons, List.map_cons, wts_cons, wts_cons, bf_frK, List.length_cons, Nat.mul_succ]
    have h1 := bq_mul f.rat c
    have h2 := hb f (List.mem_cons_self ..)
    have h3 : wts ((l.map fun f => f.rat * c).map frK) ≤ wts l + B * l.length := by
      have key : ∀ (m : List Fr), (∀ x ∈ m, bq x.rat ≤ bf x) → wts ((m.map fun f => f.rat * c).map frK) ≤ wts m + B * m.length := by
        intro m
        induction m with
        | nil => intro _; simp [wts_nil]
        | cons g m ihm =>
          intro hm
          rw [List.map_cons, List.map_cons, wts_cons, wts_cons, bf_frK, List.length_cons, Nat.mul_succ]
          have g1 := bq_mul g.rat c
          have g2 := hm g (List.mem_cons_self ..)
          have g3 := ihm (fun x hx => hm x (List.mem_cons_of_mem _ hx))
          omega
      exact key l (fun x hx => hb x (List.mem_cons_of_mem _ hx))
    omega
end Go.Ear
namespace Go.Ear
theorem sumF_take : ∀ {l : List Fr} {k : Nat}, k ≤ l.length → sumF (l.take k) = sumTo (fun i => (l.getD i fr0).rat) k
  | l, 0, _ => rfl
  | l, k + 1, h => by
    have := foldA_succ (q := 0) (l := l) (k := k) (by omega)
    show foldA 0 _ = _
    rw [this, sumTo_succ, ← sumF_take (l := l) (k := k) (by omega)]; rfl
theorem sumF_sum (l : List Fr) : sumF l = sumTo (fun i => (l.getD i fr0).rat) l.length := by
  have := sumF_take (l := l) (k := l.length) (Nat.le_refl _)
  rwa [List.take_length] at this
theorem dist_iff {l : List Fr} : distF l = true ↔ (∀ i, 0 ≤ (l.getD i fr0).rat) ∧ sumF l = 1 := by
  unfold distF
  rw [Bool.and_eq_true, decide_eq_true_iff]
  refine and_congr_left fun _ => ?_
  constructor
  · intro h i
    have h := List.any_eq_false.1 (by simpa using h : l.any negF = false)
    rw [List.getD_eq_getElem?_getD]
    cases hi : l[i]? with
    | none => exact (by decide +kernel : (0 : Rat) ≤ fr0.rat)
    | some f =>
      have := h f (List.mem_of_getElem? hi)
      unfold negF at this
      simp only [decide_eq_true_eq] at this
      exact Rat.not_lt.1 this
  · intro h
    have : l.any negF = false := by
      rw [List.any_eq_false]
      intro f hf
      obtain ⟨i, hi, rfl⟩ := List.getElem_of_mem hf
      have := h i
      rw [List.getD_eq_getElem?_getD, List.getElem?_eq_getElem hi] at this
      unfold negF
      simp only [decide_eq_true_eq]
      exact Rat.not_lt.2 this
    rw [this]; rfl
theorem nil_nn (l : List (List Fr)) {i : Nat} (h : l.length ≤ i) (j : Nat) : 0 ≤ ((l.getD i []).getD j fr0).rat := by
  rw [List.getD_eq_getElem?_getD (l := l), List.getElem?_eq_none h]; exact (by decide +kernel : (0 : Rat) ≤ fr0.rat)
theorem leave_move {m : Md} {i j : Nat} (h : j < (m.move.getD i []).length) : (leaveM m i).getD j fr0 = (m.move.getD i []).getD j fr0 := by
  unfold leaveM; rw [List.getD_eq_getElem?_getD, List.getElem?_append_left h, ← List.getD_eq_getElem?_getD]
theorem leave_fin {m : Md} {i : Nat} : (leaveM m i).getD (m.move.getD i []).length fr0 = m.fin.getD i fr0 := by
  unfold leaveM; rw [List.getD_eq_getElem?_getD, List.getElem?_append_right (Nat.le_refl _), Nat.sub_self]; rfl
theorem Nn.of {m : Md} (h : validM m = true) : Nn m := by
  have hl := valid_len h
  have hr := fun i (hi : i < m.start.length) => valid_row h hi
  have hs := (dist_iff.1 (validM_iff.1 h).2.1).1
  refine ⟨hs, fun i j => ?_, fun i => ?_, fun i j => ?_⟩
  · by_cases hi : i < m.start.length
    · by_cases hj : j < (m.move.getD i []).length
      · rw [← leave_move hj]; exact (dist_iff.1 (hr i hi).2.2.2.1).1 j
      · rw [List.getD_eq_getElem?_getD (l := m.move.getD i []), List.getElem?_eq_none (by omega)]; exact (by decide +kernel : (0 : Rat) ≤ fr0.rat)
    · exact nil_nn _ (by omega) _
  · by_cases hi : i < m.start.length
    · rw [← leave_fin]; exact (dist_iff.1 (hr i hi).2.2.2.1).1 _
    · rw [List.getD_eq_getElem?_getD (l := m.fin), List.getElem?_eq_none (by omega)]; exact (by decide +kernel : (0 : Rat) ≤ fr0.rat)
  · by_cases hi : i < m.start.length
    · exact (dist_iff.1 (hr i hi).2.2.2.2).1 j
    · exact nil_nn _ (by omega) _
theorem Ones.of {m : Md} (h : validM m = true) : Ones m (symb m) := by
  have hl := valid_len h
  have hr := fun i (hi : i < m.start.length) => valid_row h hi
  refine ⟨fun i hi => ?_, fun i hi => ?_, ?_⟩
  · have := (dist_iff.1 (hr i hi).2.2.2.2).2
    rw [sumF_sum, (hr i hi).2.1] at this; exact this
  · have := (dist_iff.1 (hr i hi).2.2.2.1).2
    rw [sumF_sum] at this
    have e : (leaveM m i).length = m.start.length + 1 := by unfold leaveM; rw [List.length_append, (hr i hi).1]; rfl
    rw [e, sumTo_succ] at this
    rw [← this, ← leave_fin, (hr i hi).1]
    congr 1
    exact sumTo_congr _ fun j hj => by rw [leave_move (by rw [(hr i hi).1]; exact hj)]
  · have := (dist_iff.1 (validM_iff.1 h).2.1).2
    rw [sumF_sum] at this; exact this
theorem fr0_le : bf fr0 ≤ 2 := by decide
theorem plain_bf {m : Md} (hp : plainM m = true) : (∀ i, bf (m.start.getD i fr0) ≤ 2) ∧ (∀ i, bf (m.fin.getD i fr0) ≤ 2) := by
  have hm : ∀ f ∈ allW m, bf f ≤ 2 := fun f hf => plain_le hp hf
  unfold allW at hm
  have ha : ∀ (l : List Fr), (∀ f ∈ l, bf f ≤ 2) → ∀ i, bf (l.getD i fr0) ≤ 2 := fun l hl i => by
    rw [List.getD_eq_getElem?_getD]
    cases hi : l[i]? with
    | none => exact fr0_le
    | some f => exact hl f (List.mem_of_getElem? hi)
  exact ⟨ha _ fun f hf => hm f (by simp only [List.mem_append]; exact .inl (.inl (.inl hf))), ha _ fun f hf => hm f (by simp only [List.mem_append]; exact .inl (.inl (.inr hf)))⟩
theorem plain_B {m : Md} (hp : plainM m = true) (hv : validM m = true) (hl : longM m = false) : MdB 1000 m := by
  have hm : ∀ f ∈ allW m, bf f ≤ 2 := fun f hf => plain_le hp hf
  unfold allW at hm
  have h1 := valid_len hv
  have h40 : m.start.length ≤ 40 ∧ symb m ≤ 64 := by
    unfold longM at hl; simp only [Bool.or_eq_false_iff, decide_eq_false_iff_not, Bool.and_eq_false_iff] at hl; omega
  have hw : ∀ l : List Fr, (∀ f ∈ l, f ∈ m.start ++ m.fin ++ m.move.flatten ++ m.say.flatten) → l.length ≤ 64 → wts l ≤ 1000 := fun l h1 h2 => by
    have := wts_le fun f hf => hm f (h1 f hf); omega
  have hr : ∀ (ll : List (List Fr)), ∀ r ∈ ll, ∃ i, i < ll.length ∧ r = ll.getD i [] := fun ll r hr => by
    obtain ⟨i, hi, rfl⟩ := List.getElem_of_mem hr
    exact ⟨i, hi, by rw [List.getD_eq_getElem?_getD, List.getElem?_eq_getElem hi]; rfl⟩
  refine ⟨hw _ (fun f hf => ?_) (by omega), fun r q => hw r (fun f hf => ?_) ?_, hw _ (fun f hf => ?_) (by omega), fun r q => hw r (fun f hf => ?_) ?_⟩
  · simp only [List.mem_append]; exact .inl (.inl (.inl hf))
  · simp only [List.mem_append]; exact .inl (.inr (List.mem_flatten.2 ⟨r, q, hf⟩))
  · obtain ⟨i, hi, rfl⟩ := hr _ r q; rw [(valid_row hv (by omega)).1]; omega
  · simp only [List.mem_append]; exact .inl (.inl (.inr hf))
  · simp only [List.mem_append]; exact .inr (List.mem_flatten.2 ⟨r, q, hf⟩)
  · obtain ⟨i, hi, rfl⟩ := hr _ r q; rw [(valid_row hv (by omega)).2.1]; omega
structure Fair (m : Md) (o : List Int) (s f : Nat) : Prop where
  e : checkE [m] [o] = 0
  ok : TOk ⟨m, o⟩
  s : m.start.length ≤ s
  f : o.length ≤ f
  mb : MdB 1000 m
  w : MdW 2 m
  b1 : ∀ i, bf (m.start.getD i fr0) ≤ 2
  b2 : ∀ i, bf (m.fin.getD i fr0) ≤ 2
  v : validM m = true
  nn : Nn m
  y : symb m ≤ 64
section
variable {m : Md} {o : List Int} {s f : Nat} (u : Fair m o s f)
include u
theorem Fair.mB {K : Nat} (h : 1000 ≤ K) : MdB K m := u.mb.weak h
theorem Fair.fw (hs : 1 ≤ s) (hb : fB s 2 (f - 1) ≤ 300000) : FwB ⟨m, o⟩ := FwB.of (N := f - 1) (t := ⟨m, o⟩) u.w u.s (by decide) hs (by have := u.f; show o.length ≤ _; omega) hb
theorem Fair.bw (hs : 1 ≤ s) (hb : bB s 2 (f - 1) ≤ 300000) : BwB ⟨m, o⟩ := BwB.of (N := f - 1) (t := ⟨m, o⟩) u.w u.s (by decide) hs (by have := u.f; show o.length ≤ _; omega) hb
theorem Fair.rs (hb : (2 * (f - 1) + 1) * 2 ≤ 300000) : RsB ⟨m, o⟩ := RsB.of (N := f - 1) (t := ⟨m, o⟩) u.w u.b2 (by decide) (by have := u.f; show o.length ≤ _; omega) hb
end
end Go.Ear
set_option linter.unusedVariables false
set_option maxRecDepth 20000
set_option maxHeartbeats 2000000
set_option synthInstance.maxSize 1000
namespace Go.E3
open Go Go.Ear Go.Proofs
instance rsd_c {a b : List Nat} {S T : SV} [i : Vw uv S a] [j : Vw uv T b] : Ct Tryz.prog 91 [S, T] (a.length ≤ 1000000000 ∧ b.length ≤ 1000000000) (bv (decide (a = b))) := by
  refine ct2 i j (ctI Tryz.call91 Tryz.func91 Tryz.ntmps91 rfl Tryz.results91 rfl [] fun h0 w0 ⟨h1, h2⟩ => ?_)
  repeat first | refine nx ?_ | intro _
  refine gIf (fun c => ?_) fun c => ?_ <;> repeat first | refine nx ?_ | intro _
  · exact (decide_eq_false fun e => c (congrArg List.length e)).symm
  refine gLp (fun k : Nat => [(5, iv k)]) (fun _ => []) (fun k => k ≤ a.length ∧ a.take k = b.take k) (fun k => a.length - k) 0 ⟨Nat.zero_le _, rfl⟩ fun k ⟨hk, hd⟩ => ?_
  repeat first | refine nx ?_ | intro _
  refine gIf (fun c1 => ?_) fun c1 => ?_ <;> repeat first | refine nx ?_ | intro _
  · refine gIf (fun c2 => ?_) fun c2 => ?_ <;> repeat first | refine nx ?_ | intro _
    · exact (decide_eq_false (ne_of_getD c2)).symm
    · exact gBk (k + 1) ⟨by omega, take_eq_succ (by omega) (by omega) hd (by omega)⟩ (by omega)
  · rw [List.take_of_length_le (by omega), List.take_of_length_le (by omega)] at hd
    exact (decide_eq_true hd).symm
instance rSame_c {a b : Fr} {x y : Rat} {A B : Nat} {S T : SV} [i : VF S a x A] [j : VF T b y B] : Ct Tryz.prog 24 [S, T] (A ≤ 1000000000 ∧ B ≤ 1000000000) (bv (sameF a b)) := by
  refine ct2 i.v j.v (ctI Tryz.call24 Tryz.func24 Tryz.ntmps24 rfl Tryz.results24 rfl [] fun h0 w0 ⟨h1, h2⟩ => ?_)
  have hl1 := i.le2
  have hl2 := j.le2
  repeat first | refine nx ?_ | intro _
  unfold sameF; cases a.neg <;> cases b.neg <;> simp
class FtR (l : List (List Fr)) : Prop where h : ∀ r ∈ l, FtS r
theorem FtR.getD {l : List (List Fr)} (i : FtR l) (k : Nat) : FtS (l.getD k []) := by
  rw [List.getD_eq_getElem?_getD]
  cases e : l[k]? with
  | none => exact inferInstanceAs (FtS [])
  | some x => exact i.h x (List.mem_of_getElem? e)
instance {l : List (List Fr)} [i : FtR l] {k : Nat} : FtS (l.getD k []) := i.getD k
instance {l : List (List Rat)} : FtR (l.map (·.map frK)) := ⟨fun f hf => by obtain ⟨q, _, rfl⟩ := List.mem_map.1 hf; infer_instance⟩
instance : FtR [] := ⟨fun f hf => (List.not_mem_nil hf).elim⟩
instance {f : List Fr} {l : List (List Fr)} [a : FtS f] [b : FtR l] : FtR (f :: l) := ⟨fun g hg => by rcases List.mem_cons.1 hg with rfl | hg; exact a; exact b.h g hg⟩
class VR (S : SV) (l : outParam (List (List Fr))) : Prop where
  v : Vw (lv (rL rF)) S l
  t : FtR l
instance {S : SV} {l : List (List Fr)} [v : Vw (lv (rL rF)) S l] [t : FtR l] : VR S l := ⟨v, t⟩
instance rSameList_c {a b : List Fr} {S T : SV} [i : VL S a] [j : VL T b] : Ct Tryz.prog 95 [S, T] (wts a ≤ 900000000 ∧ wts b ≤ 900000000) (bv (sameL a b)) := by
  haveI := i.t
  haveI := j.t
  refine ct2 i.v j.v (ctI Tryz.call95 Tryz.func95 Tryz.ntmps95 rfl Tryz.results95 rfl [] fun h0 w0 ⟨h1, h2⟩ => ?_)
  have hb1 := len_wts a
  have hb2 := len_wts b
  repeat first | refine nx ?_ | intro _
  refine gIf (fun c => ?_) fun c => ?_ <;> repeat first | refine nx ?_ | intro _
  · exact (all2_f1 (by omega)).symm
  refine gLp (fun k : Nat => [(5, iv k)]) (fun _ => []) (fun k => k ≤ a.length ∧ (List.range k).all (eqP sameF fr0 a b) = true) (fun k => a.length - k) 0 ⟨Nat.zero_le _, rfl⟩ fun k ⟨hk, ha⟩ => ?_
  have hb3 := bf_getD a k
  have hb4 := bf_getD b k
  repeat first | refine nx ?_ | intro _
  refine gIf (fun c1 => ?_) fun c1 => ?_ <;> repeat first | refine nx ?_ | intro _
  · refine gIf (fun c2 => ?_) fun c2 => ?_ <;> repeat first | refine nx ?_ | intro _
    · exact (all2_f2 (i := k) (by omega) c2).symm
    · exact gBk (k + 1) ⟨by omega, all2_succ ha (Classical.not_not.1 c2)⟩ (by omega)
  · exact (all2_t (by omega) ha (by omega)).symm
instance rSameRows_c {a b : List (List Fr)} {S T : SV} [i : VR S a] [j : VR T b] : Ct Tryz.prog 41 [S, T] (a.length ≤ 1048576 ∧ (∀ r ∈ a, wts r ≤ 900000000) ∧ ∀ r ∈ b, wts r ≤ 900000000) (bv (sameR a b)) := by
  haveI := i.t
  haveI := j.t
  refine ct2 i.v j.v (ctI Tryz.call41 Tryz.func41 Tryz.ntmps41 rfl Tryz.results41 rfl [] fun h0 w0 ⟨h1, h2, h3⟩ => ?_)
  repeat first | refine nx ?_ | intro _
  refine gIf (fun c => ?_) fun c => ?_ <;> repeat first | refine nx ?_ | intro _
  · exact (all2_f1 (by omega)).symm
  refine gLp (fun k : Nat => [(5, iv k)]) (fun _ => []) (fun k => k ≤ a.length ∧ (List.range k).all (eqP sameL [] a b) = true) (fun k => a.length - k) 0 ⟨Nat.zero_le _, rfl⟩ fun k ⟨hk, ha⟩ => ?_
  have hb3 := wts_getD h2 k
  have hb4 := wts_getD h3 k
  repeat first | refine nx ?_ | intro _
  refine gIf (fun c1 => ?_) fun c1 => ?_ <;> repeat first | refine nx ?_ | intro _
  · refine gIf (fun c2 => ?_) fun c2 => ?_ <;> repeat first | refine nx ?_ | intro _
    · exact (all2_f2 (i := k) (by omega) c2).symm
    · exact gBk (k + 1) ⟨by omega, all2_succ ha (Classical.not_not.1 c2)⟩ (by omega)
  · exact (all2_t (by omega) ha (by omega)).symm
instance rSum_c {l : List Fr} {S : SV} [j : VL S l] : Ct Tryz.prog 34 [S] (wts l ≤ 60000000) (kk (sumF l)) := by
  haveI := j.t
  refine ct1 j.v (ctI Tryz.call34 Tryz.func34 Tryz.ntmps34 rfl Tryz.results34 rfl [] fun h0 w0 hb => ?_)
  have hb7 := len_wts l
  repeat first | refine nx ?_ | intro _
  rename_i u v
  refine gLp (fun k : Nat => [(4, iv k)]) (fun k => [rV v [bv (frK (sumF (l.take k))).neg, lv rU (frK (sumF (l.take k))).n, lv rU (frK (sumF (l.take k))).d] 31]) (fun k => k ≤ l.length) (fun k => l.length - k) 0 (Nat.zero_le _) (fun k hk => ?_) (h2 := by rw [show sumF (l.take 0) = 0 from rfl, frK_zero]; exact ⟨⟨rfl, rfl, rfl⟩, trivial⟩)
  have hb1 := Nat.le_trans (bq_foldA (l.take k) 0 fun x hx => j.t.bq x (List.mem_of_mem_take hx)) (Nat.add_le_add_left (wts_take l k) _)
  have hb2 := bf_getD l k
  have hb3 := j.t.bqg k
  have hb4 := bq_zero
  have hb5 : foldA 0 (l.take k) = sumF (l.take k) := rfl
  rw [hb5] at hb1
  repeat first | refine nx ?_ | intro _
  refine gIf (fun c => ?_) fun c => ?_ <;> repeat first | refine nx ?_ | intro _
  · rw [show sumF (l.take k) + (l.getD k fr0).rat = sumF (l.take (k + 1)) from (foldA_succ c).symm]; exact gBk (k + 1) (by omega) (by omega)
  · rw [List.take_of_length_le (by omega)]; exact ⟨rfl, rfl, rfl⟩
instance rDown_c {f : Fr} {q : Rat} {b : Nat} {S : SV} [i : VF S f q b] : Ct Tryz.prog 213 [S] (b ≤ 100000000) (kk (q.floor : Rat)) := by
  have t := i.t
  refine ct1 i.v (ctI Tryz.call213 Tryz.func213 Tryz.ntmps213 rfl Tryz.results213 rfl [] fun h0 w0 hb => ?_)
  have hl := i.le2
  haveI := i.sn
  haveI := i.sd
  obtain ⟨_, _, rfl, rfl⟩ := i
  have hl0 := lowF_ne f
  have s1 := szl (val f.n / lowF f)
  have s2 := szl (val f.n / lowF f + 1)
  haveI : Sz (val f.n % lowF f) (bf f) := ⟨Nat.le_trans (sz_mono (Nat.le_of_lt (Nat.mod_lt _ (Nat.pos_of_ne_zero hl0)))) (szl (lowF f))⟩
  have s3 := szl (val f.n % lowF f)
  repeat first | refine gDr 10 (by kernel_rfl) ?_ | refine nx ?_ | intro _
  generalize hm : (if f.neg = true ∧ 0 < val f.n % lowF f then val f.n / lowF f + 1 else val f.n / lowF f) = m
  have key := down_s hm.symm
  have s4 : (digs m).length ≤ bf f + 2 := by rw [← hm]; split <;> omega
  refine gJ [(3, nv m)] (fun c => ?_) (fun c => ?_) ?_
  · repeat first | refine nx ?_ | intro _
    exact gM (by rw [← hm, if_pos (by rw [← len_pos]; exact c)]; exact ⟨rfl, by trivial⟩)
  · repeat first | refine nx ?_ | intro _
    exact gM (by rw [← hm, if_neg (by rw [← len_pos]; exact c)]; exact ⟨rfl, by trivial⟩)
  · repeat first | refine nx ?_ | intro _
    rw [show dOf (val []) = 1 from rfl, key]; exact ⟨rfl, rfl, rfl⟩
instance rFloor_c {a : Fr} {x : Rat} {A : Nat} {d : Int} {S : SV} [i : VF S a x A] : Ct Tryz.prog 186 [S, iv d] (A ≤ 50000000 ∧ 1 ≤ d ∧ d ≤ 9223372036854775807) (kk (floorQ x d)) := by
  refine ct2 (v2 := iv) i.v ⟨fun u => u⟩ (ctI Tryz.call186 Tryz.func186 Tryz.ntmps186 rfl Tryz.results186 rfl [] fun h0 w0 ⟨hb, h3, h4⟩ => ?_)
  have h1 := i.le
  have h2 := i.le2
  obtain ⟨_, _, rfl, rfl⟩ := i
  have hsb := bq_intc (n := d) (by omega) h4
  have hm := bq_mul a.rat (d : Rat)
  have hf := bq_floor (a.rat * (d : Rat))
  have hd0 : (d : Rat) ≠ 0 := fun e => by have := Rat.intCast_inj.1 (e.trans Rat.intCast_zero.symm); omega
  repeat first | refine nx ?_ | intro _
  unfold floorQ; rw [if_neg (by omega), ← Rat.div_def]; exact ⟨rfl, rfl, rfl⟩
instance rDistribution_c {l : List Fr} {S : SV} [j : VL S l] : Ct Tryz.prog 61 [S] (wts l ≤ 60000000) (bv (distF l)) := by
  haveI := j.t
  refine ct1 j.v (ctI Tryz.call61 Tryz.func61 Tryz.ntmps61 rfl Tryz.results61 rfl [] fun h0 w0 hb => ?_)
  have hb7 := len_wts l
  have hbs : bq (sumF l) ≤ 1 + wts l := by rw [← bq_zero]; exact bq_foldA l 0 j.t.bq
  have hb1 : bq (((1 : Int) : Int) : Rat) ≤ 2 := bq_intc (by decide) (by decide)
  repeat first | refine nx ?_ | intro _
  refine gLp (fun k : Nat => [(3, iv k)]) (fun _ => []) (fun k => k ≤ l.length ∧ (l.take k).any negF = false) (fun k => l.length - k) 0 ⟨Nat.zero_le _, rfl⟩ fun k ⟨hk, hn⟩ => ?_
  have hb2 := bf_getD l k
  repeat first | refine nx ?_ | intro _
  refine gIf (fun c => ?_) fun c => ?_ <;> repeat first | refine nx ?_ | intro _
  · refine gIf (fun d => ?_) fun d => ?_ <;> repeat first | refine nx ?_ | intro _
    · exact dist_f (any_of_getD c (decide_eq_true (sgQ_neg.1 d)))
    · exact gBk (k + 1) ⟨by omega, any_take_succ fr0 c hn (decide_eq_false fun e => d (sgQ_neg.2 e))⟩ (by omega)
  · exact dist_t (by rw [List.take_of_length_le (by omega)] at hn; rw [hn]; decide)
instance rBest_c {l : List Fr} {S : SV} [j : VL S l] : Ct Tryz.prog 89 [S] (wts l ≤ 60000000) (iv (bestAt l l.length)) := by
  haveI := j.t
  refine ct1 j.v (ctI Tryz.call89 Tryz.func89 Tryz.ntmps89 rfl Tryz.results89 rfl [] fun h0 w0 hb => ?_)
  have hb7 := len_wts l
  repeat first | refine nx ?_ | intro _
  refine gLp (fun k : Nat => [(4, iv k), (3, iv (bestAt l k))]) (fun _ => []) (fun k => k ≤ l.length) (fun k => l.length - k) 0 (h1 := by simp [bestAt_zero]) (Nat.zero_le _) fun k hk => ?_
  have hba := bestAt_bd l k
  have hb2 := bf_getD l k
  have hb8 := bf_getD l (bestAt l k).toNat
  repeat first | refine nx ?_ | intro _
  refine gIf (fun c => ?_) fun c => ?_ <;> repeat first | refine nx ?_ | intro _
  · refine gIf (fun d => ?_) fun d => ?_ <;> repeat first | refine nx ?_ | intro _
    · exact gBk (k + 1) (by omega) (by omega) (h1 := by rw [bestAt_succ, if_pos (d.imp id fun e => rat_sub_pos.1 (sgQ_pos.1 e))]; simp)
    · exact gBk (k + 1) (by omega) (by omega) (h1 := by rw [bestAt_succ, if_neg fun e => d (e.imp id fun e => sgQ_pos.2 (rat_sub_pos.2 e))]; simp)
  · rw [show k = l.length by omega]
end Go.E3
set_option linter.unusedVariables false
set_option maxRecDepth 20000
set_option maxHeartbeats 2000000
set_option synthInstance.maxSize 1000
namespace Go.E3
open Go Go.Ear Go.Proofs
@[reducible] def mv (m : Md) : SV := .ag [lv rF m.start, lv (rL rF) m.move, lv rF m.fin, lv (rL rF) m.say]
def rM : Rp Md := mkRp 4 (fun m => [lv rF m.start, lv (rL rF) m.move, lv rF m.fin, lv (rL rF) m.say]) (fun _ => rfl) (fun _ => rfl)
instance : RpC rM (fun m => [lv rF m.start, lv (rL rF) m.move, lv rF m.fin, lv (rL rF) m.say]) := ⟨Iff.rfl⟩
instance : Rk rM 4 := ⟨rfl⟩
instance : D0 Md md0 := ⟨trivial⟩
instance (priority := high) {m : Md} : Vw mv (.ag [lv rF m.start, lv (rL rF) m.move, lv rF m.fin, lv (rL rF) m.say]) m := ⟨fun u => u⟩
instance {a c : List Fr} {b d : List (List Fr)} {S T U W : SV} [i : Vw (lv rF) S a] [j : Vw (lv (rL rF)) T b] [k : Vw (lv rF) U c] [l : Vw (lv (rL rF)) W d] : Vw mv (.ag [S, T, U, W]) ⟨a, b, c, d⟩ := ⟨fun ⟨vs, e, u⟩ => ⟨vs, e, by
  match vs, u with
  | [_, _, _, _], ⟨p, q, r, s, t⟩ => exact ⟨i.h p, j.h q, k.h r, l.h s, t⟩⟩⟩
instance {S : SV} {m : Md} [i : Vw mv S m] : Rd rM S m := ⟨fun u => by
  obtain ⟨vs, e, d⟩ := i.h u
  subst e; exact d⟩
instance : RT Tryz.prog 25 Md rM 96 md0 := ⟨Tryz.sizeOf25, _, _, ⟨Tryz.type25, rfl, rfl, rfl, rfl⟩, fun _ => ⟨nil_lv rfl, nil_lv rfl, nil_lv rfl, nil_lv rfl, trivial⟩⟩
instance : RT Tryz.prog 26 (List Int) (rL rI) 24 [] := ⟨Tryz.sizeOf26, _, _, ⟨Tryz.type26, rfl, rfl, rfl, rfl⟩, fun _ => ⟨nil_lv rfl, trivial⟩⟩
instance : MR Tryz.prog 22 24 := ⟨_, ⟨Tryz.type22, rfl, rfl, rfl, rfl⟩⟩
instance : MR Tryz.prog 26 24 := ⟨_, ⟨Tryz.type26, rfl, rfl, rfl, rfl⟩⟩
instance : MR Tryz.prog 196 24 := ⟨_, ⟨Tryz.type196, rfl, rfl, rfl, rfl⟩⟩
class FtM (m : Md) : Prop where h : FtS m.start ∧ FtR m.move ∧ FtS m.fin ∧ FtR m.say
instance {m : Md} [i : FtM m] : FtS m.start := i.h.1
instance {m : Md} [i : FtM m] : FtR m.move := i.h.2.1
instance {m : Md} [i : FtM m] : FtS m.fin := i.h.2.2.1
instance {m : Md} [i : FtM m] : FtR m.say := i.h.2.2.2
instance {a c : List Fr} {b d : List (List Fr)} [i : FtS a] [j : FtR b] [k : FtS c] [l : FtR d] : FtM ⟨a, b, c, d⟩ := ⟨i, j, k, l⟩
instance : FtM md0 := inferInstanceAs (FtM ⟨[], [], [], []⟩)
class VM (S : SV) (m : outParam Md) : Prop where
  v : Vw mv S m
  t : FtM m
instance {S : SV} {m : Md} [v : Vw mv S m] [t : FtM m] : VM S m := ⟨v, t⟩
class FtX (l : List Md) : Prop where h : ∀ m ∈ l, FtM m
instance : FtX [] := ⟨fun f hf => (List.not_mem_nil hf).elim⟩
instance {f : Md} {l : List Md} [a : FtM f] [b : FtX l] : FtX (f :: l) := ⟨fun g hg => by rcases List.mem_cons.1 hg with rfl | hg; exact a; exact b.h g hg⟩
theorem FtX.getD {l : List Md} (i : FtX l) (k : Nat) : FtM (l.getD k md0) := by
  rw [List.getD_eq_getElem?_getD]
  cases e : l[k]? with
  | none => exact inferInstanceAs (FtM md0)
  | some x => exact i.h x (List.mem_of_getElem? e)
instance {l : List Md} [i : FtX l] {k : Nat} : FtM (l.getD k md0) := i.getD k
class VX (S : SV) (l : outParam (List Md)) : Prop where
  v : Vw (lv rM) S l
  t : FtX l
instance {S : SV} {l : List Md} [v : Vw (lv rM) S l] [t : FtX l] : VX S l := ⟨v, t⟩
instance {a b : List Fr} [i : FtS a] [j : FtS b] : FtS (a ++ b) := ⟨fun f hf => (List.mem_append.1 hf).elim (i.h f) (j.h f)⟩
theorem cB1 {α : Type} {v : α → SV} {x : α} {P : Program} {f : FuncId} {sd : Prop} {S R : SV} {l : List SV} {B : List Res} (i : Vw v S x) (c : CtB P f (v x :: l) B sd R) : CtB P f (S :: l) B sd R := ⟨c.fn, fun a w0 h w vs s o u => by
  match vs, u with
  | _ :: _, u => exact c.h a s o ⟨i.h u.1, u.2⟩⟩
theorem cB2 {α β : Type} {v : α → SV} {x : α} {v2 : β → SV} {y : β} {P : Program} {f : FuncId} {sd : Prop} {S T R : SV} {l : List SV} {B : List Res} (i : Vw v S x) (j : Vw v2 T y) (c : CtB P f (v x :: v2 y :: l) B sd R) : CtB P f (S :: T :: l) B sd R := ⟨c.fn, fun a w0 h w vs s o u => by
  match vs, u with
  | _ :: _ :: _, u => exact c.h a s o ⟨i.h u.1, j.h u.2.1, u.2.2⟩⟩
instance long_c {m : Md} {S : SV} [i : Vw mv S m] : Ct Tryz.prog 143 [S] True (bv (longM m)) := by
  refine ct1 i (ctI Tryz.call143 Tryz.func143 Tryz.ntmps143 rfl Tryz.results143 rfl [] fun h0 w0 _ => ?_)
  repeat first | refine nx ?_ | intro _
  rfl
instance cloneF_c {l : List Fr} {S : SV} [j : VL S l] : CtO Tryz.prog 208 [S] (l.length ≤ 1000000000000) (fun g => [rA rF 31 g.v l]) := by
  refine cO1 j.v (ctO Tryz.call208 Tryz.func208 Tryz.ntmps208 rfl Tryz.results208 rfl [5] fun h0 w0 hl => ?_)
  repeat first | refine nx ?_ | intro _
  rename_i b hb
  refine gIf (fun c => ?_) fun c => ?_ <;> repeat first | refine nx ?_ | intro _
  · exact hb c
  · rfl
instance leaving_c {l : List Fr} {a : Fr} {x : Rat} {A : Nat} {S T : SV} [j : VL S l] [i : VF T a x A] : Ct Tryz.prog 180 [S, T] (wts l ≤ 100000000) (lv rF (l ++ [a])) := by
  haveI := j.t
  refine ct2 j.v i.v (ctI Tryz.call180 Tryz.func180 Tryz.ntmps180 rfl Tryz.results180 rfl [6] fun h0 w0 hl => ?_)
  have hb7 := len_wts l
  repeat first | refine nx ?_ | intro _
  trivial
instance valid_c {m : Md} {S : SV} [i : VM S m] : Ct Tryz.prog 147 [S] (MdB 10000000 m) (bv (validM m)) := by
  haveI := i.t
  refine ct1 i.v (ctI Tryz.call147 Tryz.func147 Tryz.ntmps147 rfl Tryz.results147 rfl [] fun h0 w0 hb => ?_)
  have hbs := hb.start
  have hbf := hb.fin
  have hls := len_wts m.start
  repeat first | refine nx ?_ | intro _
  refine gIf (fun c => ?_) fun c => ?_ <;> repeat first | refine nx ?_ | intro _
  · rcases c with c | c
    · exact (valid_no1 (by omega)).symm
    · exact (valid_no2 c).symm
  have hc : (m.start.length < 1 ∨ m.fin.length ≠ m.start.length ∨ m.move.length ≠ m.start.length ∨ m.say.length ≠ m.start.length) → False := fun h => c (.inl (by omega))
  have hd : distF m.start = true := Classical.not_not.1 fun e => c (.inr e)
  refine gLp (fun k : Nat => [(44, iv k)]) (fun _ => []) (fun k => k ≤ m.start.length ∧ (List.range k).all (rowM m) = true) (fun k => m.start.length - k) 0 ⟨Nat.zero_le _, rfl⟩ fun k ⟨hk, ha⟩ => ?_
  have hbm := hb.mv k
  have hby := hb.sy k
  have hbl : wts (m.move.getD k [] ++ [m.fin.getD k fr0]) ≤ _ := hb.lv k
  have hbe := bf_getD m.fin k
  repeat first | refine nx ?_ | intro _
  refine gIf (fun c2 => ?_) fun c2 => ?_ <;> repeat first | refine nx ?_ | intro _
  · refine gIf (fun c3 => ?_) fun c3 => ?_ <;> repeat first | refine nx ?_ | intro _
    · exact (valid_no3 c2 (rowM_no1 (by omega))).symm
    refine gIf (fun c4 => ?_) fun c4 => ?_ <;> repeat first | refine nx ?_ | intro _
    · exact (valid_no3 c2 (c4.elim rowM_no2 rowM_no3)).symm
    · exact gBk (k + 1) ⟨by omega, rows_succ ha (rowM_ok (by omega) (by omega) (by omega) (Classical.not_not.1 fun e => c4 (.inl e)) (Classical.not_not.1 fun e => c4 (.inr e)))⟩ (by omega)
  · exact (valid_ok (by omega) ha (by omega) hd).symm
instance chk1_c {o : List Int} {S : SV} [i : Vw (lv rI) S o] : Ct Tryz.prog 145 [S] True (bv (longO o)) := by
  refine ct1 i (ctI Tryz.call145 Tryz.func145 Tryz.ntmps145 rfl Tryz.results145 rfl [] fun h0 w0 _ => ?_)
  repeat first | refine nx ?_ | intro _
  unfold longO; rfl
instance chk2_c {m : Md} {S : SV} [i : VM S m] : Ct Tryz.prog 146 [S] (MdB 10000000 m) (bv (notV m)) := by
  haveI := i.t
  refine ct1 i.v (ctI Tryz.call146 Tryz.func146 Tryz.ntmps146 rfl Tryz.results146 rfl [] fun h0 w0 hb => ?_)
  repeat first | refine nx ?_ | intro _
  rfl
instance (priority := low) chk2s_c {m : Md} : Ct Tryz.prog 146 [mv m] (FtM m ∧ MdB 10000000 m) (bv (notV m)) := ⟨Tryz.call146, fun ⟨f, b⟩ => (chk2_c (m := m) (S := mv m)).h b⟩
instance chk3_c {x k : Int} {v : Value} {t : TypeId} {B : List Res} [hv : HV B v [iv k] t] : CtB Tryz.prog 148 [iv x, ov v] B True (bv (offS k x)) := by
  refine (ctB Tryz.call148 Tryz.func148 Tryz.ntmps148 rfl Tryz.results148 rfl [] fun h0 w0 _ => ?_)
  repeat first | refine nx ?_ | intro _
  unfold offS; rfl
theorem getD_in {α : Type} {l : List α} {k : Nat} (d : α) (h : k < l.length) : l.getD k d ∈ l := by rw [List.getD_eq_getElem?_getD, List.getElem?_eq_getElem h]; exact List.getElem_mem h
instance idxM_c {l : List Md} {S F : SV} {B : List Res} {sd : Md → Prop} {p : Md → Bool} [j : VX S l] [fv : ∀ m : Md, Fv Tryz.prog F [mv m] B (sd m) (bv (p m))] : CtB Tryz.prog 191 [S, F] B (l.length ≤ 1099511627776 ∧ ∀ m ∈ l, sd m) (iv (idxP p l)) := by
  haveI := j.t
  refine cB2 j.v (v2 := fun _ : Unit => F) ⟨fun u => u⟩ (ctB Tryz.call191 Tryz.func191 Tryz.ntmps191 rfl Tryz.results191 rfl [] fun h0 w0 ⟨hb, hs⟩ => ?_) (y := ())
  repeat first | refine nx ?_ | intro _
  refine gLp (fun k : Nat => [(8, iv k)]) (fun _ => []) (fun k => k ≤ l.length ∧ (l.take k).any p = false) (fun k => l.length - k) 0 ⟨Nat.zero_le _, rfl⟩ fun k ⟨hk, hn⟩ => ?_
  repeat first | refine nx ?_ | intro _
  refine gIf (fun c => ?_) fun c => ?_
  · have hsd := hs _ (getD_in md0 c)
    repeat first | refine nx ?_ | intro _
    refine gIf (fun c2 => ?_) fun c2 => ?_ <;> repeat first | refine nx ?_ | intro _
    · exact (idx_found md0 c hn c2).symm
    · exact gBk (k + 1) ⟨by omega, any_take_succ md0 c hn (Bool.eq_false_iff.2 c2)⟩ (by omega)
  · repeat first | refine nx ?_ | intro _
    exact (idx_none (by omega) hn).symm
instance cntM_c {l : List Md} {S F : SV} {B : List Res} {sd : Md → Prop} {p : Md → Bool} [j : VX S l] [fv : ∀ m : Md, Fv Tryz.prog F [mv m] B (sd m) (bv (p m))] : CtB Tryz.prog 142 [S, F] B (l.length ≤ 1099511627776 ∧ ∀ m ∈ l, sd m) (bv (l.any p)) := by
  haveI := j.t
  refine cB2 j.v (v2 := fun _ : Unit => F) ⟨fun u => u⟩ (ctB Tryz.call142 Tryz.func142 Tryz.ntmps142 rfl Tryz.results142 rfl [] fun h0 w0 ⟨hb, hs⟩ => ?_) (y := ())
  repeat first | refine nx ?_ | intro _
  exact idx_any
instance idxO_c {l : List (List Int)} {S F : SV} {B : List Res} {sd : (List Int) → Prop} {p : (List Int) → Bool} [j : Vw (lv (rL rI)) S l] [fv : ∀ (m : (List Int)), Fv Tryz.prog F [lv rI m] B (sd m) (bv (p m))] : CtB Tryz.prog 192 [S, F] B (l.length ≤ 1099511627776 ∧ ∀ m ∈ l, sd m) (iv (idxP p l)) := by
  refine cB2 j (v2 := fun _ : Unit => F) ⟨fun u => u⟩ (ctB Tryz.call192 Tryz.func192 Tryz.ntmps192 rfl Tryz.results192 rfl [] fun h0 w0 ⟨hb, hs⟩ => ?_) (y := ())
  repeat first | refine nx ?_ | intro _
  refine gLp (fun k : Nat => [(8, iv k)]) (fun _ => []) (fun k => k ≤ l.length ∧ (l.take k).any p = false) (fun k => l.length - k) 0 ⟨Nat.zero_le _, rfl⟩ fun k ⟨hk, hn⟩ => ?_
  repeat first | refine nx ?_ | intro _
  refine gIf (fun c => ?_) fun c => ?_
  · have hsd := hs _ (getD_in [] c)
    repeat first | refine nx ?_ | intro _
    refine gIf (fun c2 => ?_) fun c2 => ?_ <;> repeat first | refine nx ?_ | intro _
    · exact (idx_found [] c hn c2).symm
    · exact gBk (k + 1) ⟨by omega, any_take_succ [] c hn (Bool.eq_false_iff.2 c2)⟩ (by omega)
  · repeat first | refine nx ?_ | intro _
    exact (idx_none (by omega) hn).symm
instance cntO_c {l : List (List Int)} {S F : SV} {B : List Res} {sd : (List Int) → Prop} {p : (List Int) → Bool} [j : Vw (lv (rL rI)) S l] [fv : ∀ (m : (List Int)), Fv Tryz.prog F [lv rI m] B (sd m) (bv (p m))] : CtB Tryz.prog 144 [S, F] B (l.length ≤ 1099511627776 ∧ ∀ m ∈ l, sd m) (bv (l.any p)) := by
  refine cB2 j (v2 := fun _ : Unit => F) ⟨fun u => u⟩ (ctB Tryz.call144 Tryz.func144 Tryz.ntmps144 rfl Tryz.results144 rfl [] fun h0 w0 ⟨hb, hs⟩ => ?_) (y := ())
  repeat first | refine nx ?_ | intro _
  exact idx_any
instance idxI_c {l : List Int} {S F : SV} {B : List Res} {sd : Int → Prop} {p : Int → Bool} [j : Vw (lv rI) S l] [fv : ∀ (m : Int), Fv Tryz.prog F [iv m] B (sd m) (bv (p m))] : CtB Tryz.prog 175 [S, F] B (l.length ≤ 1099511627776 ∧ ∀ m ∈ l, sd m) (iv (idxP p l)) := by
  refine cB2 j (v2 := fun _ : Unit => F) ⟨fun u => u⟩ (ctB Tryz.call175 Tryz.func175 Tryz.ntmps175 rfl Tryz.results175 rfl [] fun h0 w0 ⟨hb, hs⟩ => ?_) (y := ())
  repeat first | refine nx ?_ | intro _
  refine gLp (fun k : Nat => [(8, iv k)]) (fun _ => []) (fun k => k ≤ l.length ∧ (l.take k).any p = false) (fun k => l.length - k) 0 ⟨Nat.zero_le _, rfl⟩ fun k ⟨hk, hn⟩ => ?_
  repeat first | refine nx ?_ | intro _
  refine gIf (fun c => ?_) fun c => ?_
  · have hsd := hs _ (getD_in 0 c)
    repeat first | refine nx ?_ | intro _
    refine gIf (fun c2 => ?_) fun c2 => ?_ <;> repeat first | refine nx ?_ | intro _
    · exact (idx_found 0 c hn c2).symm
    · exact gBk (k + 1) ⟨by omega, any_take_succ 0 c hn (Bool.eq_false_iff.2 c2)⟩ (by omega)
  · repeat first | refine nx ?_ | intro _
    exact (idx_none (by omega) hn).symm
instance cntI_c {l : List Int} {S F : SV} {B : List Res} {sd : Int → Prop} {p : Int → Bool} [j : Vw (lv rI) S l] [fv : ∀ (m : Int), Fv Tryz.prog F [iv m] B (sd m) (bv (p m))] : CtB Tryz.prog 128 [S, F] B (l.length ≤ 1099511627776 ∧ ∀ m ∈ l, sd m) (bv (l.any p)) := by
  refine cB2 j (v2 := fun _ : Unit => F) ⟨fun u => u⟩ (ctB Tryz.call128 Tryz.func128 Tryz.ntmps128 rfl Tryz.results128 rfl [] fun h0 w0 ⟨hb, hs⟩ => ?_) (y := ())
  repeat first | refine nx ?_ | intro _
  exact idx_any
instance check_c {ms : List Md} {data : List (List Int)} {S T : SV} [i : VX S ms] [j : Vw (lv (rL rI)) T data] : Ct Tryz.prog 80 [S, T] (ms.length ≤ 1099511627776 ∧ data.length ≤ 1099511627776 ∧ (∀ m ∈ ms, MdB 10000000 m) ∧ (data.length = 0 ∨ 0 < ms.length) ∧ ∀ o ∈ data, o.length ≤ 1099511627776) (iv (checkE ms data)) := by
  haveI := i.t
  refine ct2 i.v j (ctI Tryz.call80 Tryz.func80 Tryz.ntmps80 rfl Tryz.results80 rfl [] fun h0 w0 ⟨h1, h2, h3, h4, h5⟩ => ?_)
  have hx : ∀ m ∈ ms, FtM m ∧ MdB 10000000 m := fun m hm => ⟨i.t.h m hm, h3 m hm⟩
  repeat first | refine nx ?_ | intro _
  refine gIf (fun c => ?_) fun c => ?_ <;> repeat first | refine nx ?_ | intro _
  · exact checkE_long (by rcases c with (c | c) | c; exact .inl c; exact .inr (.inl c); exact .inr (.inr c))
  have k1 : ¬ ms.any longM = true := fun e => c (.inl (.inl e))
  have k2 : ¬ 200 < data.length := fun e => c (.inl (.inr e))
  have k3 : ¬ data.any longO = true := fun e => c (.inr e)
  refine gIf (fun c2 => ?_) fun c2 => ?_ <;> repeat first | refine nx ?_ | intro _
  · exact checkE_bad k1 k2 k3 c2
  refine gLp (fun k : Nat => [(23, iv k)]) (fun _ => []) (fun k => k ≤ data.length ∧ (data.take k).any (heardM ms) = false) (fun k => data.length - k) 0 ⟨Nat.zero_le _, rfl⟩ fun k ⟨hk, hn⟩ => ?_
  repeat first | refine nx ?_ | intro _
  refine gIf (fun c3 => ?_) fun c3 => ?_
  · have hv := valid_first c2 (by omega)
    have hvl := valid_len hv
    have hod := h5 _ (getD_in [] c3)
    repeat first | refine nx ?_ | intro _
    refine gIf (fun c4 => ?_) fun c4 => ?_ <;> repeat first | refine nx ?_ | intro _
    · exact checkE_off k1 k2 k3 c2 (any_at [] c3 c4)
    · exact gBk (k + 1) ⟨by omega, any_take_succ [] c3 hn (Bool.eq_false_iff.2 c4)⟩ (by omega)
  · repeat first | refine nx ?_ | intro _
    exact checkE_ok k1 k2 k3 c2 (by rw [← hn, List.take_of_length_le (by omega)])
instance Check_c {m : Md} {S : SV} [i : VM S m] : Ct Tryz.prog 46 [S] (MdB 10000000 m) (iv (checkE [m] [])) := by
  haveI := i.t
  refine ct1 i.v (ctI Tryz.call46 Tryz.func46 Tryz.ntmps46 rfl Tryz.results46 rfl [] fun h0 w0 hb => ?_)
  have h1 : ∀ x ∈ [m], MdB 10000000 x := fun x hx => by rw [List.mem_singleton.1 hx]; exact hb
  repeat first | refine nx ?_ | intro _
  trivial
end Go.E3
