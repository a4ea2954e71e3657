/- About package frac: EarRef2. -/
import Derived.Test.YtmidncjhlnfojaaDoorEarRef
set_option linter.all false
namespace Go.Ear
def lowF (f : Fr) : Nat := if val f.d = 0 then 1 else val f.d
theorem lowF_ne (f : Fr) : lowF f ≠ 0 := by unfold lowF; split <;> omega
theorem Fr.rat_eq (f : Fr) : f.rat = ratOf f.neg (val f.n) (lowF f) := rfl
theorem sz_lowF {f : Fr} (h : Fit f.d) : sz (lowF f) ≤ bf f := by
  unfold lowF
  split
  · rw [sz_one]; exact bf_pos f
  · exact Nat.le_trans (sz_len h) (bf_d f)
theorem sz_valn {f : Fr} (h : Fit f.n) : sz (val f.n) ≤ bf f := Nat.le_trans (sz_len h) (bf_n f)
theorem mk_rat {s : Bool} {x y : Nat} (h : y ≠ 0) : (Fr.mk s (digs x) (digs y)).rat = ratOf s x y := by
  unfold Fr.rat; simp only [val_digs, if_neg h]
theorem mk_rat1 {s : Bool} {x : Nat} : (Fr.mk s (digs x) []).rat = ratOf s x 1 := by
  unfold Fr.rat; simp only [val_digs]; rfl
theorem ratOf_div (s : Bool) (n d : Nat) : ratOf s n d = ((sgn s n : Int) : Rat) / ((d : Int) : Rat) := by
  unfold ratOf sgn
  rw [Rat.mkRat_eq_div]; rfl
theorem nc_ne {d : Nat} (h : d ≠ 0) : ((d : Int) : Rat) ≠ 0 := fun e => h (by have := Rat.intCast_inj.1 (e.trans Rat.intCast_zero.symm); omega)
theorem add_s {s : Bool} {n d m e : Nat} (hd : d ≠ 0) (he : e ≠ 0) : ratOf s (n * e + m * d) (d * e) = ratOf s n d + ratOf s m e := by
  rw [ratOf_div, ratOf_div, ratOf_div]
  have h1 := nc_ne hd
  have h2 := nc_ne he
  have h3 : ((sgn s (n * e + m * d) : Int) : Rat) = (sgn s n : Int) * ((e : Int) : Rat) + (sgn s m : Int) * ((d : Int) : Rat) := by
    rw [← Rat.intCast_mul, ← Rat.intCast_mul, ← Rat.intCast_add]
    congr 1
    unfold sgn; split <;> simp <;> grind
  have h4 : ((((d * e : Nat) : Int)) : Rat) = ((d : Int) : Rat) * ((e : Int) : Rat) := by rw [← Rat.intCast_mul]; rfl
  rw [h3, h4]
  grind
theorem sub_s {s t : Bool} {n d m e : Nat} (hd : d ≠ 0) (he : e ≠ 0) (hst : s ≠ t) (hle : m * d ≤ n * e) : ratOf s (n * e - m * d) (d * e) = ratOf s n d + ratOf t m e := by
  rw [ratOf_div, ratOf_div, ratOf_div]
  have h1 := nc_ne hd
  have h2 := nc_ne he
  have h3 : ((sgn s (n * e - m * d) : Int) : Rat) = (sgn s n : Int) * ((e : Int) : Rat) + (sgn t m : Int) * ((d : Int) : Rat) := by
    rw [← Rat.intCast_mul, ← Rat.intCast_mul, ← Rat.intCast_add]
    congr 1
    have e3 : ((n * e - m * d : Nat) : Int) = (n : Int) * e - m * d := by rw [Int.ofNat_sub hle]; simp
    unfold sgn
    cases s <;> cases t <;> first | exact absurd rfl hst | (simp only [Bool.false_eq_true, if_false, if_true, e3]; grind)
  have h4 : ((((d * e : Nat) : Int)) : Rat) = ((d : Int) : Rat) * ((e : Int) : Rat) := by rw [← Rat.intCast_mul]; rfl
  rw [h3, h4]
  grind
theorem sub_s' {s t : Bool} {n d m e : Nat} (hd : d ≠ 0) (he : e ≠ 0) (hst : s ≠ t) (hlt : n * e ≤ m * d) : ratOf t (m * d - n * e) (d * e) = ratOf s n d + ratOf t m e := by
  rw [Nat.mul_comm d e, Rat.add_comm]; exact sub_s he hd (fun h => hst h.symm) hlt
theorem mul_s {s t : Bool} {n d m e : Nat} (hd : d ≠ 0) (he : e ≠ 0) : ratOf (s != t) (n * m) (d * e) = ratOf s n d * ratOf t m e := by
  rw [ratOf_div, ratOf_div, ratOf_div]
  have h1 := nc_ne hd
  have h2 := nc_ne he
  have h3 : ((sgn (s != t) (n * m) : Int) : Rat) = (sgn s n : Int) * (sgn t m : Int) := by
    rw [← Rat.intCast_mul]
    congr 1
    unfold sgn
    cases s <;> cases t <;> simp <;> grind
  have h4 : ((((d * e : Nat) : Int)) : Rat) = ((d : Int) : Rat) * ((e : Int) : Rat) := by rw [← Rat.intCast_mul]; rfl
  rw [h3, h4]
  grind
theorem neg_s {s : Bool} {n d : Nat} : ratOf (!s) n d = -ratOf s n d := by
  rw [ratOf_div, ratOf_div]
  have h3 : ((sgn (!s) n : Int) : Rat) = -((sgn s n : Int) : Rat) := by
    rw [← Rat.intCast_neg]
    congr 1
    unfold sgn
    cases s <;> simp
  rw [h3]
  grind
theorem inv_s {s : Bool} {n d : Nat} (hn : n ≠ 0) (hd : d ≠ 0) : ratOf s d n = (ratOf s n d)⁻¹ := by
  rw [ratOf_div, ratOf_div]
  have h1 := nc_ne hd
  have h2 := nc_ne hn
  cases s
  · show ((d : Int) : Rat) / ((n : Int) : Rat) = (((n : Int) : Rat) / ((d : Int) : Rat))⁻¹
    grind
  · show ((-(d : Int) : Int) : Rat) / ((n : Int) : Rat) = (((-(n : Int) : Int) : Rat) / ((d : Int) : Rat))⁻¹
    rw [Rat.intCast_neg, Rat.intCast_neg]
    grind
theorem rat_zero_iff {f : Fr} : f.rat = 0 ↔ val f.n = 0 := by
  rw [Fr.rat_eq, ratOf_div]
  have h1 := nc_ne (lowF_ne f)
  constructor
  · intro h
    have h2 : ((sgn f.neg (val f.n) : Int) : Rat) = 0 := by grind
    have h3 := Rat.intCast_inj.1 (h2.trans Rat.intCast_zero.symm)
    unfold sgn at h3
    split at h3 <;> omega
  · intro h
    rw [h]
    have : sgn f.neg 0 = 0 := by unfold sgn; split <;> rfl
    rw [this, Rat.intCast_zero]; grind
theorem int_s {n : Int} : ratOf (decide (n < 0)) n.natAbs 1 = (n : Rat) := by
  rw [ratOf_div]
  have h : sgn (decide (n < 0)) n.natAbs = n := by
    unfold sgn
    by_cases h : n < 0
    · rw [if_pos (by simpa using h)]; omega
    · rw [if_neg (by simpa using h)]; omega
  rw [h]
  have : (((1 : Nat) : Int) : Rat) = 1 := rfl
  rw [this]; grind
theorem quot_s {n d : Int} (hd : d ≠ 0) : ratOf (decide (n < 0) != decide (d < 0)) n.natAbs d.natAbs = (n : Rat) / (d : Rat) := by
  have h1 : d.natAbs ≠ 0 := by omega
  have := mul_s (s := decide (n < 0)) (t := decide (d < 0)) (n := n.natAbs) (d := 1) (m := 1) (e := d.natAbs) (by decide) h1
  rw [Nat.mul_one, Nat.one_mul] at this
  rw [this, int_s, inv_s (n := d.natAbs) (d := 1) h1 (by decide), int_s, Rat.div_def]
theorem sign_s {f : Fr} : sgQ f.rat = if val f.n = 0 then 0 else if f.neg = true then -1 else 1 := by
  unfold sgQ
  by_cases h : val f.n = 0
  · rw [if_pos (rat_zero_iff.2 h), if_pos h]
  · rw [if_neg (fun e => h (rat_zero_iff.1 e)), if_neg h]
    have hn := ratOf_neg (s := f.neg) (n := val f.n) (lowF_ne f)
    have hp : 0 < val f.n / Nat.gcd (val f.n) (lowF f) := Nat.div_pos (Nat.gcd_le_left _ (Nat.pos_of_ne_zero h)) (gcd_pos' (lowF_ne f))
    rw [decide_eq_true hp, Bool.and_true, ← Fr.rat_eq] at hn
    by_cases hs : f.neg = true
    · rw [hs] at hn
      rw [if_pos (of_decide_eq_true hn.symm), if_pos hs]
    · rw [if_neg hs]
      rw [Bool.not_eq_true] at hs
      rw [hs] at hn
      rw [if_neg (of_decide_eq_false hn.symm)]
def sameF (f g : Fr) : Bool := decide (f.neg = g.neg) && (decide (f.n = g.n) && decide (f.d = g.d))
theorem sameF_iff {f g : Fr} : sameF f g = true ↔ f = g := by
  unfold sameF
  cases f; cases g
  simp
theorem frK_inj {p q : Rat} : frK p = frK q ↔ p = q := by
  constructor
  · intro h; rw [← frK_rat p, h, frK_rat]
  · intro h; rw [h]
theorem take_eq_succ {a b : List Nat} {k : Nat} (ha : k < a.length) (hb : k < b.length) (h : a.take k = b.take k) (he : a.getD k 0 = b.getD k 0) : a.take (k + 1) = b.take (k + 1) := by
  rw [take_snoc 0 ha, take_snoc 0 hb, h, he]
theorem ne_of_getD {a b : List Nat} {k : Nat} (h : a.getD k 0 ≠ b.getD k 0) : ¬ a = b := fun e => h (by rw [e])
theorem rat_le_div {x y : Rat} {d : Rat} (hd : 0 < d) : x ≤ y / d ↔ x * d ≤ y := by
  have h1 : y = y / d * d := by
    have : d ≠ 0 := by intro e; rw [e] at hd; exact absurd hd (by decide)
    grind
  constructor
  · intro h
    rw [h1]
    exact Rat.mul_le_mul_of_nonneg_right h (by grind)
  · intro h
    rw [h1] at h
    exact Rat.le_of_mul_le_mul_right h hd
theorem floor_div {s : Bool} {n d : Nat} (hd : d ≠ 0) : (ratOf s n d).floor = (sgn s n) / (d : Int) := by
  rw [ratOf_div]
  have hp : (0 : Rat) < ((d : Int) : Rat) := by
    rw [← Rat.intCast_zero]; exact Rat.intCast_lt_intCast.2 (by omega)
  have key : ∀ z : Int, z ≤ (((sgn s n : Int) : Rat) / ((d : Int) : Rat)).floor ↔ z ≤ sgn s n / (d : Int) := by
    intro z
    rw [Rat.le_floor_iff, rat_le_div hp, ← Rat.intCast_mul, Rat.intCast_le_intCast, Int.le_ediv_iff_mul_le (by omega)]
  exact Int.le_antisymm ((key _).1 (Int.le_refl _)) ((key _).2 (Int.le_refl _))
theorem down_s {f : Fr} {m : Nat} (h : m = if f.neg = true ∧ 0 < val f.n % lowF f then val f.n / lowF f + 1 else val f.n / lowF f) : ratOf f.neg m 1 = (f.rat.floor : Rat) := by
  rw [Fr.rat_eq, floor_div (lowF_ne f), ratOf_div]
  have e1 : (((1 : Nat) : Int) : Rat) = 1 := rfl
  rw [e1]
  have : sgn f.neg m = sgn f.neg (val f.n) / (lowF f : Int) := by
    have hd := Nat.pos_of_ne_zero (lowF_ne f)
    generalize lowF f = d at *
    generalize val f.n = a at *
    have h1 := Nat.div_add_mod a d
    have hlt := Nat.mod_lt a hd
    unfold sgn
    by_cases hs : f.neg = true
    · rw [if_pos hs, if_pos hs]
      by_cases hr : 0 < a % d
      · rw [if_pos ⟨hs, hr⟩] at h
        subst h
        generalize a / d = k at *
        generalize a % d = r at *
        have : -(a : Int) = ((d - r : Nat) : Int) + (d : Int) * (-(k + 1 : Nat) : Int) := by
          rw [← h1]; push_cast [Nat.le_of_lt hlt]; grind
        rw [this, Int.add_mul_ediv_left _ _ (by omega), Int.ediv_eq_zero_of_lt (by omega) (by omega)]; simp
      · rw [if_neg (fun e => hr e.2)] at h
        subst h
        have hr : a % d = 0 := by omega
        rw [hr] at h1
        rw [← h1, Nat.add_zero, Nat.mul_div_cancel_left _ hd, Int.natCast_mul, ← Int.mul_neg, Int.mul_ediv_cancel_left _ (by omega)]
    · rw [if_neg hs, if_neg hs]
      rw [if_neg (fun e => hs e.1)] at h
      subst h; rfl
  rw [this]; grind
section
variable {a b : Fr}
theorem add_F (h : a.neg = b.neg) : ratOf a.neg (val a.n * lowF b + val b.n * lowF a) (lowF a * lowF b) = a.rat + b.rat := by
  rw [Fr.rat_eq a, Fr.rat_eq b, ← h]; exact add_s (lowF_ne a) (lowF_ne b)
theorem sub_F (h : ¬ a.neg = b.neg) (hle : val b.n * lowF a ≤ val a.n * lowF b) : ratOf a.neg (val a.n * lowF b - val b.n * lowF a) (lowF a * lowF b) = a.rat + b.rat :=
  sub_s (lowF_ne a) (lowF_ne b) h hle
theorem sub_F' (h : ¬ a.neg = b.neg) (hle : val a.n * lowF b ≤ val b.n * lowF a) : ratOf b.neg (val b.n * lowF a - val a.n * lowF b) (lowF a * lowF b) = a.rat + b.rat :=
  sub_s' (lowF_ne a) (lowF_ne b) h hle
theorem mul_F : ratOf (a.neg != b.neg) (val a.n * val b.n) (lowF a * lowF b) = a.rat * b.rat := mul_s (lowF_ne a) (lowF_ne b)
theorem neg_F : (Fr.mk (!a.neg) a.n a.d).rat = -a.rat := neg_s
theorem inv_F (h : a.rat ≠ 0) : ratOf a.neg (lowF a) (val a.n) = (a.rat)⁻¹ := inv_s (fun e => h (rat_zero_iff.2 e)) (lowF_ne a)
end
def powB (q : Rat) (n : Int) : Rat := if n < 0 then q⁻¹ else q
def powR (q : Rat) (n : Int) : Rat := powB q n ^ n.natAbs
theorem lowF_frK (q : Rat) : lowF (frK q) = q.den := by
  unfold lowF frK
  simp only
  by_cases h : q.den = 1
  · rw [if_pos h]; simp [val, h]
  · rw [if_neg h, val_digs, if_neg q.den_nz]
theorem any_of_getD {α : Type} {p : α → Bool} {l : List α} {k : Nat} {d : α} (hk : k < l.length) (hp : p (l.getD k d) = true) : l.any p = true := by
  rw [List.any_eq_true]
  refine ⟨l.getD k d, ?_, hp⟩
  rw [List.getD_eq_getElem?_getD, List.getElem?_eq_getElem hk]; exact List.getElem_mem hk
end Go.Ear
