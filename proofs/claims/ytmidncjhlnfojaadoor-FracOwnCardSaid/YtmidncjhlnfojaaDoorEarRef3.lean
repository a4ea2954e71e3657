/- About package frac: EarRef3. -/
import Derived.Test.YtmidncjhlnfojaaDoorEarRef2
import Derived.Laws.BytesArg
set_option linter.all false
namespace Go.Ear
theorem digs_lit {c : Nat} (h : c ≠ 0) (h2 : c < 4294967296) : digs c = [c] := by
  rw [digs_pos h, B32_eq, Nat.mod_eq_of_lt h2, Nat.div_eq_of_lt h2, digs_zero]
theorem digs_getD0 {r : Nat} (h : r < 4294967296) : (digs r).getD 0 0 = r := by
  rw [digs_getD, Nat.pow_zero, Nat.div_one, B32_eq, Nat.mod_eq_of_lt h]
section ops
variable {P : Program} {n : Nat} {ρ : Env} {w : World} {K : Env → World → Prop} {d : Tmp} {ty : TypeId} {pos : String} {af : Array Edge} {g : Option (Nat × Bool)}
theorem OpW.convB1 {s t e : TypeId} {x : Operand} {b c : Nat} {m : Nat} {fz : Nat × Nat} {et : TypeId} (hs : IsUnd P s (.slice e)) (he : IsUnd P e (.int .u8)) (ht : IsUnd P t .string) (hx : ev n ρ x = .slice (some ⟨b, 0, none⟩) 1 c)
    (hb : w.heap[b]? = some (.cells #[.int .u8 ((m : Nat) : Int)] et fz)) (hm : m < 256) (hk : K (upd ρ d (.string (S [UInt8.ofNat m]))) w) : OpW P n ⟨some d, .convert s t x, ty, pos, af, g⟩ ρ w K := by
  have hr := run_convert_bytes_arg (P := P) w s e hs he b 0 1 c [(m : Int)] rfl (fun i hi => by
    have : i = 0 := by omega
    subst this
    exact cell_of hb rfl) t ht
  refine OpW.valD (w' := w) (v := .string (S [UInt8.ofNat m])) ?_ hk
  simp only [execOp, hx, hr, Sem.run_bind, Result.andThen]
  simp [strOfNums, S]
end ops
theorem decT_dig {a x : Nat} {s : List UInt8} (h : decT a = (if x = 0 then [] else decT x) ++ s) (hx : x ≠ 0) : decT a = (if x / 10 = 0 then [] else decT (x / 10)) ++ ([UInt8.ofNat (48 + x % 10)] ++ s) := by
  rw [h, if_neg hx]
  by_cases h0 : x / 10 = 0
  · rw [if_pos h0, decT_small (by omega), Nat.mod_eq_of_lt (by omega)]; rfl
  · rw [if_neg h0, decT_big (by omega)]; simp [dig10]
def numN (s : List UInt8) : Nat := if s.all isDig = true then readN s else 0
def isNum (s : List UInt8) : Bool := s.all isDig && decide (0 < s.length)
theorem all_of_take {l : List UInt8} {k : Nat} (h : l.length ≤ k) (ha : (l.take k).all isDig = true) : l.all isDig = true := by rwa [List.take_of_length_le h] at ha
theorem not_all {l : List UInt8} {k : Nat} (hk : k < l.length) (h : (l.getD k 0).toNat < 48 ∨ 57 < (l.getD k 0).toNat) : l.all isDig = false := by
  rw [List.all_eq_false]
  refine ⟨l.getD k 0, ?_, by rw [isDig_no h]; decide⟩
  rw [List.getD_eq_getElem?_getD, List.getElem?_eq_getElem hk]; exact List.getElem_mem hk
theorem ten_pow (p : Nat) : ((((10 : Nat) : Int)) : Rat) ^ p = ((((10 ^ p : Nat) : Int)) : Rat) := by
  induction p with
  | zero => rfl
  | succ p ih => rw [Rat.pow_succ, ih, Nat.pow_succ, ← Rat.intCast_mul]; rfl
theorem mk_abs (q : Rat) : (Fr.mk false (frK q).n (frK q).d).rat = ratOf false q.num.natAbs q.den := by
  have h1 := lowF_frK q
  unfold lowF at h1
  unfold Fr.rat
  simp only
  rw [h1, show val (frK q).n = q.num.natAbs from val_digs _]
theorem dec_down (q : Rat) (p : Nat) : ((Fr.mk false (frK q).n (frK q).d).rat * powR ((((10 : Nat) : Int)) : Rat) ((p : Nat) : Int) + ((((1 : Nat) : Int)) : Rat) / ((((2 : Nat) : Int)) : Rat)).floor = ((decN q p : Nat) : Int) := by
  have e1 : powR ((((10 : Nat) : Int)) : Rat) ((p : Nat) : Int) = ratOf false (10 ^ p) 1 := by
    unfold powR powB
    rw [if_neg (by omega), Int.natAbs_natCast, ten_pow, ratOf_div]
    have : (((1 : Nat) : Int) : Rat) = 1 := rfl
    rw [this]; unfold sgn; simp only [Bool.false_eq_true, if_false]; grind
  have e2 : ((((1 : Nat) : Int)) : Rat) / ((((2 : Nat) : Int)) : Rat) = ratOf false 1 2 := by rw [ratOf_div]; rfl
  rw [mk_abs, e1, e2, ← mul_s q.den_nz (by decide), Nat.mul_one]
  have h3 : (false != false) = false := rfl
  rw [h3, ← add_s q.den_nz (by decide), floor_div (Nat.mul_ne_zero q.den_nz (by decide))]
  unfold sgn decN
  simp only [Bool.false_eq_true, if_false, Nat.one_mul]
  rfl
theorem natcast_num (m : Nat) : ((((m : Nat) : Int) : Rat)).num.natAbs = m := by rw [Rat.num_intCast]; rfl
theorem dec_sign {a : Fr} {p : Nat} : (a.neg = true ∧ 0 < decN a.rat p) ↔ (a.rat.num < 0 ∧ decN a.rat p ≠ 0) := by
  have hz : val a.n = 0 → decN a.rat p = 0 := by
    intro h
    rw [rat_zero_iff.2 h]; unfold decN
    show (0 * 10 ^ p * 2 + 1) / (1 * 2) = 0
    simp
  have hs := sign_s (f := a)
  have key : val a.n ≠ 0 → (a.rat.num < 0 ↔ a.neg = true) := by
    intro h
    rw [if_neg h] at hs
    unfold sgQ at hs
    rw [if_neg (fun e => h (rat_zero_iff.1 e))] at hs
    constructor
    · intro hh
      rw [if_pos hh] at hs
      by_cases hb : a.neg = true
      · exact hb
      · rw [if_neg hb] at hs; omega
    · intro hh
      rw [if_pos hh] at hs
      split at hs
      · assumption
      · omega
  constructor
  · rintro ⟨h1, h2⟩
    exact ⟨(key (fun e => by have := hz e; omega)).2 h1, by omega⟩
  · rintro ⟨h1, h2⟩
    exact ⟨(key (fun e => h2 (hz e))).1 h1, by omega⟩
end Go.Ear
