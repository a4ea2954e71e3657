/- About package frac: EarText. -/
import Derived.Test.YtmidncjhlnfojaaDoorEarWhole
set_option linter.all false
namespace Go.Ear
theorem add_u8 {a b : Nat} (h : a + b ≤ 255) : IntKind.u8.wrap ((a : Int) + (b : Int)) = ((a + b : Nat) : Int) := (in_u8 (by omega)).trans (by omega)
theorem frK_dd (q : Rat) : digs (val (frK q).d) = (frK q).d := by
  show digs (val (if q.den = 1 then [] else digs q.den)) = if q.den = 1 then [] else digs q.den
  split
  · show digs 0 = []; exact digs_zero
  · rw [val_digs]
theorem frK_sd (q : Rat) : sz (val (frK q).d) ≤ bq q := by
  show sz (val (if q.den = 1 then [] else digs q.den)) ≤ bq q
  split
  · show sz 0 ≤ _; rw [sz_eq_zero.2 rfl]; exact Nat.zero_le _
  · rw [val_digs]; exact bq_den q
theorem textQ_frK (q : Rat) : textQ q = (if (frK q).neg = true then [45] else []) ++ (decT q.num.natAbs ++ if 0 < (frK q).d.length then 47 :: decT (val (frK q).d) else []) := by
  unfold textQ
  have h1 : ((frK q).neg = true) = (q.num < 0) := by show (decide (q.num < 0) = true) = _; rw [decide_eq_true_eq]
  simp only [h1]
  congr 2
  by_cases hd : q.den = 1
  · have : (frK q).d = [] := by show (if q.den = 1 then [] else digs q.den) = []; rw [if_pos hd]
    rw [if_pos hd, this]; rfl
  · have e : (frK q).d = digs q.den := by show (if q.den = 1 then [] else digs q.den) = _; rw [if_neg hd]
    rw [if_neg hd, e, val_digs, if_pos (Nat.pos_of_ne_zero (fun h => q.den_nz (len_zero.1 h)))]
end Go.Ear
