/- About package frac: EarFrac. -/
import Derived.Test.YtmidncjhlnfojaaDoorEarList
set_option linter.all false
namespace Go.Ear
def bf (f : Fr) : Nat := max (max f.n.length f.d.length) 1
theorem bf_n (f : Fr) : f.n.length ≤ bf f := by unfold bf; omega
theorem bf_d (f : Fr) : f.d.length ≤ bf f := by unfold bf; omega
theorem bf_pos (f : Fr) : 1 ≤ bf f := by unfold bf; omega
theorem bf_le {f : Fr} {k : Nat} (h1 : f.n.length ≤ k) (h2 : f.d.length ≤ k) (h3 : 1 ≤ k) : bf f ≤ k := by unfold bf; omega
theorem bq_pos (q : Rat) : 1 ≤ bq q := Nat.le_trans (sz_pos q.den_nz) (bq_den q)
theorem F.bq {h : PH} {v : Value} {f : Fr} (u : F h v f) : bq f.rat ≤ bf f := bq_rat u.fit
theorem bf_frK (q : Rat) : bf (frK q) = bq q := by
  have hp := bq_pos q
  have h1 := bq_K q
  apply Nat.le_antisymm
  · unfold bf; omega
  · unfold Go.Ear.bq
    have hd : sz q.den ≤ max (frK q).d.length 1 := by
      unfold frK
      simp only
      by_cases e : q.den = 1
      · rw [if_pos e, e, sz_one]; omega
      · rw [if_neg e]; unfold sz; omega
    have hn : sz q.num.natAbs = (frK q).n.length := rfl
    unfold bf; omega
theorem bq_zero : bq 0 = 1 := by
  unfold bq
  rw [show (0 : Rat).num.natAbs = 0 from rfl, show (0 : Rat).den = 1 from rfl, sz_one, sz_eq_zero.2 rfl]; rfl
theorem bq_one : bq 1 = 1 := by
  unfold bq
  rw [show (1 : Rat).num.natAbs = 1 from rfl, show (1 : Rat).den = 1 from rfl, sz_one]; rfl
def wts (l : List Fr) : Nat := (l.map fun f => bf f + 1).sum
theorem wts_nil : wts [] = 0 := rfl
theorem wts_cons (f : Fr) (l : List Fr) : wts (f :: l) = bf f + 1 + wts l := rfl
theorem len_wts : ∀ (l : List Fr), l.length ≤ wts l
  | [] => Nat.le_refl _
  | f :: l => by rw [wts_cons]; have := len_wts l; simp; omega
theorem wts_take : ∀ (l : List Fr) (k : Nat), wts (l.take k) ≤ wts l
  | [], k => by simp [wts]
  | f :: l, 0 => by simp [wts]
  | f :: l, k + 1 => by rw [List.take_succ_cons, wts_cons, wts_cons]; have := wts_take l k; omega
theorem bf_mem : ∀ {l : List Fr} {f : Fr}, f ∈ l → bf f + 1 ≤ wts l
  | g :: l, f, h => by
    rw [wts_cons]
    rcases List.mem_cons.1 h with rfl | h
    · omega
    · have := bf_mem h; omega
theorem bf_getD (l : List Fr) (k : Nat) : bf (l.getD k fr0) ≤ wts l + 1 := by
  rw [List.getD_eq_getElem?_getD]
  cases h : l[k]? with
  | none => simp [bf, fr0]
  | some x => have := bf_mem (List.mem_of_getElem? h); simp; omega
theorem LF.bq {h : PH} {v : Value} {l : List Fr} (u : LR rpF h v l) : ∀ x ∈ l, Go.Ear.bq x.rat ≤ bf x := by
  intro x hx
  obtain ⟨base, cap, rfl, _⟩ := u.shape
  obtain ⟨i, hi, rfl⟩ := List.getElem_of_mem hx
  obtain ⟨b, off, arr, e, fz, cs, _, _, _, _, hr⟩ := u.at fr0 hi
  have := F.bq hr
  rwa [List.getD_eq_getElem?_getD, List.getElem?_eq_getElem hi] at this
theorem fr0_rat : fr0.rat = 0 := by have := frK_rat 0; rwa [frK_zero] at this
theorem LF.bq_getD {h : PH} {v : Value} {l : List Fr} (u : LR rpF h v l) (k : Nat) : Go.Ear.bq (l.getD k fr0).rat ≤ bf (l.getD k fr0) := by
  rw [List.getD_eq_getElem?_getD]
  cases e : l[k]? with
  | none => simp only [Option.getD_none, fr0_rat, bq_zero]; exact bf_pos fr0
  | some x => exact LF.bq u x (List.mem_of_getElem? e)
def foldA (q : Rat) (l : List Fr) : Rat := l.foldl (fun s f => s + f.rat) q
def foldM (q : Rat) (l : List Fr) : Rat := l.foldl (fun s f => s * f.rat) q
def sumF (l : List Fr) : Rat := foldA 0 l
def prodF (l : List Fr) : Rat := foldM 1 l
theorem take_snoc {α : Type} {l : List α} {k : Nat} (d : α) (hk : k < l.length) : l.take (k + 1) = l.take k ++ [l.getD k d] := by
  rw [List.take_succ_eq_append_getElem hk, List.getD_eq_getElem?_getD, List.getElem?_eq_getElem hk]; rfl
theorem foldA_succ {q : Rat} {l : List Fr} {k : Nat} (hk : k < l.length) : foldA q (l.take (k + 1)) = foldA q (l.take k) + (l.getD k fr0).rat := by
  rw [take_snoc fr0 hk]; unfold foldA; rw [List.foldl_append]; rfl
theorem foldM_succ {q : Rat} {l : List Fr} {k : Nat} (hk : k < l.length) : foldM q (l.take (k + 1)) = foldM q (l.take k) * (l.getD k fr0).rat := by
  rw [take_snoc fr0 hk]; unfold foldM; rw [List.foldl_append]; rfl
theorem bq_foldA : ∀ (l : List Fr) (q : Rat), (∀ x ∈ l, bq x.rat ≤ bf x) → bq (foldA q l) ≤ bq q + wts l
  | [], q, _ => Nat.le_refl _
  | f :: l, q, h => by
    have h1 := bq_foldA l (q + f.rat) (fun x hx => h x (List.mem_cons_of_mem _ hx))
    have h2 := bq_add q f.rat
    have h3 := h f (List.mem_cons_self ..)
    rw [wts_cons]
    show bq (foldA (q + f.rat) l) ≤ _
    omega
theorem bq_foldM : ∀ (l : List Fr) (q : Rat), (∀ x ∈ l, bq x.rat ≤ bf x) → bq (foldM q l) ≤ bq q + wts l
  | [], q, _ => Nat.le_refl _
  | f :: l, q, h => by
    have h1 := bq_foldM l (q * f.rat) (fun x hx => h x (List.mem_cons_of_mem _ hx))
    have h2 := bq_mul q f.rat
    have h3 := h f (List.mem_cons_self ..)
    rw [wts_cons]
    show bq (foldM (q * f.rat) l) ≤ _
    omega
theorem bq_foldA_take {h : PH} {v : Value} {l : List Fr} (u : LR rpF h v l) (q : Rat) (k : Nat) : bq (foldA q (l.take k)) ≤ bq q + wts l :=
  Nat.le_trans (bq_foldA _ _ (fun x hx => LF.bq u x (List.mem_of_mem_take hx))) (Nat.add_le_add_left (wts_take l k) _)
theorem bq_foldM_take {h : PH} {v : Value} {l : List Fr} (u : LR rpF h v l) (q : Rat) (k : Nat) : bq (foldM q (l.take k)) ≤ bq q + wts l :=
  Nat.le_trans (bq_foldM _ _ (fun x hx => LF.bq u x (List.mem_of_mem_take hx))) (Nat.add_le_add_left (wts_take l k) _)
theorem bq_sumF {h : PH} {v : Value} {l : List Fr} (u : LR rpF h v l) : bq (sumF l) ≤ 1 + wts l := by rw [← bq_zero]; exact bq_foldA l 0 (LF.bq u)
theorem bq_prodF {h : PH} {v : Value} {l : List Fr} (u : LR rpF h v l) : bq (prodF l) ≤ 1 + wts l := by rw [← bq_one]; exact bq_foldM l 1 (LF.bq u)
theorem sumF2 (a b : Fr) : sumF [a, b] = a.rat + b.rat := by show 0 + a.rat + b.rat = _; rw [Rat.zero_add]
theorem prodF2 (a b : Fr) : prodF [a, b] = a.rat * b.rat := by show 1 * a.rat * b.rat = _; rw [Rat.one_mul]
theorem wts2 (a b : Fr) : wts [a, b] = bf a + bf b + 2 := by rw [wts_cons, wts_cons, wts_nil]; omega
theorem bq_sub (a b : Rat) : bq (a - b) ≤ bq a + bq b + 1 := by
  rw [Rat.sub_eq_add_neg]
  have := bq_add a (-b)
  rwa [bq_neg] at this
theorem bq_inv' (a : Rat) : bq a⁻¹ ≤ bq a := by
  by_cases h : a = 0
  · subst h; rw [Rat.inv_zero]; exact Nat.le_refl _
  · rw [bq_inv h]; exact Nat.le_refl _
theorem bq_div (a b : Rat) : bq (a / b) ≤ bq a + bq b := by
  rw [Rat.div_def]
  exact Nat.le_trans (bq_mul _ _) (Nat.add_le_add_left (bq_inv' b) _)
theorem bq_intc {n : Int} (h1 : -9223372036854775808 ≤ n) (h2 : n ≤ 9223372036854775807) : bq (n : Rat) ≤ 2 := bq_int n (by omega)
theorem bq_floor (q : Rat) : bq (q.floor : Rat) ≤ bq q + 1 := by
  unfold bq
  rw [Rat.num_intCast, Rat.den_intCast, sz_one]
  have h1 : sz q.floor.natAbs ≤ sz q.num.natAbs + 1 := by
    have hf : q.floor.natAbs ≤ q.num.natAbs + 1 := by
      by_cases hc : q.num < 0 ∧ 0 < q.num.natAbs % q.den
      · have := floor_neg hc.1 hc.2
        rw [Rat.num_intCast] at this
        have h2 := Nat.div_le_self q.num.natAbs q.den
        generalize q.num.natAbs / q.den = m at *
        omega
      · have := floor_pos hc
        rw [Rat.num_intCast] at this
        have h2 := Nat.div_le_self q.num.natAbs q.den
        unfold sgn at this
        generalize q.num.natAbs / q.den = m at *
        split at this <;> omega
    refine Nat.le_trans (sz_mono hf) ?_
    have := sz_add q.num.natAbs 1
    rw [sz_one] at this
    have h3 : sz q.num.natAbs = 0 ∨ 1 ≤ sz q.num.natAbs := by omega
    rcases h3 with h3 | h3
    · rw [sz_eq_zero] at h3; rw [h3]; show sz 1 ≤ _; rw [sz_one]; omega
    · omega
  omega
def errDiv (b : Rat) : Int := if b = 0 then 3 else 0
theorem div_zero' (a : Rat) : a / 0 = 0 := by rw [Rat.div_def, Rat.inv_zero, Rat.mul_zero]
def wholeQ (q : Rat) : Int := if -9223372036854775808 ≤ q.floor ∧ q.floor ≤ 9223372036854775807 then q.floor else 0
def wholeE (q : Rat) : Int := if -9223372036854775808 ≤ q.floor ∧ q.floor ≤ 9223372036854775807 then 0 else 6
def floorQ (q : Rat) (d : Int) : Rat := if d < 1 then 0 else ((q * (d : Rat)).floor : Rat) * (d : Rat)⁻¹
def powQ (q : Rat) (n : Int) : Rat := if n > 4096 ∨ n < -4096 then 0 else if n < 0 then q⁻¹ ^ n.natAbs else q ^ n.natAbs
def powE (q : Rat) (n : Int) : Int := if n > 4096 ∨ n < -4096 then 5 else if n < 0 ∧ q = 0 then 3 else 0
def sizeQ (q : Rat) : Nat := bitlen q.num.natAbs + bitlen q.den
end Go.Ear
namespace Go.Ear
theorem bitlen_sz (n : Nat) : bitlen n ≤ 32 * sz n := by
  by_cases h : n = 0
  · subst h; rw [bitlen_zero]; omega
  · have h1 : (digs n).length ≠ 0 := fun e => h (len_zero.1 e)
    rw [bitlen_digs h1]
    have h2 := Fit.getD (digs_fit n) ((digs n).length - 1)
    have h3 := bitlen_lt (s := 32) h2
    unfold sz; omega
end Go.Ear
