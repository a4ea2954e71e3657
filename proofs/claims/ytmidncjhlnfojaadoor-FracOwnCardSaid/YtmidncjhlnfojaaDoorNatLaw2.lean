/- About package frac: NatLaw2. -/
import Derived.Test.YtmidncjhlnfojaaDoorNatLaw
set_option linter.all false
namespace Go.Ear
theorem add_u (x by_ : Nat) (h : by_ ≤ 32) : x * 2 ^ by_ % 2 ^ 32 = (x % 2 ^ (32 - by_)) * 2 ^ by_ := by
  have : (2 : Nat) ^ 32 = 2 ^ (32 - by_) * 2 ^ by_ := by rw [← Nat.pow_add]; congr 1; omega
  rw [this, Nat.mul_mod_mul_right]
theorem or_low (o x by_ : Nat) (ho : o < 2 ^ by_) : o ||| x * 2 ^ by_ = o + x * 2 ^ by_ := by
  rw [Nat.or_comm, Nat.mul_comm, ← Nat.two_pow_add_eq_or_of_lt ho]; omega
theorem or_shl {o x by_ : Nat} (h : by_ ≤ 32) (ho : o < 2 ^ by_) : o ||| x * 2 ^ by_ % 4294967296 = o + (x % 2 ^ (32 - by_)) * 2 ^ by_ := by
  have : (4294967296 : Nat) = 2 ^ 32 := rfl
  rw [this, add_u x by_ h, or_low _ _ _ ho]
theorem or_shl_lt {o x by_ : Nat} (h : by_ ≤ 32) (ho : o < 2 ^ by_) : o ||| x * 2 ^ by_ % 4294967296 < 4294967296 :=
  Nat.or_lt_two_pow (n := 32) (Nat.lt_of_lt_of_le ho (Nat.pow_le_pow_right (by decide) h)) (Nat.mod_lt _ (by decide))
theorem hi_lt32 {x by_ : Nat} (h : by_ ≤ 32) (hx : x < 4294967296) : x / 2 ^ (32 - by_) < 2 ^ by_ := by
  refine Nat.div_lt_of_lt_mul ?_
  rw [← Nat.pow_add, show 32 - by_ + by_ = 32 by omega]; exact hx
theorem pow_le32 {by_ : Nat} (h : by_ ≤ 32) : 2 ^ by_ ≤ 4294967296 := Nat.pow_le_pow_right (n := 2) (by decide) h
theorem shift_step {out A : List Nat} {i by_ x : Nat} (hi : i + 1 < out.length) (hby : by_ ≤ 32) (h0 : out.getD i 0 < 2 ^ by_) (h1 : out.getD (i + 1) 0 = 0) (hx : A.getD i 0 = x)
    (hv : val out = val (A.take i) * 2 ^ by_) :
    val ((out.set i (out.getD i 0 ||| x * 2 ^ by_ % 4294967296)).set (i + 1) (x / 2 ^ (32 - by_))) = val (A.take (i + 1)) * 2 ^ by_ := by
  have e1 := val_set (out.set i (out.getD i 0 ||| x * 2 ^ by_ % 4294967296)) (i + 1) (x / 2 ^ (32 - by_)) (by rw [List.length_set]; exact hi)
  have e2 := val_set out i (out.getD i 0 ||| x * 2 ^ by_ % 4294967296) (by omega)
  rw [getD_set_ne (by omega), h1] at e1
  rw [or_shl hby h0] at e1 e2 ⊢
  rw [val_take_succ', hx]
  have e3 : x = x / 2 ^ (32 - by_) * 2 ^ (32 - by_) + x % 2 ^ (32 - by_) := by rw [Nat.mul_comm]; exact (Nat.div_add_mod ..).symm
  have e4 : B32 = 2 ^ (32 - by_) * 2 ^ by_ := by rw [← Nat.pow_add, show 32 - by_ + by_ = 32 by omega]; rfl
  generalize x / 2 ^ (32 - by_) = q at *
  generalize x % 2 ^ (32 - by_) = r at *
  generalize 2 ^ (32 - by_) = p at *
  generalize 2 ^ by_ = s at *
  generalize List.set (List.set out i (out.getD i 0 + r * s)) (i + 1) q = L at *
  generalize List.set out i (out.getD i 0 + r * s) = M at *
  generalize out.getD i 0 = y at *
  generalize val (A.take i) = V at *
  rw [Nat.pow_succ, e4] at e1
  rw [e3]
  rw [e4] at e2 ⊢
  generalize (p * s) ^ i = B at *
  rw [hv] at e2
  have e5 : (V + (q * p + r) * B) * s = V * s + q * (B * (p * s)) + r * s * B := by
    grind
  have e6 : (y + r * s) * B = y * B + r * s * B := Nat.add_mul ..
  omega
theorem shift_close {out : List Nat} {a by_ k : Nat} (hk : k = (digs a).length) (hv : val out = val ((digs a).take k) * 2 ^ by_) : val out = a * 2 ^ by_ := by
  rw [hv, val_take_all (by omega), val_digs]
theorem getD_digs (a i : Nat) : (digs a).getD i 0 = a / B32 ^ i % B32 := by
  induction i generalizing a with
  | zero =>
    by_cases h : a = 0
    · subst h; rw [digs_zero]; rfl
    · rw [digs_pos h]; simp
  | succ i ih =>
    by_cases h : a = 0
    · subst h; rw [digs_zero]; simp
    · rw [digs_pos h, List.getD_cons_succ, ih, Nat.div_div_eq_div_mul, Nat.pow_succ, Nat.mul_comm B32]
theorem two_digs (a i : Nat) : (digs a).getD i 0 + (digs a).getD (i + 1) 0 * 4294967296 = a / B32 ^ i % (B32 * B32) := by
  rw [getD_digs, getD_digs, Nat.pow_succ, ← Nat.div_div_eq_div_mul]
  generalize a / B32 ^ i = m
  rw [Nat.mod_mul]
  show m % B32 + m / B32 % B32 * B32 = _
  rw [Nat.mul_comm B32 (m / B32 % B32)]
theorem or_hi {x y : Nat} (hx : x < 4294967296) : x ||| y * 2 ^ 32 = x + y * 4294967296 := by
  rw [Nat.or_comm, or_shift y x hx]; have : (2 : Nat) ^ 32 = 4294967296 := rfl; omega
theorem down_step {out : List Nat} {a i by_ : Nat} (hi : i < out.length) (hby : by_ ≤ 32) (hv : val (out.take i) = a / 2 ^ by_ % B32 ^ i) :
    val ((out.set i (((digs a).getD i 0 ||| (digs a).getD (i + 1) 0 * 2 ^ 32) / 2 ^ by_ % 4294967296)).take (i + 1)) = a / 2 ^ by_ % B32 ^ (i + 1) := by
  rw [val_take_succ', take_set_self, getD_set_self hi, hv, show B32 ^ (i + 1) = B32 ^ i * B32 from rfl, Nat.mod_mul, or_hi (Fit.getD (digs_fit a) i), two_digs, Nat.mul_comm (B32 ^ i)]
  congr 2
  have e1 : a / 2 ^ by_ / B32 ^ i = a / B32 ^ i / 2 ^ by_ := by rw [Nat.div_div_eq_div_mul, Nat.div_div_eq_div_mul, Nat.mul_comm]
  rw [e1]
  generalize a / B32 ^ i = m
  have e2 : B32 * B32 = 2 ^ by_ * (B32 * 2 ^ (32 - by_)) := by
    have : B32 = 2 ^ by_ * 2 ^ (32 - by_) := by rw [← Nat.pow_add, show by_ + (32 - by_) = 32 by omega]; rfl
    rw [Nat.mul_left_comm, ← this]
  rw [e2, Nat.mod_mul_right_div_self]
  show m / 2 ^ by_ % (B32 * 2 ^ (32 - by_)) % B32 = _
  rw [Nat.mod_mul_right_mod]
theorem down_bd {a i by_ : Nat} : ((digs a).getD i 0 ||| (digs a).getD (i + 1) 0 * 2 ^ 32) / 2 ^ by_ < 18446744073709551616 :=
  Nat.lt_of_le_of_lt (Nat.div_le_self ..) (Nat.or_lt_two_pow (n := 64) (Nat.lt_trans (Fit.getD (digs_fit a) i) (by decide)) (by have := Fit.getD (digs_fit a) (i + 1); have : (2:Nat)^32 = 4294967296 := rfl; omega))
theorem down_close {out : List Nat} {a by_ i : Nat} (hi : i = (digs a).length) (hl : out.length = (digs a).length) (hv : val (out.take i) = a / 2 ^ by_ % B32 ^ i) : val out = a / 2 ^ by_ := by
  rw [val_take_all (by omega)] at hv
  rw [hv, hi, Nat.mod_eq_of_lt]
  exact Nat.lt_of_le_of_lt (Nat.div_le_self ..) (lt_sz a)
theorem trim_nil : trim [] = [] := by rw [← digs_val (l := []) (fun _ h => nomatch h)]; exact digs_zero
theorem digs_shift {a k : Nat} (h : a ≠ 0) : digs (a * B32 ^ k) = List.replicate k 0 ++ digs a := by
  induction k with
  | zero => simp
  | succ k ih =>
    have hp : a * B32 ^ (k + 1) ≠ 0 := Nat.mul_ne_zero h (Nat.pos_iff_ne_zero.1 (Nat.pow_pos B32_pos))
    rw [digs_pos hp, Nat.pow_succ, ← Nat.mul_assoc, Nat.mul_mod_left, Nat.mul_div_cancel _ B32_pos, ih]; rfl
theorem U.ofDigs {h : PH} {v : Value} {l : List Nat} {n : Nat} (u : U h v l) (e : digs n = l) : N h v n := by unfold N; rw [e]; exact u
theorem uaz_app (k : IntKind) (l m : List Nat) (z : Array Value) : uaz k (l ++ m) z = ua k l ++ (ua k m ++ z) := by
  unfold uaz
  rw [← Array.append_assoc]; congr 1
  apply Array.toList_inj.1
  simp [ua]
theorem OpW.appendFull {P : Program} {n : Nat} {ρ : Env} {w : World} {K : Env → World → Prop} {d : Tmp} {ty : TypeId} {pos : String} {af : Array Edge} {g : Option (Nat × Bool)}
    {h : PH} {t e : TypeId} {i : TypeInfo} {z : Value} {a b : Operand} {base : Option Addr} {x : Value} {k : Nat} {l m : List Nat}
    (hs : Sat h w) (ht : P.underlying t = some (.slice e)) (hi : P.info? e = some i) (hz : i.zero = some z) (hzs : z.cells.size = i.size) (hik : i.size = 1)
    (ha : ev n ρ a = .slice base k k) (hb : ev n ρ b = x) (u1 : U h (.slice base k k) l) (u : U h x m) (hne : m ≠ []) (h63 : l.length + m.length ≤ 9223372036854775807) (hbb : (l.length + m.length) * i.bytes ≤ 140737488355328)
    (hk : ∀ r h' w', Gr h w h' w' → U h' r (l ++ m) → K (upd ρ d r) w') :
    OpW P n ⟨some d, .call ⟨.builtin .append, #[a, b], #[t, t]⟩, ty, pos, af, g⟩ ρ w K := by
  have r := u.2.reads hs
  have r1 := u1.2.reads hs
  rw [cellsU_length, cellsU_flatten] at r r1
  obtain ⟨bx, cx, rfl, _⟩ := u.shape
  obtain ⟨_, _, e1, hc1⟩ := u1.shape
  cases e1
  have hpos : 0 < m.length := List.length_pos_iff.2 hne
  have hn : ¬ (l.length + m.length ≤ l.length) := by omega
  have h63' : ¬ (9223372036854775807 < (l.length : Int) + (m.length : Int)) := by omega
  have hfit := growslice_fits (need := l.length + m.length) (old := l.length) (bytes := i.bytes) (by omega) hbb
  have h48 : ¬ (281474976710656 < Builtin.nextslicecap (l.length + m.length) l.length * i.bytes) := by omega
  have hfc' : (Builtin.firstCells i.size m.length (.slice bx m.length cx)).run P w.drew = .ok (ua .u32 m) w.drew := by
    rw [hik]; exact run_firstCells (P := P) (r.drew _)
  have hold : (Builtin.firstCells i.size l.length (.slice base l.length l.length)).run P w.drew = .ok (ua .u32 l) w.drew := by
    rw [hik]; exact run_firstCells (P := P) (r1.drew _)
  have hrun : (Builtin.append_ #[t, t] ty #[.slice base l.length l.length, .slice bx m.length cx]).run P w = .ok (.slice (some ⟨w.heap.size, 0, none⟩) (l.length + m.length) (grownCap w (l.length + m.length) l.length e))
      (w.drew.alloc (.cells (uaz .u32 (l ++ m) (Builtin.zeroCells z.cells (grownCap w (l.length + m.length) l.length e - (l.length + m.length)))) e)) := by
    rw [uaz_app]
    simp [Builtin.append_, run_underlying ht, sizeOf, typeInfo, zeroValue, hi, hz, Builtin.lenOf, hne, h63', h48, Question.forced, newRow, grownCap, hold, hfc', Array.append_assoc]
    intro hh; exact absurd hh hn
  have hcap := grownCap_ge w (l.length + m.length) l.length e
  generalize Builtin.zeroCells z.cells (grownCap w (l.length + m.length) l.length e - (l.length + m.length)) = zz at hrun
  generalize grownCap w (l.length + m.length) l.length e = cap at hrun hcap
  generalize hW : w.drew.alloc (.cells (uaz .u32 (l ++ m) zz) e) = W at hrun
  have hat : W.heap[w.heap.size]? = some (.cells (uaz .u32 (l ++ m) zz) e (0, 0)) := by rw [← hW]; exact heap_alloc_new w.drew _
  have gr : Gr h w h W := by
    rw [← hW]
    exact ⟨fun b o e => by rw [heap_alloc_old w.drew _ b (hs.lt (by rw [e]; exact fun h => nomatch h))]; exact hs b o e, ⟨rfl, rfl, rfl, by simp, fun b hb => heap_alloc_old w.drew _ b hb⟩, PH.le.refl h, fun _ hb => .inl hb⟩
  refine OpW.valD (v := .slice (some ⟨w.heap.size, 0, none⟩) (l.length + m.length) cap) (w' := W) ?_ (hk _ (h.put w.heap.size _) W (gr.freeze hat hs.fresh (Nat.le_refl _)) (U.ownz (PH.put_at ..) (u1.1.append u.1) (List.length_append) hcap))
  simp only [execOp, resolve, invoke, builtin, Sem.run_bind, Sem.run_pure, Result.andThen, List.map_toArray, List.map_cons, List.map_nil, ha, hb, hrun]
end Go.Ear
