/- K2: a part of the proofs about what is clipped and stored: how the program's functions run, and what they compute, for every input. -/
import Derived.Test.YthlpenhbcmbgoaaGreatDoorK1
set_option linter.all false
namespace Go.Ear
def B32 : Nat := 4294967296
theorem B32_eq : B32 = 4294967296 := rfl
def val : List Nat → Nat
  | [] => 0
  | x :: l => x + B32 * val l
def digs (n : Nat) : List Nat := if _h : n = 0 then [] else (n % B32) :: digs (n / B32)
  termination_by n
  decreasing_by exact Nat.div_lt_self (Nat.pos_of_ne_zero _h) (by decide)
def trim : List Nat → List Nat
  | [] => []
  | x :: l => if trim l = [] ∧ x = 0 then [] else x :: trim l
def Fit (l : List Nat) : Prop := ∀ x ∈ l, x < 4294967296
def cellsU (l : List Nat) : List (List Value) := l.map fun (x : Nat) => [Value.int .u32 (x : Int)]
def U (h : PH) (v : Value) (l : List Nat) : Prop := Fit l ∧ Sl h 1 v (cellsU l)
theorem U.mono {h h' : PH} {v : Value} {l : List Nat} (u : U h v l) (e : h.le h') : U h' v l := ⟨u.1, u.2.mono e⟩
def N (h : PH) (v : Value) (n : Nat) : Prop := U h v (digs n)
theorem N.mono {h h' : PH} {v : Value} {n : Nat} (u : N h v n) (e : h.le h') : N h' v n := U.mono u e
theorem cellsU_length (l : List Nat) : (cellsU l).length = l.length := by simp [cellsU]
theorem U.shape {h : PH} {v : Value} {l : List Nat} (u : U h v l) : ∃ base cap, v = .slice base l.length cap ∧ l.length ≤ cap := by
  obtain ⟨base, cap, e, hc⟩ := u.2.shape
  rw [cellsU_length] at e hc
  exact ⟨base, cap, e, hc⟩
theorem U.at {h : PH} {base : Option Addr} {len cap : Nat} {l : List Nat} (u : U h (.slice base len cap) l) {i : Nat} (hi : i < l.length) :
    ∃ b off arr e fz, base = some ⟨b, off, none⟩ ∧ h b = some (.cells arr e fz) ∧ arr[off + i]? = some (.int .u32 (l.getD i 0 : Nat)) := by
  have hc : (cellsU l)[i]? = some [Value.int .u32 (l.getD i 0 : Nat)] := by
    simp [cellsU, List.getElem?_map, List.getElem?_eq_getElem hi, List.getD_eq_getElem?_getD]
  obtain ⟨b, off, cap', arr, e, fz, ev, hb, _, hcut, _⟩ := u.2.at hc
  cases ev
  rw [Nat.mul_one] at hcut
  exact ⟨b, off, arr, e, fz, rfl, hb, cut_one hcut⟩
theorem Fit.getD {l : List Nat} (f : Fit l) (i : Nat) : l.getD i 0 < 4294967296 := by
  rw [List.getD_eq_getElem?_getD]
  cases h : l[i]? with
  | none => simp
  | some x => simpa using f x (List.mem_of_getElem? h)
theorem U.take {h : PH} {base : Option Addr} {len cap : Nat} {l : List Nat} (u : U h (.slice base len cap) l) (m : Nat) (hm : m ≤ l.length) : U h (.slice base m cap) (l.take m) := by
  refine ⟨fun x hx => u.1 x (List.mem_of_mem_take hx), ?_⟩
  have := u.2.take m (by rw [cellsU_length]; exact hm)
  simpa [cellsU, List.map_take] using this
theorem trim_snoc_zero (l : List Nat) : trim (l ++ [0]) = trim l := by
  induction l with
  | nil => rfl
  | cons x l ih => simp only [List.cons_append, trim, ih]
theorem trim_take_zero {l : List Nat} {k : Nat} (hk : k < l.length) (h0 : l.getD k 0 = 0) : trim (l.take (k + 1)) = trim (l.take k) := by
  rw [List.take_succ_eq_append_getElem hk]
  have : l[k] = 0 := by simpa [List.getD_eq_getElem?_getD, List.getElem?_eq_getElem hk] using h0
  rw [this, trim_snoc_zero]
theorem trim_of_last {l : List Nat} (h : l = [] ∨ l.getD (l.length - 1) 0 ≠ 0) : trim l = l := by
  induction l with
  | nil => rfl
  | cons x l ih =>
    simp only [trim]
    cases l with
    | nil =>
      have : x ≠ 0 := by rcases h with h | h; · cases h
                         · simpa using h
      simp [trim, this]
    | cons y l =>
      have h2 : (y :: l).getD ((y :: l).length - 1) 0 ≠ 0 := by
        rcases h with h | h
        · cases h
        · simpa [List.getD_eq_getElem?_getD] using h
      have := ih (.inr h2)
      rw [this]
      simp
end Go.Ear
namespace Go.Ear
variable {P : Program}
theorem in_i64 {a : Int} (h : -9223372036854775808 ≤ a ∧ a ≤ 9223372036854775807) : IntKind.i64.wrap a = a := IntWalk.i64_in _ h
theorem in_u64 {a : Int} (h : 0 ≤ a ∧ a ≤ 18446744073709551615) : IntKind.u64.wrap a = a := IntWalk.u64_in _ h
theorem in_u32 {a : Int} (h : 0 ≤ a ∧ a ≤ 4294967295) : IntKind.u32.wrap a = a := IntWalk.u32_in _ h
theorem in_u8 {a : Int} (h : 0 ≤ a ∧ a ≤ 255) : IntKind.u8.wrap a = a := IntWalk.u8_in _ h
theorem add_i64 {a b : Nat} (h : a + b ≤ 9223372036854775807) : IntKind.i64.wrap ((a : Int) + (b : Int)) = ((a + b : Nat) : Int) := (in_i64 (by omega)).trans (by omega)
theorem conv_u32 {a : Nat} : IntKind.u32.wrap (a : Int) = ((a % 4294967296 : Nat) : Int) := by rw [IntKind.wrap_u32]; omega
theorem conv_u32' {a : Nat} (h : a < 4294967296) : IntKind.u32.wrap (a : Int) = (a : Int) := in_u32 (by omega)
theorem conv_u8' {a : Nat} (h : a < 256) : IntKind.u8.wrap (a : Int) = (a : Int) := in_u8 (by omega)
theorem conv_u64 {a : Nat} (h : a ≤ 18446744073709551615) : IntKind.u64.wrap (a : Int) = (a : Int) := in_u64 (by omega)
theorem conv_i64 {a : Nat} (h : a ≤ 9223372036854775807) : IntKind.i64.wrap (a : Int) = (a : Int) := in_i64 (by omega)
theorem shr_nat {k yk : IntKind} {a s : Nat} (hs : s ≤ k.bits) (w : World) : (Op.shift .shr k (a : Int) yk (s : Int)).run P w = .ok (.int k ((a / 2 ^ s : Nat) : Int)) w := by
  unfold Op.shift
  rw [if_neg (by omega)]
  simp only [Int.toNat_natCast, Nat.min_eq_left hs]
  have : ((a : Int).fdiv (2 ^ s)) = ((a / 2 ^ s : Nat) : Int) := by
    rw [show ((2 : Int) ^ s) = ((2 ^ s : Nat) : Int) by simp, Int.fdiv_eq_ediv_of_nonneg _ (Int.natCast_nonneg _)]
    exact (Int.natCast_ediv a (2 ^ s)).symm
  rw [this]; rfl
theorem shl_nat {k yk : IntKind} {a s : Nat} {r : Int} (hs : s ≤ k.bits) (hr : k.wrap ((a * 2 ^ s : Nat) : Int) = r) (w : World) : (Op.shift .shl k (a : Int) yk (s : Int)).run P w = .ok (.int k r) w := by
  unfold Op.shift
  rw [if_neg (by omega)]
  simp only [Int.toNat_natCast, Nat.min_eq_left hs]
  have : ((a : Int) * (2 ^ s)) = ((a * 2 ^ s : Nat) : Int) := by simp
  rw [this, hr]; rfl
theorem or_u64 {a b : Nat} (ha : a < 18446744073709551616) (hb : b < 18446744073709551616) (w : World) : (Op.intBits .or .u64 (a : Int) (b : Int)).run P w = .ok (.int .u64 ((a ||| b : Nat) : Int)) w := by
  have h := Nat.or_lt_two_pow (x := a) (y := b) (n := 64) ha hb
  have e : IntKind.u64.wrap ((BitVec.ofInt 64 (a : Int) ||| BitVec.ofInt 64 (b : Int)).toNat : Int) = ((a ||| b : Nat) : Int) := by
    have ea : (BitVec.ofInt 64 (a : Int)).toNat = a := by simp; omega
    have eb : (BitVec.ofInt 64 (b : Int)).toNat = b := by simp; omega
    rw [BitVec.toNat_or, ea, eb]
    exact conv_u64 (by omega)
  show Result.ok (Value.int .u64 (IntKind.u64.wrap ((BitVec.ofInt 64 (a : Int) ||| BitVec.ofInt 64 (b : Int)).toNat : Int))) w = _
  rw [e]
theorem and_u64 {a b : Nat} (ha : a < 18446744073709551616) (hb : b < 18446744073709551616) (w : World) : (Op.intBits .and .u64 (a : Int) (b : Int)).run P w = .ok (.int .u64 ((a &&& b : Nat) : Int)) w := by
  have h := Nat.and_lt_two_pow (n := 64) a (y := b) hb
  have e : IntKind.u64.wrap ((BitVec.ofInt 64 (a : Int) &&& BitVec.ofInt 64 (b : Int)).toNat : Int) = ((a &&& b : Nat) : Int) := by
    have ea : (BitVec.ofInt 64 (a : Int)).toNat = a := by simp; omega
    have eb : (BitVec.ofInt 64 (b : Int)).toNat = b := by simp; omega
    rw [BitVec.toNat_and, ea, eb]
    exact conv_u64 (by omega)
  show Result.ok (Value.int .u64 (IntKind.u64.wrap ((BitVec.ofInt 64 (a : Int) &&& BitVec.ofInt 64 (b : Int)).toNat : Int))) w = _
  rw [e]
theorem or_u32 {a b : Nat} (ha : a < 4294967296) (hb : b < 4294967296) (w : World) : (Op.intBits .or .u32 (a : Int) (b : Int)).run P w = .ok (.int .u32 ((a ||| b : Nat) : Int)) w := by
  have h := Nat.or_lt_two_pow (x := a) (y := b) (n := 32) ha hb
  have e : IntKind.u32.wrap ((BitVec.ofInt 32 (a : Int) ||| BitVec.ofInt 32 (b : Int)).toNat : Int) = ((a ||| b : Nat) : Int) := by
    have ea : (BitVec.ofInt 32 (a : Int)).toNat = a := by simp; omega
    have eb : (BitVec.ofInt 32 (b : Int)).toNat = b := by simp; omega
    rw [BitVec.toNat_or, ea, eb]
    exact conv_u32' (by omega)
  show Result.ok (Value.int .u32 (IntKind.u32.wrap ((BitVec.ofInt 32 (a : Int) ||| BitVec.ofInt 32 (b : Int)).toNat : Int))) w = _
  rw [e]
theorem and_u32 {a b : Nat} (ha : a < 4294967296) (hb : b < 4294967296) (w : World) : (Op.intBits .and .u32 (a : Int) (b : Int)).run P w = .ok (.int .u32 ((a &&& b : Nat) : Int)) w := by
  have h := Nat.and_lt_two_pow (n := 32) a (y := b) hb
  have e : IntKind.u32.wrap ((BitVec.ofInt 32 (a : Int) &&& BitVec.ofInt 32 (b : Int)).toNat : Int) = ((a &&& b : Nat) : Int) := by
    have ea : (BitVec.ofInt 32 (a : Int)).toNat = a := by simp; omega
    have eb : (BitVec.ofInt 32 (b : Int)).toNat = b := by simp; omega
    rw [BitVec.toNat_and, ea, eb]
    exact conv_u32' (by omega)
  show Result.ok (Value.int .u32 (IntKind.u32.wrap ((BitVec.ofInt 32 (a : Int) &&& BitVec.ofInt 32 (b : Int)).toNat : Int))) w = _
  rw [e]
theorem max_nat {k : IntKind} {t u ty : TypeId} {a b : Nat} (w : World) : (Builtin.max_ #[t, u] ty #[.int k (a : Int), .int k (b : Int)]).run P w = .ok (.int k ((max a b : Nat) : Int)) w := by
  have h : (if (b : Int) > (a : Int) then (b : Int) else (a : Int)) = ((max a b : Nat) : Int) := by split <;> omega
  show Result.ok (Value.int k (if (b : Int) > (a : Int) then (b : Int) else (a : Int))) w = _
  rw [h]
theorem min_nat {k : IntKind} {t u ty : TypeId} {a b : Nat} (w : World) : (Builtin.min_ #[t, u] ty #[.int k (a : Int), .int k (b : Int)]).run P w = .ok (.int k ((min a b : Nat) : Int)) w := by
  have h : (if (b : Int) < (a : Int) then (b : Int) else (a : Int)) = ((min a b : Nat) : Int) := by split <;> omega
  show Result.ok (Value.int k (if (b : Int) < (a : Int) then (b : Int) else (a : Int))) w = _
  rw [h]
end Go.Ear
namespace Go.Ear
theorem N.shape {h : PH} {v : Value} {n : Nat} (u : N h v n) : ∃ base cap, v = .slice base (digs n).length cap ∧ (digs n).length ≤ cap := U.shape u
theorem N.cast {h : PH} {v : Value} {a b : Nat} (e : a = b) (u : N h v a) : N h v b := e ▸ u
theorem U.cast {h : PH} {v : Value} {a b : List Nat} (e : a = b) (u : U h v a) : U h v b := e ▸ u
def ua (k : IntKind) (l : List Nat) : Array Value := (l.map fun (x : Nat) => Value.int k (x : Int)).toArray
theorem ua_size (k : IntKind) (l : List Nat) : (ua k l).size = l.length := by simp [ua]
theorem ua_at {k : IntKind} {l : List Nat} {i : Nat} (h : i < l.length) : (ua k l)[i]? = some (.int k ((l.getD i 0 : Nat) : Int)) := by
  simp [ua, h, List.getD_eq_getElem?_getD]
def uaz (k : IntKind) (l : List Nat) (z : Array Value) : Array Value := ua k l ++ z
theorem freeze_ex {h0 h : PH} {w0 w : World} {b : Nat} {o : Obj} (g : Gr h0 w0 h w) (ob : w.heap[b]? = some o) (n : h b = none) (lo : w0.heap.size ≤ b) :
    ∃ h', Gr h0 w0 h' w ∧ h.le h' ∧ h' b = some o ∧ ∀ i, i ≠ b → h i = none → h' i = none :=
  ⟨h.put b o, g.freeze ob n lo, PH.le_put o n, PH.put_at .., fun i hi hn => by rw [PH.put_ne o hi]; exact hn⟩
theorem U.own {h : PH} {b cap len : Nat} {l : List Nat} {e : TypeId} {fz : Nat × Nat} (hb : h b = some (.cells (ua .u32 l) e fz)) (f : Fit l) (hl : l.length = len) (hc : len ≤ cap) : U h (.slice (some ⟨b, 0, none⟩) len cap) l := by
  subst hl
  refine ⟨f, some ⟨b, 0, none⟩, cap, by rw [cellsU_length], by rw [cellsU_length]; exact hc, by simp [cellsU], .inr ⟨b, 0, _, e, fz, rfl, hb, by rw [cellsU_length, ua_size]; omega, ?_⟩⟩
  intro i cs hi
  simp only [cellsU, List.getElem?_map] at hi
  cases hx : l[i]? with
  | none => rw [hx] at hi; cases hi
  | some x =>
    rw [hx] at hi
    have hi := Option.some.inj hi
    subst hi
    rw [Nat.zero_add, Nat.mul_one]
    refine cut_of_one ?_
    have hlt := (List.getElem?_eq_some_iff.1 hx).1
    rw [ua_at hlt, List.getD_eq_getElem?_getD, hx]; rfl
theorem U.nil (h : PH) (base : Option Addr) (cap : Nat) : U h (.slice base 0 cap) [] := ⟨fun _ hx => (nomatch hx), Sl.nil h 1 base cap⟩
theorem U.isNone {h : PH} {base : Option Addr} {len cap : Nat} {l : List Nat} (u : U h (.slice base len cap) l) (hb : base.isNone = true) : l = [] := by
  obtain ⟨_, b', c', e, _, _, hx⟩ := u
  cases e
  rcases hx with hx | ⟨b, off, arr, e, fz, rfl, _⟩
  · simpa [cellsU] using hx
  · cases hb
theorem Fit.set {l : List Nat} (f : Fit l) (i x : Nat) (hx : x < 4294967296) : Fit (l.set i x) := by
  intro y hy
  rcases List.mem_or_eq_of_mem_set hy with h | h
  · exact f y h
  · omega
theorem Fit.replicate (n : Nat) : Fit (List.replicate n 0) := by
  intro y hy; rw [(List.mem_replicate.1 hy).2]; omega
section ops
variable {P : Program} {n : Nat} {ρ : Env} {w : World} {K : Env → World → Prop} {d : Tmp} {ty : TypeId} {pos : String} {af : Array Edge} {g : Option (Nat × Bool)}
end ops
end Go.Ear
namespace Go.Ear
theorem val_append (a b : List Nat) : val (a ++ b) = val a + B32 ^ a.length * val b := by
  induction a with
  | nil => simp [val]
  | cons x a ih => simp only [List.cons_append, val, ih, List.length_cons, Nat.pow_succ]; grind
theorem val_replicate (n : Nat) : val (List.replicate n 0) = 0 := by
  induction n with
  | zero => rfl
  | succ n ih => simp [List.replicate_succ, val, ih]
theorem val_snoc (a : List Nat) (x : Nat) : val (a ++ [x]) = val a + x * B32 ^ a.length := by
  rw [val_append]; simp only [val]; grind
theorem val_take_succ {l : List Nat} {k : Nat} (h : k < l.length) : val (l.take (k + 1)) = val (l.take k) + l.getD k 0 * B32 ^ k := by
  rw [List.take_succ_eq_append_getElem h, val_snoc, List.length_take, Nat.min_eq_left (Nat.le_of_lt h)]
  simp [List.getD_eq_getElem?_getD, h]
theorem val_take_all {l : List Nat} {k : Nat} (h : l.length ≤ k) : val (l.take k) = val l := by rw [List.take_of_length_le h]
theorem val_set (l : List Nat) (i x : Nat) (h : i < l.length) : val (l.set i x) + l.getD i 0 * B32 ^ i = val l + x * B32 ^ i := by
  induction l generalizing i with
  | nil => simp at h
  | cons y l ih =>
    cases i with
    | zero => simp [val]; omega
    | succ i =>
      have := ih i (by simpa using h)
      simp only [List.set_cons_succ, val, List.getD_cons_succ, Nat.pow_succ]
      grind
theorem Fit.cons {x : Nat} {l : List Nat} (f : Fit (x :: l)) : x < B32 ∧ Fit l := ⟨f x (List.mem_cons_self ..), fun y hy => f y (List.mem_cons_of_mem _ hy)⟩
theorem Fit.take {l : List Nat} (f : Fit l) (k : Nat) : Fit (l.take k) := fun x hx => f x (List.mem_of_mem_take hx)
theorem Fit.drop {l : List Nat} (f : Fit l) (k : Nat) : Fit (l.drop k) := fun x hx => f x (List.mem_of_mem_drop hx)
theorem Fit.append {a b : List Nat} (f : Fit a) (g : Fit b) : Fit (a ++ b) := fun x hx => by
  rcases List.mem_append.1 hx with h | h
  · exact f x h
  · exact g x h
theorem val_lt {l : List Nat} (f : Fit l) : val l < B32 ^ l.length := by
  induction l with
  | nil => simp [val]
  | cons x l ih =>
    obtain ⟨hx, fl⟩ := f.cons
    have := ih fl
    simp only [val, List.length_cons, Nat.pow_succ]
    have h2 : B32 * (val l + 1) ≤ B32 * B32 ^ l.length := Nat.mul_le_mul_left _ this
    rw [Nat.mul_add, Nat.mul_one] at h2
    rw [Nat.mul_comm (B32 ^ l.length)]
    omega
theorem digs_zero : digs 0 = [] := by unfold digs; simp
theorem digs_pos {n : Nat} (h : n ≠ 0) : digs n = (n % B32) :: digs (n / B32) := by rw [digs]; simp [h]
theorem B32_pos : 0 < B32 := by decide
theorem digs_val {l : List Nat} (f : Fit l) : digs (val l) = trim l := by
  induction l with
  | nil => simp [val, digs_zero, trim]
  | cons x l ih =>
    obtain ⟨hx, fl⟩ := f.cons
    simp only [trim]
    by_cases h : x + B32 * val l = 0
    · have hx0 : x = 0 := by omega
      have hv : val l = 0 := by
        have := B32_pos
        rcases Nat.eq_zero_or_pos (val l) with h' | h'
        · exact h'
        · have := Nat.mul_pos this h'; omega
      have : trim l = [] := by rw [← ih fl, hv, digs_zero]
      rw [if_pos ⟨this, hx0⟩]
      simp [val, h, digs_zero]
    · have hn : ¬ (trim l = [] ∧ x = 0) := by
        rintro ⟨ht, hx0⟩
        have : digs (val l) = [] := by rw [ih fl, ht]
        have hv : val l = 0 := by
          rcases Nat.eq_zero_or_pos (val l) with h' | h'
          · exact h'
          · rw [digs_pos (by omega)] at this; cases this
        rw [hv, hx0] at h; simp at h
      rw [if_neg hn]
      simp only [val]
      rw [digs_pos h, Nat.add_mul_mod_self_left, Nat.mod_eq_of_lt hx, Nat.add_mul_div_left _ _ B32_pos, Nat.div_eq_of_lt hx, Nat.zero_add, ih fl]
theorem val_digs (n : Nat) : val (digs n) = n := by
  induction n using Nat.strongRecOn with
  | _ n ih =>
    by_cases h : n = 0
    · subst h; rw [digs_zero]; rfl
    · rw [digs_pos h]
      simp only [val]
      rw [ih _ (Nat.div_lt_self (Nat.pos_of_ne_zero h) (by decide))]
      exact Nat.mod_add_div n B32
theorem digs_fit (n : Nat) : Fit (digs n) := by
  induction n using Nat.strongRecOn with
  | _ n ih =>
    by_cases h : n = 0
    · subst h; rw [digs_zero]; intro x hx; cases hx
    · rw [digs_pos h]
      intro x hx
      rcases List.mem_cons.1 hx with rfl | hx
      · exact Nat.mod_lt _ (by decide)
      · exact ih _ (Nat.div_lt_self (Nat.pos_of_ne_zero h) (by decide)) x hx
def sz (n : Nat) : Nat := (digs n).length
theorem lt_sz (n : Nat) : n < B32 ^ sz n := by have := val_lt (digs_fit n); rwa [val_digs] at this
theorem sz_le {n k : Nat} (h : n < B32 ^ k) : sz n ≤ k := by
  induction k generalizing n with
  | zero => simp at h; subst h; simp [sz, digs_zero]
  | succ k ih =>
    by_cases h0 : n = 0
    · subst h0; simp [sz, digs_zero]
    · unfold sz
      rw [digs_pos h0, List.length_cons]
      have : n / B32 < B32 ^ k := by
        rw [Nat.div_lt_iff_lt_mul B32_pos, ← Nat.pow_succ]; exact h
      have := ih this
      unfold sz at this
      omega
theorem sz_mono {a b : Nat} (h : a ≤ b) : sz a ≤ sz b := sz_le (Nat.lt_of_le_of_lt h (lt_sz b))
theorem sz_mul (a b : Nat) : sz (a * b) ≤ sz a + sz b := by
  refine sz_le ?_
  rw [Nat.pow_add]
  exact Nat.mul_lt_mul'' (lt_sz a) (lt_sz b)
theorem sz_add (a b : Nat) : sz (a + b) ≤ max (sz a) (sz b) + 1 := by
  refine sz_le ?_
  rw [Nat.pow_succ]
  have h1 : a < B32 ^ max (sz a) (sz b) := Nat.lt_of_lt_of_le (lt_sz a) (Nat.pow_le_pow_right B32_pos (Nat.le_max_left ..))
  have h2 : b < B32 ^ max (sz a) (sz b) := Nat.lt_of_lt_of_le (lt_sz b) (Nat.pow_le_pow_right B32_pos (Nat.le_max_right ..))
  have : 2 ≤ B32 := by decide
  have := Nat.mul_le_mul_left (B32 ^ max (sz a) (sz b)) this
  omega
theorem sz_len {l : List Nat} (f : Fit l) : sz (val l) ≤ l.length := sz_le (val_lt f)
theorem sz_small {n : Nat} (h : n < 18446744073709551616) : sz n ≤ 2 := sz_le (Nat.lt_of_lt_of_le h (by decide))
theorem sz_zero : sz 0 = 0 := by simp [sz, digs_zero]
theorem sz_pos {n : Nat} (h : n ≠ 0) : 0 < sz n := by unfold sz; rw [digs_pos h]; simp
theorem sz_eq_zero {n : Nat} : sz n = 0 ↔ n = 0 := by
  constructor
  · intro h; rcases Nat.eq_zero_or_pos n with h' | h'
    · exact h'
    · have := sz_pos (n := n) (by omega); omega
  · rintro rfl; exact sz_zero
theorem pow_sz_le {n : Nat} (h : n ≠ 0) : B32 ^ (sz n - 1) ≤ n := by
  rcases Nat.lt_or_ge n (B32 ^ (sz n - 1)) with hl | hl
  · have := sz_le hl; have := sz_pos h; omega
  · exact hl
theorem sz_lt {a b : Nat} (h : sz a < sz b) : a < b := by
  rcases Nat.lt_or_ge a b with h' | h'
  · exact h'
  · have := sz_mono h'; omega
theorem digs_top {n : Nat} (h : n ≠ 0) : (digs n).getD (sz n - 1) 0 ≠ 0 := by
  induction n using Nat.strongRecOn with
  | _ n ih =>
    unfold sz
    rw [digs_pos h]
    by_cases h1 : n / B32 = 0
    · rw [h1, digs_zero]
      simp
      have : n < B32 := by
        rcases Nat.lt_or_ge n B32 with h' | h'
        · exact h'
        · have := Nat.div_pos h' B32_pos; omega
      rw [Nat.mod_eq_of_lt this]; exact h
    · have := ih _ (Nat.div_lt_self (Nat.pos_of_ne_zero h) (by decide)) h1
      unfold sz at this
      have hp : 0 < (digs (n / B32)).length := sz_pos h1
      simp only [List.length_cons]
      rw [show (digs (n / B32)).length + 1 - 1 = ((digs (n / B32)).length - 1) + 1 by omega, List.getD_cons_succ]
      exact this
theorem digs_inj {a b : Nat} (h : digs a = digs b) : a = b := by rw [← val_digs a, h, val_digs]
def cmpN (a b : Nat) : Int := if a < b then -1 else if b < a then 1 else 0
theorem cmpN_lt {a b : Nat} (h : a < b) : cmpN a b = -1 := by simp [cmpN, h]
theorem cmpN_gt {a b : Nat} (h : b < a) : cmpN a b = 1 := by simp [cmpN, h]; omega
theorem cmpN_eq (a : Nat) : cmpN a a = 0 := by simp [cmpN]
theorem cmpN_neg {a b : Nat} : cmpN a b < 0 ↔ a < b := by unfold cmpN; split <;> (try split) <;> omega
theorem cmpN_pos {a b : Nat} : 0 < cmpN a b ↔ b < a := by unfold cmpN; split <;> (try split) <;> omega
theorem val_lt_of {a b : List Nat} (fa : Fit a) (hl : a.length = b.length) {k : Nat} (hk : k < a.length) (heq : a.drop (k + 1) = b.drop (k + 1)) (hlt : a.getD k 0 < b.getD k 0) : val a < val b := by
  have e1 : a = a.take (k + 1) ++ a.drop (k + 1) := (List.take_append_drop _ _).symm
  have e2 : b = b.take (k + 1) ++ b.drop (k + 1) := (List.take_append_drop _ _).symm
  rw [e1, e2, val_append, val_append, heq, val_take_succ hk, val_take_succ (by omega)]
  have h1 := val_lt (fa.take k)
  rw [List.length_take, Nat.min_eq_left (Nat.le_of_lt hk)] at h1
  have h3 : (a.getD k 0 + 1) * B32 ^ k ≤ b.getD k 0 * B32 ^ k := Nat.mul_le_mul_right _ hlt
  rw [Nat.add_mul, Nat.one_mul] at h3
  simp only [List.length_take, Nat.min_eq_left (show k + 1 ≤ a.length from hk), Nat.min_eq_left (show k + 1 ≤ b.length by omega)]
  omega
theorem drop_eq_succ {a b : List Nat} {k : Nat} (ha : k < a.length) (hb : k < b.length) (h : a.drop (k + 1) = b.drop (k + 1)) (he : a.getD k 0 = b.getD k 0) : a.drop k = b.drop k := by
  rw [List.drop_eq_getElem_cons ha, List.drop_eq_getElem_cons hb, h]
  congr 1
  simpa [List.getD_eq_getElem?_getD, ha, hb] using he
theorem cmp_at {a b k : Nat} (hl : (digs a).length = (digs b).length) (h0 : 0 < k) (hk : k ≤ (digs a).length) (hd : (digs a).drop k = (digs b).drop k) (h : (digs a).getD (k - 1) 0 < (digs b).getD (k - 1) 0) : a < b := by
  have := val_lt_of (digs_fit a) hl (k := k - 1) (by omega) (by rw [show k - 1 + 1 = k by omega]; exact hd) h
  rwa [val_digs, val_digs] at this
theorem cmp_end {a b k : Nat} (hd : (digs a).drop k = (digs b).drop k) (hk : k = 0) : cmpN a b = 0 := by
  subst hk
  rw [List.drop_zero, List.drop_zero] at hd
  rw [digs_inj hd, cmpN_eq]
theorem getD_ge {l : List Nat} {k : Nat} (h : l.length ≤ k) : l.getD k 0 = 0 := by rw [List.getD_eq_getElem?_getD, List.getElem?_eq_none h]; rfl
theorem val_take_succ' (l : List Nat) (k : Nat) : val (l.take (k + 1)) = val (l.take k) + l.getD k 0 * B32 ^ k := by
  rcases Nat.lt_or_ge k l.length with h | h
  · exact val_take_succ h
  · rw [getD_ge h, List.take_of_length_le (by omega), List.take_of_length_le h]; omega
theorem take_set_self {l : List Nat} {k x : Nat} : (l.set k x).take k = l.take k := by rw [List.take_set_of_le (Nat.le_refl _)]
theorem getD_set_self {l : List Nat} {k x : Nat} (h : k < l.length) : (l.set k x).getD k 0 = x := by
  rw [List.getD_eq_getElem?_getD, List.getElem?_set_self h]; rfl
theorem add_step {out a b : List Nat} {k c : Nat} (_hk : k < out.length) (hv : val (out.take k) + c * B32 ^ k = val (a.take k) + val (b.take k)) :
    val ((out.set k ((c + a.getD k 0 + b.getD k 0) % 4294967296)).take (k + 1)) + (c + a.getD k 0 + b.getD k 0) / 2 ^ 32 * B32 ^ (k + 1) = val (a.take (k + 1)) + val (b.take (k + 1)) := by
  rw [val_take_succ', val_take_succ' a, val_take_succ' b, take_set_self, getD_set_self _hk, show B32 ^ (k + 1) = B32 ^ k * B32 from Nat.pow_succ ..]
  have e : (2 : Nat) ^ 32 = 4294967296 := rfl
  rw [e, B32_eq] at *
  have h := Nat.mod_add_div (c + a.getD k 0 + b.getD k 0) 4294967296
  generalize (c + a.getD k 0 + b.getD k 0) % 4294967296 = m at *
  generalize (c + a.getD k 0 + b.getD k 0) / 4294967296 = q at *
  generalize a.getD k 0 = x at *
  generalize b.getD k 0 = y at *
  generalize 4294967296 ^ k = p at *
  grind
theorem add_close {out : List Nat} {a b k c : Nat} (hk : k = max (digs a).length (digs b).length + 1) (hl : out.length = max (digs a).length (digs b).length + 1)
    (hv : val (out.take k) + c * B32 ^ k = val ((digs a).take k) + val ((digs b).take k)) : val out = a + b := by
  rw [val_take_all (by omega), val_take_all (by omega), val_take_all (by omega), val_digs, val_digs] at hv
  have h1 : a < B32 ^ max (digs a).length (digs b).length := Nat.lt_of_lt_of_le (lt_sz a) (Nat.pow_le_pow_right B32_pos (Nat.le_max_left ..))
  have h2 : b < B32 ^ max (digs a).length (digs b).length := Nat.lt_of_lt_of_le (lt_sz b) (Nat.pow_le_pow_right B32_pos (Nat.le_max_right ..))
  have hc : c = 0 := by
    rcases Nat.eq_zero_or_pos c with h | h
    · exact h
    · have h3 : 1 * B32 ^ k ≤ c * B32 ^ k := Nat.mul_le_mul_right _ h
      rw [hk, Nat.pow_succ, B32_eq] at h3
      rw [B32_eq] at h1 h2 hv
      rw [hk, Nat.pow_succ] at hv
      generalize 4294967296 ^ max (digs a).length (digs b).length = p at *
      omega
  subst hc
  omega
theorem getD_replicate (n t : Nat) : (List.replicate n 0).getD t 0 = 0 := by
  rw [List.getD_eq_getElem?_getD, List.getElem?_replicate]; split <;> rfl
theorem getD_set_ne {l : List Nat} {i t x : Nat} (h : i ≠ t) : (l.set i x).getD t 0 = l.getD t 0 := by
  rw [List.getD_eq_getElem?_getD, List.getElem?_set_ne h, ← List.getD_eq_getElem?_getD]
theorem mul_bd {x y : Nat} (hx : x < 4294967296) (hy : y < 4294967296) : x * y ≤ 18446744065119617025 := by
  have := Nat.mul_le_mul (Nat.le_of_lt_succ hx) (Nat.le_of_lt_succ hy); omega
theorem mul_inner {o a b : List Nat} {i j c A bb : Nat} (hk : i + j < o.length)
    (hv : val o + c * B32 ^ (i + j) = A * bb + a.getD i 0 * val (b.take j) * B32 ^ i) :
    val (o.set (i + j) ((c + (a.getD i 0 * b.getD j 0 + o.getD (i + j) 0)) % 4294967296)) + (c + (a.getD i 0 * b.getD j 0 + o.getD (i + j) 0)) / 2 ^ 32 * B32 ^ (i + (j + 1)) =
      A * bb + a.getD i 0 * val (b.take (j + 1)) * B32 ^ i := by
  have hs := val_set o (i + j) ((c + (a.getD i 0 * b.getD j 0 + o.getD (i + j) 0)) % 4294967296) hk
  rw [val_take_succ' b, show B32 ^ (i + (j + 1)) = B32 ^ (i + j) * B32 from by rw [← Nat.add_assoc, Nat.pow_succ]]
  have e : (2 : Nat) ^ 32 = 4294967296 := rfl
  rw [Nat.pow_add] at *
  have h := Nat.mod_add_div (c + (a.getD i 0 * b.getD j 0 + o.getD (i + j) 0)) 4294967296
  rw [e, B32_eq] at *
  generalize (c + (a.getD i 0 * b.getD j 0 + o.getD (i + j) 0)) % 4294967296 = m at *
  generalize (c + (a.getD i 0 * b.getD j 0 + o.getD (i + j) 0)) / 4294967296 = q at *
  generalize a.getD i 0 = x at *
  generalize b.getD j 0 = y at *
  generalize o.getD (i + j) 0 = z at *
  generalize val (o.set (i + j) m) = V at *
  generalize val o = U at *
  generalize val (b.take j) = W at *
  generalize 4294967296 ^ i = p at *
  generalize 4294967296 ^ j = p2 at *
  grind
theorem mul_outer {o : List Nat} {a b i j c : Nat} (hj : j = (digs b).length) (hlt : i + (digs b).length < o.length) (hz : o.getD (i + (digs b).length) 0 = 0)
    (hv : val o + c * B32 ^ (i + j) = val ((digs a).take i) * b + (digs a).getD i 0 * val ((digs b).take j) * B32 ^ i) :
    val (o.set (i + (digs b).length) c) = val ((digs a).take (i + 1)) * b := by
  have hs := val_set o (i + (digs b).length) c hlt
  rw [hz, Nat.zero_mul, Nat.add_zero] at hs
  subst hj
  rw [hs, hv, List.take_length, val_digs, val_take_succ']
  grind
theorem or_shift (r x : Nat) (hx : x < 4294967296) : r * 2 ^ 32 ||| x = r * 2 ^ 32 + x := by
  rw [Nat.mul_comm, Nat.two_pow_add_eq_or_of_lt (i := 32) (by have : (2 : Nat) ^ 32 = 4294967296 := rfl; omega)]
theorem over_bd {r d x : Nat} (hr : r < d) (hx : x < 4294967296) : r * 2 ^ 32 + x < d * 4294967296 := by
  have e : (2 : Nat) ^ 32 = 4294967296 := rfl
  rw [e]
  have := Nat.mul_le_mul_right 4294967296 (Nat.succ_le_of_lt hr)
  rw [Nat.succ_mul] at this
  omega
theorem sh_bd {r d : Nat} (hr : r < d) (hd : d < 4294967296) : r * 2 ^ 32 < 18446744073709551616 := by
  have e : (2 : Nat) ^ 32 = 4294967296 := rfl
  rw [e]; omega
theorem sh_bd2 {r d x : Nat} (hr : r < d) (hd : d < 4294967296) (hx : x < 4294967296) : r * 2 ^ 32 ||| x < 18446744073709551616 := by
  rw [or_shift _ _ hx]
  have e : (2 : Nat) ^ 32 = 4294967296 := rfl
  rw [e]; omega
theorem drop_cons {l : List Nat} {k : Nat} (h : k < l.length) : l.drop k = l.getD k 0 :: l.drop (k + 1) := by
  rw [List.drop_eq_getElem_cons h]; simp [List.getD_eq_getElem?_getD, h]
theorem over_step {out a : List Nat} {k d r : Nat} (hk : 0 < k) (h1 : k ≤ out.length) (h2 : k ≤ a.length) (hv : val (out.drop k) * d + r = val (a.drop k)) :
    val ((out.set (k - 1) ((r * 2 ^ 32 + a.getD (k - 1) 0) / d)).drop (k - 1)) * d + (r * 2 ^ 32 + a.getD (k - 1) 0) % d = val (a.drop (k - 1)) := by
  obtain ⟨j, rfl⟩ : ∃ j, k = j + 1 := ⟨k - 1, by omega⟩
  simp only [Nat.add_sub_cancel]
  rw [drop_cons (l := out.set j _) (by simp; omega), drop_cons (l := a) (by omega), getD_set_self (by omega), List.drop_set_of_lt (by omega)]
  simp only [val]
  rw [← hv]
  have e : (2 : Nat) ^ 32 = 4294967296 := rfl
  have h := Nat.mod_add_div (r * 4294967296 + a.getD j 0) d
  rw [e, B32_eq]
  generalize (r * 4294967296 + a.getD j 0) % d = m at *
  generalize (r * 4294967296 + a.getD j 0) / d = q at *
  generalize val (out.drop (j + 1)) = V at *
  grind
theorem over_q {out : List Nat} {a d r k : Nat} (hk : k = 0) (hr : r < d) (hv : val (out.drop k) * d + r = val ((digs a).drop k)) : val out = a / d := by
  subst hk
  rw [List.drop_zero, List.drop_zero, val_digs] at hv
  rw [← hv, Nat.mul_comm, Nat.mul_add_div (by omega), Nat.div_eq_of_lt hr, Nat.add_zero]
theorem over_r {out : List Nat} {a d r k : Nat} (hk : k = 0) (hr : r < d) (hv : val (out.drop k) * d + r = val ((digs a).drop k)) : r = a % d := by
  subst hk
  rw [List.drop_zero, List.drop_zero, val_digs] at hv
  rw [← hv, Nat.mul_comm, Nat.mul_add_mod, Nat.mod_eq_of_lt hr]
def bitlen (n : Nat) : Nat := if h : n = 0 then 0 else bitlen (n / 2) + 1
  termination_by n
  decreasing_by exact Nat.div_lt_self (Nat.pos_of_ne_zero h) (by decide)
theorem bitlen_zero : bitlen 0 = 0 := by rw [bitlen]; simp
theorem bitlen_pos {n : Nat} (h : n ≠ 0) : bitlen n = bitlen (n / 2) + 1 := by rw [bitlen]; simp [h]
theorem bitlen_shift {n s : Nat} (h : 2 ^ s ≤ n) : bitlen n = bitlen (n / 2 ^ s) + s := by
  induction s generalizing n with
  | zero => simp
  | succ s ih =>
    have h0 : n ≠ 0 := by have := Nat.two_pow_pos (s + 1); omega
    rw [bitlen_pos h0]
    have h2 : 2 ^ s ≤ n / 2 := by rw [Nat.le_div_iff_mul_le (by decide), ← Nat.pow_succ]; exact h
    rw [ih h2, Nat.div_div_eq_div_mul, ← Nat.pow_succ', Nat.add_assoc]
theorem bitlen_lt {n s : Nat} (h : n < 2 ^ s) : bitlen n ≤ s := by
  induction s generalizing n with
  | zero => simp at h; subst h; rw [bitlen_zero]; exact Nat.le_refl _
  | succ s ih =>
    by_cases h0 : n = 0
    · subst h0; rw [bitlen_zero]; omega
    · rw [bitlen_pos h0]
      have := ih (n := n / 2) (by rw [Nat.div_lt_iff_lt_mul (by decide), ← Nat.pow_succ]; exact h)
      omega
def hi16 (n : Nat) : Nat := if 65536 ≤ n then n / 2 ^ 16 else n
def lo16 (n : Nat) : Nat := if 65536 ≤ n then 16 else 0
def hi8 (n : Nat) : Nat := if 256 ≤ n then n / 2 ^ 8 else n
def lo8 (n : Nat) : Nat := if 256 ≤ n then 8 else 0
theorem lo16_le (n : Nat) : lo16 n ≤ 16 := by unfold lo16; split <;> omega
theorem lo8_le (n : Nat) : lo8 n ≤ 8 := by unfold lo8; split <;> omega
theorem hi16_lt {n : Nat} (h : n < 4294967296) : hi16 n < 65536 := by
  have e : (2 : Nat) ^ 16 = 65536 := rfl
  unfold hi16; rw [e]; split <;> omega
theorem hi_lt {n : Nat} (h : n < 4294967296) : hi8 (hi16 n) < 256 := by
  have := hi16_lt h
  have e : (2 : Nat) ^ 8 = 256 := rfl
  unfold hi8; rw [e]; split <;> omega
theorem bitlen_le {n : Nat} (h : n < 256) : bitlen n ≤ 8 := bitlen_lt (s := 8) h
theorem len32_eq {n : Nat} (_h : n < 4294967296) : bitlen n = lo16 n + lo8 (hi16 n) + bitlen (hi8 (hi16 n)) := by
  have h1 : bitlen n = bitlen (hi16 n) + lo16 n := by
    unfold hi16 lo16
    split
    · exact bitlen_shift (s := 16) (by have e : (2 : Nat) ^ 16 = 65536 := rfl; omega)
    · rfl
  have h2 : bitlen (hi16 n) = bitlen (hi8 (hi16 n)) + lo8 (hi16 n) := by
    unfold hi8 lo8
    split
    · exact bitlen_shift (s := 8) (by have e : (2 : Nat) ^ 8 = 256 := rfl; omega)
    · rfl
  omega
def len8L : List UInt8 := [0, 1, 2, 2, 3, 3, 3, 3, 4, 4, 4, 4, 4, 4, 4, 4, 5, 5, 5, 5, 5, 5, 5, 5, 5, 5, 5, 5, 5, 5, 5, 5, 6, 6, 6, 6, 6, 6, 6, 6, 6, 6, 6, 6, 6, 6, 6, 6, 6, 6, 6, 6, 6, 6, 6, 6, 6, 6, 6, 6, 6, 6, 6, 6, 7, 7, 7, 7, 7, 7, 7, 7, 7, 7, 7, 7, 7, 7, 7, 7, 7, 7, 7, 7, 7, 7, 7, 7, 7, 7, 7, 7, 7, 7, 7, 7, 7, 7, 7, 7, 7, 7, 7, 7, 7, 7, 7, 7, 7, 7, 7, 7, 7, 7, 7, 7, 7, 7, 7, 7, 7, 7, 7, 7, 7, 7, 7, 7, 8, 8, 8, 8, 8, 8, 8, 8, 8, 8, 8, 8, 8, 8, 8, 8, 8, 8, 8, 8, 8, 8, 8, 8, 8, 8, 8, 8, 8, 8, 8, 8, 8, 8, 8, 8, 8, 8, 8, 8, 8, 8, 8, 8, 8, 8, 8, 8, 8, 8, 8, 8, 8, 8, 8, 8, 8, 8, 8, 8, 8, 8, 8, 8, 8, 8, 8, 8, 8, 8, 8, 8, 8, 8, 8, 8, 8, 8, 8, 8, 8, 8, 8, 8, 8, 8, 8, 8, 8, 8, 8, 8, 8, 8, 8, 8, 8, 8, 8, 8, 8, 8, 8, 8, 8, 8, 8, 8, 8, 8, 8, 8, 8, 8, 8, 8, 8, 8, 8, 8, 8, 8, 8, 8, 8, 8, 8, 8]
def len8 : ByteArray := ⟨len8L.toArray⟩
def bl (n : Nat) : Nat := if n = 0 then 0 else if n < 2 then 1 else if n < 4 then 2 else if n < 8 then 3 else if n < 16 then 4 else if n < 32 then 5 else if n < 64 then 6 else if n < 128 then 7 else 8
theorem bl_eq {n : Nat} (h : n < 256) : bitlen n = bl n := by
  have key : ∀ s m, 2 ^ s ≤ m → m < 2 ^ (s + 1) → bitlen m = s + 1 := by
    intro s m h1 h2
    rw [bitlen_shift h1]
    have : m / 2 ^ s = 1 := by
      have hp := Nat.two_pow_pos s
      apply Nat.le_antisymm
      · have : m / 2 ^ s < 2 := by rw [Nat.div_lt_iff_lt_mul hp, Nat.mul_comm, ← Nat.pow_succ]; exact h2
        omega
      · exact (Nat.le_div_iff_mul_le hp).2 (by omega)
    rw [this, bitlen_pos (by decide), show 1 / 2 = 0 from rfl, bitlen_zero]; omega
  unfold bl
  split
  · rename_i h0; subst h0; exact bitlen_zero
  · (repeat' split) <;> first
      | exact key 0 n (by simp; omega) (by simp; omega)
      | exact key 1 n (by simp; omega) (by simp; omega)
      | exact key 2 n (by simp; omega) (by simp; omega)
      | exact key 3 n (by simp; omega) (by simp; omega)
      | exact key 4 n (by simp; omega) (by simp; omega)
      | exact key 5 n (by simp; omega) (by simp; omega)
      | exact key 6 n (by simp; omega) (by simp; omega)
      | exact key 7 n (by simp; omega) (by simp; omega)
theorem len8_all : ((List.range 256).all fun m => match len8L[m]? with | some b => Nat.beq b.toNat (bl m) | none => false) = true := by decide +kernel
theorem len8_at {n : Nat} (h : n < 256) : (len8[n]?).map (fun b => ((b.toNat : Nat) : Int)) = some (((bitlen n : Nat) : Int)) := by
  rw [bl_eq h]
  have h1 := List.all_eq_true.1 len8_all n (List.mem_range.2 h)
  have h2 : len8[n]? = len8L[n]? := by
    have hs : len8.size = 256 := by decide +kernel
    have hd : len8L.length = 256 := by decide +kernel
    rw [getElem?_pos len8 n (by omega), List.getElem?_eq_getElem (by omega)]; rfl
  rw [h2]
  cases hb : len8L[n]? with
  | none => rw [hb] at h1; cases h1
  | some b =>
    rw [hb] at h1
    simp only at h1
    rw [Option.map_some, Nat.eq_of_beq_eq_true h1]
theorem bitlen_digs {a : Nat} (h : (digs a).length ≠ 0) : bitlen a = 32 * ((digs a).length - 1) + bitlen ((digs a).getD ((digs a).length - 1) 0) := by
  induction a using Nat.strongRecOn with
  | _ a ih =>
    have ha : a ≠ 0 := by rintro rfl; rw [digs_zero] at h; exact h rfl
    rw [digs_pos ha]
    simp only [List.length_cons, Nat.add_sub_cancel]
    by_cases h1 : a / B32 = 0
    · rw [h1, digs_zero]
      have : a < B32 := by
        rcases Nat.lt_or_ge a B32 with h' | h'
        · exact h'
        · have := Nat.div_pos h' B32_pos; omega
      simp [Nat.mod_eq_of_lt this]
    · have hp : 0 < (digs (a / B32)).length := sz_pos h1
      have := ih (a / B32) (Nat.div_lt_self (Nat.pos_of_ne_zero ha) (by decide)) (by omega)
      have hb : 2 ^ 32 ≤ a := by
        have e : (2 : Nat) ^ 32 = B32 := rfl
        rw [e]
        rcases Nat.lt_or_ge a B32 with h' | h'
        · rw [Nat.div_eq_of_lt h'] at h1; exact absurd rfl h1
        · exact h'
      rw [bitlen_shift hb, show a / 2 ^ 32 = a / B32 from rfl, this]
      obtain ⟨m, hm⟩ : ∃ m, (digs (a / B32)).length = m + 1 := ⟨(digs (a / B32)).length - 1, by omega⟩
      rw [hm, Nat.add_sub_cancel, List.getD_cons_succ]
      omega
theorem drop_set_succ {l m : List Nat} {k x : Nat} (_h : k < l.length) (hd : l.drop k = m.drop k) : (l.set k x).drop (k + 1) = m.drop (k + 1) := by
  rw [List.drop_set_of_lt (by omega)]
  have := congrArg (List.drop 1) hd
  rwa [List.drop_drop, List.drop_drop] at this
theorem getD_of_drop {l m : List Nat} {k : Nat} (hd : l.drop k = m.drop k) : l.getD k 0 = m.getD k 0 := by
  have := congrArg (fun l : List Nat => l.getD 0 0) hd
  simpa [List.getD_eq_getElem?_getD, List.getElem?_drop] using this
theorem sub_step1 {out a b : List Nat} {k br : Nat} (hk : k < out.length) (_hb : b.getD k 0 < 4294967296) (hlt : out.getD k 0 < br + b.getD k 0) (hd : out.drop k = a.drop k)
    (hv : val (out.take k) + val (b.take k) = val (a.take k) + br * B32 ^ k) (_h1 : br ≤ 1 := by omega) :
    val ((out.set k ((out.getD k 0 + 4294967296) - (br + b.getD k 0))).take (k + 1)) + val (b.take (k + 1)) = val (a.take (k + 1)) + 1 * B32 ^ (k + 1) := by
  rw [val_take_succ', val_take_succ' a, val_take_succ' b, take_set_self, getD_set_self hk, show B32 ^ (k + 1) = B32 ^ k * B32 from Nat.pow_succ .., ← getD_of_drop hd]
  have hx : ((out.getD k 0 + 4294967296) - (br + b.getD k 0)) + (br + b.getD k 0) = out.getD k 0 + 4294967296 := by omega
  rw [B32_eq] at *
  generalize (out.getD k 0 + 4294967296) - (br + b.getD k 0) = q at *
  generalize out.getD k 0 = x at *
  generalize b.getD k 0 = y at *
  generalize 4294967296 ^ k = p at *
  grind
theorem sub_step2 {out a b : List Nat} {k br : Nat} (hk : k < out.length) (_hb : b.getD k 0 < 4294967296) (hge : ¬ out.getD k 0 < br + b.getD k 0) (hd : out.drop k = a.drop k)
    (hv : val (out.take k) + val (b.take k) = val (a.take k) + br * B32 ^ k) :
    val ((out.set k (out.getD k 0 - (br + b.getD k 0))).take (k + 1)) + val (b.take (k + 1)) = val (a.take (k + 1)) + 0 * B32 ^ (k + 1) := by
  rw [val_take_succ', val_take_succ' a, val_take_succ' b, take_set_self, getD_set_self hk, show B32 ^ (k + 1) = B32 ^ k * B32 from Nat.pow_succ .., ← getD_of_drop hd]
  have hx : (out.getD k 0 - (br + b.getD k 0)) + (br + b.getD k 0) = out.getD k 0 := by omega
  rw [B32_eq] at *
  generalize out.getD k 0 - (br + b.getD k 0) = q at *
  generalize out.getD k 0 = x at *
  generalize b.getD k 0 = y at *
  generalize 4294967296 ^ k = p at *
  grind
theorem sub_close {out : List Nat} {a b k br : Nat} (hk : k = (digs a).length) (hl : out.length = (digs a).length) (hf : Fit out) (hlb : (digs b).length ≤ (digs a).length) (hba : b ≤ a)
    (hv : val (out.take k) + val ((digs b).take k) = val ((digs a).take k) + br * B32 ^ k) : val out = a - b := by
  rw [val_take_all (by omega), val_take_all (by omega), val_take_all (by omega), val_digs, val_digs] at hv
  have h0 : br = 0 := by
    rcases Nat.eq_zero_or_pos br with h | h
    · exact h
    · have h3 : 1 * B32 ^ k ≤ br * B32 ^ k := Nat.mul_le_mul_right _ h
      have h4 : val out < B32 ^ k := by
        have := val_lt hf; rwa [hl, ← hk] at this
      omega
  subst h0
  omega
theorem trim_take {l : List Nat} {k : Nat} (hk : k ≤ l.length) (h : ¬ (0 < k ∧ l.getD (k - 1) 0 = 0)) : trim (l.take k) = l.take k := by
  refine trim_of_last ?_
  by_cases h0 : k = 0
  · subst h0; exact .inl (by simp)
  · refine .inr ?_
    intro e
    refine h ⟨by omega, ?_⟩
    rw [List.length_take, Nat.min_eq_left hk] at e
    rw [List.getD_eq_getElem?_getD, List.getElem?_take, if_pos (by omega)] at e
    rw [List.getD_eq_getElem?_getD]; exact e
theorem small_val {n : Nat} (_h : n < 18446744073709551616) : val [n % 4294967296, n / 2 ^ 32] = n := by
  have e : (2 : Nat) ^ 32 = 4294967296 := rfl
  simp only [val, B32_eq, e]; omega
end Go.Ear
namespace Go.Ear
theorem add_u (x by_ : Nat) (h : by_ ≤ 32) : x * 2 ^ by_ % 2 ^ 32 = (x % 2 ^ (32 - by_)) * 2 ^ by_ := by
  have : (2 : Nat) ^ 32 = 2 ^ (32 - by_) * 2 ^ by_ := by rw [← Nat.pow_add]; congr 1; omega
  rw [this, Nat.mul_mod_mul_right]
theorem or_low (o x by_ : Nat) (ho : o < 2 ^ by_) : o ||| x * 2 ^ by_ = o + x * 2 ^ by_ := by
  rw [Nat.or_comm, Nat.mul_comm, ← Nat.two_pow_add_eq_or_of_lt ho]; omega
theorem or_shl {o x by_ : Nat} (h : by_ ≤ 32) (ho : o < 2 ^ by_) : o ||| x * 2 ^ by_ % 4294967296 = o + (x % 2 ^ (32 - by_)) * 2 ^ by_ := by
  have : (4294967296 : Nat) = 2 ^ 32 := rfl
  rw [this, add_u x by_ h, or_low _ _ _ ho]
theorem or_shl_lt {o x by_ : Nat} (h : by_ ≤ 32) (ho : o < 2 ^ by_) : o ||| x * 2 ^ by_ % 4294967296 < 4294967296 :=
  Nat.or_lt_two_pow (n := 32) (Nat.lt_of_lt_of_le ho (Nat.pow_le_pow_right (by decide) h)) (Nat.mod_lt _ (by decide))
theorem hi_lt32 {x by_ : Nat} (h : by_ ≤ 32) (hx : x < 4294967296) : x / 2 ^ (32 - by_) < 2 ^ by_ := by
  refine Nat.div_lt_of_lt_mul ?_
  rw [← Nat.pow_add, show 32 - by_ + by_ = 32 by omega]; exact hx
theorem pow_le32 {by_ : Nat} (h : by_ ≤ 32) : 2 ^ by_ ≤ 4294967296 := Nat.pow_le_pow_right (n := 2) (by decide) h
theorem shift_step {out A : List Nat} {i by_ x : Nat} (hi : i + 1 < out.length) (hby : by_ ≤ 32) (h0 : out.getD i 0 < 2 ^ by_) (h1 : out.getD (i + 1) 0 = 0) (hx : A.getD i 0 = x)
    (hv : val out = val (A.take i) * 2 ^ by_) :
    val ((out.set i (out.getD i 0 ||| x * 2 ^ by_ % 4294967296)).set (i + 1) (x / 2 ^ (32 - by_))) = val (A.take (i + 1)) * 2 ^ by_ := by
  have e1 := val_set (out.set i (out.getD i 0 ||| x * 2 ^ by_ % 4294967296)) (i + 1) (x / 2 ^ (32 - by_)) (by rw [List.length_set]; exact hi)
  have e2 := val_set out i (out.getD i 0 ||| x * 2 ^ by_ % 4294967296) (by omega)
  rw [getD_set_ne (by omega), h1] at e1
  rw [or_shl hby h0] at e1 e2 ⊢
  rw [val_take_succ', hx]
  have e3 : x = x / 2 ^ (32 - by_) * 2 ^ (32 - by_) + x % 2 ^ (32 - by_) := by rw [Nat.mul_comm]; exact (Nat.div_add_mod ..).symm
  have e4 : B32 = 2 ^ (32 - by_) * 2 ^ by_ := by rw [← Nat.pow_add, show 32 - by_ + by_ = 32 by omega]; rfl
  generalize x / 2 ^ (32 - by_) = q at *
  generalize x % 2 ^ (32 - by_) = r at *
  generalize 2 ^ (32 - by_) = p at *
  generalize 2 ^ by_ = s at *
  generalize List.set (List.set out i (out.getD i 0 + r * s)) (i + 1) q = L at *
  generalize List.set out i (out.getD i 0 + r * s) = M at *
  generalize out.getD i 0 = y at *
  generalize val (A.take i) = V at *
  rw [Nat.pow_succ, e4] at e1
  rw [e3]
  rw [e4] at e2 ⊢
  generalize (p * s) ^ i = B at *
  rw [hv] at e2
  have e5 : (V + (q * p + r) * B) * s = V * s + q * (B * (p * s)) + r * s * B := by
    grind
  have e6 : (y + r * s) * B = y * B + r * s * B := Nat.add_mul ..
  omega
theorem shift_close {out : List Nat} {a by_ k : Nat} (hk : k = (digs a).length) (hv : val out = val ((digs a).take k) * 2 ^ by_) : val out = a * 2 ^ by_ := by
  rw [hv, val_take_all (by omega), val_digs]
theorem getD_digs (a i : Nat) : (digs a).getD i 0 = a / B32 ^ i % B32 := by
  induction i generalizing a with
  | zero =>
    by_cases h : a = 0
    · subst h; rw [digs_zero]; rfl
    · rw [digs_pos h]; simp
  | succ i ih =>
    by_cases h : a = 0
    · subst h; rw [digs_zero]; simp
    · rw [digs_pos h, List.getD_cons_succ, ih, Nat.div_div_eq_div_mul, Nat.pow_succ, Nat.mul_comm B32]
theorem two_digs (a i : Nat) : (digs a).getD i 0 + (digs a).getD (i + 1) 0 * 4294967296 = a / B32 ^ i % (B32 * B32) := by
  rw [getD_digs, getD_digs, Nat.pow_succ, ← Nat.div_div_eq_div_mul]
  generalize a / B32 ^ i = m
  rw [Nat.mod_mul]
  show m % B32 + m / B32 % B32 * B32 = _
  rw [Nat.mul_comm B32 (m / B32 % B32)]
theorem or_hi {x y : Nat} (hx : x < 4294967296) : x ||| y * 2 ^ 32 = x + y * 4294967296 := by
  rw [Nat.or_comm, or_shift y x hx]; have : (2 : Nat) ^ 32 = 4294967296 := rfl; omega
theorem down_step {out : List Nat} {a i by_ : Nat} (hi : i < out.length) (hby : by_ ≤ 32) (hv : val (out.take i) = a / 2 ^ by_ % B32 ^ i) :
    val ((out.set i (((digs a).getD i 0 ||| (digs a).getD (i + 1) 0 * 2 ^ 32) / 2 ^ by_ % 4294967296)).take (i + 1)) = a / 2 ^ by_ % B32 ^ (i + 1) := by
  rw [val_take_succ', take_set_self, getD_set_self hi, hv, show B32 ^ (i + 1) = B32 ^ i * B32 from rfl, Nat.mod_mul, or_hi (Fit.getD (digs_fit a) i), two_digs, Nat.mul_comm (B32 ^ i)]
  congr 2
  have e1 : a / 2 ^ by_ / B32 ^ i = a / B32 ^ i / 2 ^ by_ := by rw [Nat.div_div_eq_div_mul, Nat.div_div_eq_div_mul, Nat.mul_comm]
  rw [e1]
  generalize a / B32 ^ i = m
  have e2 : B32 * B32 = 2 ^ by_ * (B32 * 2 ^ (32 - by_)) := by
    have : B32 = 2 ^ by_ * 2 ^ (32 - by_) := by rw [← Nat.pow_add, show by_ + (32 - by_) = 32 by omega]; rfl
    rw [Nat.mul_left_comm, ← this]
  rw [e2, Nat.mod_mul_right_div_self]
  show m / 2 ^ by_ % (B32 * 2 ^ (32 - by_)) % B32 = _
  rw [Nat.mod_mul_right_mod]
theorem down_bd {a i by_ : Nat} : ((digs a).getD i 0 ||| (digs a).getD (i + 1) 0 * 2 ^ 32) / 2 ^ by_ < 18446744073709551616 :=
  Nat.lt_of_le_of_lt (Nat.div_le_self ..) (Nat.or_lt_two_pow (n := 64) (Nat.lt_trans (Fit.getD (digs_fit a) i) (by decide)) (by have := Fit.getD (digs_fit a) (i + 1); have : (2:Nat)^32 = 4294967296 := rfl; omega))
theorem down_close {out : List Nat} {a by_ i : Nat} (hi : i = (digs a).length) (hl : out.length = (digs a).length) (hv : val (out.take i) = a / 2 ^ by_ % B32 ^ i) : val out = a / 2 ^ by_ := by
  rw [val_take_all (by omega)] at hv
  rw [hv, hi, Nat.mod_eq_of_lt]
  exact Nat.lt_of_le_of_lt (Nat.div_le_self ..) (lt_sz a)
theorem digs_shift {a k : Nat} (h : a ≠ 0) : digs (a * B32 ^ k) = List.replicate k 0 ++ digs a := by
  induction k with
  | zero => simp
  | succ k ih =>
    have hp : a * B32 ^ (k + 1) ≠ 0 := Nat.mul_ne_zero h (Nat.pos_iff_ne_zero.1 (Nat.pow_pos B32_pos))
    rw [digs_pos hp, Nat.pow_succ, ← Nat.mul_assoc, Nat.mul_mod_left, Nat.mul_div_cancel _ B32_pos, ih]; rfl
end Go.Ear
namespace Go.Ear
theorem N.recast {h : PH} {b : Option Addr} {c m m' : Nat} (e : m = m') (n : N h (.slice b (digs m).length c) m) : N h (.slice b (digs m').length c) m' := by subst e; exact n
theorem U.recast {h : PH} {b : Option Addr} {c : Nat} {m m' : List Nat} (e : m = m') (n : U h (.slice b m.length c) m) : U h (.slice b m'.length c) m' := by subst e; exact n
theorem sz_one : sz 1 = 1 := by unfold sz; rw [digs_pos (by decide)]; simp [B32, digs_zero]
theorem sz_pow (a m : Nat) : sz (a ^ m) ≤ m * sz a + 1 := by
  induction m with
  | zero => simp [sz_one]
  | succ m ih =>
    have h1 := lt_sz a
    have h2 : a ^ (m + 1) ≤ (B32 ^ sz a) ^ (m + 1) := Nat.pow_le_pow_left (Nat.le_of_lt h1) _
    refine sz_le ?_
    refine Nat.lt_of_le_of_lt h2 ?_
    rw [← Nat.pow_mul, Nat.mul_comm]
    exact Nat.pow_lt_pow_right (by decide) (by omega)
theorem sz_shift {a s : Nat} (h : s ≤ 32) : sz (a * 2 ^ s) ≤ sz a + 2 := by
  refine Nat.le_trans (sz_mul _ _) (Nat.add_le_add_left (sz_small (Nat.lt_of_le_of_lt (Nat.pow_le_pow_right (by decide) h) (by decide))) _)
theorem sz_shifted {a k : Nat} : sz (a * B32 ^ k) ≤ sz a + (k + 1) := by
  refine Nat.le_trans (sz_mul _ _) (Nat.add_le_add_left (sz_le (Nat.pow_lt_pow_right (by decide) (by omega))) _)
theorem digs_one {b : Nat} (h : (digs b).length = 1) : (digs b).getD 0 0 = b := by
  have := lt_sz b
  unfold sz at this
  rw [h, Nat.pow_one] at this
  rw [getD_digs, Nat.pow_zero, Nat.div_one, Nat.mod_eq_of_lt this]
theorem top_lt {x y : Nat} (hx : x < 4294967296) (hy : y < 4294967296) : x * 2 ^ 32 ||| y < 18446744073709551616 := by
  rw [or_shift _ _ hy]; have : (2 : Nat) ^ 32 = 4294967296 := rfl; omega
theorem div_lt0 {u v : Nat} (hv : v ≠ 0) (hle : sz v ≤ sz u) : u < v * B32 ^ (sz u - sz v + 1) := by
  refine Nat.lt_of_lt_of_le (lt_sz u) ?_
  have h1 := pow_sz_le hv
  have h2 := sz_pos hv
  calc B32 ^ sz u = B32 ^ (sz v - 1) * B32 ^ (sz u - sz v + 1) := by rw [← Nat.pow_add]; congr 1; omega
    _ ≤ _ := Nat.mul_le_mul_right _ h1
theorem top_digit {v : Nat} (hv : v ≠ 0) : (digs v).getD (sz v - 1) 0 = v / B32 ^ (sz v - 1) := by
  rw [getD_digs, Nat.mod_eq_of_lt]
  refine Nat.div_lt_of_lt_mul ?_
  have := sz_pos hv
  rw [← Nat.pow_succ, show (sz v - 1).succ = sz v by omega]; exact lt_sz v
theorem div_guess {r v j : Nat} (hv : v ≠ 0) (hlt : r < v * B32 ^ (j + 1)) :
    r < (min (((digs r).getD (j + sz v) 0 * 2 ^ 32 ||| (digs r).getD (j + sz v - 1) 0) / (digs v).getD (sz v - 1) 0) 4294967295 + 1) * (v * B32 ^ j) := by
  have hp := sz_pos hv
  rw [or_shift _ _ (Fit.getD (digs_fit r) _), top_digit hv]
  have e32 : (2 : Nat) ^ 32 = B32 := rfl
  have etop : (digs r).getD (j + sz v) 0 * 2 ^ 32 + (digs r).getD (j + sz v - 1) 0 = r / B32 ^ (j + sz v - 1) := by
    rw [e32]
    have h := two_digs r (j + sz v - 1)
    rw [show j + sz v - 1 + 1 = j + sz v by omega, Nat.mod_eq_of_lt] at h
    · have : (4294967296 : Nat) = B32 := rfl
      rw [this] at h; omega
    · refine Nat.div_lt_of_lt_mul ?_
      refine Nat.lt_of_lt_of_le hlt ?_
      calc v * B32 ^ (j + 1) ≤ B32 ^ sz v * B32 ^ (j + 1) := Nat.mul_le_mul_right _ (Nat.le_of_lt (lt_sz v))
        _ = B32 ^ (j + sz v - 1) * (B32 * B32) := by rw [← Nat.pow_add, ← Nat.mul_assoc, ← Nat.pow_succ, ← Nat.pow_succ]; congr 1; omega
  rw [etop]
  have htop : 0 < v / B32 ^ (sz v - 1) := Nat.div_pos (pow_sz_le hv) (Nat.pow_pos B32_pos)
  by_cases h : r / B32 ^ (j + sz v - 1) / (v / B32 ^ (sz v - 1)) ≤ 4294967295
  · rw [Nat.min_eq_left h]
    have h1 := Nat.lt_mul_div_succ (r / B32 ^ (j + sz v - 1)) htop
    generalize r / B32 ^ (j + sz v - 1) / (v / B32 ^ (sz v - 1)) = g at h1 h ⊢
    have h2 := Nat.lt_mul_div_succ r (Nat.pow_pos B32_pos : 0 < B32 ^ (j + sz v - 1))
    refine Nat.lt_of_lt_of_le h2 ?_
    have h3 : r / B32 ^ (j + sz v - 1) + 1 ≤ (g + 1) * (v / B32 ^ (sz v - 1)) := by rw [Nat.mul_comm]; exact h1
    calc B32 ^ (j + sz v - 1) * (r / B32 ^ (j + sz v - 1) + 1) ≤ B32 ^ (j + sz v - 1) * ((g + 1) * (v / B32 ^ (sz v - 1))) := Nat.mul_le_mul_left _ h3
      _ = (g + 1) * ((B32 ^ (sz v - 1) * (v / B32 ^ (sz v - 1))) * B32 ^ j) := by
          rw [show j + sz v - 1 = (sz v - 1) + j by omega, Nat.pow_add]; grind
      _ ≤ _ := Nat.mul_le_mul_left _ (Nat.mul_le_mul_right _ (Nat.mul_div_le ..))
  · rw [Nat.min_eq_right (by omega)]
    have : (4294967295 + 1 : Nat) = B32 := rfl
    rw [this, Nat.mul_left_comm, Nat.mul_comm B32, ← Nat.pow_succ]; exact hlt
theorem div_set {q : List Nat} {u v r j g : Nat} (hj : j < q.length) (hz : q.getD j 0 = 0) (hu : u = val q * v + r) (hle : v * g * B32 ^ j ≤ r) :
    u = val (q.set j g) * v + (r - v * g * B32 ^ j) := by
  have h := val_set q j g hj
  rw [hz] at h
  have : val (q.set j g) * v = val q * v + v * g * B32 ^ j := by rw [show val (q.set j g) = val q + g * B32 ^ j by omega, Nat.add_mul]; grind
  omega
theorem div_next {v r j g : Nat} (hlt : r < (g + 1) * (v * B32 ^ j)) (hle : v * g * B32 ^ j ≤ r) : r - v * g * B32 ^ j < v * B32 ^ j := by
  have : (g + 1) * (v * B32 ^ j) = v * g * B32 ^ j + v * B32 ^ j := by grind
  omega
theorem div_dec {v r j g : Nat} (hg : 0 < g) (hgt : r < v * g * B32 ^ j) : r < (g - 1 + 1) * (v * B32 ^ j) := by
  rw [show g - 1 + 1 = g by omega]
  have : g * (v * B32 ^ j) = v * g * B32 ^ j := by grind
  omega
theorem div_q {a b s q r : Nat} (_hb : b ≠ 0) (hu : a * 2 ^ s = q * (b * 2 ^ s) + r) (hr : r < b * 2 ^ s) : q = a / b ∧ r / 2 ^ s = a % b := by
  have hs : 0 < 2 ^ s := Nat.pow_pos (by decide)
  have h1 : a * 2 ^ s / (b * 2 ^ s) = q := by
    rw [hu, Nat.add_comm, Nat.add_mul_div_right _ _ (by omega), Nat.div_eq_of_lt hr, Nat.zero_add]
  have h2 : a * 2 ^ s % (b * 2 ^ s) = r := by
    rw [hu, Nat.add_comm, Nat.add_mul_mod_self_right, Nat.mod_eq_of_lt hr]
  rw [Nat.mul_div_mul_right _ _ hs] at h1
  rw [Nat.mul_mod_mul_right] at h2
  exact ⟨h1.symm, by rw [← h2, Nat.mul_div_cancel _ hs]⟩
end Go.Ear
set_option linter.unusedSimpArgs false
namespace Go.Ear
structure Fr where
  neg : Bool
  n : List Nat
  d : List Nat
def F (h : PH) (v : Value) (f : Fr) : Prop := ∃ x y, v = .agg #[.bool f.neg, x, y] ∧ U h x f.n ∧ U h y f.d
def frQ (q : Rat) : Fr := ⟨decide (q.num < 0), digs q.num.natAbs, digs q.den⟩
def frK (q : Rat) : Fr := ⟨decide (q.num < 0), digs q.num.natAbs, if q.den = 1 then [] else digs q.den⟩
def Qn (h : PH) (v : Value) (q : Rat) : Prop := F h v (frQ q)
def Kn (h : PH) (v : Value) (q : Rat) : Prop := F h v (frK q)
def ratOf (s : Bool) (n d : Nat) : Rat := mkRat (if s then -(n : Int) else n) d
def Fr.rat (f : Fr) : Rat := ratOf f.neg (val f.n) (if val f.d = 0 then 1 else val f.d)
theorem F.mono {h h' : PH} {v : Value} {f : Fr} (u : F h v f) (e : h.le h') : F h' v f := by
  obtain ⟨x, y, e1, a, b⟩ := u; exact ⟨x, y, e1, a.mono e, b.mono e⟩
theorem Qn.mono {h h' : PH} {v : Value} {q : Rat} (u : Qn h v q) (e : h.le h') : Qn h' v q := F.mono u e
theorem Kn.mono {h h' : PH} {v : Value} {q : Rat} (u : Kn h v q) (e : h.le h') : Kn h' v q := F.mono u e
theorem F.cast {h : PH} {v : Value} {f g : Fr} (e : f = g) (u : F h v f) : F h v g := e ▸ u
theorem Qn.cast {h : PH} {v : Value} {f g : Rat} (e : f = g) (u : Qn h v f) : Qn h v g := e ▸ u
theorem Kn.cast {h : PH} {v : Value} {f g : Rat} (e : f = g) (u : Kn h v f) : Kn h v g := e ▸ u
theorem F.shape {h : PH} {v : Value} {f : Fr} (u : F h v f) : ∃ b1 c1 b2 c2, v = .agg #[.bool f.neg, .slice b1 f.n.length c1, .slice b2 f.d.length c2] ∧ f.n.length ≤ c1 ∧ f.d.length ≤ c2 ∧
    U h (.slice b1 f.n.length c1) f.n ∧ U h (.slice b2 f.d.length c2) f.d := by
  obtain ⟨x, y, e, a, b⟩ := u
  obtain ⟨b1, c1, rfl, h1⟩ := a.shape
  obtain ⟨b2, c2, rfl, h2⟩ := b.shape
  exact ⟨b1, c1, b2, c2, e, h1, h2, a, b⟩
theorem Qn.shape {h : PH} {v : Value} {q : Rat} (u : Qn h v q) : ∃ b1 c1 b2 c2, v = .agg #[.bool (decide (q.num < 0)), .slice b1 (digs q.num.natAbs).length c1, .slice b2 (digs q.den).length c2] ∧ (digs q.num.natAbs).length ≤ c1 ∧ (digs q.den).length ≤ c2 ∧
    N h (.slice b1 (digs q.num.natAbs).length c1) q.num.natAbs ∧ N h (.slice b2 (digs q.den).length c2) q.den := F.shape u
theorem F.mk {h : PH} {s : Bool} {x y : Value} {n d : List Nat} (a : U h x n) (b : U h y d) : F h (.agg #[.bool s, x, y]) ⟨s, n, d⟩ := ⟨x, y, rfl, a, b⟩
theorem Qn.mk {h : PH} {s : Bool} {x y : Value} {n d : Nat} {q : Rat} (a : N h x n) (b : N h y d) (hs : s = decide (q.num < 0)) (hn : n = q.num.natAbs) (hd : d = q.den) : Qn h (.agg #[.bool s, x, y]) q := by
  subst hs hn hd; exact ⟨x, y, rfl, a, b⟩
theorem ratOf_eq {s : Bool} {n d : Nat} (hd : d ≠ 0) : (ratOf s n d).num = (if s then -(n : Int) else n) / (Nat.gcd n d : Nat) ∧ (ratOf s n d).den = d / Nat.gcd n d := by
  unfold ratOf
  rw [← Rat.normalize_eq_mkRat hd, Rat.normalize_eq]
  have e : (if s then -(n : Int) else (n : Int)).natAbs = n := by cases s <;> simp
  simp only [e, and_self]
theorem gcd_pos' {n d : Nat} (hd : d ≠ 0) : 0 < Nat.gcd n d := Nat.gcd_pos_of_pos_right _ (Nat.pos_of_ne_zero hd)
theorem ratOf_den {s : Bool} {n d : Nat} (hd : d ≠ 0) : d / Nat.gcd n d = (ratOf s n d).den := (ratOf_eq hd).2.symm
theorem ratOf_abs {s : Bool} {n d : Nat} (hd : d ≠ 0) : n / Nat.gcd n d = (ratOf s n d).num.natAbs := by
  rw [(ratOf_eq hd).1]
  obtain ⟨k, hk⟩ := Nat.gcd_dvd_left n d
  have hp := gcd_pos' (n := n) hd
  generalize Nat.gcd n d = g at *
  subst hk
  rw [Nat.mul_div_cancel_left _ hp]
  cases s
  · simp only [Bool.false_eq_true, if_false]
    rw [Int.natCast_mul, Int.mul_ediv_cancel_left _ (by omega)]; simp
  · simp only [if_true]
    rw [Int.natCast_mul, ← Int.mul_neg, Int.mul_ediv_cancel_left _ (by omega)]; simp
theorem ratOf_neg {s : Bool} {n d : Nat} (hd : d ≠ 0) : (s && decide (0 < n / Nat.gcd n d)) = decide ((ratOf s n d).num < 0) := by
  rw [(ratOf_eq hd).1]
  obtain ⟨k, hk⟩ := Nat.gcd_dvd_left n d
  have hp := gcd_pos' (n := n) hd
  generalize Nat.gcd n d = g at *
  subst hk
  rw [Nat.mul_div_cancel_left _ hp]
  cases s
  · simp only [Bool.false_and, Bool.false_eq_true, if_false]
    rw [Int.natCast_mul, Int.mul_ediv_cancel_left _ (by omega)]; simp
  · simp only [Bool.true_and, if_true]
    rw [Int.natCast_mul, ← Int.mul_neg, Int.mul_ediv_cancel_left _ (by omega)]
    congr 1; apply propext; omega
theorem ratOf_self (q : Rat) : ratOf (decide (q.num < 0)) q.num.natAbs q.den = q := by
  unfold ratOf
  have : (if decide (q.num < 0) = true then -((q.num.natAbs : Nat) : Int) else (q.num.natAbs : Int)) = q.num := by
    by_cases h : q.num < 0
    · rw [if_pos (by simpa using h)]; omega
    · rw [if_neg (by simpa using h)]; omega
  rw [this, Rat.mkRat_self]
theorem frK_rat (q : Rat) : (frK q).rat = q := by
  unfold Fr.rat frK
  simp only [val_digs]
  by_cases h : q.den = 1
  · have e := ratOf_self q
    rw [h] at e
    simp only [h, if_true, val]; exact e
  · simp only [if_neg h, val_digs, q.den_nz, if_false]; exact ratOf_self q
def bq (q : Rat) : Nat := max (sz q.num.natAbs) (sz q.den)
theorem bq_num (q : Rat) : sz q.num.natAbs ≤ bq q := Nat.le_max_left ..
theorem bq_den (q : Rat) : sz q.den ≤ bq q := Nat.le_max_right ..
theorem bq_ratOf {s : Bool} {n d B : Nat} (hd : d ≠ 0) (h1 : sz n ≤ B) (h2 : sz d ≤ B) : bq (ratOf s n d) ≤ B := by
  unfold bq
  rw [← ratOf_abs hd, ← ratOf_den hd]
  exact Nat.max_le.2 ⟨Nat.le_trans (sz_mono (Nat.div_le_self ..)) h1, Nat.le_trans (sz_mono (Nat.div_le_self ..)) h2⟩
theorem digs_len_pos (n : Nat) : decide (0 < (digs n).length) = decide (0 < n) := by
  congr 1; apply propext
  have := sz_eq_zero (n := n)
  unfold sz at this; omega
theorem F.fit {h : PH} {v : Value} {f : Fr} (u : F h v f) : Fit f.n ∧ Fit f.d := by obtain ⟨x, y, _, a, b⟩ := u; exact ⟨a.1, b.1⟩
theorem len_zero {n : Nat} : (digs n).length = 0 ↔ n = 0 := sz_eq_zero
theorem Fr.rat_z {f : Fr} (h : (digs (val f.d)).length = 0) : ratOf f.neg (val f.n) 1 = f.rat := by unfold Fr.rat; rw [if_pos (len_zero.1 h)]
theorem Fr.rat_nz {f : Fr} (h : ¬ (digs (val f.d)).length = 0) : ratOf f.neg (val f.n) (val f.d) = f.rat := by unfold Fr.rat; rw [if_neg (fun e => h (len_zero.2 e))]
theorem ratOf_zero {s : Bool} {d : Nat} : ratOf s 0 d = 0 := by unfold ratOf; cases s <;> simp
theorem num_zero {q : Rat} : (digs q.num.natAbs).length = 0 ↔ q = 0 := by rw [len_zero, Int.natAbs_eq_zero, Rat.num_eq_zero]
theorem neg_mk {q : Rat} : ((!decide (q.num < 0)) && decide (0 < (digs q.num.natAbs).length)) = decide ((-q).num < 0) := by
  rw [digs_len_pos, Rat.neg_num, Bool.eq_iff_iff]
  simp only [Bool.and_eq_true, Bool.not_eq_true', decide_eq_true_eq, decide_eq_false_iff_not]; omega
theorem neg_abs {q : Rat} : q.num.natAbs = (-q).num.natAbs := by rw [Rat.neg_num]; omega
def sgn (s : Bool) (n : Nat) : Int := if s then -(n : Int) else n
theorem sgn_num (q : Rat) : sgn (decide (q.num < 0)) q.num.natAbs = q.num := by
  unfold sgn
  by_cases h : q.num < 0
  · rw [if_pos (by simpa using h)]; omega
  · rw [if_neg (by simpa using h)]; omega
theorem mul_mk {a b : Rat} : ratOf (decide (a.num < 0) != decide (b.num < 0)) (a.num.natAbs * b.num.natAbs) (a.den * b.den) = a * b := by
  unfold ratOf
  rw [Rat.mul_def, Rat.normalize_eq_mkRat (Nat.mul_ne_zero a.den_nz b.den_nz)]
  congr 1
  have ea := sgn_num a
  have eb := sgn_num b
  rw [Int.natCast_mul]
  by_cases h1 : a.num < 0 <;> by_cases h2 : b.num < 0
  all_goals
    simp only [h1, h2, decide_true, decide_false, sgn, Bool.false_eq_true, if_false, if_true, bne_self_eq_false, Bool.true_bne, Bool.false_bne, Bool.not_false, Bool.not_true] at ea eb ⊢
    rw [← ea, ← eb]; grind
theorem add_def' (a b : Rat) : mkRat (a.num * b.den + b.num * a.den) (a.den * b.den) = a + b := by
  rw [Rat.add_def, Rat.normalize_eq_mkRat (Nat.mul_ne_zero a.den_nz b.den_nz)]
theorem add_same {a b : Rat} (h : decide (a.num < 0) = decide (b.num < 0)) : ratOf (decide (a.num < 0)) (a.num.natAbs * b.den + b.num.natAbs * a.den) (a.den * b.den) = a + b := by
  rw [← add_def']
  unfold ratOf
  congr 1
  have ea := sgn_num a
  have eb := sgn_num b
  rw [Int.natCast_add, Int.natCast_mul, Int.natCast_mul]
  by_cases h1 : a.num < 0 <;> by_cases h2 : b.num < 0
  · simp only [h1, h2, decide_true, decide_false, sgn, Bool.false_eq_true, if_false, if_true] at ea eb ⊢; rw [← ea, ← eb]; grind
  · exact absurd h (by simp [h1, h2])
  · exact absurd h (by simp [h1, h2])
  · simp only [h1, h2, decide_true, decide_false, sgn, Bool.false_eq_true, if_false, if_true] at ea eb ⊢; rw [← ea, ← eb]; grind
theorem add_lt {a b : Rat} (h : ¬ decide (a.num < 0) = decide (b.num < 0)) (hl : a.num.natAbs * b.den ≤ b.num.natAbs * a.den) : ratOf (decide (b.num < 0)) (b.num.natAbs * a.den - a.num.natAbs * b.den) (a.den * b.den) = a + b := by
  rw [← add_def']
  unfold ratOf
  congr 1
  have ea := sgn_num a
  have eb := sgn_num b
  have e3 : ((b.num.natAbs * a.den - a.num.natAbs * b.den : Nat) : Int) = (b.num.natAbs : Int) * a.den - a.num.natAbs * b.den := by omega
  rw [e3]
  by_cases h1 : a.num < 0 <;> by_cases h2 : b.num < 0
  · exact absurd (by simp [h1, h2]) h
  · simp only [h1, h2, decide_true, decide_false, sgn, Bool.false_eq_true, if_false, if_true] at ea eb ⊢; rw [← ea, ← eb]; grind
  · simp only [h1, h2, decide_true, decide_false, sgn, Bool.false_eq_true, if_false, if_true] at ea eb ⊢; rw [← ea, ← eb]; grind
  · exact absurd (by simp [h1, h2]) h
theorem add_ge {a b : Rat} (h : ¬ decide (a.num < 0) = decide (b.num < 0)) (hl : b.num.natAbs * a.den ≤ a.num.natAbs * b.den) : ratOf (decide (a.num < 0)) (a.num.natAbs * b.den - b.num.natAbs * a.den) (a.den * b.den) = a + b := by
  rw [Rat.add_comm, Nat.mul_comm a.den]
  exact add_lt (fun e => h e.symm) hl
theorem inv_abs {q : Rat} (h : q ≠ 0) : q.den = (q⁻¹).num.natAbs := by
  rw [Rat.num_inv, Int.natAbs_mul, Int.natAbs_sign_of_ne_zero (fun e => h (Rat.num_eq_zero.1 e))]; simp
theorem inv_den {q : Rat} (h : q ≠ 0) : q.num.natAbs = (q⁻¹).den := by
  rw [Rat.den_inv, if_neg (fun e => h (Rat.num_eq_zero.1 e))]
theorem inv_sign {q : Rat} : decide (q.num < 0) = decide ((q⁻¹).num < 0) := by
  congr 1; apply propext
  rw [Rat.num_inv]
  have hd : (0 : Int) < q.den := by have := q.den_pos; omega
  rcases Int.lt_trichotomy q.num 0 with h | h | h
  · rw [Int.sign_eq_neg_one_of_neg h]; omega
  · rw [h]; simp
  · rw [Int.sign_eq_one_of_pos h]; omega
def sgQ (q : Rat) : Int := if q = 0 then 0 else if q.num < 0 then -1 else 1
theorem sz_le_add {a b c : Nat} (h : a ≤ b) (h2 : sz b ≤ c) : sz a ≤ c := Nat.le_trans (sz_mono h) h2
theorem mkRat_ratOf (z : Int) (d : Nat) : mkRat z d = ratOf (decide (z < 0)) z.natAbs d := by
  unfold ratOf; congr 1
  by_cases h : z < 0
  · rw [if_pos (by simpa using h)]; omega
  · rw [if_neg (by simpa using h)]; omega
theorem bq_mkRat {z : Int} {d n B : Nat} (hd : d ≠ 0) (h : z.natAbs ≤ n) (h1 : sz n ≤ B) (h2 : sz d ≤ B) : bq (mkRat z d) ≤ B := by
  rw [mkRat_ratOf]; exact bq_ratOf hd (sz_le_add h h1) h2
theorem sz_mul' {a b A B : Nat} (h1 : sz a ≤ A) (h2 : sz b ≤ B) : sz (a * b) ≤ A + B := Nat.le_trans (sz_mul ..) (Nat.add_le_add h1 h2)
theorem bq_add (a b : Rat) : bq (a + b) ≤ bq a + bq b + 1 := by
  rw [← add_def']
  refine bq_mkRat (n := a.num.natAbs * b.den + b.num.natAbs * a.den) (Nat.mul_ne_zero a.den_nz b.den_nz) ?_ ?_ ?_
  · refine Nat.le_trans (Int.natAbs_add_le _ _) ?_
    rw [Int.natAbs_mul, Int.natAbs_mul]; simp
  · refine Nat.le_trans (sz_add _ _) (Nat.add_le_add_right (Nat.max_le.2 ⟨sz_mul' (bq_num _) (bq_den _), ?_⟩) _)
    rw [Nat.add_comm]; exact sz_mul' (bq_num _) (bq_den _)
  · exact Nat.le_succ_of_le (sz_mul' (bq_den _) (bq_den _))
theorem bq_mul (a b : Rat) : bq (a * b) ≤ bq a + bq b := by
  rw [← mul_mk]
  exact bq_ratOf (Nat.mul_ne_zero a.den_nz b.den_nz) (sz_mul' (bq_num _) (bq_num _)) (sz_mul' (bq_den _) (bq_den _))
theorem bq_neg (a : Rat) : bq (-a) = bq a := by unfold bq; rw [← neg_abs, Rat.neg_den]
theorem bq_inv {a : Rat} (h : a ≠ 0) : bq a⁻¹ = bq a := by unfold bq; rw [← inv_abs h, ← inv_den h, Nat.max_comm]
theorem bq_rat {f : Fr} (ff : Fit f.n ∧ Fit f.d) : bq f.rat ≤ max (max f.n.length f.d.length) 1 := by
  unfold Fr.rat
  refine bq_ratOf (by split <;> omega) (Nat.le_trans (sz_len ff.1) (by omega)) ?_
  split
  · rw [sz_one]; omega
  · exact Nat.le_trans (sz_len ff.2) (by omega)
theorem bq_int (n : Int) (h : n.natAbs < 18446744073709551616) : bq (n : Rat) ≤ 2 := by
  unfold bq
  rw [Rat.num_intCast, Rat.den_intCast, sz_one]
  exact Nat.max_le.2 ⟨sz_small h, by omega⟩
theorem bq_K (q : Rat) : (frK q).n.length ≤ bq q ∧ (frK q).d.length ≤ bq q := by
  refine ⟨bq_num q, ?_⟩
  unfold frK
  simp only
  split
  · simp
  · exact bq_den q
theorem Kn.toQ {q : Rat} : (frK q).rat = q := frK_rat q
end Go.Ear
namespace Go.Ear
theorem cut_cell {arr : Array Value} {off k : Nat} {cs : List Value} (h : cut arr off k = cs) (i : Nat) (hi : i < k) {c : Value} (hc : cs[i]? = some c) : arr[off + i]? = some c := by
  subst h
  unfold cut at hc
  simpa [List.getElem?_take, List.getElem?_drop, hi] using hc
structure Rp (α : Type) where
  k : Nat
  R : PH → List Value → α → Prop
  len : ∀ {h cs x}, R h cs x → cs.length = k
  one : ∀ {h cs x}, R h cs x → ∀ c ∈ cs, c.oneCell' = true
  mono : ∀ {h h' cs x}, R h cs x → h.le h' → R h' cs x
section
variable {α : Type} {r : Rp α} {h h' : PH}
def Rows (r : Rp α) (h : PH) : List (List Value) → List α → Prop
  | [], [] => True
  | cs :: css, x :: l => r.R h cs x ∧ Rows r h css l
  | _, _ => False
theorem Rows.mono : ∀ {css : List (List Value)} {l : List α}, Rows r h css l → h.le h' → Rows r h' css l
  | [], [], _, _ => trivial
  | _ :: _, _ :: _, u, e => ⟨r.mono u.1 e, Rows.mono u.2 e⟩
theorem Rows.length : ∀ {css : List (List Value)} {l : List α}, Rows r h css l → css.length = l.length
  | [], [], _ => rfl
  | _ :: _, _ :: _, u => by simp [Rows.length u.2]
theorem Rows.lens : ∀ {css : List (List Value)} {l : List α}, Rows r h css l → ∀ cs ∈ css, cs.length = r.k
  | [], [], _, cs, hc => by cases hc
  | c :: _, _ :: _, u, cs, hc => by
    rcases List.mem_cons.1 hc with rfl | hc
    · exact r.len u.1
    · exact Rows.lens u.2 cs hc
theorem Rows.ones : ∀ {css : List (List Value)} {l : List α}, Rows r h css l → ∀ c ∈ css.flatten, c.oneCell' = true
  | [], [], _, c, hc => by simp at hc
  | cs :: _, _ :: _, u, c, hc => by
    rw [List.flatten_cons] at hc
    rcases List.mem_append.1 hc with hc | hc
    · exact r.one u.1 c hc
    · exact Rows.ones u.2 c hc
theorem Rows.at : ∀ {css : List (List Value)} {l : List α}, Rows r h css l → ∀ {i : Nat} {cs : List Value}, css[i]? = some cs → ∀ d, r.R h cs (l.getD i d)
  | [], [], _, i, cs, hi, d => by simp at hi
  | c :: _, x :: _, u, 0, cs, hi, d => by simp at hi; subst hi; exact u.1
  | c :: _, x :: _, u, i + 1, cs, hi, d => by simpa using Rows.at u.2 (by simpa using hi) d
theorem Rows.append : ∀ {css : List (List Value)} {l : List α} {css2 : List (List Value)} {l2 : List α}, Rows r h css l → Rows r h css2 l2 → Rows r h (css ++ css2) (l ++ l2)
  | [], [], _, _, _, v => v
  | _ :: _, _ :: _, _, _, u, v => ⟨u.1, Rows.append u.2 v⟩
theorem Rows.set : ∀ {css : List (List Value)} {l : List α}, Rows r h css l → ∀ (i : Nat) {cs : List Value} {x : α}, r.R h cs x → Rows r h (css.set i cs) (l.set i x)
  | [], [], _, _, _, _, _ => trivial
  | _ :: _, _ :: _, u, 0, _, _, v => ⟨v, u.2⟩
  | _ :: _, _ :: _, u, i + 1, _, _, v => ⟨u.1, Rows.set u.2 i v⟩
theorem Rows.take : ∀ {css : List (List Value)} {l : List α}, Rows r h css l → ∀ m : Nat, Rows r h (css.take m) (l.take m)
  | [], [], _, m => by simp [Rows]
  | _ :: _, _ :: _, u, 0 => trivial
  | _ :: _, _ :: _, u, m + 1 => ⟨u.1, Rows.take u.2 m⟩
theorem Rows.drop : ∀ {css : List (List Value)} {l : List α}, Rows r h css l → ∀ m : Nat, Rows r h (css.drop m) (l.drop m)
  | [], [], _, m => by simp [Rows]
  | _ :: _, _ :: _, u, 0 => u
  | _ :: _, _ :: _, u, m + 1 => Rows.drop u.2 m
theorem Rows.replicate {cs : List Value} {x : α} (u : r.R h cs x) : ∀ n, Rows r h (List.replicate n cs) (List.replicate n x)
  | 0 => trivial
  | n + 1 => ⟨u, Rows.replicate u n⟩
theorem Rows.cons {cs : List Value} {x : α} {css : List (List Value)} {l : List α} (u : r.R h cs x) (v : Rows r h css l) : Rows r h (cs :: css) (x :: l) := ⟨u, v⟩
theorem Rows.nil : Rows r h [] [] := trivial
def LR (r : Rp α) (h : PH) (v : Value) (l : List α) : Prop := ∃ css, Sl h r.k v css ∧ Rows r h css l
theorem LR.mono {v : Value} {l : List α} (u : LR r h v l) (e : h.le h') : LR r h' v l := by
  obtain ⟨css, a, b⟩ := u; exact ⟨css, a.mono e, b.mono e⟩
theorem LR.cast {v : Value} {l m : List α} (e : l = m) (u : LR r h v l) : LR r h v m := e ▸ u
theorem LR.nil (r : Rp α) (h : PH) (b : Option Addr) (c : Nat) : LR r h (.slice b 0 c) [] := ⟨[], Sl.nil h r.k b c, trivial⟩
theorem LR.shape {v : Value} {l : List α} (u : LR r h v l) : ∃ base cap, v = .slice base l.length cap ∧ l.length ≤ cap := by
  obtain ⟨css, a, b⟩ := u
  have := a.shape
  rwa [b.length] at this
theorem LR.at {base : Option Addr} {len cap : Nat} {l : List α} (u : LR r h (.slice base len cap) l) (d0 : α) {i : Nat} (hi : i < l.length) :
    ∃ b off arr e fz cs, base = some ⟨b, off, none⟩ ∧ h b = some (.cells arr e fz) ∧ cut arr (off + i * r.k) r.k = cs ∧ off + i * r.k + r.k ≤ arr.size ∧ r.R h cs (l.getD i d0) := by
  obtain ⟨css, a, b⟩ := u
  have hl : i < css.length := by rw [b.length]; exact hi
  have hc : css[i]? = some css[i] := List.getElem?_eq_getElem hl
  obtain ⟨bb, off, cap', arr, e, fz, ev, hb, _, hcut, _, hf⟩ := a.at hc
  cases ev
  exact ⟨bb, off, arr, e, fz, _, rfl, hb, hcut, hf, b.at hc d0⟩
theorem LR.take {base : Option Addr} {len cap : Nat} {l : List α} (u : LR r h (.slice base len cap) l) (m : Nat) (hm : m ≤ l.length) : LR r h (.slice base m cap) (l.take m) := by
  obtain ⟨css, a, b⟩ := u
  exact ⟨css.take m, a.take m (by rw [b.length]; exact hm), b.take m⟩
theorem LR.isNone {base : Option Addr} {len cap : Nat} {l : List α} (u : LR r h (.slice base len cap) l) (hb : base.isNone = true) : l = [] := by
  cases l with
  | nil => rfl
  | cons x l =>
    obtain ⟨b, off, _, _, _, _, e, _⟩ := u.at x (i := 0) (by simp)
    subst e; cases hb
def RelA (r : Rp α) (h : PH) (arr : Array Value) (l : List α) : Prop := ∃ css z, arr.toList = css.flatten ++ z ∧ Rows r h css l
theorem RelA.mono {arr : Array Value} {l : List α} (u : RelA r h arr l) (e : h.le h') : RelA r h' arr l := by
  obtain ⟨css, z, a, b⟩ := u; exact ⟨css, z, a, b.mono e⟩
theorem RelA.cast {arr : Array Value} {l m : List α} (e : l = m) (u : RelA r h arr l) : RelA r h arr m := e ▸ u
theorem RelA.size {arr : Array Value} {l : List α} (u : RelA r h arr l) : l.length * r.k ≤ arr.size := by
  obtain ⟨css, z, a, b⟩ := u
  have := congrArg List.length a
  rw [List.length_append, flatten_length b.lens, b.length] at this
  simp at this; omega
theorem cut_flat {k : Nat} : ∀ (css : List (List Value)) (z : List Value), (∀ cs ∈ css, cs.length = k) → ∀ i cs, css[i]? = some cs → ((css.flatten ++ z).drop (i * k)).take k = cs
  | [], z, _, i, cs, hi => by simp at hi
  | c :: css, z, hk, 0, cs, hi => by
    simp at hi; subst hi
    have hc := hk c (List.mem_cons_self ..)
    simp [List.append_assoc, List.take_left' hc]
  | c :: css, z, hk, i + 1, cs, hi => by
    have hc := hk c (List.mem_cons_self ..)
    rw [List.flatten_cons, List.append_assoc, Nat.add_mul, Nat.one_mul, Nat.add_comm, ← List.drop_drop, List.drop_left' hc]
    exact cut_flat css z (fun x hx => hk x (List.mem_cons_of_mem _ hx)) i cs (by simpa using hi)
theorem RelA.at {arr : Array Value} {l : List α} (u : RelA r h arr l) (d0 : α) {i : Nat} (hi : i < l.length) :
    ∃ cs, cut arr (i * r.k) r.k = cs ∧ i * r.k + r.k ≤ arr.size ∧ r.R h cs (l.getD i d0) := by
  have hs := u.size
  obtain ⟨css, z, a, b⟩ := u
  have hl : i < css.length := by rw [b.length]; exact hi
  have hc : css[i]? = some css[i] := List.getElem?_eq_getElem hl
  refine ⟨css[i], ?_, ?_, b.at hc d0⟩
  · unfold cut; rw [a]; exact cut_flat css z b.lens i _ hc
  · have : (i + 1) * r.k ≤ l.length * r.k := Nat.mul_le_mul_right _ hi
    rw [Nat.add_mul, Nat.one_mul] at this; omega
theorem LR.own {b cap len : Nat} {arr : Array Value} {l : List α} {e : TypeId} {fz : Nat × Nat} (hb : h b = some (.cells arr e fz)) (u : RelA r h arr l) (hl : l.length = len) (hc : len ≤ cap) : LR r h (.slice (some ⟨b, 0, none⟩) len cap) l := by
  subst hl
  have hs := u.size
  obtain ⟨css, z, a, bb⟩ := u
  refine ⟨css, ⟨some ⟨b, 0, none⟩, cap, by rw [bb.length], by rw [bb.length]; exact hc, bb.lens, .inr ⟨b, 0, arr, e, fz, rfl, hb, by rw [bb.length]; omega, ?_⟩⟩, bb⟩
  intro i cs hi
  unfold cut
  rw [a, Nat.zero_add]
  exact cut_flat css z bb.lens i cs hi
theorem RelA.lit {css : List (List Value)} {l : List α} (u : Rows r h css l) : RelA r h css.flatten.toArray l := ⟨css, [], by simp, u⟩
theorem putIn_toList : ∀ (cs : List Value) (arr : Array Value) (off : Nat), off + cs.length ≤ arr.size → (putIn arr off cs).toList = arr.toList.take off ++ cs ++ arr.toList.drop (off + cs.length)
  | [], arr, off, _ => by simp [putIn]
  | c :: cs, arr, off, hf => by
    simp only [List.length_cons] at hf
    have hlt : off < arr.toList.length := by simp; omega
    rw [putIn, putIn_toList cs _ _ (by simp; omega), Array.toList_setIfInBounds]
    rw [List.take_succ_eq_append_getElem (by simpa using hlt), List.take_set_of_le (Nat.le_refl _), List.drop_set_of_lt (by omega)]
    simp [Nat.add_comm, Nat.add_left_comm]
theorem flat_set {k : Nat} : ∀ (css : List (List Value)) (z : List Value), (∀ cs ∈ css, cs.length = k) → ∀ i cs, i < css.length → cs.length = k →
    (css.set i cs).flatten ++ z = (css.flatten ++ z).take (i * k) ++ cs ++ (css.flatten ++ z).drop (i * k + k)
  | [], z, _, i, cs, hi, _ => by simp at hi
  | c :: css, z, hk, 0, cs, hi, hl => by
    have hc := hk c (List.mem_cons_self ..)
    simp only [List.set_cons_zero, List.flatten_cons, Nat.zero_mul, List.take_zero, List.nil_append, Nat.zero_add, List.append_assoc]
    rw [List.drop_left' hc]
  | c :: css, z, hk, i + 1, cs, hi, hl => by
    have hc := hk c (List.mem_cons_self ..)
    have ih := flat_set css z (fun x hx => hk x (List.mem_cons_of_mem _ hx)) i cs (by simpa using hi) hl
    simp only [List.set_cons_succ, List.flatten_cons, List.append_assoc] at ih ⊢
    rw [ih, Nat.add_mul, Nat.one_mul]
    rw [show i * k + k = c.length + i * k by omega, List.take_length_add_append, show c.length + i * k + k = c.length + (i * k + k) by omega, List.drop_length_add_append]
    rw [show i * k + k = c.length + i * k by omega]
    simp [List.append_assoc]
theorem RelA.set {arr : Array Value} {l : List α} (u : RelA r h arr l) {i : Nat} (hi : i < l.length) {cs : List Value} {x : α} (v : r.R h cs x) : RelA r h (putIn arr (i * r.k) cs) (l.set i x) := by
  have hs := u.size
  obtain ⟨css, z, a, b⟩ := u
  have hc := r.len v
  have : (i + 1) * r.k ≤ l.length * r.k := Nat.mul_le_mul_right _ hi
  rw [Nat.add_mul, Nat.one_mul] at this
  refine ⟨css.set i cs, z, ?_, b.set i v⟩
  rw [putIn_toList cs arr _ (by omega), a, flat_set css z b.lens i cs (by rw [b.length]; exact hi) hc, hc]
theorem RelA.made {z : Value} {x : α} (n : Nat) {s : Nat} (hz : z.cells.size = s) (hk : s = r.k) (u : r.R h z.cells.toList x) : RelA r h (madeCells z.cells (n * s)) (List.replicate n x) := by
  subst hz
  rw [made_list]
  exact ⟨List.replicate n z.cells.toList, [], by simp, Rows.replicate u n⟩
def OwnL (r : Rp α) (lo : Nat) (h : PH) (w : World) (e : TypeId) (v : Value) (l : List α) : Prop := ∃ css, Own lo h w e r.k v l.length css.flatten ∧ Rows r h css l
theorem OwnL.nil (r : Rp α) (lo : Nat) (h : PH) (w : World) (e : TypeId) : OwnL r lo h w e (.slice none 0 0) [] := ⟨[], Own.nil lo h w e r.k, trivial⟩
theorem OwnL.cast {lo : Nat} {w : World} {e : TypeId} {v : Value} {l m : List α} (q : l = m) (u : OwnL r lo h w e v l) : OwnL r lo h w e v m := q ▸ u
theorem OwnL.gr {lo : Nat} {w w' : World} {e : TypeId} {v : Value} {l : List α} (u : OwnL r lo h w e v l) (g : Gr h w h' w') : OwnL r lo h' w' e v l := by
  obtain ⟨css, a, b⟩ := u; exact ⟨css, a.gr g, b.mono g.le⟩
theorem OwnL.put {lo : Nat} {w w' : World} {e : TypeId} {v : Value} {l : List α} {b : Nat} {o : Obj} (u : OwnL r lo h w e v l) (p : Put w w' b o) (hn : Value.blk v ≠ some b) : OwnL r lo h w' e v l := by
  obtain ⟨css, a, bb⟩ := u
  exact ⟨css, a.keep fun i hi _ => ⟨p.other i (fun e => hn (by rw [hi, e])), fun x => x⟩, bb⟩
theorem OwnL.lt {lo : Nat} {w : World} {e : TypeId} {v : Value} {l : List α} (u : OwnL r lo h w e v l) {b : Nat} (hb : Value.blk v = some b) : b < w.heap.size ∧ h b = none ∧ lo ≤ b := by
  obtain ⟨css, a, _⟩ := u
  rcases a.2 with ⟨rfl, _⟩ | ⟨b', cap, arr, rfl, h1, h2, h3, _⟩
  · cases hb
  · simp [Value.blk] at hb; subst hb
    exact ⟨(Array.getElem?_eq_some_iff.1 h3).1, h2, h1⟩
theorem OwnL.ow {lo : Nat} {h0 : PH} {w0 w w' : World} {e : TypeId} {v : Value} {l : List α} (u : OwnL r lo h w e v l) (g : Gr h0 w0 h w) (hlo : w0.heap.size ≤ lo) (p : Ow w w' (Value.blk v)) : Gr h0 w0 h w' :=
  g.ow p fun i hi => ⟨(u.lt hi).2.1, Nat.le_trans hlo (u.lt hi).2.2⟩
theorem OwnL.shape {lo : Nat} {w : World} {e : TypeId} {v : Value} {l : List α} (u : OwnL r lo h w e v l) : ∃ base cap, v = .slice base l.length cap ∧ l.length ≤ cap := by
  obtain ⟨css, a, _⟩ := u
  rcases a.2 with ⟨rfl, hl⟩ | ⟨b', cap, arr, rfl, _, _, _, h4, _⟩
  · exact ⟨none, 0, by rw [hl], by omega⟩
  · exact ⟨_, cap, rfl, h4⟩
theorem OwnL.freeze {lo : Nat} {h0 : PH} {w0 w : World} {e : TypeId} {v : Value} {l : List α} (g : Gr h0 w0 h w) (hlo : w0.heap.size ≤ lo) (u : OwnL r lo h w e v l) :
    ∃ h', Gr h0 w0 h' w ∧ h.le h' ∧ (∀ i, h i = none → Value.blk v ≠ some i → h' i = none) ∧ LR r h' v l := by
  obtain ⟨css, a, b⟩ := u
  obtain ⟨h', g', le, fr, sl⟩ := Own.freeze g hlo b.lens b.length a
  exact ⟨h', g', le, fun i hi hn => fr i hi (fun e => hn e.symm), css, sl, b.mono le⟩
theorem OwnL.block {lo : Nat} {w : World} {e : TypeId} {v : Value} {l : List α} (u : OwnL r lo h w e v l) (hne : l ≠ []) :
    ∃ b cap arr, v = .slice (some ⟨b, 0, none⟩) l.length cap ∧ lo ≤ b ∧ h b = none ∧ w.heap[b]? = some (.cells arr e (0, 0)) ∧ l.length ≤ cap ∧ RelA r h arr l := by
  obtain ⟨css, a, b⟩ := u
  rcases a.2 with ⟨rfl, hl⟩ | ⟨bb, cap, arr, rfl, h1, h2, h3, h4, h5, h6⟩
  · exact absurd (List.eq_nil_of_length_eq_zero hl) hne
  · exact ⟨bb, cap, arr, rfl, h1, h2, h3, h4, css, arr.toList.drop (l.length * r.k), by rw [← h6, List.take_append_drop], b⟩
end
section ops
variable {P : Program} {n : Nat} {ρ : Env} {w : World} {K : Env → World → Prop} {d : Tmp} {ty : TypeId} {pos : String} {af : Array Edge} {g : Option (Nat × Bool)} {α : Type} {r : Rp α}
theorem OpW.indexL {h : PH} {t e : TypeId} {x y : Operand} {k : IntKind} {base : Option Addr} {len cap j : Nat} {l : List α} {i : Int} (d0 : α) {s : Nat} (hsk : s = r.k) (ht : IsUnd P t (.slice e)) (hs : IsSize P e s) (hx : ev n ρ x = .slice base len cap)
    (u : LR r h (.slice base len cap) l) (hy : ev n ρ y = .int k i) (hj : j < l.length) (hi : i = (j : Int))
    (hk : ∀ b o arr e' fz cs, h b = some (.cells arr e' fz) → cut arr o s = cs → o + s ≤ arr.size → r.R h cs (l.getD j d0) → K (upd ρ d (.pointer (some ⟨b, o, none⟩))) w) :
    OpW P n ⟨some d, .indexAddr t x y, ty, pos, af, g⟩ ρ w K := by
  subst hsk
  obtain ⟨b, off, arr, e', fz, cs, rfl, hb, hv, hf, hr⟩ := u.at d0 hj
  obtain ⟨_, _, he, _⟩ := u.shape
  cases he
  exact OpW.indexAddr ht hs hx hy (by omega) (by rw [hi]; simp) (hk b (off + j * r.k) arr e' fz cs hb hv hf hr)
theorem OpW.appendL {lo : Nat} {h : PH} {t e : TypeId} {i : TypeInfo} {z : Value} {a b : Operand} {v x : Value} {l m : List α}
    (ht : P.underlying t = some (.slice e)) (hi : P.info? e = some i) (hz : i.zero = some z) (hzs : z.cells.size = i.size) (hik : i.size = r.k)
    (hs : Sat h w) (hlo : lo ≤ w.heap.size) (ha : ev n ρ a = v) (hb : ev n ρ b = x) (own : OwnL r lo h w e v l) (u : LR r h x m)
    (h63 : l.length + m.length ≤ 9223372036854775807) (hbb : (l.length + m.length) * i.bytes ≤ 140737488355328)
    (hk : ∀ v' w', OwnL r lo h w' e v' (l ++ m) → Ow w w' (Value.blk v) → (∀ b, Value.blk v' = some b → Value.blk v = some b ∨ w.heap.size ≤ b) → K (upd ρ d v') w') :
    OpW P n ⟨some d, .call ⟨.builtin .append, #[a, b], #[t, t]⟩, ty, pos, af, g⟩ ρ w K := by
  obtain ⟨css, o, rr⟩ := own
  obtain ⟨css2, s2, rr2⟩ := u
  rw [← hik] at o s2
  have rd := s2.reads hs
  rw [rr2.length] at rd
  refine OpW.append (P := P) (ty := ty) ht hi hz hzs hs hlo ha hb o rd rr2.ones h63 hbb ?_
  intro v' w' o' ow hbl
  refine hk v' w' ⟨css ++ css2, ?_, rr.append rr2⟩ ow hbl
  rw [List.flatten_append, List.length_append, ← hik]; exact o'
end ops
theorem Ow.keep {w w' : World} {v : Value} {b : Nat} {o : Obj} (p : Ow w w' (Value.blk v)) (hn : Value.blk v ≠ some b) (hb : w.heap[b]? = some o) : w'.heap[b]? = some o := by
  rw [p.block b (blk_lt hb) (fun e => hn e.symm)]; exact hb
section
variable {α β : Type} {r : Rp α} {r2 : Rp β} {h h' : PH}
theorem LR.at' {base : Option Addr} {len cap : Nat} {l : List α} (u : LR r h (.slice base len cap) l) (d0 : α) {s : Nat} (hsk : s = r.k) {i : Nat} (hi : i < l.length) :
    ∃ b off arr e fz cs, base = some ⟨b, off, none⟩ ∧ h b = some (.cells arr e fz) ∧ cut arr (off + i * s) s = cs ∧ off + i * s + s ≤ arr.size ∧ r.R h cs (l.getD i d0) := by
  subst hsk; exact u.at d0 hi
theorem RelA.at' {arr : Array Value} {l : List α} (u : RelA r h arr l) (d0 : α) {s : Nat} (hsk : s = r.k) {i : Nat} (hi : i < l.length) :
    ∃ cs, cut arr (i * s) s = cs ∧ i * s + s ≤ arr.size ∧ r.R h cs (l.getD i d0) := by
  subst hsk; exact u.at d0 hi
theorem RelA.storeA {w w' : World} {b off : Nat} {arr : Array Value} {e : TypeId} {l : List α} (u : RelA r h arr l) {cs : List Value} (q : Put w w' b (.cells (putIn arr off cs) e (0, 0))) {i : Nat} (ho : off = i * r.k) (hi : i < l.length) {x : α} (v : r.R h cs x) :
    ∃ arr', w'.heap[b]? = some (.cells arr' e (0, 0)) ∧ RelA r h arr' (l.set i x) := by
  subst ho; exact ⟨_, q.at_, u.set hi v⟩
theorem RelA.store1 {w w' : World} {b off : Nat} {arr : Array Value} {e : TypeId} {l : List α} (u : RelA r h arr l) {c : Value} (q : Put w w' b (.cells (arr.setIfInBounds off c) e (0, 0))) {i : Nat} (ho : off = i * r.k) (hi : i < l.length) {x : α} (v : r.R h [c] x) :
    ∃ arr', w'.heap[b]? = some (.cells arr' e (0, 0)) ∧ RelA r h arr' (l.set i x) := by
  subst ho; exact ⟨_, q.at_, u.set hi v⟩
theorem RelA.fit {arr : Array Value} {l : List α} (u : RelA r h arr l) {s : Nat} (hsk : s = r.k) {i : Nat} (hi : i < l.length) : i * s + s ≤ arr.size := by
  obtain ⟨_, _, h2, _⟩ := u.at' (l.getD 0 (l[i])) hsk hi; exact h2
theorem OwnL.ow2 {lo : Nat} {w w' : World} {e : TypeId} {v v2 : Value} {l : List α} (u : OwnL r lo h w e v2 l) (p : Ow w w' (Value.blk v)) (hn : ∀ b, Value.blk v2 = some b → Value.blk v ≠ some b) : OwnL r lo h w' e v2 l := by
  obtain ⟨css, a, bb⟩ := u
  exact ⟨css, a.keep fun i hi hlt => ⟨p.block i hlt (fun e => hn i hi e.symm), fun x => x⟩, bb⟩
theorem OwnL.nn {lo : Nat} {w : World} {e : TypeId} {v v' v2 : Value} {l : List α} (u : OwnL r lo h w e v2 l) (hbl : ∀ b, Value.blk v' = some b → Value.blk v = some b ∨ w.heap.size ≤ b) (hn : ∀ b, Value.blk v2 = some b → Value.blk v ≠ some b) :
    ∀ b, Value.blk v2 = some b → Value.blk v' ≠ some b := fun b hb e => by
  rcases hbl b e with h | h
  · exact hn b hb h
  · have := (u.lt hb).1; omega
theorem LR.own' {b cap len : Nat} {arr : Array Value} {l : List α} {e : TypeId} {fz : Nat × Nat} (hb : h b = some (.cells arr e fz)) {css : List (List Value)} (ha : arr = css.flatten.toArray) (u : Rows r h css l) (hl : l.length = len) (hc : len ≤ cap) : LR r h (.slice (some ⟨b, 0, none⟩) len cap) l := by
  subst ha; exact LR.own hb (RelA.lit u) hl hc
end
end Go.Ear
namespace Go.Ear
end Go.Ear
namespace Go.Ear
def fr0 : Fr := ⟨false, [], []⟩
theorem F.open {h : PH} {cs : List Value} {f : Fr} (u : F h (.agg cs.toArray) f) : ∃ b1 c1 b2 c2, cs = [.bool f.neg, .slice b1 f.n.length c1, .slice b2 f.d.length c2] ∧ f.n.length ≤ c1 ∧ f.d.length ≤ c2 ∧
    U h (.slice b1 f.n.length c1) f.n ∧ U h (.slice b2 f.d.length c2) f.d := by
  obtain ⟨b1, c1, b2, c2, e, h1, h2, u1, u2⟩ := u.shape
  refine ⟨b1, c1, b2, c2, ?_, h1, h2, u1, u2⟩
  cases cs
  · simp at e
  · simpa using e
def rpF : Rp Fr where
  k := 3
  R := fun h cs f => F h (.agg cs.toArray) f
  len := fun u => by obtain ⟨_, _, _, _, rfl, _⟩ := F.open u; rfl
  one := fun u c hc => by
    obtain ⟨_, _, _, _, rfl, _⟩ := F.open u
    simp only [List.mem_cons, List.not_mem_nil, or_false] at hc
    rcases hc with rfl | rfl | rfl <;> rfl
  mono := fun u e => F.mono u e
def rpK : Rp Rat where
  k := 3
  R := fun h cs q => Kn h (.agg cs.toArray) q
  len := fun u => rpF.len u
  one := fun u => rpF.one u
  mono := fun u e => F.mono u e
def rpL {α : Type} (r : Rp α) : Rp (List α) where
  k := 1
  R := fun h cs l => ∃ v, cs = [v] ∧ LR r h v l
  len := fun ⟨_, e, _⟩ => by rw [e]; rfl
  one := fun ⟨v, e, u⟩ c hc => by
    subst e
    obtain ⟨b, cp, rfl, _⟩ := u.shape
    simp at hc; subst hc; rfl
  mono := fun ⟨v, e, u⟩ le => ⟨v, e, u.mono le⟩
def rpI : Rp Int where
  k := 1
  R := fun _ cs n => cs = [.int .i64 n] ∧ -9223372036854775808 ≤ n ∧ n ≤ 9223372036854775807
  len := fun e => by rw [e.1]; rfl
  one := fun e c hc => by rw [e.1] at hc; simp at hc; subst hc; rfl
  mono := fun e _ => e
def rpB : Rp Bool where
  k := 1
  R := fun _ cs n => cs = [.bool n]
  len := fun e => by rw [e]; rfl
  one := fun e c hc => by rw [e] at hc; simp at hc; subst hc; rfl
  mono := fun e _ => e
theorem Kn.mk {h : PH} {s : Bool} {x y : Value} {n : Nat} {l : List Nat} {q : Rat} (a : N h x n) (b : U h y l) (hs : s = decide (q.num < 0)) (hn : n = q.num.natAbs) (hd : l = if q.den = 1 then [] else digs q.den) : Kn h (.agg #[.bool s, x, y]) q := by
  subst hs hn hd; exact ⟨x, y, rfl, a, b⟩
theorem Fz (h : PH) : F h (.agg #[.bool false, .slice none 0 0, .slice none 0 0]) fr0 := F.mk (U.nil h none 0) (U.nil h none 0)
theorem frK_zero : frK 0 = fr0 := by unfold frK fr0; simp [digs_zero]
theorem Qn.open {h : PH} {cs : List Value} {q : Rat} (u : Qn h (.agg cs.toArray) q) : ∃ b1 c1 b2 c2, cs = [.bool (decide (q.num < 0)), .slice b1 (digs q.num.natAbs).length c1, .slice b2 (digs q.den).length c2] ∧ (digs q.num.natAbs).length ≤ c1 ∧ (digs q.den).length ≤ c2 ∧
    N h (.slice b1 (digs q.num.natAbs).length c1) q.num.natAbs ∧ N h (.slice b2 (digs q.den).length c2) q.den := F.open u
def rpQ : Rp Rat where
  k := 3
  R := fun h cs q => Qn h (.agg cs.toArray) q
  len := fun u => rpF.len u
  one := fun u => rpF.one u
  mono := fun u e => F.mono u e
end Go.Ear
namespace Go.Ear
theorem cmpN_one {d : Nat} : cmpN d 1 = 0 ↔ d = 1 := by
  have h1 := cmpN_neg (a := d) (b := 1)
  have h2 := cmpN_pos (a := d) (b := 1)
  constructor
  · intro h; omega
  · rintro rfl; exact cmpN_eq 1
end Go.Ear
namespace Go.Ear
end Go.Ear
namespace Go.Ear
def bf (f : Fr) : Nat := max (max f.n.length f.d.length) 1
theorem bf_n (f : Fr) : f.n.length ≤ bf f := by unfold bf; omega
theorem bf_d (f : Fr) : f.d.length ≤ bf f := by unfold bf; omega
theorem bf_pos (f : Fr) : 1 ≤ bf f := by unfold bf; omega
theorem bq_pos (q : Rat) : 1 ≤ bq q := Nat.le_trans (sz_pos q.den_nz) (bq_den q)
theorem F.bq {h : PH} {v : Value} {f : Fr} (u : F h v f) : bq f.rat ≤ bf f := bq_rat u.fit
theorem bf_frK (q : Rat) : bf (frK q) = bq q := by
  have hp := bq_pos q
  have h1 := bq_K q
  apply Nat.le_antisymm
  · unfold bf; omega
  · unfold Go.Ear.bq
    have hd : sz q.den ≤ max (frK q).d.length 1 := by
      unfold frK
      simp only
      by_cases e : q.den = 1
      · rw [if_pos e, e, sz_one]; omega
      · rw [if_neg e]; unfold sz; omega
    have hn : sz q.num.natAbs = (frK q).n.length := rfl
    unfold bf; omega
theorem bq_zero : bq 0 = 1 := by
  unfold bq
  rw [show (0 : Rat).num.natAbs = 0 from rfl, show (0 : Rat).den = 1 from rfl, sz_one, sz_eq_zero.2 rfl]; rfl
theorem bq_one : bq 1 = 1 := by
  unfold bq
  rw [show (1 : Rat).num.natAbs = 1 from rfl, show (1 : Rat).den = 1 from rfl, sz_one]; rfl
def wts (l : List Fr) : Nat := (l.map fun f => bf f + 1).sum
theorem wts_nil : wts [] = 0 := rfl
theorem wts_cons (f : Fr) (l : List Fr) : wts (f :: l) = bf f + 1 + wts l := rfl
theorem len_wts : ∀ (l : List Fr), l.length ≤ wts l
  | [] => Nat.le_refl _
  | f :: l => by rw [wts_cons]; have := len_wts l; simp; omega
theorem wts_take : ∀ (l : List Fr) (k : Nat), wts (l.take k) ≤ wts l
  | [], k => by simp [wts]
  | f :: l, 0 => by simp [wts]
  | f :: l, k + 1 => by rw [List.take_succ_cons, wts_cons, wts_cons]; have := wts_take l k; omega
theorem bf_mem : ∀ {l : List Fr} {f : Fr}, f ∈ l → bf f + 1 ≤ wts l
  | g :: l, f, h => by
    rw [wts_cons]
    rcases List.mem_cons.1 h with rfl | h
    · omega
    · have := bf_mem h; omega
theorem bf_getD (l : List Fr) (k : Nat) : bf (l.getD k fr0) ≤ wts l + 1 := by
  rw [List.getD_eq_getElem?_getD]
  cases h : l[k]? with
  | none => simp [bf, fr0]
  | some x => have := bf_mem (List.mem_of_getElem? h); simp; omega
theorem LF.bq {h : PH} {v : Value} {l : List Fr} (u : LR rpF h v l) : ∀ x ∈ l, Go.Ear.bq x.rat ≤ bf x := by
  intro x hx
  obtain ⟨base, cap, rfl, _⟩ := u.shape
  obtain ⟨i, hi, rfl⟩ := List.getElem_of_mem hx
  obtain ⟨b, off, arr, e, fz, cs, _, _, _, _, hr⟩ := u.at fr0 hi
  have := F.bq hr
  rwa [List.getD_eq_getElem?_getD, List.getElem?_eq_getElem hi] at this
def foldA (q : Rat) (l : List Fr) : Rat := l.foldl (fun s f => s + f.rat) q
def foldM (q : Rat) (l : List Fr) : Rat := l.foldl (fun s f => s * f.rat) q
def sumF (l : List Fr) : Rat := foldA 0 l
def prodF (l : List Fr) : Rat := foldM 1 l
theorem take_snoc {α : Type} {l : List α} {k : Nat} (d : α) (hk : k < l.length) : l.take (k + 1) = l.take k ++ [l.getD k d] := by
  rw [List.take_succ_eq_append_getElem hk, List.getD_eq_getElem?_getD, List.getElem?_eq_getElem hk]; rfl
theorem foldA_succ {q : Rat} {l : List Fr} {k : Nat} (hk : k < l.length) : foldA q (l.take (k + 1)) = foldA q (l.take k) + (l.getD k fr0).rat := by
  rw [take_snoc fr0 hk]; unfold foldA; rw [List.foldl_append]; rfl
theorem foldM_succ {q : Rat} {l : List Fr} {k : Nat} (hk : k < l.length) : foldM q (l.take (k + 1)) = foldM q (l.take k) * (l.getD k fr0).rat := by
  rw [take_snoc fr0 hk]; unfold foldM; rw [List.foldl_append]; rfl
theorem bq_foldA : ∀ (l : List Fr) (q : Rat), (∀ x ∈ l, bq x.rat ≤ bf x) → bq (foldA q l) ≤ bq q + wts l
  | [], q, _ => Nat.le_refl _
  | f :: l, q, h => by
    have h1 := bq_foldA l (q + f.rat) (fun x hx => h x (List.mem_cons_of_mem _ hx))
    have h2 := bq_add q f.rat
    have h3 := h f (List.mem_cons_self ..)
    rw [wts_cons]
    show bq (foldA (q + f.rat) l) ≤ _
    omega
theorem bq_foldM : ∀ (l : List Fr) (q : Rat), (∀ x ∈ l, bq x.rat ≤ bf x) → bq (foldM q l) ≤ bq q + wts l
  | [], q, _ => Nat.le_refl _
  | f :: l, q, h => by
    have h1 := bq_foldM l (q * f.rat) (fun x hx => h x (List.mem_cons_of_mem _ hx))
    have h2 := bq_mul q f.rat
    have h3 := h f (List.mem_cons_self ..)
    rw [wts_cons]
    show bq (foldM (q * f.rat) l) ≤ _
    omega
theorem sumF2 (a b : Fr) : sumF [a, b] = a.rat + b.rat := by show 0 + a.rat + b.rat = _; rw [Rat.zero_add]
theorem prodF2 (a b : Fr) : prodF [a, b] = a.rat * b.rat := by show 1 * a.rat * b.rat = _; rw [Rat.one_mul]
theorem wts2 (a b : Fr) : wts [a, b] = bf a + bf b + 2 := by rw [wts_cons, wts_cons, wts_nil]; omega
theorem bq_sub (a b : Rat) : bq (a - b) ≤ bq a + bq b + 1 := by
  rw [Rat.sub_eq_add_neg]
  have := bq_add a (-b)
  rwa [bq_neg] at this
theorem bq_inv' (a : Rat) : bq a⁻¹ ≤ bq a := by
  by_cases h : a = 0
  · subst h; rw [Rat.inv_zero]; exact Nat.le_refl _
  · rw [bq_inv h]; exact Nat.le_refl _
theorem bq_div (a b : Rat) : bq (a / b) ≤ bq a + bq b := by
  rw [Rat.div_def]
  exact Nat.le_trans (bq_mul _ _) (Nat.add_le_add_left (bq_inv' b) _)
theorem bq_intc {n : Int} (h1 : -9223372036854775808 ≤ n) (h2 : n ≤ 9223372036854775807) : bq (n : Rat) ≤ 2 := bq_int n (by omega)
def errDiv (b : Rat) : Int := if b = 0 then 3 else 0
theorem div_zero' (a : Rat) : a / 0 = 0 := by rw [Rat.div_def, Rat.inv_zero, Rat.mul_zero]
def wholeQ (q : Rat) : Int := if -9223372036854775808 ≤ q.floor ∧ q.floor ≤ 9223372036854775807 then q.floor else 0
def wholeE (q : Rat) : Int := if -9223372036854775808 ≤ q.floor ∧ q.floor ≤ 9223372036854775807 then 0 else 6
def floorQ (q : Rat) (d : Int) : Rat := if d < 1 then 0 else ((q * (d : Rat)).floor : Rat) * (d : Rat)⁻¹
def powQ (q : Rat) (n : Int) : Rat := if n > 4096 ∨ n < -4096 then 0 else if n < 0 then q⁻¹ ^ n.natAbs else q ^ n.natAbs
def powE (q : Rat) (n : Int) : Int := if n > 4096 ∨ n < -4096 then 5 else if n < 0 ∧ q = 0 then 3 else 0
def sizeQ (q : Rat) : Nat := bitlen q.num.natAbs + bitlen q.den
end Go.Ear
namespace Go.Ear
theorem bitlen_sz (n : Nat) : bitlen n ≤ 32 * sz n := by
  by_cases h : n = 0
  · subst h; rw [bitlen_zero]; omega
  · have h1 : (digs n).length ≠ 0 := fun e => h (len_zero.1 e)
    rw [bitlen_digs h1]
    have h2 := Fit.getD (digs_fit n) ((digs n).length - 1)
    have h3 := bitlen_lt (s := 32) h2
    unfold sz; omega
end Go.Ear
