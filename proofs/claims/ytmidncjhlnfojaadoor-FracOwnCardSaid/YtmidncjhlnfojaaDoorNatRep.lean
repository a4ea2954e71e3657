/- About package frac: NatRep. -/
import Derived.Test.YtmidncjhlnfojaaDoorEarFn
set_option linter.all false
namespace Go.Ear
def B32 : Nat := 4294967296
theorem B32_eq : B32 = 4294967296 := rfl
def val : List Nat → Nat
  | [] => 0
  | x :: l => x + B32 * val l
def digs (n : Nat) : List Nat := if _h : n = 0 then [] else (n % B32) :: digs (n / B32)
termination_by n
decreasing_by exact Nat.div_lt_self (Nat.pos_of_ne_zero _h) (by decide)
def trim : List Nat → List Nat
  | [] => []
  | x :: l => if trim l = [] ∧ x = 0 then [] else x :: trim l
def Fit (l : List Nat) : Prop := ∀ x ∈ l, x < 4294967296
def cellsU (l : List Nat) : List (List Value) := l.map fun (x : Nat) => [Value.int .u32 (x : Int)]
def U (h : PH) (v : Value) (l : List Nat) : Prop := Fit l ∧ Sl h 1 v (cellsU l)
theorem U.mono {h h' : PH} {v : Value} {l : List Nat} (u : U h v l) (e : h.le h') : U h' v l := ⟨u.1, u.2.mono e⟩
def N (h : PH) (v : Value) (n : Nat) : Prop := U h v (digs n)
theorem N.mono {h h' : PH} {v : Value} {n : Nat} (u : N h v n) (e : h.le h') : N h' v n := U.mono u e
theorem cellsU_length (l : List Nat) : (cellsU l).length = l.length := by simp [cellsU]
theorem U.shape {h : PH} {v : Value} {l : List Nat} (u : U h v l) : ∃ base cap, v = .slice base l.length cap ∧ l.length ≤ cap := by
  obtain ⟨base, cap, e, hc⟩ := u.2.shape
  rw [cellsU_length] at e hc
  exact ⟨base, cap, e, hc⟩
theorem U.at {h : PH} {base : Option Addr} {len cap : Nat} {l : List Nat} (u : U h (.slice base len cap) l) {i : Nat} (hi : i < l.length) :
    ∃ b off arr e fz, base = some ⟨b, off, none⟩ ∧ h b = some (.cells arr e fz) ∧ arr[off + i]? = some (.int .u32 (l.getD i 0 : Nat)) := by
  have hc : (cellsU l)[i]? = some [Value.int .u32 (l.getD i 0 : Nat)] := by
    simp [cellsU, List.getElem?_map, List.getElem?_eq_getElem hi, List.getD_eq_getElem?_getD]
  obtain ⟨b, off, cap', arr, e, fz, ev, hb, _, hcut, _⟩ := u.2.at hc
  cases ev
  rw [Nat.mul_one] at hcut
  exact ⟨b, off, arr, e, fz, rfl, hb, cut_one hcut⟩
theorem Fit.getD {l : List Nat} (f : Fit l) (i : Nat) : l.getD i 0 < 4294967296 := by
  rw [List.getD_eq_getElem?_getD]
  cases h : l[i]? with
  | none => simp
  | some x => simpa using f x (List.mem_of_getElem? h)
theorem U.take {h : PH} {base : Option Addr} {len cap : Nat} {l : List Nat} (u : U h (.slice base len cap) l) (m : Nat) (hm : m ≤ l.length) : U h (.slice base m cap) (l.take m) := by
  refine ⟨fun x hx => u.1 x (List.mem_of_mem_take hx), ?_⟩
  have := u.2.take m (by rw [cellsU_length]; exact hm)
  simpa [cellsU, List.map_take] using this
theorem trim_snoc_zero (l : List Nat) : trim (l ++ [0]) = trim l := by
  induction l with
  | nil => rfl
  | cons x l ih => simp only [List.cons_append, trim, ih]
theorem trim_take_zero {l : List Nat} {k : Nat} (hk : k < l.length) (h0 : l.getD k 0 = 0) : trim (l.take (k + 1)) = trim (l.take k) := by
  rw [List.take_succ_eq_append_getElem hk]
  have : l[k] = 0 := by simpa [List.getD_eq_getElem?_getD, List.getElem?_eq_getElem hk] using h0
  rw [this, trim_snoc_zero]
theorem trim_of_last {l : List Nat} (h : l = [] ∨ l.getD (l.length - 1) 0 ≠ 0) : trim l = l := by
  induction l with
  | nil => rfl
  | cons x l ih =>
    simp only [trim]
    cases l with
    | nil =>
      have : x ≠ 0 := by rcases h with h | h; · cases h
                         · simpa using h
      simp [trim, this]
    | cons y l =>
      have h2 : (y :: l).getD ((y :: l).length - 1) 0 ≠ 0 := by
        rcases h with h | h
        · cases h
        · simpa [List.getD_eq_getElem?_getD] using h
      have := ih (.inr h2)
      rw [this]
      simp
end Go.Ear
