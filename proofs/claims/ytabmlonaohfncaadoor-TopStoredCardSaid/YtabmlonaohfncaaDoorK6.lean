/- K6: a part of the proofs about what is clipped and stored: how the program's functions run, and what they compute, for every input. -/
import Derived.Test.YtabmlonaohfncaaDoorK5
set_option linter.all false
set_option linter.unusedVariables false
set_option maxRecDepth 20000
set_option maxHeartbeats 4000000
set_option synthInstance.maxSize 1000
namespace Go.E3
open Go Go.Ear Go.Proofs
def edB (e : List Int) (n : Int) (i : Nat) : Bool := decide ((e.getD i 0 < 0 ∨ n < e.getD i 0) ∨ 0 < i ∧ e.getD i 0 ≤ e.getD (i - 1) 0)
def edO (e : List Int) (n : Int) : Bool := decide (2 ≤ e.length) && !(List.range e.length).any (edB e n)
theorem range_any_succ {p : Nat → Bool} {k : Nat} (h : (List.range k).any p = false) (h2 : p k = false) : (List.range (k + 1)).any p = false := by
  rw [List.range_succ, List.any_append, h]; simp [h2]
theorem range_any_true {p : Nat → Bool} {k n : Nat} (h : k < n) (h2 : p k = true) : (List.range n).any p = true := List.any_eq_true.2 ⟨k, List.mem_range.2 h, h2⟩
section
variable {l : List Int} {S T : SV}
instance rEdges_c {n : Int} [j : Vw (lv rI) S l] : Ct Tryd.prog 21 [S, iv n] (l.length ≤ 1099511627776) (bv (edO l n)) := by
  refine ct1 j (ctI Tryd.call21 Tryd.func21 Tryd.ntmps21 rfl Tryd.results21 rfl [] fun h0 w0 h1 => ?_)
  repeat first | refine nx ?_ | intro _
  unfold edO
  refine gIf (fun c => ?_) fun c => ?_
  · repeat first | refine nx ?_ | intro _
    rw [decide_eq_false (by omega)]; rfl
  repeat first | refine nx ?_ | intro _
  refine gLp (fun k : Nat => [(5, iv k)]) (fun _ => []) (fun k => k ≤ l.length ∧ (List.range k).any (edB l n) = false) (fun k => l.length - k) 0 ⟨Nat.zero_le _, rfl⟩ fun k ⟨hk, hn⟩ => ?_
  repeat first | refine nx ?_ | intro _
  refine gIf (fun c1 => ?_) fun c1 => ?_
  · repeat first | refine nx ?_ | intro _
    refine gIf (fun c2 => ?_) fun c2 => ?_ <;> repeat first | refine nx ?_ | intro _
    · rw [range_any_true c1 (by unfold edB; exact decide_eq_true (by simpa using c2))]; simp
    · exact gBk (k + 1) ⟨by omega, range_any_succ hn (by unfold edB; exact decide_eq_false (by simpa using c2))⟩ (by omega)
  · repeat first | refine nx ?_ | intro _
    rw [show k = l.length by omega] at hn
    rw [hn, decide_eq_true (by omega)]; rfl
instance edged_c {n : Int} [j : Vw (lv rI) S l] : Ct Tryd.prog 49 [S, iv n] (l.length ≤ 1099511627776) (bv (edO l n)) := by
  refine ct1 j (ctI Tryd.call49 Tryd.func49 Tryd.ntmps49 rfl Tryd.results49 rfl [] fun h0 w0 h1 => ?_)
  repeat first | refine nx ?_ | intro _
  unfold edO
  refine gLp (fun k : Nat => [(9, iv k)]) (fun _ => []) (fun k => k ≤ l.length ∧ (List.range k).any (edB l n) = false) (fun k => l.length - k) 0 ⟨Nat.zero_le _, rfl⟩ fun k ⟨hk, hn⟩ => ?_
  repeat first | refine nx ?_ | intro _
  refine gIf (fun c1 => ?_) fun c1 => ?_
  · repeat first | refine nx ?_ | intro _
    refine gIf (fun c2 => ?_) fun c2 => ?_ <;> repeat first | refine nx ?_ | intro _
    · rw [range_any_true c1 (by unfold edB; exact decide_eq_true (by simpa using c2))]; simp
    · exact gBk (k + 1) ⟨by omega, range_any_succ hn (by unfold edB; exact decide_eq_false (by simpa using c2))⟩ (by omega)
  · repeat first | refine nx ?_ | intro _
    rw [show k = l.length by omega] at hn
    rw [hn]; simp
end
def padI (m : Int) : Int := if m ≤ 1 then 1 else if m ≤ 2 then 2 else if m ≤ 4 then 4 else if m ≤ 8 then 8 else if m ≤ 16 then 16 else if m ≤ 32 then 32 else if m ≤ 64 then 64 else 0
instance rPadded_c {m : Int} : Ct Tryd.prog 23 [iv m] True (iv (padI m)) := by
  refine (ctI Tryd.call23 Tryd.func23 Tryd.ntmps23 rfl Tryd.results23 rfl [] fun h0 w0 _ => ?_)
  repeat first | refine nx ?_ | intro _
  refine gLp (fun k : Nat => [(3, iv k)]) (fun _ => []) (fun k => (k = 1 ∨ k = 2 ∨ k = 4 ∨ k = 8 ∨ k = 16 ∨ k = 32 ∨ k = 64) ∧ (k = 1 ∨ (k : Int) < 2 * m)) (fun k => 64 - k) 1 ⟨.inl rfl, .inl rfl⟩ fun k ⟨hk, hn⟩ => ?_
  repeat first | refine nx ?_ | intro _
  refine gIf (fun c1 => ?_) fun c1 => ?_
  · repeat first | refine nx ?_ | intro _
    exact gBk (k * 2) ⟨by omega, by omega⟩ (by omega)
  · repeat first | refine nx ?_ | intro _
    refine gIf (fun c2 => ?_) fun c2 => ?_ <;> repeat first | refine nx ?_ | intro _
    · unfold padI; split <;> omega
    · unfold padI; split <;> omega
instance fitting_c {m : Int} : Ct Tryd.prog 50 [iv m] (m ≤ 64) (iv (padI m)) := by
  refine (ctI Tryd.call50 Tryd.func50 Tryd.ntmps50 rfl Tryd.results50 rfl [] fun h0 w0 _ => ?_)
  repeat first | refine nx ?_ | intro _
  refine gLp (fun k : Nat => [(3, iv k)]) (fun _ => []) (fun k => (k = 1 ∨ k = 2 ∨ k = 4 ∨ k = 8 ∨ k = 16 ∨ k = 32 ∨ k = 64) ∧ (k = 1 ∨ (k : Int) < 2 * m)) (fun k => 64 - k) 1 ⟨.inl rfl, .inl rfl⟩ fun k ⟨hk, hn⟩ => ?_
  repeat first | refine nx ?_ | intro _
  refine gIf (fun c1 => ?_) fun c1 => ?_
  · repeat first | refine nx ?_ | intro _
    exact gBk (k * 2) ⟨by omega, by omega⟩ (by omega)
  · repeat first | refine nx ?_ | intro _
    unfold padI; split <;> omega
section
variable {P : Program} {n : Nat} {c : Bool} {loc env : EL} {B : List Res} {ms : List Nat} {d : Nat} {x y : Operand} {t u : TypeId} {i j : Int}
instance (priority := low) andI [lx : Lu n c loc env x (.cv (.int .i64 i))] [ly : Lu n c loc env y (.cv (.int .i64 j))] : St P n c loc env B ms d (.binOp .and t x y u) (0 ≤ i ∧ i < 9223372036854775808 ∧ 0 ≤ j ∧ j < 9223372036854775808) (iv ((i.toNat &&& j.toNat : Nat) : Int)) := .p fun q sd _ _ _ _ _ s _ _ _ _ _ k => OpW.bits (.inl rfl) (cvE (lx.h q (s.f x))) (cvE (ly.h q (s.f y))) (fun w => by
  have h1 : i = ((i.toNat : Nat) : Int) := by omega
  have h2 : j = ((j.toNat : Nat) : Int) := by omega
  have := and_i64 (P := P) (a := i.toNat) (b := j.toNat) (by omega) (by omega) w
  rw [← h1, ← h2] at this; exact this) (k _ rfl)
end
theorem len_and : ∀ k : _root_.Fin 65, 1 ≤ k.val → (k.val &&& (k.val - 1) = 0 ↔ (k.val = 1 ∨ k.val = 2 ∨ k.val = 4 ∨ k.val = 8 ∨ k.val = 16 ∨ k.val = 32 ∨ k.val = 64)) := by decide +kernel
instance possible_c {n : Int} : Ct Tryd.prog 48 [iv n] True (bv (isLen n)) := by
  refine (ctI Tryd.call48 Tryd.func48 Tryd.ntmps48 rfl Tryd.results48 rfl [] fun h0 w0 _ => ?_)
  repeat first | refine nx ?_ | intro _
  unfold isLen
  by_cases h : 1 ≤ n ∧ n ≤ 64
  · have := len_and ⟨n.toNat, by omega⟩ (by show 1 ≤ n.toNat; omega)
    dsimp only at this
    have e : (n - 1).toNat = n.toNat - 1 := by omega
    rw [e]
    rw [decide_eq_true h.1, decide_eq_true h.2]
    by_cases h2 : n.toNat &&& (n.toNat - 1) = 0
    · have h3 := this.1 h2
      simp [h2]; omega
    · have h3 := fun h => h2 (this.2 h)
      simp [h2]; omega
  · have h3 : ¬ (n = 1 ∨ n = 2 ∨ n = 4 ∨ n = 8 ∨ n = 16 ∨ n = 32 ∨ n = 64) := by omega
    rw [decide_eq_false h3]
    by_cases h4 : 1 ≤ n
    · rw [decide_eq_false (show ¬ n ≤ 64 by omega)]; simp
    · rw [decide_eq_false h4]; simp
def vcB (d : Nat) (x : List Int) : Bool := decide (((x.length < 1 ∨ 64 < x.length) ∨ x.length ≠ d) ∨ x.any (outI (-1048576) 1048576) = true)
theorem vcB_iff {d : Nat} {x : List Int} : vcB d x = true ↔ ((x.length < 1 ∨ 64 < x.length) ∨ x.length ≠ d) ∨ x.any (outI (-1048576) 1048576) = true := decide_eq_true_iff
theorem vcB_any {v : List (List Int)} {k : Nat} (h : k < v.length) (hb : vcB (v.getD 0 []).length (v.getD k []) = true) : v.any (vcB (v.getD 0 []).length) = true := List.any_eq_true.2 ⟨_, getD_mem' v [] h, hb⟩
def vcO (v : List (List Int)) : Bool := !v.any (vcB (v.getD 0 []).length)
section
variable {v : List (List Int)} {S T : SV}
instance rVectors_c [j : Vw (lv (rL rI)) S v] : Ct Tryd.prog 24 [S] (v.length ≤ 1099511627776) (bv (vcO v)) := by
  refine ct1 j (ctI Tryd.call24 Tryd.func24 Tryd.ntmps24 rfl Tryd.results24 rfl [] fun h0 w0 h1 => ?_)
  repeat first | refine nx ?_ | intro _
  unfold vcO
  refine gLp (fun k : Nat => [(3, iv k)]) (fun _ => []) (fun k => k ≤ v.length ∧ (v.take k).any (vcB (v.getD 0 []).length) = false) (fun k => v.length - k) 0 ⟨Nat.zero_le _, rfl⟩ fun k ⟨hk, hn⟩ => ?_
  repeat first | refine nx ?_ | intro _
  refine gIf (fun c1 => ?_) fun c1 => ?_
  · repeat first | refine nx ?_ | intro _
    refine gIf (fun c2 => ?_) fun c2 => ?_ <;> repeat first | refine nx ?_ | intro _
    · rw [vcB_any c1 (vcB_iff.2 (by simpa only [Classical.not_not] using c2))]; rfl
    · exact gBk (k + 1) ⟨by omega, any_take_succ [] c1 hn (Bool.eq_false_iff.2 fun e => c2 (by simpa only [Classical.not_not] using vcB_iff.1 e))⟩ (by omega)
  · repeat first | refine nx ?_ | intro _
    rw [List.take_of_length_le (by omega)] at hn
    rw [hn]; rfl
def vcE (v : List (List Int)) : Int := if 10000 < v.length then 5 else if vcO v = true then 0 else 2
instance vectors_c [j : Vw (lv (rL rI)) S v] : Ct Tryd.prog 59 [S] (v.length ≤ 1099511627776) (iv (vcE v)) := by
  refine ct1 j (ctI Tryd.call59 Tryd.func59 Tryd.ntmps59 rfl Tryd.results59 rfl [] fun h0 w0 h1 => ?_)
  repeat first | refine nx ?_ | intro _
  unfold vcE
  refine gIf (fun c => ?_) fun c => ?_
  · rw [if_pos c]; repeat first | refine nx ?_ | intro _
    trivial
  rw [if_neg c]
  repeat first | refine nx ?_ | intro _
  unfold vcO
  refine gLp (fun k : Nat => [(10, iv k)]) (fun _ => []) (fun k => k ≤ v.length ∧ (v.take k).any (vcB (v.getD 0 []).length) = false) (fun k => v.length - k) 0 ⟨Nat.zero_le _, rfl⟩ fun k ⟨hk, hn⟩ => ?_
  repeat first | refine nx ?_ | intro _
  refine gIf (fun c1 => ?_) fun c1 => ?_
  · repeat first | refine nx ?_ | intro _
    refine gIf (fun c2 => ?_) fun c2 => ?_ <;> repeat first | refine nx ?_ | intro _
    · rw [vcB_any c1 (vcB_iff.2 (by
        rcases c2 with ((h | h) | h) | h
        · exact .inl (.inr h)
        · exact .inl (.inl (.inl h))
        · exact .inl (.inl (.inr h))
        · exact .inr (Classical.not_not.1 h)))]; rfl
    · exact gBk (k + 1) ⟨by omega, any_take_succ [] c1 hn (Bool.eq_false_iff.2 fun e => c2 (by
        rcases vcB_iff.1 e with ((h | h) | h) | h
        · exact .inl (.inl (.inr h))
        · exact .inl (.inr h)
        · exact .inl (.inl (.inl h))
        · exact .inr (Classical.not_not.2 h)))⟩ (by omega)
  · repeat first | refine nx ?_ | intro _
    rw [List.take_of_length_le (by omega)] at hn
    rw [hn]; rfl
def bkO (v : List (List Int)) : Bool := decide ((1 ≤ v.length ∧ v.length ≤ 256) ∧ vcO v = true)
theorem vcE_ok {v : List (List Int)} (h : v.length ≤ 10000) : vcE v = 0 ↔ vcO v = true := by
  unfold vcE; rw [if_neg (by omega)]; split <;> simp_all
instance rBook_c [j : Vw (lv (rL rI)) S v] : Ct Tryd.prog 7 [S] (v.length ≤ 1099511627776) (bv (bkO v)) := by
  refine ct1 j (ctI Tryd.call7 Tryd.func7 Tryd.ntmps7 rfl Tryd.results7 rfl [] fun h0 w0 h1 => ?_)
  repeat first | refine nx ?_ | intro _
  unfold bkO
  simp
instance codebook_c [j : Vw (lv (rL rI)) S v] : Ct Tryd.prog 60 [S] (v.length ≤ 1099511627776) (bv (bkO v)) := by
  refine ct1 j (ctI Tryd.call60 Tryd.func60 Tryd.ntmps60 rfl Tryd.results60 rfl [] fun h0 w0 h1 => ?_)
  repeat first | refine nx ?_ | intro _
  unfold bkO
  by_cases h : v.length ≤ 256
  · rw [Bool.eq_iff_iff]; simp [h, vcE_ok (v := v) (by omega)]
  · have h2 : ¬ (1 ≤ v.length ∧ v.length ≤ 256) := by omega
    rw [decide_eq_false h]; simp [h2]
def fitE (v b : List (List Int)) : Int := if 10000 < v.length ∨ 10000 < b.length then 5 else if (vcE v ≠ 0 ∨ bkO b ≠ true) ∨ 0 < v.length ∧ (v.getD 0 []).length ≠ (b.getD 0 []).length then 2 else 0
instance fits_c {b : List (List Int)} [j : Vw (lv (rL rI)) S v] [k : Vw (lv (rL rI)) T b] : Ct Tryd.prog 35 [S, T] (v.length ≤ 1099511627776 ∧ b.length ≤ 1099511627776) (iv (fitE v b)) := by
  refine ct2 j k (ctI Tryd.call35 Tryd.func35 Tryd.ntmps35 rfl Tryd.results35 rfl [] fun h0 w0 ⟨h1, h2⟩ => ?_)
  repeat first | refine nx ?_ | intro _
  unfold fitE
  refine gIf (fun c => ?_) fun c => ?_
  · rw [if_pos c]; repeat first | refine nx ?_ | intro _
    trivial
  rw [if_neg c]
  have hs : ¬(vcE v ≠ 0 ∨ ¬bkO b = true) ∧ 0 < v.length → True ∧ 0 < b.length := fun ⟨e, _⟩ => by
    have e2 : bkO b = true := Classical.not_not.1 fun q => e (.inr q)
    have := (of_decide_eq_true e2).1
    exact ⟨trivial, by omega⟩
  repeat first | refine nx ?_ | intro _
  refine gIf (fun c2 => ?_) fun c2 => ?_
  · rw [if_pos c2]; repeat first | refine nx ?_ | intro _
    trivial
  · rw [if_neg c2]; repeat first | refine nx ?_ | intro _
    trivial
end
end Go.E3
set_option linter.unusedVariables false
set_option maxRecDepth 20000
set_option maxHeartbeats 4000000
set_option synthInstance.maxSize 1000
namespace Go.E3
open Go Go.Ear Go.Proofs
def winW (m : Nat) (n d : Int) : Int := if m = 2 then rnd (4096 * (n + 1 - max d (-d))) (n + 1) else if m = 3 then rnd (4096 * ((n + 1) * (n + 1) - d * d)) ((n + 1) * (n + 1)) else 4096
def winI (m n i : Nat) : Int := winW m n (2 * (i : Int) - ((n : Int) - 1))
def winL (m n : Nat) : List Int := (List.range n).map (winI m n)
abbrev winS (n d : Int) : Prop := (1 ≤ n ∧ n ≤ 4096) ∧ -4096 ≤ d ∧ d ≤ 4096
theorem sq_nn (d : Int) : 0 ≤ d * d := by
  by_cases h : 0 ≤ d
  · exact Int.mul_nonneg h h
  · rw [← Int.neg_mul_neg]; exact Int.mul_nonneg (by omega) (by omega)
theorem sq_bd {n d : Int} (h : winS n d) : (0 < (n + 1) * (n + 1) ∧ (n + 1) * (n + 1) ≤ 16785409) ∧ 0 ≤ d * d ∧ d * d ≤ 16777216 := by
  obtain ⟨⟨h1, h2⟩, h3, h4⟩ := h
  refine ⟨⟨Int.mul_pos (by omega) (by omega), ?_⟩, sq_nn d, ?_⟩
  · calc (n + 1) * (n + 1) ≤ 4097 * 4097 := Int.mul_le_mul (by omega) (by omega) (by omega) (by omega)
      _ = 16785409 := rfl
  · by_cases h : 0 ≤ d
    · calc d * d ≤ 4096 * 4096 := Int.mul_le_mul h4 h4 h (by omega)
        _ = 16777216 := rfl
    · rw [← Int.neg_mul_neg]
      calc (-d) * (-d) ≤ 4096 * 4096 := Int.mul_le_mul (by omega) (by omega) (by omega) (by omega)
        _ = 16777216 := rfl
theorem winW_bd {m : Nat} {n d : Int} (h : winS n d) (hd : -n < d ∧ d < n) : 0 ≤ winW m n d ∧ winW m n d ≤ 4096 := by
  have hb := sq_bd h
  unfold winW
  split
  · exact rnd_pos (by omega) (by omega) (by omega)
  · split
    · have : 0 ≤ (n + 1) * (n + 1) - d * d := by
        have h1 : d * d ≤ (n + 1) * (n + 1) := by
          by_cases h0 : 0 ≤ d
          · exact Int.mul_le_mul (by omega) (by omega) h0 (by omega)
          · rw [← Int.neg_mul_neg d d]; exact Int.mul_le_mul (by omega) (by omega) (by omega) (by omega)
        omega
      exact rnd_pos (by omega) (by omega) (by omega)
    · omega
theorem winI_bd {m n i : Nat} (hn : n ≤ 4096) (hi : i < n) : 0 ≤ winI m n i ∧ winI m n i ≤ 4096 := winW_bd (by omega) (by omega)
def shF : Nat → Value
  | 0 => .nilFunc
  | k + 1 => .func (.func (88 + k)) #[] #[]
theorem shF_one : ∀ k, (SV.cv (shF k)).one = true
  | 0 => rfl
  | _ + 1 => rfl
def rSh : Rp (Int × Nat) := mkRp 2 (fun x => [iv x.1, .cv (shF x.2)]) (fun _ => rfl) (fun x => by simp only [List.all_cons, shF_one, List.all_nil]; rfl)
instance : RpC rSh (fun x => [iv x.1, .cv (shF x.2)]) := ⟨Iff.rfl⟩
instance : Rk rSh 2 := ⟨rfl⟩
instance : D0 (Int × Nat) (0, 0) := ⟨trivial⟩
instance : RT Tryd.prog 118 (Int × Nat) rSh 16 (0, 0) := ⟨Tryd.sizeOf118, _, _, ⟨Tryd.type118, rfl, rfl, rfl, rfl⟩, fun _ => ⟨rfl, rfl, trivial⟩⟩
theorem rdSh {x : Int} {k : Nat} {v : Value} (e : v = shF k) : Rd rSh (.ag [iv x, .cv v]) (x, k) := ⟨fun ⟨vs, h, u⟩ => by
  match vs, u with
  | [_, _], ⟨a, b, _⟩ => subst h; exact ⟨a, (by rw [← e]; exact b), trivial⟩⟩
instance {x : Int} : Rd rSh (.ag [iv x, .cv (.func (.func 88) #[] #[])]) (x, 1) := rdSh rfl
instance {x : Int} : Rd rSh (.ag [iv x, .cv (.func (.func 89) #[] #[])]) (x, 2) := rdSh rfl
instance {x : Int} : Rd rSh (.ag [iv x, .cv (.func (.func 90) #[] #[])]) (x, 3) := rdSh rfl
section
variable {n d : Int}
instance sh1_c : Ct Tryd.prog 88 [iv n, iv d] (winS n d) (iv (winW 1 n d)) := by
  refine (ctI Tryd.call88 Tryd.func88 Tryd.ntmps88 rfl Tryd.results88 rfl [] fun h0 w0 h => ?_)
  repeat first | refine nx ?_ | intro _
  rfl
instance sh2_c : Ct Tryd.prog 89 [iv n, iv d] (winS n d) (iv (winW 2 n d)) := by
  refine (ctI Tryd.call89 Tryd.func89 Tryd.ntmps89 rfl Tryd.results89 rfl [] fun h0 w0 ⟨⟨h1, h2⟩, h3, h4⟩ => ?_)
  repeat first | refine nx ?_ | intro _
  rfl
instance sh3_c : Ct Tryd.prog 90 [iv n, iv d] (winS n d) (iv (winW 3 n d)) := by
  refine (ctI Tryd.call90 Tryd.func90 Tryd.ntmps90 rfl Tryd.results90 rfl [] fun h0 w0 h => ?_)
  have ⟨⟨b1, b2⟩, b3, b4⟩ := sq_bd h
  obtain ⟨⟨h1, h2⟩, h3, h4⟩ := h
  repeat first | refine nx ?_ | intro _
  rfl
end
instance shF_fv {m : Nat} {n d : Int} {B : List Res} : Fv Tryd.prog (.cv (shF m)) [iv n, iv d] B ((1 ≤ m ∧ m ≤ 3) ∧ winS n d) (iv (winW m n d)) := ⟨fun ⟨hm, hs⟩ {w0 h w x vs} sat ow u a => by
  obtain rfl | rfl | rfl : m = 1 ∨ m = 2 ∨ m = 3 := by omega
  · exact (inferInstance : Fv Tryd.prog (.cv (.func (.func 88) #[] #[])) [iv n, iv d] B (winS n d) (iv (winW 1 n d))).h hs sat ow u a
  · exact (inferInstance : Fv Tryd.prog (.cv (.func (.func 89) #[] #[])) [iv n, iv d] B (winS n d) (iv (winW 2 n d))).h hs sat ow u a
  · exact (inferInstance : Fv Tryd.prog (.cv (.func (.func 90) #[] #[])) [iv n, iv d] B (winS n d) (iv (winW 3 n d))).h hs sat ow u a⟩
def mixL {α : Type} (a b : List α) (i : Nat) : List α := a.take i ++ b.drop i
section
variable {α : Type} {a b : List α} {i : Nat} (d : α)
theorem mixL_len (h : a.length = b.length) : (mixL a b i).length = b.length := by unfold mixL; rw [List.length_append, List.length_take, List.length_drop]; omega
theorem mixL_all (h : a.length = b.length) (hi : b.length ≤ i) : mixL a b i = a := by unfold mixL; rw [List.take_of_length_le (by omega), List.drop_eq_nil_of_le hi, List.append_nil]
theorem mixL_at (h : a.length = b.length) {j : Nat} (hj : i ≤ j) : (mixL a b i).getD j d = b.getD j d := by
  unfold mixL
  rw [List.getD_eq_getElem?_getD, List.getD_eq_getElem?_getD]
  rcases Nat.lt_or_ge j b.length with q | q
  · rw [List.getElem?_append_right (by rw [List.length_take]; omega), List.getElem?_drop, List.length_take]
    congr 2; omega
  · rw [List.getElem?_eq_none q, List.getElem?_eq_none (by rw [show (a.take i ++ b.drop i) = mixL a b i from rfl, mixL_len h]; exact q)]
theorem mixL_at' (h : a.length = b.length) {j : Nat} (hj : j < i) : (mixL a b i).getD j d = a.getD j d := by
  unfold mixL
  rw [List.getD_eq_getElem?_getD, List.getD_eq_getElem?_getD]
  rcases Nat.lt_or_ge j a.length with q | q
  · rw [List.getElem?_append_left (by rw [List.length_take]; omega), List.getElem?_take, if_pos hj]
  · rw [List.getElem?_eq_none q, List.getElem?_eq_none (by rw [show (a.take i ++ b.drop i) = mixL a b i from rfl, mixL_len h]; omega)]
theorem mixL_set (h : a.length = b.length) (hi : i < a.length) : (mixL a b i).set i (a.getD i d) = mixL a b (i + 1) := by
  unfold mixL
  have hl : (a.take i).length = i := by rw [List.length_take]; omega
  rw [List.set_append_right (h := by omega), hl, Nat.sub_self, List.drop_eq_getElem_cons (by omega : i < b.length), List.set_cons_zero, List.take_succ_eq_append_getElem hi, List.append_assoc, List.getD_eq_getElem?_getD, List.getElem?_eq_getElem hi]
  rfl
end
@[reducible] def shL : List (Int × Nat) := [(1, 1), (2, 2), (3, 3)]
instance shapes_c : Ct Tryd.prog 82 [] True (lv rSh shL) := by
  refine (ctI Tryd.call82 Tryd.func82 Tryd.ntmps82 rfl Tryd.results82 rfl [] fun h0 w0 h => ?_)
  repeat first | refine nx ?_ | intro _
  trivial
section
variable {l : List (Int × Nat)} {S F : SV} {B : List Res} {sd : Int × Nat → Prop} {p : Int × Nat → Bool}
instance shIdx_c [j : Vw (lv rSh) S l] [fv : ∀ (m : Int × Nat), Fv Tryd.prog F [.ag [iv m.1, .cv (shF m.2)]] B (sd m) (bv (p m))] : CtB Tryd.prog 83 [S, F] B (l.length ≤ 1099511627776 ∧ ∀ m ∈ l, sd m) (iv (idxP p l)) := by
  refine cB1 j (ctB Tryd.call83 Tryd.func83 Tryd.ntmps83 rfl Tryd.results83 rfl [] fun h0 w0 ⟨hb, hs⟩ => ?_)
  repeat first | refine nx ?_ | intro _
  refine gLp (fun k : Nat => [(8, iv k)]) (fun _ => []) (fun k => k ≤ l.length ∧ (l.take k).any p = false) (fun k => l.length - k) 0 ⟨Nat.zero_le _, rfl⟩ fun k ⟨hk, hn⟩ => ?_
  repeat first | refine nx ?_ | intro _
  refine gIf (fun c => ?_) fun c => ?_
  · have hsd := hs _ (getD_in (0, 0) c)
    repeat first | refine nx ?_ | intro _
    refine gIf (fun c2 => ?_) fun c2 => ?_ <;> repeat first | refine nx ?_ | intro _
    · exact (idx_found (0, 0) c hn c2).symm
    · exact gBk (k + 1) ⟨by omega, any_take_succ (0, 0) c hn (Bool.eq_false_iff.2 c2)⟩ (by omega)
  · repeat first | refine nx ?_ | intro _
    exact (idx_none (by omega) hn).symm
end
instance win1_c {k x : Int} {m : Nat} : Ct Tryd.prog 84 [.ag [iv x, .cv (shF m)], .pk [iv k] 0] True (bv (decide (x = k))) := by
  refine (ctI Tryd.call84 Tryd.func84 Tryd.ntmps84 rfl Tryd.results84 rfl [] fun h0 w0 h => ?_)
  repeat first | refine nx ?_ | intro _
  trivial
def shI (k : Int) : Int := idxP (fun x : Int × Nat => decide (x.1 = k)) shL
theorem shI_ok {k : Int} : (1 ≤ k ∧ k ≤ 3 ∧ shI k = k - 1) ∨ ((k < 1 ∨ 3 < k) ∧ shI k = -1) := by
  by_cases h1 : k = 1
  · subst h1; exact .inl (by decide)
  by_cases h2 : k = 2
  · subst h2; exact .inl (by decide)
  by_cases h3 : k = 3
  · subst h3; exact .inl (by decide)
  refine .inr ⟨by omega, ?_⟩
  unfold shI idxP shL
  have e1 : decide ((1 : Int) = k) = false := decide_eq_false fun h => h1 h.symm
  have e2 : decide ((2 : Int) = k) = false := decide_eq_false fun h => h2 h.symm
  have e3 : decide ((3 : Int) = k) = false := decide_eq_false fun h => h3 h.symm
  simp [e1, e2, e3]
theorem winL_succ {m n k : Nat} : (List.range k).map (winI m n) ++ [winI m n k] = (List.range (k + 1)).map (winI m n) := by rw [List.range_succ, List.map_append]; rfl
theorem shL_at {j : Nat} (h : j < 3) : (shL.getD j (0, 0)).2 = j + 1 := by
  obtain rfl | rfl | rfl : j = 0 ∨ j = 1 ∨ j = 2 := by omega
  all_goals rfl
theorem winI_nat {m n i : Nat} : winW m (n : Int) (((2 * i : Nat) : Int) - ((n : Int) - 1)) = winI m n i := by unfold winI; rw [Int.natCast_mul]; rfl
instance Window_c {j N : Nat} {B : List Res} : CtR Tryd.prog 69 [iv ((j : Nat) : Int), iv ((N : Nat) : Int)] B ((1 ≤ N ∧ N ≤ 4096) ∧ 1 ≤ j ∧ j ≤ 3) Value (fun v => .tp [ov v, iv 0]) (fun v => rA rI 3 v (winL j N) :: B) := by
  refine (ctR Tryd.call69 Tryd.func69 Tryd.ntmps69 rfl Tryd.results69 rfl [] fun h0 w0 ⟨⟨h1, h2⟩, h3, h4⟩ => ?_)
  have hk := shI_ok (k := (j : Int))
  have e2 : shI (j : Int) = ((j - 1 : Nat) : Int) := by omega
  repeat first | refine nx ?_ | intro _
  rw [show idxP (fun m : Int × Nat => decide (m.1 = (j : Int))) shL = shI j from rfl, e2]
  refine gIf (fun c => absurd c (by omega)) fun c => ?_
  have hj3 : j - 1 < shL.length := by show j - 1 < 3; omega
  have hm := shL_at hj3
  rw [show j - 1 + 1 = j by omega] at hm
  repeat first | refine nx ?_ | intro _
  refine gNl rI 3 ?_
  refine gLp (fun s : Nat × Value => [(25, iv s.1), (8, ov s.2)]) (fun s => [rA rI 3 s.2 ((List.range s.1).map (winI j N))]) (fun s => s.1 ≤ N) (fun s => N - s.1) (0, .slice none 0 0) (Nat.zero_le _) fun ⟨i, v⟩ hi => ?_
  dsimp only at *
  repeat first | refine nx ?_ | intro _
  refine gIf (fun c1 => ?_) fun c1 => ?_
  · have hs : winS (N : Int) (2 * (i : Int) - ((N : Int) - 1)) := ⟨by omega, by omega⟩
    have hl : ((List.range i).map (winI j N)).length = i := by simp
    repeat first | refine nx ?_ | intro _
    rw [hm]
    rename_i v2
    rw [winI_nat, winL_succ]
    exact gBk (i + 1, v2) (by dsimp only; omega) (by dsimp only; omega)
  · have e : i = N := by omega
    subst e
    repeat first | refine nx ?_ | intro _
    exact gEr v
abbrev rwinB (k n : Int) : Prop := ((n < 1 ∨ 4096 < n) ∨ k < 1) ∨ 3 < k
instance rWindow_c {k n : Int} : Ct Tryd.prog 22 [iv k, iv n] True (.tp [lv rI (if rwinB k n then [] else winL k.toNat n.toNat), bv (!decide (rwinB k n))]) := by
  refine (ctI Tryd.call22 Tryd.func22 Tryd.ntmps22 rfl Tryd.results22 rfl [] fun h0 w0 _ => ?_)
  unfold rwinB
  repeat first | refine nx ?_ | intro _
  refine gIf (fun c => ?_) fun c => ?_
  · rw [if_pos c, decide_eq_true c]
    repeat first | refine nx ?_ | intro _
    trivial
  rw [if_neg c, decide_eq_false c]
  obtain ⟨j, hj, rfl⟩ : ∃ j : Nat, (1 ≤ j ∧ j ≤ 3) ∧ k = (j : Int) := ⟨k.toNat, by omega, by omega⟩
  obtain ⟨N, rfl⟩ : ∃ N : Nat, n = (N : Int) := ⟨n.toNat, by omega⟩
  rw [Int.toNat_natCast, Int.toNat_natCast]
  repeat first | refine nx ?_ | intro _
  refine gNl rI 3 ?_
  refine gLp (fun s : Nat × Value => [(7, iv s.1), (6, ov s.2)]) (fun s => [rA rI 3 s.2 ((List.range s.1).map (winI j N))]) (fun s => s.1 ≤ N) (fun s => N - s.1) (0, .slice none 0 0) (Nat.zero_le _) fun ⟨i, v⟩ hi => ?_
  dsimp only at *
  repeat first | refine nx ?_ | intro _
  refine gIf (fun c1 => ?_) fun c1 => ?_
  · have hs : winS (N : Int) (2 * (i : Int) - ((N : Int) - 1)) := ⟨by omega, by omega⟩
    have hl : ((List.range i).map (winI j N)).length = i := by simp
    repeat first | refine nx ?_ | intro _
    refine gIf (fun c2 => ?_) fun c2 => ?_
    · repeat first | refine nx ?_ | intro _
      refine gIf (fun c3 => absurd c3 (by omega)) fun c3 => ?_
      repeat first | refine nx ?_ | intro _
      rename_i v2
      have e1 : rnd (4096 * (((N + 1 : Nat) : Int) - max (((2 * i : Nat) : Int) - ((N : Int) - 1)) (-(((2 * i : Nat) : Int) - ((N : Int) - 1))))) ((N + 1 : Nat) : Int) = winI j N i := by
        rw [← winI_nat]; unfold winW; rw [if_pos c2]; rfl
      rw [e1, winL_succ]
      exact gBk (i + 1, v2) (by dsimp only; omega) (by dsimp only; omega)
    · have hN : (N + 1) * (N + 1) ≤ 16785409 := Nat.mul_le_mul (show N + 1 ≤ 4097 by omega) (show N + 1 ≤ 4097 by omega)
      have hN1 : 0 < (N + 1) * (N + 1) := Nat.mul_pos (by omega) (by omega)
      have b34 : ¬ ((((2 * i : Nat) : Int) - ((N : Int) - 1)) * (((2 * i : Nat) : Int) - ((N : Int) - 1)) < 0 ∨ 16777216 < (((2 * i : Nat) : Int) - ((N : Int) - 1)) * (((2 * i : Nat) : Int) - ((N : Int) - 1))) := by
        rw [show ((2 * i : Nat) : Int) - ((N : Int) - 1) = 2 * (i : Int) - ((N : Int) - 1) by omega]
        have := (sq_bd hs).2
        omega
      repeat first | refine nx ?_ | intro _
      refine gIf (fun c3 => ?_) fun c3 => ?_
      · repeat first | refine nx ?_ | intro _
        rename_i v2
        have e1 : rnd (4096 * ((((N + 1) * (N + 1) : Nat) : Int) - (((2 * i : Nat) : Int) - ((N : Int) - 1)) * (((2 * i : Nat) : Int) - ((N : Int) - 1)))) (((N + 1) * (N + 1) : Nat) : Int) = winI j N i := by
          rw [← winI_nat]; unfold winW; rw [if_neg c2, if_pos c3]; rfl
        rw [e1, winL_succ]
        exact gBk (i + 1, v2) (by dsimp only; omega) (by dsimp only; omega)
      · repeat first | refine nx ?_ | intro _
        rename_i v2
        have e1 : (4096 : Int) = winI j N i := by
          rw [← winI_nat]; unfold winW; rw [if_neg c2, if_neg c3]
        rw [e1, winL_succ]
        exact gBk (i + 1, v2) (by dsimp only; omega) (by dsimp only; omega)
  · have e : i = N := by omega
    subst e
    refine gFz v ?_
    repeat first | refine nx ?_ | intro _
    exact ⟨rfl, rfl⟩
structure Rcp where
  num : Int
  den : Int
  size : Int
  step : Int
  win : Int
  pts : Int
  edges : List Int
  cep : Int
  dif : Bool
  cen : Bool
@[reducible] def rcpv (r : Rcp) : SV := .ag [iv r.num, iv r.den, iv r.size, iv r.step, iv r.win, iv r.pts, lv rI r.edges, iv r.cep, bv r.dif, bv r.cen]
structure Rcp.Ok (r : Rcp) : Prop where
  shape : (0 < r.den ∧ r.den ≤ 1024) ∧ 0 ≤ r.num ∧ r.num ≤ r.den
  len : isLen r.pts = true
  size : 1 ≤ r.size ∧ r.size ≤ r.pts
  step : 1 ≤ r.step ∧ r.step ≤ 4096
  win : 1 ≤ r.win ∧ r.win ≤ 3
  edges : edO r.edges r.pts = true ∧ r.edges.length ≤ 33
  cep : 0 ≤ r.cep ∧ r.cep ≤ padI (r.edges.length - 1)
theorem Rcp.ok_iff {r : Rcp} : r.Ok ↔ ((0 < r.den ∧ r.den ≤ 1024) ∧ 0 ≤ r.num ∧ r.num ≤ r.den) ∧ isLen r.pts = true ∧ (1 ≤ r.size ∧ r.size ≤ r.pts) ∧ (1 ≤ r.step ∧ r.step ≤ 4096) ∧ (1 ≤ r.win ∧ r.win ≤ 3) ∧ (edO r.edges r.pts = true ∧ r.edges.length ≤ 33) ∧ 0 ≤ r.cep ∧ r.cep ≤ padI (r.edges.length - 1) :=
  ⟨fun ⟨a, b, c, d, e, f, g⟩ => ⟨a, b, c, d, e, f, g⟩, fun ⟨a, b, c, d, e, f, g⟩ => ⟨a, b, c, d, e, f, g⟩⟩
instance {r : Rcp} : Decidable r.Ok := decidable_of_iff _ r.ok_iff.symm
theorem isLen_pos {n : Int} (h : isLen n = true) : 1 ≤ n ∧ n ≤ 64 := by have := of_decide_eq_true h; omega
instance Valid_c {r : Rcp} : Ct Tryd.prog 28 [rcpv r] (r.edges.length ≤ 1099511627776) (bv (decide r.Ok)) := by
  refine (ctI Tryd.call28 Tryd.func28 Tryd.ntmps28 rfl Tryd.results28 rfl [] fun h0 w0 h => ?_)
  repeat first | refine nx ?_ | intro _
  refine gIf (fun c => ?_) fun c => ?_
  · repeat first | refine nx ?_ | intro _
    rw [decide_eq_false fun o => by
      obtain ⟨⟨a1, a2⟩, b, c1, d, e, f, g⟩ := r.ok_iff.1 o
      rcases c with ((((((((c | c) | c) | c) | c) | c) | c) | c) | c)
      all_goals first | omega | exact c b]
  repeat first | refine nx ?_ | intro _
  refine gIf (fun c2 => ?_) fun c2 => ?_
  · repeat first | refine nx ?_ | intro _
    rw [decide_eq_false fun o => by
      obtain ⟨⟨a1, a2⟩, b, c1, d, e, f, g⟩ := r.ok_iff.1 o
      rcases c2 with ((c2 | c2) | c2) | c2
      all_goals first | omega | exact c2 f.1]
  have c3 : r.edges.length ≤ 33 := by simp only [not_or] at c2; omega
  repeat first | refine nx ?_ | intro _
  rw [Bool.eq_iff_iff]
  simp only [Bool.and_eq_true, decide_eq_true_eq]
  rw [Rcp.ok_iff]
  simp only [not_or, Classical.not_not, Int.not_lt] at c c2
  constructor
  · rintro ⟨a, b⟩
    exact ⟨by omega, c.1.1.1.1.2, by omega, by omega, by omega, ⟨c2.2, c3⟩, a, b⟩
  · rintro ⟨_, _, _, _, _, _, a, b⟩
    exact ⟨a, b⟩
instance rValid_c {r : Rcp} : Ct Tryd.prog 6 [rcpv r] (r.edges.length ≤ 1099511627776) (bv (decide r.Ok)) := by
  refine (ctI Tryd.call6 Tryd.func6 Tryd.ntmps6 rfl Tryd.results6 rfl [] fun h0 w0 h => ?_)
  repeat first | refine nx ?_ | intro _
  refine gIf (fun c => ?_) fun c => ?_
  · repeat first | refine nx ?_ | intro _
    rw [decide_eq_false fun o => by
      obtain ⟨a, b, c1, d, e, f, g⟩ := r.ok_iff.1 o
      rcases c with ((((((c | c) | c) | c) | c) | c) | c) | c
      all_goals first | omega | exact c b | exact c f.1]
  have c3 : r.edges.length ≤ 33 := by simp only [not_or] at c; omega
  simp only [not_or, Classical.not_not, Int.not_lt] at c
  have hw := shI_ok (k := r.win)
  have hp := isLen_pos c.1.1.1.1.1.1.2
  repeat first | refine nx ?_ | intro _
  rw [Bool.eq_iff_iff]
  simp only [Bool.and_eq_true, decide_eq_true_eq, Bool.not_eq_true', decide_eq_false_iff_not]
  rw [Rcp.ok_iff]
  constructor
  · rintro ⟨⟨w, a⟩, b⟩
    exact ⟨by omega, c.1.1.1.1.1.1.2, by omega, by omega, by omega, ⟨c.1.2, c3⟩, a, b⟩
  · rintro ⟨_, _, _, _, _, _, a, b⟩
    exact ⟨⟨by omega, a⟩, b⟩
section
variable {l : List Int} {S : SV}
def wgI (l : List Int) (m : Nat) (i : Nat) : Int := rnd (l.getD i 0 * winI m l.length i) 4096
def wgL (l : List Int) (m : Nat) : List Int := (List.range l.length).map (wgI l m)
theorem wgI_bd {l : List Int} {m i : Nat} {B : Int} (hl : l.length ≤ 4096) (hi : i < l.length) (hB : 0 ≤ B) (h : -B ≤ l.getD i 0 ∧ l.getD i 0 ≤ B) : -B ≤ wgI l m i ∧ wgI l m i ≤ B := by
  have hw := winI_bd (m := m) hl hi
  unfold wgI
  refine rnd_bd (by omega) ?_ ?_
  · have h1 := Int.mul_le_mul_of_nonneg_right h.1 hw.1
    have h2 := Int.mul_le_mul_of_nonneg_left hw.2 hB
    rw [Int.neg_mul] at h1; omega
  · have h1 := Int.mul_le_mul_of_nonneg_right h.2 hw.1
    have h2 := Int.mul_le_mul_of_nonneg_left hw.2 hB
    omega
theorem wgL_at {l : List Int} {m i : Nat} (h : i < l.length) : (wgL l m).getD i 0 = wgI l m i := by
  unfold wgL; rw [List.getD_eq_getElem?_getD, List.getElem?_map, List.getElem?_range h]; rfl
theorem winL_at {m n i : Nat} (h : i < n) : (winL m n).getD i 0 = winI m n i := by
  unfold winL; rw [List.getD_eq_getElem?_getD, List.getElem?_map, List.getElem?_range h]; rfl
theorem mul_bd {a b A B : Int} (ha : -A ≤ a ∧ a ≤ A) (hb : 0 ≤ b ∧ b ≤ B) : -(A * B) ≤ a * b ∧ a * b ≤ A * B := by
  have hA : 0 ≤ A := by omega
  have h1 := Int.mul_le_mul_of_nonneg_right ha.1 hb.1
  have h2 := Int.mul_le_mul_of_nonneg_left hb.2 hA
  have h3 := Int.mul_le_mul_of_nonneg_right ha.2 hb.1
  rw [Int.neg_mul] at h1; omega
instance Weigh_c {k : Nat} [j : Vw (lv rI) S l] : Ct Tryd.prog 52 [S, iv ((k : Nat) : Int)] (((1 ≤ l.length ∧ l.length ≤ 4096) ∧ 1 ≤ k ∧ k ≤ 3) ∧ valE l = 0 ∧ ∀ i, i < l.length → -65536 ≤ l.getD i 0 ∧ l.getD i 0 ≤ 65536) (.tp [lv rI (wgL l k), iv 0]) := by
  refine ct1 j (ctI Tryd.call52 Tryd.func52 Tryd.ntmps52 rfl Tryd.results52 rfl [] fun h0 w0 ⟨⟨⟨h1, h2⟩, h3, h4⟩, h5, h6⟩ => ?_)
  repeat first | refine nx ?_ | intro _
  refine gIf (fun c => absurd h5 c) fun c => ?_
  repeat first | refine nx ?_ | intro _
  rename_i w
  refine gIf (fun c => absurd rfl c) fun c => ?_
  repeat first | refine nx ?_ | intro _
  refine gLp (fun i : Nat => [(28, iv i)]) (fun i => [rA rI 3 w (mixL (wgL l k) (winL k l.length) i)]) (fun i => i ≤ l.length) (fun i => l.length - i) 0 (Nat.zero_le _) fun i hi => ?_
  have hlw : (winL k l.length).length = l.length := by simp [winL]
  have hlg : (wgL l k).length = l.length := by simp [wgL]
  have hll : (mixL (wgL l k) (winL k l.length) i).length = l.length := by rw [mixL_len (hlg.trans hlw.symm)]; exact hlw
  repeat first | refine nx ?_ | intro _
  refine gIf (fun c1 => ?_) fun c1 => ?_
  · have hg : (mixL (wgL l k) (winL k l.length) i).getD i 0 = winI k l.length i := by rw [mixL_at 0 (hlg.trans hlw.symm) (Nat.le_refl _), winL_at c1]
    have hw := mul_bd (h6 i c1) (winI_bd (m := k) h2 c1)
    have hp : ¬ (l.getD i 0 * winI k l.length i < -268435456 ∨ 268435456 < l.getD i 0 * winI k l.length i) := by omega
    clear hw
    repeat first | refine nx ?_ | intro _
    rw [hg]
    repeat first | refine nx ?_ | intro _
    rw [show rnd (l.getD i 0 * winI k l.length i) 4096 = (wgL l k).getD i 0 from (wgL_at c1).symm, mixL_set 0 (hlg.trans hlw.symm) (by omega)]
    exact gBk (i + 1) (by omega) (by omega)
  · have e : i = l.length := by omega
    subst e
    refine gFz w ?_
    repeat first | refine nx ?_ | intro _
    exact ⟨mixL_all (hlg.trans hlw.symm) (by omega), trivial⟩
end
end Go.E3
set_option linter.unusedVariables false
set_option maxRecDepth 20000
set_option maxHeartbeats 4000000
set_option synthInstance.maxSize 1000
namespace Go.E3
open Go Go.Ear Go.Proofs
def cosC : List Int := [16384, 16379, 16364, 16340, 16305, 16261, 16207, 16143, 16069, 15986, 15893, 15791, 15679, 15557, 15426, 15286, 15137, 14978, 14811, 14635, 14449, 14256, 14053, 13842, 13623, 13395, 13160, 12916, 12665, 12406, 12140, 11866, 11585, 11297, 11003, 10702, 10394, 10080, 9760, 9434, 9102, 8765, 8423, 8076, 7723, 7366, 7005, 6639, 6270, 5897, 5520, 5139, 4756, 4370, 3981, 3590, 3196, 2801, 2404, 2006, 1606, 1205, 804, 402, 0]
def TabC (h : PH) : Prop := ∃ e fz, h 0 = some (.cells (cosC.map fun z => Value.int .i64 z).toArray e fz)
def rG : Res where
  fp := fun _ => False
  pr := fun h _ => TabC h
  st := fun le _ _ ⟨e, fz, a⟩ => ⟨e, fz, le _ _ a⟩
  fz := fun _ => True
  fzm := fun _ _ => trivial
  frz := fun {h0 w0 h w} g _ _ => ⟨h, g, PH.le.refl h, fun _ x _ => x, trivial⟩
class HG (B : List Res) : Prop where h : ∀ {w0 h w}, OwnB w0 B h w → TabC h
instance {B : List Res} : HG (rG :: B) := ⟨fun o => o.1⟩
instance {B : List Res} : HG (bo rG :: B) := ⟨fun o => o.1⟩
instance (priority := 50) {x : Res} {B : List Res} [i : HG B] : HG (x :: B) := ⟨fun o => i.h o.2.2.2⟩
instance (priority := 60) {B : List Res} [i : HG B] : HG (B.map bo) := ⟨fun o => i.h o.unbo⟩
theorem cosC_len : cosC.length = 65 := rfl
theorem cosC_bd : ∀ j : _root_.Fin 65, -16384 ≤ cosC.getD j.val 0 ∧ cosC.getD j.val 0 ≤ 16384 := by decide +kernel
theorem cosC_bd' (j : Nat) : -16384 ≤ cosC.getD j 0 ∧ cosC.getD j 0 ≤ 16384 := by
  by_cases h : j < 65
  · exact cosC_bd ⟨j, h⟩
  · rw [getD_off (by rw [cosC_len]; omega)]; omega
section
variable {P : Program} {n : Nat} {c : Bool} {loc env : EL} {B : List Res} {ms : List Nat} {d : Nat} {x y : Operand} {t u : TypeId} {i : Int} {a : Nat} {k : IntKind}
class TAr (P : Program) (t : TypeId) (m : outParam Nat) (e : outParam TypeId) : Prop where h : IsUnd P t (.array m e)
instance : TAr Tryd.prog 120 65 3 := ⟨Tryd.underlying120⟩
theorem OpW.indexArr {ρ : Env} {w : World} {K : Env → World → Prop} {pos : String} {af : Array Edge} {g : Option (Tmp × Bool)} {ty : TypeId} {t e : TypeId} {x y : Operand} {b off l sz : Nat} {i : Int} {o : Nat} (ht : IsUnd P t (.array l e)) (hs : IsSize P e sz) (hx : ev n ρ x = .pointer (some ⟨b, off, none⟩))
    (hy : ev n ρ y = .int k i) (h : 0 ≤ i ∧ i < l) (ho : off + i.toNat * sz = o) (hk : K (upd ρ d (.pointer (some ⟨b, o, none⟩))) w) :
    OpW P n ⟨some d, .indexAddr t x y, ty, pos, af, g⟩ ρ w K := by
  refine OpW.valD ?_ hk
  subst ho
  simp [execOp, Instr.indexAt, Instr.sureAddr, asIntOf, hx, hy, ht.run w, hs w, h, addr_add]
instance {sd : Prop} {g l : Nat} {e : TypeId} [ta : TAr P t l e] [tz : TZ P e 1] [ly : Lu n c loc env y (.cv (.int k i))] [tn : TN i a sd] : St P n c loc env B ms d (.indexAddr t (.global g) y) (sd ∧ a < l) (.cv (.pointer (some ⟨g, a, none⟩))) := .p fun qc hsd _ _ _ _ _ s _ _ _ _ _ k => by
  have hi := tn.e hsd.1
  have := hsd.2
  exact OpW.indexArr ta.h tz.h rfl (cvE (ly.h qc (s.f y))) (by omega) rfl (k _ (by rw [hi]; simp; rfl))
instance [ta : TA P t false] [lx : Lu n c loc env x (.cv (.pointer (some ⟨0, a, none⟩)))] [hg : HG B] : St P n c loc env B ms d (.load t x) (a < 65) (iv (cosC.getD a 0)) := .p fun q hsd _ _ _ _ _ s _ _ _ _ _ k => by
  obtain ⟨e, fz, hb⟩ := hg.h s.ow
  refine OpW.load1 (v := .int .i64 (cosC.getD a 0)) ta.h (cvE (lx.h q (s.f x))) (s.gr.sat _ _ hb) ?_ (k _ rfl)
  rw [List.getElem?_toArray, List.getElem?_map, List.getD_eq_getElem?_getD, List.getElem?_eq_getElem (by rw [cosC_len]; exact hsd)]
  rfl
end
def cosF (j : Nat) : Int := if j % 256 ≤ 64 then cosC.getD (j % 256) 0 else if j % 256 ≤ 128 then -cosC.getD (128 - j % 256) 0 else if j % 256 ≤ 192 then -cosC.getD (j % 256 - 128) 0 else cosC.getD (256 - j % 256) 0
theorem cosF_bd (j : Nat) : -16384 ≤ cosF j ∧ cosF j ≤ 16384 := by
  have h1 := cosC_bd' (j % 256)
  have h2 := cosC_bd' (128 - j % 256)
  have h3 := cosC_bd' (j % 256 - 128)
  have h4 := cosC_bd' (256 - j % 256)
  unfold cosF; repeat' split
  all_goals omega
instance cosine_c {j : Nat} {B : List Res} [hg : HG B] : CtB Tryd.prog 85 [iv ((j : Nat) : Int)] B (j ≤ 1099511627776) (iv (cosF j)) := by
  refine (ctB Tryd.call85 Tryd.func85 Tryd.ntmps85 rfl Tryd.results85 rfl [] fun h0 w0 hj => ?_)
  have h2 := cosC_bd' (128 - j % 256)
  have h3 := cosC_bd' (j % 256 - 128)
  have hm : j % 256 < 256 := Nat.mod_lt _ (by decide)
  unfold cosF
  repeat first | refine nx ?_ | intro _
  refine gIf (fun c => ?_) fun c => ?_
  · rw [if_pos c]
    repeat first | refine nx ?_ | intro _
    trivial
  rw [if_neg c]
  repeat first | refine nx ?_ | intro _
  refine gIf (fun c => ?_) fun c => ?_
  · rw [if_pos c]
    repeat first | refine nx ?_ | intro _
    trivial
  rw [if_neg c]
  repeat first | refine nx ?_ | intro _
  refine gIf (fun c => ?_) fun c => ?_
  · rw [if_pos c]
    repeat first | refine nx ?_ | intro _
    trivial
  rw [if_neg c]
  repeat first | refine nx ?_ | intro _
  trivial
def trS (x : List Int) (k : Nat) : Nat → Int
  | 0 => 0
  | i + 1 => trS x k i + x.getD i 0 * cosF ((2 * i + 1) * k * 64 / x.length)
def trL (x : List Int) : List Int := (List.range x.length).map fun k => trS x k x.length
theorem trL_len {x : List Int} : (trL x).length = x.length := by simp [trL]
theorem trL_at {x : List Int} {k : Nat} (h : k < x.length) : (trL x).getD k 0 = trS x k x.length := by
  unfold trL; rw [List.getD_eq_getElem?_getD, List.getElem?_map, List.getElem?_range h]; rfl
theorem mul_bd2 {a b A B : Int} (ha : -A ≤ a ∧ a ≤ A) (hb : -B ≤ b ∧ b ≤ B) : -(A * B) ≤ a * b ∧ a * b ≤ A * B := by
  by_cases h : 0 ≤ b
  · exact mul_bd ha ⟨h, hb.2⟩
  · have := mul_bd ha (b := -b) (B := B) ⟨by omega, by omega⟩
    rw [Int.mul_neg] at this; omega
theorem trS_bd {x : List Int} {B : Int} (hx : ∀ i, -B ≤ x.getD i 0 ∧ x.getD i 0 ≤ B) (k : Nat) : ∀ i : Nat, -((i : Int) * (B * 16384)) ≤ trS x k i ∧ trS x k i ≤ (i : Int) * (B * 16384)
  | 0 => by simp [trS]
  | i + 1 => by
    have h1 := trS_bd hx k i
    have h2 := mul_bd2 (hx i) (cosF_bd ((2 * i + 1) * k * 64 / x.length))
    rw [trS, show ((i + 1 : Nat) : Int) * (B * 16384) = (i : Int) * (B * 16384) + B * 16384 by rw [Int.natCast_add, Int.add_mul]; omega]
    omega
abbrev bdL (B : Int) (x : List Int) : Prop := ∀ i, -B ≤ x.getD i 0 ∧ x.getD i 0 ≤ B
theorem set_self {α : Type} {l : List α} {i : Nat} {d : α} (h : i < l.length) : l.set i (l.getD i d) = l := by
  rw [List.getD_eq_getElem?_getD, List.getElem?_eq_getElem h]; simp
theorem getD_set_eq {α : Type} {l : List α} {i : Nat} {d x : α} (h : i < l.length) : (l.set i x).getD i d = x := by
  rw [List.getD_eq_getElem?_getD, List.getElem?_set]; simp [h]
instance transform_c {x : List Int} {B : List Res} [hg : HG B] : CtR Tryd.prog 70 [lv rI x] B ((1 ≤ x.length ∧ x.length ≤ 64) ∧ bdL 65536 x) Value (fun v => ov v) (fun v => rA rI 3 v (trL x) :: B) := by
  refine (ctR Tryd.call70 Tryd.func70 Tryd.ntmps70 rfl Tryd.results70 rfl [11] fun h0 w0 ⟨⟨h1, h2⟩, h3⟩ => ?_)
  have hrep : (List.replicate x.length (0 : Int)).length = x.length := List.length_replicate
  repeat first | refine nx ?_ | intro _
  rename_i v
  rw [hrep]
  refine gLp (fun k : Nat => [(14, iv k)]) (fun k => [rA rI 3 v (Go.Ear.rowAt (trL x) 0 x.length k)]) (fun k => k ≤ x.length) (fun k => x.length - k) 0 (Nat.zero_le _) fun k hk => ?_
  have hrl : (Go.Ear.rowAt (trL x) 0 x.length k).length = x.length := Go.Ear.rowAt_len trL_len hk
  repeat first | refine nx ?_ | intro _
  refine gIf (fun c => ?_) fun c => ?_
  · repeat first | refine nx ?_ | intro _
    refine gLp (fun i : Nat => [(19, iv i)]) (fun i => [rA rI 3 v ((Go.Ear.rowAt (trL x) 0 x.length k).set k (trS x k i))]) (fun i => i ≤ x.length) (fun i => x.length - i) 0 (Nat.zero_le _) (fun i hi => ?_) (h2 := ⟨by
      have e : (Go.Ear.rowAt (trL x) 0 x.length k).getD k 0 = 0 := by
        unfold Go.Ear.rowAt
        rw [List.getD_eq_getElem?_getD, List.getElem?_append_right (by rw [List.length_take]; omega), List.getElem?_replicate]
        split <;> rfl
      have := set_self (l := Go.Ear.rowAt (trL x) 0 x.length k) (i := k) (d := 0) (by omega)
      rw [e] at this
      exact this.symm, trivial⟩)
    have hrs : ((Go.Ear.rowAt (trL x) 0 x.length k).set k (trS x k i)).length = x.length := by rw [List.length_set, hrl]
    repeat first | refine nx ?_ | intro _
    refine gIf (fun c1 => ?_) fun c1 => ?_
    · have hg : ((Go.Ear.rowAt (trL x) 0 x.length k).set k (trS x k i)).getD k 0 = trS x k i := getD_set_eq (by omega)
      have hm : (2 * i + 1) * k ≤ 127 * 64 := Nat.mul_le_mul (by omega) (by omega)
      have hq : (2 * i + 1) * k * 64 / x.length ≤ 1099511627776 := Nat.le_trans (Nat.div_le_self _ _) (by omega)
      have hb1 := trS_bd h3 k i
      have hb2 := mul_bd2 (h3 i) (cosF_bd ((2 * i + 1) * k * 64 / x.length))
      have hb : ¬ (trS x k i < -68719476736 ∨ 68719476736 < trS x k i ∨ x.getD i 0 * cosF ((2 * i + 1) * k * 64 / x.length) < -1073741824 ∨ 1073741824 < x.getD i 0 * cosF ((2 * i + 1) * k * 64 / x.length)) := by omega
      clear hb1 hb2
      repeat first | refine gDr 16 (by kernel_rfl) ?_ | refine nx ?_ | intro _
      rw [hg, List.set_set]
      exact gBk (i + 1) (by omega) (by omega)
    · have e : i = x.length := by omega
      subst e
      repeat first | refine nx ?_ | intro _
      rw [Go.Ear.rowAt_set trL_len c (trL_at c).symm]
      exact gBk (k + 1) (by omega) (by omega)
  · repeat first | refine nx ?_ | intro _
    rw [Go.Ear.rowAt_end trL_len (by omega)]
    exact gEr v
end Go.E3
set_option linter.unusedVariables false
set_option maxRecDepth 20000
set_option maxHeartbeats 4000000
set_option synthInstance.maxSize 1000
namespace Go.E3
open Go Go.Ear Go.Proofs
def dgN : Nat → Nat → List Nat
  | 0, _ => []
  | m + 1, n => n % B32 :: dgN m (n / B32)
theorem dgN_len : ∀ m n, (dgN m n).length = m
  | 0, _ => rfl
  | m + 1, n => by simp [dgN, dgN_len]
theorem dgN_fit : ∀ m n, Fit (dgN m n)
  | 0, _ => fun _ h => by cases h
  | m + 1, n => fun x hx => by
    rcases List.mem_cons.1 hx with rfl | hx
    · exact Nat.mod_lt _ (by decide)
    · exact dgN_fit m _ x hx
theorem dgN_val : ∀ (l : List Nat), Fit l → dgN l.length (val l) = l
  | [], _ => rfl
  | x :: l, f => by
    have hx : x < B32 := f x (List.mem_cons_self ..)
    have h1 : (x + B32 * val l) % B32 = x := by rw [Nat.add_mul_mod_self_left, Nat.mod_eq_of_lt hx]
    have h2 : (x + B32 * val l) / B32 = val l := by rw [Nat.add_mul_div_left _ _ (by decide), Nat.div_eq_of_lt hx, Nat.zero_add]
    rw [List.length_cons, dgN, val, h1, h2, dgN_val l fun y hy => f y (List.mem_cons_of_mem _ hy)]
theorem val_dgN : ∀ m n, n < B32 ^ m → val (dgN m n) = n
  | 0, n, h => by simp at h; subst h; rfl
  | m + 1, n, h => by
    rw [dgN, val, val_dgN m _ (by rw [Nat.div_lt_iff_lt_mul (by decide), ← Nat.pow_succ]; exact h), Nat.mod_add_div]
theorem dgN_at : ∀ m n j, j < m → (dgN m n).getD j 0 = n / B32 ^ j % B32
  | m + 1, n, 0, _ => by simp [dgN]
  | m + 1, n, j + 1, h => by
    rw [dgN, List.getD_cons_succ, dgN_at m _ j (by omega), Nat.div_div_eq_div_mul, ← Nat.pow_succ']
instance {m n : Nat} : FtL (dgN m n) := ⟨dgN_fit m n⟩
theorem mul_outer' {o a b : List Nat} {i c : Nat} (hlt : i + b.length < o.length) (hz : o.getD (i + b.length) 0 = 0)
    (hv : val o + c * B32 ^ (i + b.length) = val (a.take i) * val b + a.getD i 0 * val (b.take b.length) * B32 ^ i) :
    val (o.set (i + b.length) c) = val (a.take (i + 1)) * val b := by
  have hs := val_set o (i + b.length) c hlt
  rw [hz, Nat.zero_mul, Nat.add_zero] at hs
  rw [hs, hv, List.take_length, val_take_succ']
  grind
instance square_c {a : List Nat} {S : SV} [j : Vw (lv rU) S a] [ft : FtL a] : Ct Tryd.prog 66 [S] (a.length ≤ 1000) (lv rU (dgN (2 * a.length) (val a * val a))) := by
  refine ct1 j (ctI Tryd.call66 Tryd.func66 Tryd.ntmps66 rfl Tryd.results66 rfl [12] fun h0 w0 hl => ?_)
  repeat first | refine nx ?_ | intro _
  rename_i v
  refine gLp (fun s : Nat × List Nat => [(15, iv s.1)]) (fun s => [rA rU 77 v s.2]) (fun s => s.1 ≤ a.length ∧ s.2.length = 2 * a.length ∧ Fit s.2 ∧ (∀ t, s.1 + a.length ≤ t → s.2.getD t 0 = 0) ∧ val s.2 = val (a.take s.1) * val a) (fun s => a.length - s.1) (0, List.replicate (2 * a.length) 0) ⟨Nat.zero_le _, List.length_replicate, Fit.replicate _, fun t _ => getD_replicate _ t, by simp [val, val_replicate]⟩ fun ⟨x, out⟩ ⟨hi, hll, hf, hz, hv⟩ => ?_
  have bdx := ft.h.getD x
  dsimp only at *
  haveI : FtL out := ⟨hf⟩
  repeat first | refine nx ?_ | intro _
  refine gIf (fun c1 => ?_) fun c1 => ?_ <;> repeat first | refine nx ?_ | intro _
  · refine gLp (fun s : Nat × Nat × List Nat => [(22, iv s.1), (6, .cv (.int .u64 (s.2.1 : Int)))]) (fun s => [rA rU 77 v s.2.2]) (fun s => s.1 ≤ a.length ∧ s.2.2.length = 2 * a.length ∧ Fit s.2.2 ∧ s.2.1 < 4294967296 ∧ (∀ t, x + a.length ≤ t → s.2.2.getD t 0 = 0) ∧ val s.2.2 + s.2.1 * B32 ^ (x + s.1) = val (a.take x) * val a + a.getD x 0 * val (a.take s.1) * B32 ^ x) (fun s => a.length - s.1) (0, 0, out) ⟨Nat.zero_le _, hll, hf, Nat.lt_of_lt_of_le (Nat.zero_lt_one) (by decide), hz, by rw [hv]; simp [val]⟩ fun ⟨y, c, o⟩ ⟨hj, hl2, hf2, hc, hz2, hv2⟩ => ?_
    have bdy := ft.h.getD y
    have bdo := hf2.getD (x + y)
    have bxy := Go.Ear.mul_bd (x := a.getD x 0) (y := a.getD y 0) bdx bdy
    dsimp only at *
    repeat first | refine nx ?_ | intro _
    refine gIf (fun c2 => ?_) fun c2 => ?_ <;> repeat first | refine nx ?_ | intro _
    · exact gBk (y + 1, (c + (o.getD (x + y) 0 + a.getD x 0 * a.getD y 0)) / 2 ^ 32, o.set (x + y) ((c + (o.getD (x + y) 0 + a.getD x 0 * a.getD y 0)) % 4294967296)) ⟨by omega, by rw [List.length_set]; exact hl2, hf2.set _ _ (Nat.mod_lt _ (by decide)), by dsimp only; have : (2:Nat)^32 = 4294967296 := rfl; omega, fun t ht => by rw [getD_set_ne (by omega)]; exact hz2 t ht, by
        have := mul_inner (o := o) (a := a) (b := a) (i := x) (j := y) (by omega) hv2
        rw [Nat.add_comm (a.getD x 0 * a.getD y 0)] at this; exact this⟩ (by dsimp only; omega)
    · have e : y = a.length := by omega
      subst e
      exact gBk (x + 1, o.set (x + a.length) (c % 4294967296)) ⟨by omega, by rw [List.length_set]; exact hl2, hf2.set _ _ (Nat.mod_lt _ (by decide)), fun t ht => by rw [getD_set_ne (by omega)]; exact hz2 t (by omega), by
        rw [Nat.mod_eq_of_lt hc]
        exact mul_outer' (by omega) (hz2 _ (by omega)) hv2⟩ (by dsimp only; omega)
  · have e := dgN_val out hf
    rw [hll, hv, List.take_of_length_le (by omega)] at e
    exact e.symm
instance uLen32_c {n : Nat} : Ct Tryd.prog 67 [.cv (.int .u32 (n : Int))] (n < 4294967296) (iv (bitlen n)) := by
  refine ctI Tryd.call67 Tryd.func67 Tryd.ntmps67 rfl Tryd.results67 rfl [] fun h0 w0 hl => ?_
  have l16 := lo16_le n
  have l8 := lo8_le (hi16 n)
  have hb := hi_lt hl
  have hbl := bitlen_le hb
  repeat refine nx ?_
  refine gJ [(0, .cv (.int .u32 (hi16 n : Int))), (2, iv (lo16 n))] (fun c => ?_) (fun c => ?_) ?_ <;> repeat refine nx ?_
  · exact gM (by rw [hi16, lo16, if_pos c, if_pos c]; exact ⟨rfl, rfl, by trivial⟩)
  · exact gM (by rw [hi16, lo16, if_neg c, if_neg c]; exact ⟨rfl, rfl, by trivial⟩)
  refine gJ [(0, .cv (.int .u32 (hi8 (hi16 n) : Int))), (2, iv ((lo16 n + lo8 (hi16 n) : Nat) : Int))] (fun c => ?_) (fun c => ?_) ?_ <;> repeat refine nx ?_
  · exact gM (by rw [hi8, lo8, if_pos c, if_pos c]; exact ⟨rfl, rfl, by trivial⟩)
  · exact gM (by rw [hi8, lo8, if_neg c, if_neg c]; exact ⟨rfl, rfl, by trivial⟩)
  refine gTab (s := len8) (len8_at hb) ?_
  repeat refine nx ?_
  rw [len32_eq hl]
def lgF (e : Int) : Int := if e = 0 then -16 else (bitlen (e.toNat ^ 16) : Int) - 1
theorem lgF_bd {e : Int} (h : 0 ≤ e ∧ e < 9223372036854775808) : -16 ≤ lgF e ∧ lgF e ≤ 1007 := by
  unfold lgF
  split
  · omega
  · have h1 : e.toNat < 2 ^ 63 := by omega
    have h2 : e.toNat ^ 16 < (2 ^ 63) ^ 16 := Nat.pow_lt_pow_left h1 (by decide)
    rw [← Nat.pow_mul] at h2
    have h3 := bitlen_lt h2
    omega
theorem B32_two : B32 = 2 ^ 32 := rfl
theorem bitlen_top {N j : Nat} (h : N < B32 ^ (j + 1)) (h2 : N / B32 ^ j % B32 ≠ 0) : bitlen N = bitlen (N / B32 ^ j % B32) + 32 * j := by
  have h3 : N / B32 ^ j < B32 := by rw [Nat.div_lt_iff_lt_mul (Nat.pow_pos (by decide)), ← Nat.pow_succ']; exact h
  rw [Nat.mod_eq_of_lt h3] at h2 ⊢
  have e : B32 ^ j = 2 ^ (32 * j) := by rw [B32_two, ← Nat.pow_mul]
  rw [e] at h2 ⊢
  refine bitlen_shift ?_
  rcases Nat.lt_or_ge N (2 ^ (32 * j)) with q | q
  · exact absurd (Nat.div_eq_of_lt q) h2
  · exact q
theorem lt_top {N j : Nat} (h : N < B32 ^ (j + 1)) (h2 : N / B32 ^ j % B32 = 0) : N < B32 ^ j := by
  have h3 : N / B32 ^ j < B32 := by rw [Nat.div_lt_iff_lt_mul (Nat.pow_pos (by decide)), ← Nat.pow_succ']; exact h
  rw [Nat.mod_eq_of_lt h3] at h2
  rcases Nat.div_eq_zero_iff.1 h2 with q | q
  · have := Nat.pow_pos (n := j) (show 0 < B32 by decide); omega
  · exact q
theorem pw_lt {e : Nat} (h : e < B32 ^ 2) (k : Nat) : e ^ 2 ^ k < B32 ^ (2 * 2 ^ k) := by
  rw [Nat.pow_mul]; exact Nat.pow_lt_pow_left h (by have := Nat.two_pow_pos k; omega)
instance logarithm_c {e : Int} : Ct Tryd.prog 47 [iv e] (0 ≤ e ∧ e < 9223372036854775808) (iv (lgF e)) := by
  refine ctI Tryd.call47 Tryd.func47 Tryd.ntmps47 rfl Tryd.results47 rfl [] fun h0 w0 ⟨h1, h2⟩ => ?_
  obtain ⟨n, rfl⟩ : ∃ n : Nat, e = (n : Int) := ⟨e.toNat, by omega⟩
  have h3 : n < 9223372036854775808 := by omega
  clear h1 h2
  repeat first | refine nx ?_ | intro _
  refine gIf (fun c => ?_) fun c => ?_
  · repeat first | refine nx ?_ | intro _
    unfold lgF; rw [if_pos (by omega)]
  have hn : n < B32 ^ 2 := Nat.lt_trans (show n < 9223372036854775808 by omega) (by decide)
  repeat first | refine nx ?_ | intro _
  refine gLp (fun k : Nat => [(13, iv k), (3, lv rU (dgN (2 * 2 ^ k) (n ^ 2 ^ k)))]) (fun _ => []) (fun k => k ≤ 4) (fun k => 4 - k) 0 (Nat.zero_le _) (fun k hk => ?_) (h1 := by
    repeat' (first | trivial | refine And.intro ?_ ?_)
    simp [dgN, B32_eq])
  have hl : (dgN (2 * 2 ^ k) (n ^ 2 ^ k)).length = 2 * 2 ^ k := dgN_len ..
  have hv : val (dgN (2 * 2 ^ k) (n ^ 2 ^ k)) = n ^ 2 ^ k := val_dgN _ _ (pw_lt hn k)
  have h16 : 2 ^ k ≤ 16 := Nat.pow_le_pow_right (n := 2) (by decide) hk
  repeat first | refine nx ?_ | intro _
  refine gIf (fun c1 => ?_) fun c1 => ?_
  · repeat first | refine nx ?_ | intro _
    rw [hl, hv, show 2 * (2 * 2 ^ k) = 2 * 2 ^ (k + 1) by rw [Nat.pow_succ]; omega, show n ^ 2 ^ k * n ^ 2 ^ k = n ^ 2 ^ (k + 1) by rw [← Nat.pow_add, Nat.pow_succ]; congr 1; omega]
    exact gBk (k + 1) (by omega) (by omega)
  have e4 : k = 4 := by omega
  subst e4
  have hp := pw_lt hn 4
  clear h16
  have q1 : 2 * 2 ^ 4 = 32 := rfl
  have q2 : 2 ^ 4 = 16 := rfl
  rw [q1, q2] at hp hl
  rw [q1, q2]
  clear hv q1 q2
  have hpos : n ^ 16 ≠ 0 := by have := Nat.pow_pos (n := 16) (Nat.pos_of_ne_zero c); omega
  have hlg : lgF (n : Int) = (bitlen (n ^ 16) : Int) - 1 := by unfold lgF; rw [if_neg (by omega), Int.toNat_natCast]
  rw [hlg]
  have hp' : ¬ B32 ^ 32 ≤ n ^ 16 := by omega
  clear hp hn hk
  generalize n ^ 16 = N at *
  have hd : ∀ j, j < 32 → (dgN 32 N).getD j 0 = N / B32 ^ j % B32 := fun j hj => dgN_at 32 N j hj
  have hfit : ∀ j, (dgN 32 N).getD j 0 < 4294967296 := fun j => (dgN_fit 32 N).getD j
  generalize dgN 32 N = D at *
  repeat first | refine nx ?_ | intro _
  rw [hl]
  refine gLp (fun j : Nat => [(4, iv j)]) (fun _ => []) (fun j => j < 32 ∧ ¬ B32 ^ (j + 1) ≤ N) (fun j => j) 31 ⟨by omega, hp'⟩ fun j ⟨hj, hn⟩ => ?_
  have hfj := hfit j
  have hdj := hd j hj
  have hbj := bitlen_lt (s := 32) hfj
  repeat first | refine nx ?_ | intro _
  refine gIf (fun c2 => ?_) fun c2 => ?_
  · repeat first | refine nx ?_ | intro _
    rw [hdj] at c2 ⊢
    rw [bitlen_top (by omega) c2]
    omega
  · repeat first | refine nx ?_ | intro _
    have hz : N < B32 ^ j := lt_top (by omega) (by rw [← hdj]; exact Classical.not_not.1 c2)
    have hj1 : 1 ≤ j := by
      rcases Nat.eq_zero_or_pos j with q | q
      · subst q; rw [Nat.pow_zero] at hz; omega
      · exact q
    rw [show ((j : Int) - 1) = ((j - 1 : Nat) : Int) by omega]
    exact gBk (j - 1) ⟨by omega, by rw [show j - 1 + 1 = j by omega]; omega⟩ (by omega)
end Go.E3
set_option linter.unusedVariables false
namespace Go.Ear
section
variable {P : Program} {w : World}
theorem flat_drop {k : Nat} : ∀ (css : List (List Value)), (∀ cs ∈ css, cs.length = k) → ∀ n, (css.drop n).flatten = css.flatten.drop (n * k)
  | [], _, n => by simp
  | cs :: css, h, 0 => by simp
  | cs :: css, h, n + 1 => by
    have hc := h cs (List.mem_cons_self ..)
    rw [List.drop_succ_cons, flat_drop css (fun x hx => h x (List.mem_cons_of_mem _ hx)) n, List.flatten_cons, Nat.add_mul, Nat.one_mul, Nat.add_comm, ← List.drop_drop, List.drop_left' hc]
theorem run_copy {lo : Nat} {h : PH} {t t2 ty e : TypeId} {v : Value} {base : Option Addr} {c m k len : Nat} {xs ys : List Value}
    (ht : P.underlying t = some (.slice e)) (hz : IsSize P e k) (own : Own lo h w e k v len xs)
    (hf : ∀ cc, (Builtin.firstCells k (min m len) (.slice base cc c)).run P w = .ok ys.toArray w) (hl : ys.length = min m len * k) (h1 : ∀ y ∈ ys, y.oneCell' = true) :
    ∃ w', (Builtin.copy_ #[t, t2] ty #[v, .slice base m c]).run P w = .ok (.int .i64 ((min m len : Nat) : Int)) w' ∧ Own lo h w' e k v len (ys ++ xs.drop (min m len * k)) ∧ Ow w w' (Value.blk v) := by
  have hxl := own.1
  have hle : min m len * k ≤ len * k := Nat.mul_le_mul_right _ (Nat.min_le_right ..)
  have hlen : (ys ++ xs.drop (min m len * k)).length = len * k := by rw [List.length_append, List.length_drop, hl, hxl]; omega
  rcases own.2 with ⟨rfl, rfl⟩ | ⟨b, cap, arr, rfl, hb1, hb2, hb3, hb4, hb5, hb6⟩
  · refine ⟨w, ?_, ⟨hlen, .inl ⟨rfl, rfl⟩⟩, ⟨rfl, rfl, rfl, Nat.le_refl _, fun _ _ _ => rfl⟩⟩
    have hf' := hf m
    rw [Nat.min_zero] at hf'
    simp [Builtin.copy_, run_underlying ht, Builtin.lenOf, hz w, hf', goInt]
  · have h3 : len * k ≤ arr.size := by rw [hb5]; exact Nat.mul_le_mul_right _ hb4
    have hfit : 0 + 0 + ys.length ≤ arr.size := by omega
    obtain ⟨w', hst, hp⟩ := run_storeCells_own (P := P) ys 0 0 arr w hb3 hfit h1
    refine ⟨w', ?_, ⟨hlen, .inr ⟨b, cap, _, rfl, hb1, hb2, hp.at_, hb4, by rw [putIn_size, hb5], ?_⟩⟩, ⟨hp.os, hp.tape, hp.output, by rw [hp.size]; exact Nat.le_refl _, fun k _ hk => hp.other k (fun e => hk (by rw [e]; rfl))⟩⟩
    · simp [Builtin.copy_, run_underlying ht, Builtin.lenOf, hz w, hf m, hst, goInt]
    · rw [putIn_toList ys arr _ (by omega), Nat.add_zero, List.take_zero, List.nil_append, Nat.zero_add, List.take_append, List.take_of_length_le (by omega), ← hb6, List.drop_take, hl]
end
section
variable {P : Program} {n : Nat} {ρ : Env} {w : World} {K : Env → World → Prop} {d : Tmp} {ty : TypeId} {pos : String} {af : Array Edge} {g : Option (Nat × Bool)} {α : Type} {r : Rp α}
theorem OpW.copyL {lo : Nat} {h : PH} {t t2 e : TypeId} {a b : Operand} {v x : Value} {l m : List α}
    (ht : P.underlying t = some (.slice e)) (hz : IsSize P e r.k) (hs : Sat h w) (ha : ev n ρ a = v) (hb : ev n ρ b = x) (own : OwnL r lo h w e v l) (u : LR r h x m)
    (hk : ∀ w', OwnL r lo h w' e v (m.take l.length ++ l.drop m.length) → Ow w w' (Value.blk v) → K (upd ρ d (.int .i64 ((min m.length l.length : Nat) : Int))) w') :
    OpW P n ⟨some d, .call ⟨.builtin .copy, #[a, b], #[t, t2]⟩, ty, pos, af, g⟩ ρ w K := by
  obtain ⟨css, o, rr⟩ := own
  obtain ⟨base, cap, rfl, hc⟩ := u.shape
  obtain ⟨css2, s2, rr2⟩ := u.take (min m.length l.length) (Nat.min_le_left ..)
  have hl2 : css2.length = min m.length l.length := by rw [rr2.length, List.length_take]; omega
  have rd := s2.reads hs
  rw [hl2] at rd
  have hf := run_firstCells (P := P) rd
  obtain ⟨w', hr, o', ow⟩ := run_copy (P := P) (t2 := t2) (ty := ty) ht hz o (m := m.length) (c := cap) (base := base) (fun cc => by cases base <;> exact hf) rd.1 rr2.ones
  refine OpW.valD (v := .int .i64 ((min m.length l.length : Nat) : Int)) ?_ (hk w' ⟨css2 ++ css.drop (min m.length l.length), ?_, ?_⟩ ow)
  · simp only [execOp, resolve, invoke, builtin, Sem.run_bind, Sem.run_pure, Result.andThen, List.map_toArray, List.map_cons, List.map_nil, ha, hb, hr]
  · rw [List.flatten_append, flat_drop css rr.lens]
    have : (m.take l.length ++ l.drop m.length).length = l.length := by rw [List.length_append, List.length_take, List.length_drop]; omega
    rw [this]; exact o'
  · have e1 : m.take l.length = m.take (min m.length l.length) := by rw [Nat.min_comm, List.take_eq_take_min]
    have e2 : l.drop m.length = l.drop (min m.length l.length) := by
      rcases Nat.le_total m.length l.length with q | q
      · rw [Nat.min_eq_left q]
      · rw [Nat.min_eq_right q, List.drop_of_length_le q, List.drop_length]
    rw [e1, e2]
    exact rr2.append (rr.drop _)
end
end Go.Ear
namespace Go.E3
open Go Go.Ear
section
variable {α : Type} {P : Program} {n : Nat} {X : Fix} {ms : List Nat} {loc env : EL} {B B' : List Res} {k : Kt} {ol rest : List Oper} {d : Nat} {ty : TypeId} {pos : String} {af : Array Edge} {t t2 e : TypeId} {r : Rp α} {bb : Nat} {d0 : α} {q q' : List α} {v : Value} {o1 o2 : Operand}
instance [ts : TS P t e] [rt : RT P e α r bb d0] [lx : Lu n true loc env o1 (ov v)] [pa : PA B v α r e q B'] [ly : Lu n true loc env o2 (lv r q')] : Nx (GO P n X ms loc env B ol (⟨some d, .call ⟨.builtin .copy, [o1, o2].toArray, [t, t2].toArray⟩, ty, pos, af, none⟩ :: rest) k) True (GO P n X ms ((d, .cv (.int .i64 ((min q'.length q.length : Nat) : Int))) :: loc) env (rA r e v (q'.take q.length ++ q.drop q'.length) :: B') ol rest k) := ⟨fun hs f => ⟨fun ok ρ h w s => by
  obtain ⟨h1, h2, h3⟩ := okR_some rfl ok
  have hx := lx.h rfl ((s.x [o1]).fx o1 (by simp))
  have hy := ly.h rfl ((s.x [o2]).fx o2 (by simp))
  have s' := s.sb pa.h
  refine Ops.cons (OpW.copyL (lo := 0) ts.h rt.k s.gr.sat hx.1 rfl (s'.ow.at 0 rfl).1 hy fun w' own ow => ?_)
  exact f.p h3 _ _ _ ((own_app s' own ow fun b hb => .inl hb).set rfl h1 (h2 rfl))⟩⟩
end
theorem OpW.sliceMid {P : Program} {n : Nat} {d : Nat} {ty : TypeId} {pos : String} {af : Array Edge} {g : Option (Nat × Bool)} {ρ : Env} {w : World} {K : Env → World → Prop} {t e : TypeId} {x y z : Operand} {k k2 : IntKind} {a : Option Addr} {l c m m2 : Nat} {sz : Nat} (ht : IsUnd P t (.slice e)) (hs : IsSize P e sz) (hx : ev n ρ x = .slice a l c) (hy : ev n ρ y = .int k m) (hz : ev n ρ z = .int k2 m2) (hm : m ≤ m2) (hm2 : m2 ≤ c)
    (hk : K (upd ρ d (.slice (if c = m then a else a.map (·.add (m * sz))) (m2 - m) (c - m))) w) : OpW P n ⟨some d, .slice t x (some y) (some z) none, ty, pos, af, g⟩ ρ w K := by
  refine OpW.slice hx ?_ hk
  have h1 : (0 : Int) ≤ (m : Int) ∧ (m : Int) ≤ (m2 : Int) := by omega
  have h2 : (0 : Int) ≤ (m2 : Int) ∧ (m2 : Int) ≤ (c : Int) := by omega
  simp only [Instr.sliceAt, Sem.run_bind, ht.run w, Result.andThen, Option.map_none, Option.map_some, hy, hz, Instr.slice, Instr.sliceBounds, Instr.sliceBound, asIntOf, Sem.run_pure, h1, h2, and_self, if_true, hs w, Int.toNat_natCast]
section
variable {P : Program} {n : Nat} {c : Bool} {loc env : EL} {B : List Res} {ms : List Nat} {d : Nat} {t e : TypeId} {m : Nat} {x y z : Operand} {k k2 : IntKind} {i i2 : Int} {a b : Nat}
instance {α : Type} {r : Rp α} {q : List α} [ts : TS P t e] [tz : TZ P e m] [rk : Rk r m] [lx : Lu n c loc env x (lv r q)] [ly : Lu n c loc env y (.cv (.int k i))] [lz : Lu n c loc env z (.cv (.int k2 i2))] {sd sd2 : Prop} [tn : TN i a sd] [tn2 : TN i2 b sd2] : St P n c loc env B ms d (.slice t x (some y) (some z) none) ((sd ∧ sd2) ∧ a ≤ b ∧ b ≤ q.length) (lv r ((q.take b).drop a)) := .p fun qc hsd _ _ _ _ _ s _ _ _ _ _ kk => by
  have u : LR r _ _ q := lx.h qc (s.f x)
  obtain ⟨base, cp, e, hc⟩ := u.shape
  rw [e] at u
  obtain ⟨⟨s1, s2⟩, s3, s4⟩ := hsd
  have u2 := LR.drop (u.take b s4) (m := a) rk.h.symm (by rw [List.length_take]; omega)
  exact OpW.sliceMid ts.h tz.h e ((cvE (ly.h qc (s.f y))).trans (by rw [tn.e s1])) ((cvE (lz.h qc (s.f z))).trans (by rw [tn2.e s2])) s3 (Nat.le_trans s4 hc) (kk _ u2)
end
end Go.E3
set_option linter.unusedVariables false
namespace Go.E3
open Go Go.Ear
structure MidW where
  d : Nat
  S : Value → SV
  B2 : Value → List Res
section
variable (P : Program) (n : Nat) (X : Fix) (ms : List Nat) (env : EL) (ol : List Oper)
inductive GM (B : List Res) (k : Kt) (p m : Nat) : Option MidW → EL → Nat → List Oper → Prop
  | st {L i o rest} (d : Nat) (S : SV) (hi : i < p) (hd : o.dst = some d) (h : TriP P n X env B ol L o d S) (g : GM B k p m none ((d, S) :: L) (i + 1) rest) : GM B k p m none L i (o :: rest)
  | wr {L o rest} (w : MidW) (hd : o.dst = some w.d) (h : TriV P n X env B ol L o (some (w.d, w.S)) w.B2) (g : GM B k p m (some w) L (p + 1) rest) : GM B k p m none L p (o :: rest)
  | mid {w L i o rest} (d : Nat) (S : SV) (hp : p < i) (hd : o.dst = some d) (h : TriP P n X env B ol L o d S) (h2 : ∀ v, TriP P n X env (w.B2 v) ol L o d S) (g : GM B k p m (some w) ((d, S) :: L) (i + 1) rest) : GM B k p m (some w) L i (o :: rest)
  | fin {w L rest} (g : ∀ v, GO P n X ms ((w.d, w.S v) :: L) env (w.B2 v) ol rest k) : GM B k p m (some w) L m rest
end
section
variable {P : Program} {n : Nat} {X : Fix} {ms : List Nat} {env : EL} {ol : List Oper} {B : List Res} {k : Kt} {p m : Nat}
abbrev lcs (res : List (Option (Nat × SV))) : EL := (res.filterMap id).reverse
theorem lcs_some (q : Nat × SV) (res : List (Option (Nat × SV))) (L : EL) : lcs (some q :: res) ++ L = lcs res ++ (q :: L) := by simp [lcs]
theorem lcs_none (res : List (Option (Nat × SV))) : lcs (none :: res) = lcs res := by simp [lcs]
theorem GM.sem {ws : Option MidW} {L : EL} {i : Nat} {rest : List Oper} (g : GM P n X ms env ol B k p m ws L i rest) :
    ∃ (res : List (Option (Nat × SV))) (w : MidW), i + res.length = m ∧ (ws = some w ∨ (ws = none ∧ i ≤ p ∧ ∃ o, rest[p - i]? = some o ∧ res[p - i]? = some none ∧ o.dst = some w.d ∧ TriV P n X env B ol (lcs (res.take (p - i)) ++ L) o (some (w.d, w.S)) w.B2)) ∧
      (∀ j q, res[j]? = some (some q) → ∃ o, rest[j]? = some o ∧ o.dst = some q.1 ∧ TriP P n X env B ol (lcs (res.take j) ++ L) o q.1 q.2 ∧ (p < i + j → ∀ v, TriP P n X env (w.B2 v) ol (lcs (res.take j) ++ L) o q.1 q.2)) ∧
      (∀ j, res[j]? = some none → i + j = p) ∧ res.length ≤ rest.length ∧ ∀ v, GO P n X ms ((w.d, w.S v) :: (lcs res ++ L)) env (w.B2 v) ol (rest.drop res.length) k := by
  induction g with
  | @st L i o rest d S hi hd h g ih =>
    obtain ⟨res, w, e, hw, hr, hn, hle, hg⟩ := ih
    refine ⟨some (d, S) :: res, w, by simp only [List.length_cons]; omega, .inr ⟨rfl, by omega, ?_⟩, fun j q hj => ?_, fun j hj => ?_, by simp only [List.length_cons]; omega, fun v => by rw [lcs_some]; simpa using hg v⟩
    · rcases hw with hw | ⟨_, h1, o', h2, h3, h4, h5⟩
      · cases hw
      · rw [show p - i = p - (i + 1) + 1 by omega]
        refine ⟨o', by simpa using h2, by simpa using h3, h4, ?_⟩
        rw [List.take_succ_cons, lcs_some]; exact h5
    · cases j with
      | zero =>
        have hj : (d, S) = q := by simpa using hj
        subst hj
        exact ⟨o, rfl, hd, by simpa [lcs] using h, fun hh => by omega⟩
      | succ j =>
        obtain ⟨o', a, b, c, d'⟩ := hr j q (by simpa using hj)
        refine ⟨o', by simpa using a, b, ?_, fun hh => ?_⟩
        · rw [List.take_succ_cons, lcs_some]; exact c
        · rw [List.take_succ_cons, lcs_some]; exact d' (by omega)
    · cases j with
      | zero => simp at hj
      | succ j => have := hn j (by simpa using hj); omega
  | @wr L o rest w hd h g ih =>
    obtain ⟨res, w', e, hw, hr, hn, hle, hg⟩ := ih
    have hw : w = w' := by
      rcases hw with hw | ⟨hw, _⟩
      · exact Option.some.inj hw
      · cases hw
    subst hw
    refine ⟨none :: res, w, by simp only [List.length_cons]; omega, .inr ⟨rfl, Nat.le_refl _, o, by simp, by simp, hd, by simpa [lcs] using h⟩, fun j q hj => ?_, fun j hj => ?_, by simp only [List.length_cons]; omega, fun v => by rw [lcs_none]; simpa using hg v⟩
    · cases j with
      | zero => simp at hj
      | succ j =>
        obtain ⟨o', a, b, c, d'⟩ := hr j q (by simpa using hj)
        refine ⟨o', by simpa using a, b, ?_, fun hh => ?_⟩
        · rw [List.take_succ_cons, lcs_none]; exact c
        · rw [List.take_succ_cons, lcs_none]; exact d' (by omega)
    · cases j with
      | zero => rfl
      | succ j => have := hn j (by simpa using hj); omega
  | @mid w L i o rest d S hp hd h h2 g ih =>
    obtain ⟨res, w', e, hw, hr, hn, hle, hg⟩ := ih
    have hw : w = w' := by
      rcases hw with hw | ⟨hw, _⟩
      · exact Option.some.inj hw
      · cases hw
    subst hw
    refine ⟨some (d, S) :: res, w, by simp only [List.length_cons]; omega, .inl rfl, fun j q hj => ?_, fun j hj => ?_, by simp only [List.length_cons]; omega, fun v => by rw [lcs_some]; simpa using hg v⟩
    · cases j with
      | zero =>
        have hj : (d, S) = q := by simpa using hj
        subst hj
        exact ⟨o, rfl, hd, by simpa [lcs] using h, fun _ v => by simpa [lcs] using h2 v⟩
      | succ j =>
        obtain ⟨o', a, b, c, d'⟩ := hr j q (by simpa using hj)
        refine ⟨o', by simpa using a, b, ?_, fun hh => ?_⟩
        · rw [List.take_succ_cons, lcs_some]; exact c
        · rw [List.take_succ_cons, lcs_some]; exact d' (by omega)
    · cases j with
      | zero => simp at hj
      | succ j => have := hn j (by simpa using hj); omega
  | @fin w L rest g => exact ⟨[], w, by simp, .inl rfl, fun j q hj => by simp at hj, fun j hj => by simp at hj, by simp, fun v => by simpa [lcs] using g v⟩
open Classical in
noncomputable def bM (w : MidW) (p : Nat) (B : List Res) (D : Nat → Prop) (ρ : Env) : List Res := if D p then w.B2 (ρ w.d) else B
end
theorem ltf {a b : Nat} (h : Nat.ble a b = false) : b < a := by
  rcases Nat.lt_or_ge b a with x | x
  · exact x
  · rw [Nat.ble_eq_true_of_le x] at h; cases h
theorem Sb.tl (r : Res) (B : List Res) : Sb (r :: B) B := ⟨fun o => o.2.2.2, fun r' hr i hi => ⟨r', List.mem_cons_of_mem _ hr, hi⟩⟩
section
variable {P : Program} {n : Nat} {X : Fix} {ms : List Nat} {loc env : EL} {B Bm B1 : List Res} {k : Kt} {ol rest : List Oper} {d p m i : Nat} {op : Op} {ty : TypeId} {pos : String} {af : Array Edge} {sd : Prop} {S : SV} {t e : TypeId}
theorem TriP.sb {o : Oper} (sb : Sb B B1) (h : TriP P n X env B1 ol loc o d S) : TriP P n X env B ol loc o d S := fun ρ h1 w s => h ρ h1 w ⟨s.gr, s.fx, sb.own s.ow⟩
structure GF (P : Program) (n : Nat) (X : Fix) (ms : List Nat) (loc env : EL) (B : List Res) (ol rest : List Oper) (k : Kt) (p m i : Nat) : Prop where
  p : GM P n X ms env ol B k p m none loc i rest
structure GFm (P : Program) (n : Nat) (X : Fix) (ms : List Nat) (loc env : EL) (Bm : List Res) (ol rest : List Oper) (k : Kt) (p m i d : Nat) (S : Value → SV) (B2 : Value → List Res) : Prop where
  p : ∀ B, Sb B Bm → (∀ v, Sb (B2 v) Bm) → GM P n X ms env ol B k p m (some ⟨d, S, B2⟩) loc i rest
instance [lt : RflE (Nat.ble p i) false] [st : St P n true loc env B ms d op sd S] : Nx (GF P n X ms loc env B ol (⟨some d, op, ty, pos, af, none⟩ :: rest) k p m i) sd (GF P n X ms ((d, S) :: loc) env B ol rest k p m (i + 1)) := ⟨fun hs g => ⟨.st d S (ltf lt.h) rfl (triP (st := st) hs fun _ h => h) g.p⟩⟩
instance [eq : RflE (Nat.beq i p) true] {α : Type} {r : Rp α} {bb : Nat} {d0 : α} {q q' : List α} {v : Value} {o1 o2 : Operand} [ts : TS P t e] [rt : RT P e α r bb d0] [lx : Lu n true loc env o1 (ov v)] [pa : PA B v α r e q B1] [ly : Lu n true loc env o2 (lv r q')] : Nx (GF P n X ms loc env B ol (⟨some d, .call ⟨.builtin .append, [o1, o2].toArray, [t, t].toArray⟩, ty, pos, af, none⟩ :: rest) k p m i) (q.length + q'.length ≤ 9223372036854775807 ∧ (q.length + q'.length) * bb ≤ 140737488355328) (GFm P n X ms loc env B1 ol rest k p m (i + 1) d ov (fun v' => rA r e v' (q ++ q') :: B1)) := ⟨fun hs g => ⟨by
  have e := Nat.eq_of_beq_eq_true eq.h
  subst e
  refine .wr ⟨d, ov, fun v' => rA r _ v' (q ++ q') :: B1⟩ rfl (fun ρ h w s => ?_) (g.p B (pa.h.trans (.tl _ _)) fun v => .tl _ _)
  obtain ⟨z, ti, el, hz⟩ := rt.e
  have s' : Sx X.h0 X.w0 loc env B [o1, o2] ρ h w := s.sub (fun x hx => by simp [looks, Op.operands, Call.operands] at hx ⊢; exact hx) (fun _ h => h)
  have hx := lx.h rfl (s'.fx o1 (by simp))
  have hy := ly.h rfl (s'.fx o2 (by simp))
  have sy : Sy X.h0 X.w0 [] [] B ρ h w := ⟨s.gr, trivial, trivial, s.ow⟩
  have sb := sy.sb pa.h
  refine OpG.plain (OpW.appendL (lo := 0) ts.h el.hi el.hz el.hc el.hk s.gr.sat (Nat.zero_le _) hx.1 rfl (sb.ow.at 0 rfl).1 hy hs.1 (by rw [el.hb]; exact hs.2) fun v' w' own ow hbl => ?_)
  have sn := own_app sb own ow hbl
  exact ⟨v', h, ⟨rfl, rfl, own_one own⟩, sn.gr, PH.le.refl h, (fun e => by cases e), (fun e => by cases e), sn.ow⟩⟩⟩
instance {S0 : Value → SV} {B2 : Value → List Res} {dw : Nat} [lt : RflE (Nat.ble m i) false] [lp : RflE (Nat.ble i p) false] [st : St P n true loc env Bm ms d op sd S] : Nx (GFm P n X ms loc env Bm ol (⟨some d, op, ty, pos, af, none⟩ :: rest) k p m i dw S0 B2) sd (GFm P n X ms ((d, S) :: loc) env Bm ol rest k p m (i + 1) dw S0 B2) := ⟨fun hs g => ⟨fun B sb sb2 => .mid d S (ltf lp.h) rfl (TriP.sb sb (triP (st := st) hs fun _ h => h)) (fun v => TriP.sb (sb2 v) (triP (st := st) hs fun _ h => h)) (g.p B sb sb2)⟩⟩
instance {S0 : Value → SV} {B2 : Value → List Res} {dw : Nat} [eq : RflE (Nat.beq i m) true] : Nx (GFm P n X ms loc env Bm ol rest k p m i dw S0 B2) True (∀ v, GO P n X ms ((dw, S0 v) :: loc) env (B2 v) ol rest k) := ⟨fun _ g => ⟨fun B sb sb2 => by
  have e := Nat.eq_of_beq_eq_true eq.h
  subst e
  exact .fin (w := ⟨dw, S0, B2⟩) g⟩⟩
end
structure MidV where
  d1 : Nat
  S1 : Value → SV
  B1 : Value → List Res
  d2 : Nat
  S2 : Value → SV
  B2 : Value → Value → List Res
section
variable (P : Program) (n : Nat) (X : Fix) (ms : List Nat) (env : EL) (ol : List Oper)
inductive GV (B : List Res) (k : Kt) (w : MidV) (p r m : Nat) : EL → Nat → List Oper → Prop
  | st {L i o rest} (d : Nat) (S : SV) (hi : i < p) (hd : o.dst = some d) (h : TriP P n X env B ol L o d S) (g : GV B k w p r m ((d, S) :: L) (i + 1) rest) : GV B k w p r m L i (o :: rest)
  | wr {L o rest} (hd : o.dst = some w.d1) (h : TriV P n X env B ol L o (some (w.d1, w.S1)) w.B1) (g : GV B k w p r m L (p + 1) rest) : GV B k w p r m L p (o :: rest)
  | wr2 {L o rest} (hp : p < r) (hd : o.dst = some w.d2) (h : ∀ v, TriV P n X env (w.B1 v) ol ((w.d1, w.S1 v) :: L) o (some (w.d2, w.S2)) (w.B2 v)) (g : GV B k w p r m L (r + 1) rest) : GV B k w p r m L r (o :: rest)
  | mid {L i o rest} (d : Nat) (S : SV) (hp : p < i) (hr : i ≠ r) (hd : o.dst = some d) (h : TriP P n X env B ol L o d S) (h2 : ∀ v, TriP P n X env (w.B1 v) ol L o d S) (h3 : ∀ v v', TriP P n X env (w.B2 v v') ol L o d S) (g : GV B k w p r m ((d, S) :: L) (i + 1) rest) : GV B k w p r m L i (o :: rest)
  | fin {L rest} (g : ∀ v v', GO P n X ms ((w.d2, w.S2 v') :: (w.d1, w.S1 v) :: L) env (w.B2 v v') ol rest k) : GV B k w p r m L m rest
end
section
variable {P : Program} {n : Nat} {X : Fix} {ms : List Nat} {env : EL} {ol : List Oper} {B : List Res} {k : Kt} {p r m : Nat} {w : MidV}
theorem GV.sem (hpr : p < r) {L : EL} {i : Nat} {rest : List Oper} (g : GV P n X ms env ol B k w p r m L i rest) :
    ∃ (res : List (Option (Nat × SV))), i + res.length = m ∧
      (∀ j, res[j]? = some none → ∃ o, rest[j]? = some o ∧ ((i + j = p ∧ o.dst = some w.d1 ∧ TriV P n X env B ol (lcs (res.take j) ++ L) o (some (w.d1, w.S1)) w.B1) ∨ (i + j = r ∧ p < r ∧ o.dst = some w.d2 ∧ ∀ v, TriV P n X env (w.B1 v) ol ((w.d1, w.S1 v) :: (lcs (res.take j) ++ L)) o (some (w.d2, w.S2)) (w.B2 v)))) ∧
      (∀ j q, res[j]? = some (some q) → i + j ≠ p ∧ i + j ≠ r ∧ ∃ o, rest[j]? = some o ∧ o.dst = some q.1 ∧ TriP P n X env B ol (lcs (res.take j) ++ L) o q.1 q.2 ∧ (p < i + j → (∀ v, TriP P n X env (w.B1 v) ol (lcs (res.take j) ++ L) o q.1 q.2) ∧ ∀ v v', TriP P n X env (w.B2 v v') ol (lcs (res.take j) ++ L) o q.1 q.2)) ∧
      res.length ≤ rest.length ∧ ∀ v v', GO P n X ms ((w.d2, w.S2 v') :: (w.d1, w.S1 v) :: (lcs res ++ L)) env (w.B2 v v') ol (rest.drop res.length) k := by
  induction g with
  | @st L i o rest d S hi hd h g ih =>
    obtain ⟨res, e, hn, hr, hle, hg⟩ := ih
    refine ⟨some (d, S) :: res, by simp only [List.length_cons]; omega, fun j hj => ?_, fun j q hj => ?_, by simp only [List.length_cons]; omega, fun v v' => by rw [lcs_some]; simpa using hg v v'⟩
    · cases j with
      | zero => simp at hj
      | succ j =>
        obtain ⟨o', a, b⟩ := hn j (by simpa using hj)
        refine ⟨o', by simpa using a, ?_⟩
        rw [List.take_succ_cons, lcs_some, show i + (j + 1) = i + 1 + j by omega]; exact b
    · cases j with
      | zero =>
        have hj : (d, S) = q := by simpa using hj
        subst hj
        exact ⟨by omega, by omega, o, rfl, hd, by simpa [lcs] using h, fun hh => by omega⟩
      | succ j =>
        obtain ⟨x, y, o', a, b⟩ := hr j q (by simpa using hj)
        refine ⟨by omega, by omega, o', by simpa using a, ?_⟩
        rw [List.take_succ_cons, lcs_some, show i + (j + 1) = i + 1 + j by omega]; exact b
  | @wr L o rest hd h g ih =>
    obtain ⟨res, e, hn, hr, hle, hg⟩ := ih
    refine ⟨none :: res, by simp only [List.length_cons]; omega, fun j hj => ?_, fun j q hj => ?_, by simp only [List.length_cons]; omega, fun v v' => by rw [lcs_none]; simpa using hg v v'⟩
    · cases j with
      | zero => exact ⟨o, rfl, .inl ⟨rfl, hd, by simpa [lcs] using h⟩⟩
      | succ j =>
        obtain ⟨o', a, b⟩ := hn j (by simpa using hj)
        refine ⟨o', by simpa using a, ?_⟩
        rw [List.take_succ_cons, lcs_none, show p + (j + 1) = p + 1 + j by omega]; exact b
    · cases j with
      | zero => simp at hj
      | succ j =>
        obtain ⟨x, y, o', a, b⟩ := hr j q (by simpa using hj)
        refine ⟨by omega, by omega, o', by simpa using a, ?_⟩
        rw [List.take_succ_cons, lcs_none, show p + (j + 1) = p + 1 + j by omega]; exact b
  | @wr2 L o rest hp hd h g ih =>
    obtain ⟨res, e, hn, hr, hle, hg⟩ := ih
    refine ⟨none :: res, by simp only [List.length_cons]; omega, fun j hj => ?_, fun j q hj => ?_, by simp only [List.length_cons]; omega, fun v v' => by rw [lcs_none]; simpa using hg v v'⟩
    · cases j with
      | zero => exact ⟨o, rfl, .inr ⟨rfl, hp, hd, by simpa [lcs] using h⟩⟩
      | succ j =>
        obtain ⟨o', a, b⟩ := hn j (by simpa using hj)
        refine ⟨o', by simpa using a, ?_⟩
        rw [List.take_succ_cons, lcs_none, show r + (j + 1) = r + 1 + j by omega]; exact b
    · cases j with
      | zero => simp at hj
      | succ j =>
        obtain ⟨x, y, o', a, b⟩ := hr j q (by simpa using hj)
        refine ⟨by omega, by omega, o', by simpa using a, ?_⟩
        rw [List.take_succ_cons, lcs_none, show r + (j + 1) = r + 1 + j by omega]; exact b
  | @mid L i o rest d S hp hir hd h h2 h3 g ih =>
    obtain ⟨res, e, hn, hr, hle, hg⟩ := ih
    refine ⟨some (d, S) :: res, by simp only [List.length_cons]; omega, fun j hj => ?_, fun j q hj => ?_, by simp only [List.length_cons]; omega, fun v v' => by rw [lcs_some]; simpa using hg v v'⟩
    · cases j with
      | zero => simp at hj
      | succ j =>
        obtain ⟨o', a, b⟩ := hn j (by simpa using hj)
        refine ⟨o', by simpa using a, ?_⟩
        rw [List.take_succ_cons, lcs_some, show i + (j + 1) = i + 1 + j by omega]; exact b
    · cases j with
      | zero =>
        have hj : (d, S) = q := by simpa using hj
        subst hj
        exact ⟨by omega, by omega, o, rfl, hd, by simpa [lcs] using h, fun _ => ⟨fun v => by simpa [lcs] using h2 v, fun v v' => by simpa [lcs] using h3 v v'⟩⟩
      | succ j =>
        obtain ⟨x, y, o', a, b⟩ := hr j q (by simpa using hj)
        refine ⟨by omega, by omega, o', by simpa using a, ?_⟩
        rw [List.take_succ_cons, lcs_some, show i + (j + 1) = i + 1 + j by omega]; exact b
  | @fin L rest g => exact ⟨[], by simp, fun j hj => by simp at hj, fun j q hj => by simp at hj, by simp, fun v v' => by simpa [lcs] using g v v'⟩
open Classical in
noncomputable def bV (w : MidV) (p r : Nat) (B : List Res) (D : Nat → Prop) (ρ : Env) : List Res := if D r then w.B2 (ρ w.d1) (ρ w.d2) else if D p then w.B1 (ρ w.d1) else B
end
section
class OnlyV (B : List Res) (B' : outParam (List Res)) : Prop where h : Sb B B'
instance : OnlyV [] [] := ⟨.refl _⟩
instance {v : Value} {q : List SV} {t : TypeId} {B B' : List Res} [i : OnlyV B B'] : OnlyV (rV v q t :: B) (rV v q t :: B') := ⟨i.h.cons _⟩
instance (priority := low) {r : Res} {B B' : List Res} [i : OnlyV B B'] : OnlyV (r :: B) B' := ⟨(Sb.tl r B).trans i.h⟩
variable {P : Program} {n : Nat} {X : Fix} {ms : List Nat} {loc env : EL} {B Bm : List Res} {k : Kt} {ol rest : List Oper} {d p r m i d1 d2 : Nat} {op : Op} {ty : TypeId} {pos : String} {af : Array Edge} {sd : Prop} {S : SV} {t e : TypeId} {S1 S2 : Value → SV} {B1 : Value → List Res} {B2 : Value → Value → List Res}
structure GT (P : Program) (n : Nat) (X : Fix) (ms : List Nat) (loc env : EL) (B Bm : List Res) (ol rest : List Oper) (k : Kt) (p r m i : Nat) : Prop where
  p : Sb B Bm → ∃ w, GV P n X ms env ol B k w p r m loc i rest
structure GT1 (P : Program) (n : Nat) (X : Fix) (ms : List Nat) (loc env : EL) (Bm : List Res) (ol rest : List Oper) (k : Kt) (p r m i d1 : Nat) (S1 : Value → SV) (B1 : Value → List Res) : Prop where
  p : ∀ B, Sb B Bm → ∃ d2 S2 B2, (∀ v v', Sb (B2 v v') Bm) ∧ GV P n X ms env ol B k ⟨d1, S1, B1, d2, S2, B2⟩ p r m loc i rest
structure GT2 (P : Program) (n : Nat) (X : Fix) (ms : List Nat) (loc env : EL) (Bm : List Res) (ol rest : List Oper) (k : Kt) (p r m i d1 d2 : Nat) (S1 S2 : Value → SV) (B1 : Value → List Res) (B2 : Value → Value → List Res) : Prop where
  p : ∀ B, Sb B Bm → (∀ v, Sb (B1 v) Bm) → GV P n X ms env ol B k ⟨d1, S1, B1, d2, S2, B2⟩ p r m loc i rest
instance [lt : RflE (Nat.ble p i) false] [st : St P n true loc env B ms d op sd S] : Nx (GT P n X ms loc env B Bm ol (⟨some d, op, ty, pos, af, none⟩ :: rest) k p r m i) sd (GT P n X ms ((d, S) :: loc) env B Bm ol rest k p r m (i + 1)) := ⟨fun hs g => ⟨fun sb => by
  obtain ⟨w, hw⟩ := g.p sb
  exact ⟨w, .st d S (ltf lt.h) rfl (triP (st := st) hs fun _ h => h) hw⟩⟩⟩
theorem app_triv {B C : List Res} {loc' : EL} {α : Type} {rp : Rp α} {bb : Nat} {d0 : α} {q q' : List α} {v : Value} {o1 o2 : Operand} [ts : TS P t e] [rt : RT P e α rp bb d0] (lx : ∀ {h ρ}, Fx loc' env h ρ o1 → ev n ρ o1 = v) (pa : ∀ {w0 h w}, OwnB w0 B h w → OwnB w0 (rA rp e v q :: C) h w) [ly : Lu n true loc env o2 (lv rp q')] (ql : ∀ e ∈ loc, e ∈ loc') (hs : q.length + q'.length ≤ 9223372036854775807 ∧ (q.length + q'.length) * bb ≤ 140737488355328) : TriV P n X env B ol loc' ⟨some d, .call ⟨.builtin .append, [o1, o2].toArray, [t, t].toArray⟩, ty, pos, af, none⟩ (some (d, ov)) (fun v' => rA rp e v' (q ++ q') :: C) := fun ρ h w s => by
  obtain ⟨z, ti, el, hz⟩ := rt.e
  have s' : Sx X.h0 X.w0 loc' env B [o1, o2] ρ h w := s.sub (fun x hx => by simp [looks, Op.operands, Call.operands] at hx ⊢; exact hx) (fun _ h => h)
  have s2 : Sx X.h0 X.w0 loc env B [o1, o2] ρ h w := s'.sub (fun _ h => h) ql
  have hx := lx (s'.fx o1 (by simp))
  have hy := ly.h rfl (s2.fx o2 (by simp))
  have sb : Sy X.h0 X.w0 [] [] (rA rp e v q :: C) ρ h w := ⟨s.gr, trivial, trivial, pa s.ow⟩
  refine OpG.plain (OpW.appendL (lo := 0) ts.h el.hi el.hz el.hc el.hk s.gr.sat (Nat.zero_le _) hx rfl (sb.ow.at 0 rfl).1 hy hs.1 (by rw [el.hb]; exact hs.2) fun v' w' own ow hbl => ?_)
  have sn := own_app sb own ow hbl
  exact ⟨v', h, ⟨rfl, rfl, own_one own⟩, sn.gr, PH.le.refl h, (fun e => by cases e), (fun e => by cases e), sn.ow⟩
instance [eq : RflE (Nat.beq i p) true] {α : Type} {rp : Rp α} {bb : Nat} {d0 : α} {q q' : List α} {v : Value} {o1 o2 : Operand} {C : List Res} [ts : TS P t e] [rt : RT P e α rp bb d0] [lx : Lu n true loc env o1 (ov v)] [pa : PA B v α rp e q C] [ly : Lu n true loc env o2 (lv rp q')] : Nx (GT P n X ms loc env B Bm ol (⟨some d, .call ⟨.builtin .append, [o1, o2].toArray, [t, t].toArray⟩, ty, pos, af, none⟩ :: rest) k p r m i) (q.length + q'.length ≤ 9223372036854775807 ∧ (q.length + q'.length) * bb ≤ 140737488355328) (GT1 P n X ms loc env Bm ol rest k p r m (i + 1) d ov (fun v' => rA rp e v' (q ++ q') :: C)) := ⟨fun hs g => ⟨fun sb => by
  have e := Nat.eq_of_beq_eq_true eq.h
  subst e
  obtain ⟨d2, S2, B2, _, hw⟩ := g.p B sb
  exact ⟨_, .wr rfl (app_triv (fun f => (lx.h rfl f).1) pa.h.own (fun _ h => h) hs) hw⟩⟩⟩
instance (priority := high) [eq : RflE (Nat.beq i p) true] {α : Type} {rp : Rp α} {bb : Nat} {d0 : α} {q' : List α} {o1 o2 : Operand} [ts : TS P t e] [rt : RT P e α rp bb d0] [lx : Lu n true loc env o1 (.cv (.slice none 0 0))] [ly : Lu n true loc env o2 (lv rp q')] : Nx (GT P n X ms loc env B Bm ol (⟨some d, .call ⟨.builtin .append, [o1, o2].toArray, [t, t].toArray⟩, ty, pos, af, none⟩ :: rest) k p r m i) (q'.length ≤ 9223372036854775807 ∧ q'.length * bb ≤ 140737488355328) (GT1 P n X ms loc env Bm ol rest k p r m (i + 1) d ov (fun v' => rA rp e v' q' :: B)) := ⟨fun hs g => ⟨fun sb => by
  have e := Nat.eq_of_beq_eq_true eq.h
  subst e
  obtain ⟨d2, S2, B2, _, hw⟩ := g.p B sb
  exact ⟨_, .wr rfl (app_triv (q := []) (v := .slice none 0 0) (fun f => cvE (lx.h rfl f)) (fun {w0 h w} o => ⟨OwnL.nil rp 0 h w _, (fun i hi => by cases hi), (fun r' hr' i hi => by cases hi), o⟩) (fun _ h => h) ⟨by simpa using hs.1, by simpa using hs.2⟩) hw⟩⟩⟩
instance [lp : RflE (Nat.ble i p) false] [lr : RflE (Nat.beq i r) false] [lt : RflE (Nat.ble m i) false] [st : St P n true loc env Bm ms d op sd S] [o1 : ∀ v, OnlyV (B1 v) Bm] : Nx (GT1 P n X ms loc env Bm ol (⟨some d, op, ty, pos, af, none⟩ :: rest) k p r m i d1 S1 B1) sd (GT1 P n X ms ((d, S) :: loc) env Bm ol rest k p r m (i + 1) d1 S1 B1) := ⟨fun hs g => ⟨fun B sb => by
  obtain ⟨d2, S2, B2, h2, hw⟩ := g.p B sb
  have ht : TriP P n X env Bm ol loc ⟨some d, op, ty, pos, af, none⟩ d S := triP (st := st) hs fun _ h => h
  exact ⟨d2, S2, B2, h2, .mid d S (ltf lp.h) (fun e => by have := lr.h; rw [e, beq_self] at this; cases this) rfl (TriP.sb sb ht) (fun v => TriP.sb (o1 v).h ht) (fun v v' => TriP.sb (h2 v v') ht) hw⟩⟩⟩
instance [eq : RflE (Nat.beq i r) true] [lpr : RflE (Nat.ble r p) false] {α : Type} {rp : Rp α} {bb : Nat} {d0 : α} {q q' : List α} {V : Value → Value} {o1 o2 : Operand} {C : Value → List Res} [ts : TS P t e] [rt : RT P e α rp bb d0] [lx : ∀ u, Lu n true ((d1, S1 u) :: loc) env o1 (ov (V u))] [pa : ∀ u, PA (B1 u) (V u) α rp e q (C u)] [ly : Lu n true loc env o2 (lv rp q')] [b1 : ∀ u, OnlyV (B1 u) Bm] [b2 : ∀ u v', OnlyV (rA rp e v' (q ++ q') :: C u) Bm] : Nx (GT1 P n X ms loc env Bm ol (⟨some d, .call ⟨.builtin .append, [o1, o2].toArray, [t, t].toArray⟩, ty, pos, af, none⟩ :: rest) k p r m i d1 S1 B1) (q.length + q'.length ≤ 9223372036854775807 ∧ (q.length + q'.length) * bb ≤ 140737488355328) (GT2 P n X ms loc env Bm ol rest k p r m (i + 1) d1 d S1 ov B1 (fun u v' => rA rp e v' (q ++ q') :: C u)) := ⟨fun hs g => ⟨fun B sb => by
  have e := Nat.eq_of_beq_eq_true eq.h
  subst e
  exact ⟨d, ov, _, fun u v' => (b2 u v').h, .wr2 (ltf lpr.h) rfl (fun u => app_triv (fun f => ((lx u).h rfl f).1) (pa u).h.own (fun _ h => List.mem_cons_of_mem _ h) hs) (g.p B sb fun u => (b1 u).h)⟩⟩⟩
instance [lp : RflE (Nat.ble i p) false] [lr : RflE (Nat.beq i r) false] [lt : RflE (Nat.ble m i) false] [st : St P n true loc env Bm ms d op sd S] [o2 : ∀ u v', OnlyV (B2 u v') Bm] : Nx (GT2 P n X ms loc env Bm ol (⟨some d, op, ty, pos, af, none⟩ :: rest) k p r m i d1 d2 S1 S2 B1 B2) sd (GT2 P n X ms ((d, S) :: loc) env Bm ol rest k p r m (i + 1) d1 d2 S1 S2 B1 B2) := ⟨fun hs g => ⟨fun B sb sb1 => by
  have ht : TriP P n X env Bm ol loc ⟨some d, op, ty, pos, af, none⟩ d S := triP (st := st) hs fun _ h => h
  exact .mid d S (ltf lp.h) (fun e => by have := lr.h; rw [e, beq_self] at this; cases this) rfl (TriP.sb sb ht) (fun v => TriP.sb (sb1 v) ht) (fun v v' => TriP.sb (o2 v v').h ht) (g.p B sb sb1)⟩⟩
instance [eq : RflE (Nat.beq i m) true] : Nx (GT2 P n X ms loc env Bm ol rest k p r m i d1 d2 S1 S2 B1 B2) True (∀ v v', GO P n X ms ((d2, S2 v') :: (d1, S1 v) :: loc) env (B2 v v') ol rest k) := ⟨fun _ g => ⟨fun B sb sb1 => by
  have e := Nat.eq_of_beq_eq_true eq.h
  subst e
  exact .fin g⟩⟩
end
section
variable {P : Program} {n : Nat} {X : Fix} {ms : List Nat} {loc env : EL} {B : List Res} {ol : List Oper} {k : Kt}
theorem gDs (sz m : Nat) {id : Nat} [mx : MixO P] (hs : Nat.beq ol.length sz = true) (c : (dagC ol m (env.map (·.1)) && ol.all noDefer) = true) (g : GE P n X ms [] env B ol ol k (fun _ => false) m 0 (fun _ => []) []) : GW P n X ms loc env B (.region id ol.toArray true) k := gDr m c g
end
theorem _root_.Go.Ear.LR.cap {α : Type} {r : Rp α} {h : PH} {base : Option Addr} {len cap c : Nat} {l : List α} (u : LR r h (.slice base len cap) l) (hc : l.length ≤ c) : LR r h (.slice base len c) l := by
  obtain ⟨css, ⟨b0, cp, e, h1, h2, h3⟩, b⟩ := u
  cases e
  exact ⟨css, ⟨base, c, rfl, by rw [b.length]; exact hc, h2, h3⟩, b⟩
theorem OpW.sliceCap {P : Program} {n : Nat} {d : Nat} {ty : TypeId} {pos : String} {af : Array Edge} {g : Option (Nat × Bool)} {ρ : Env} {w : World} {K : Env → World → Prop} {t e : TypeId} {x y z : Operand} {k k2 : IntKind} {a : Option Addr} {l c m : Nat} {sz : Nat} (ht : IsUnd P t (.slice e)) (hs : IsSize P e sz) (hx : ev n ρ x = .slice a l c) (hy : ev n ρ y = .int k m) (hz : ev n ρ z = .int k2 m) (hm : m ≤ c)
    (hk : K (upd ρ d (.slice a m m)) w) : OpW P n ⟨some d, .slice t x none (some y) (some z), ty, pos, af, g⟩ ρ w K := by
  refine OpW.slice hx ?_ hk
  have hmm : (0 : Int) ≤ (m : Int) ∧ (m : Int) ≤ (c : Int) := by omega
  have hm2 : (0 : Int) ≤ (m : Int) ∧ (m : Int) ≤ (m : Int) := by omega
  have ha : (if m = 0 then a else a.map (·.add (0 * sz))) = a := by
    split
    · rfl
    · cases a <;> simp [Addr.add]
  simp only [Instr.sliceAt, Sem.run_bind, ht.run w, Result.andThen, Option.map_none, Option.map_some, hy, hz, Instr.slice, Instr.sliceBounds, Instr.sliceBound, asIntOf, Sem.run_pure, hmm, hm2, and_self, if_true, hs w, Int.toNat_natCast, Nat.sub_zero, ha]
section
variable {P : Program} {n : Nat} {c : Bool} {loc env : EL} {B : List Res} {ms : List Nat} {d : Nat} {t e : TypeId} {m : Nat} {x y z : Operand} {k k2 : IntKind} {i i2 : Int} {a b : Nat}
instance {α : Type} {r : Rp α} {q : List α} [ts : TS P t e] [tz : TZ P e m] [lx : Lu n c loc env x (lv r q)] [ly : Lu n c loc env y (.cv (.int k i))] [lz : Lu n c loc env z (.cv (.int k2 i2))] {sd sd2 : Prop} [tn : TN i a sd] [tn2 : TN i2 b sd2] : St P n c loc env B ms d (.slice t x none (some y) (some z)) ((sd ∧ sd2) ∧ a = b ∧ a ≤ q.length) (lv r (q.take a)) := .p fun qc hsd _ _ _ _ _ s _ _ _ _ _ kk => by
  have u : LR r _ _ q := lx.h qc (s.f x)
  obtain ⟨base, cp, e, hc⟩ := u.shape
  rw [e] at u
  obtain ⟨⟨s1, s2⟩, s3, s4⟩ := hsd
  subst s3
  exact OpW.sliceCap ts.h tz.h e ((cvE (ly.h qc (s.f y))).trans (by rw [tn.e s1])) ((cvE (lz.h qc (s.f z))).trans (by rw [tn2.e s2])) (Nat.le_trans s4 hc) (kk _ ((u.take a s4).cap (by simp; omega)))
instance {u : TypeId} {s1 s2 : ByteArray} [lx : Lu n c loc env x (.cv (.string s1))] [ly : Lu n c loc env y (.cv (.string s2))] : St P n c loc env B ms d (.binOp .eql t x y u) True (.cv (.bool (decide (s1.data.toList = s2.data.toList)))) := .p fun q _ _ _ _ _ _ s _ _ _ _ _ kk => OpW.eqlS (cvE (lx.h q (s.f x))) (cvE (ly.h q (s.f y))) (by
  rw [ByteArray.toList_eq, ByteArray.toList_eq, Bool.eq_iff_iff]; simp) (kk _ rfl)
end
section
variable {P : Program} {n : Nat} {X : Fix} {ms : List Nat} {loc env env' : EL} {B : List Res} {ol : List Oper} {k : Kt} {a b y : Code}
instance (priority := high) {id : Nat} [ap : AppL loc env env'] : Nx (GO P n X ms loc env B ol [] (.seq (.seq (.block id (.seq a b)) y) k)) True (GX P n X ms [] env' B .normal (.seq (.seq (.block id (.seq a b)) y) k)) := ⟨fun _ a => ⟨fun _ ρ h w s => Ops.nil (a.p ρ h w ⟨s.gr, trivial, by rw [← ap.h]; exact s.lo.app s.en, s.ow⟩)⟩⟩
instance (priority := high) {id : Nat} [ap : AppL loc env env'] : Nx (GO P n X ms loc env B ol [] (.seq (.block id (.seq a b)) k)) True (GX P n X ms [] env' B .normal (.seq (.block id (.seq a b)) k)) := ⟨fun _ a => ⟨fun _ ρ h w s => Ops.nil (a.p ρ h w ⟨s.gr, trivial, by rw [← ap.h]; exact s.lo.app s.en, s.ow⟩)⟩⟩
end
end Go.E3
set_option linter.unusedVariables false
set_option maxRecDepth 20000
set_option maxHeartbeats 4000000
set_option synthInstance.maxSize 1000
namespace Go.E3
open Go Go.Ear Go.Proofs
instance (priority := 20) {v : Value} {T : SV} {B : List Res} : SbB v T (B.map bo) (B.map bo) := ⟨fun _ o => ⟨o, fun r hr => ⟨r, hr, fun _ h => h⟩⟩⟩
def spL (x : List Int) : List Int := (trL x).map fun a => rnd a 16384
theorem spL_len {x : List Int} : (spL x).length = x.length := by unfold spL; rw [List.length_map, trL_len]
theorem spL_at {x : List Int} {k : Nat} (h : k < x.length) : (spL x).getD k 0 = rnd ((trL x).getD k 0) 16384 := by
  unfold spL; rw [List.getD_eq_getElem?_getD, List.getElem?_map, List.getD_eq_getElem?_getD, List.getElem?_eq_getElem (by rw [trL_len]; exact h)]; rfl
theorem spL_bd {x : List Int} {B : Int} (hl : x.length ≤ 64) (hB : 0 ≤ B) (hx : bdL B x) : bdL (64 * B) (spL x) := fun k => by
  by_cases h : k < x.length
  · rw [spL_at h, trL_at h]
    have h1 := trS_bd hx k x.length
    refine rnd_bd (by omega) ?_ ?_
    · have h2 : (x.length : Int) * (B * 16384) ≤ 64 * (B * 16384) := Int.mul_le_mul_of_nonneg_right (by omega) (by omega)
      omega
    · have h2 : (x.length : Int) * (B * 16384) ≤ 64 * (B * 16384) := Int.mul_le_mul_of_nonneg_right (by omega) (by omega)
      omega
  · rw [getD_off (by rw [spL_len]; omega)]; omega
instance spectrum_c {x : List Int} {B : List Res} [hg : HG B] : CtB Tryd.prog 54 [lv rI x] B ((1 ≤ x.length ∧ x.length ≤ 64) ∧ bdL 65536 x) (lv rI (spL x)) := by
  refine (ctB Tryd.call54 Tryd.func54 Tryd.ntmps54 rfl Tryd.results54 rfl [] fun h0 w0 ⟨⟨h1, h2⟩, h3⟩ => ?_)
  have hb := fun k => trS_bd h3 k x.length
  repeat first | refine nx ?_ | intro _
  rename_i v
  rw [trL_len]
  have hls : (spL x).length = (trL x).length := by rw [spL_len, trL_len]
  refine gLp (fun k : Nat => [(9, iv k)]) (fun k => [rA rI 3 v (mixL (spL x) (trL x) k)]) (fun k => k ≤ x.length) (fun k => x.length - k) 0 (Nat.zero_le _) fun k hk => ?_
  have hm : (mixL (spL x) (trL x) k).length = x.length := by rw [mixL_len hls, trL_len]
  repeat first | refine nx ?_ | intro _
  refine gIf (fun c => ?_) fun c => ?_
  · have hg : (mixL (spL x) (trL x) k).getD k 0 = (trL x).getD k 0 := mixL_at 0 hls (Nat.le_refl _)
    have hbk := hb k
    rw [← trL_at c] at hbk
    have hr : rndS ((trL x).getD k 0) 16384 := ⟨by omega, by omega, by omega, by omega⟩
    repeat first | refine nx ?_ | intro _
    rw [hg]
    repeat first | refine nx ?_ | intro _
    rw [← spL_at c, mixL_set 0 hls (by rw [spL_len]; exact c)]
    exact gBk (k + 1) (by omega) (by omega)
  · refine gFz v ?_
    repeat first | refine nx ?_ | intro _
    exact mixL_all hls (by rw [trL_len]; omega)
def sqS (l : List Int) : Nat → Int
  | 0 => 0
  | i + 1 => sqS l i + l.getD i 0 * l.getD i 0
theorem sqS_bd {l : List Int} {B : Int} (h : bdL B l) : ∀ i : Nat, 0 ≤ sqS l i ∧ sqS l i ≤ (i : Int) * (B * B)
  | 0 => by simp [sqS]
  | i + 1 => by
    have h1 := sqS_bd h i
    have h2 := mul_bd2 (h i) (h i)
    have h3 := sq_nn (l.getD i 0)
    rw [sqS, show ((i + 1 : Nat) : Int) * (B * B) = (i : Int) * (B * B) + B * B by rw [Int.natCast_add, Int.add_mul]; omega]
    omega
def bnP (s e : List Int) (b : Nat) : List Int := (s.take (e.getD (b + 1) 0).toNat).drop (e.getD b 0).toNat
def bnB (s e : List Int) (b : Nat) : Int := sqS (bnP s e b) (bnP s e b).length
def bnL (s e : List Int) : List Int := (List.range (e.length - 1)).map (bnB s e)
theorem bnL_len {s e : List Int} : (bnL s e).length = e.length - 1 := by simp [bnL]
theorem bnL_at {s e : List Int} {b : Nat} (h : b < e.length - 1) : (bnL s e).getD b 0 = bnB s e b := by
  unfold bnL; rw [List.getD_eq_getElem?_getD, List.getElem?_map, List.getElem?_range h]; rfl
theorem edO_at {e : List Int} {n : Int} (h : edO e n = true) : 2 ≤ e.length ∧ ∀ i, i < e.length → (0 ≤ e.getD i 0 ∧ e.getD i 0 ≤ n) ∧ (0 < i → e.getD (i - 1) 0 < e.getD i 0) := by
  unfold edO at h
  rw [Bool.and_eq_true, Bool.not_eq_true', decide_eq_true_eq] at h
  refine ⟨h.1, fun i hi => ?_⟩
  have h2 : edB e n i = false := by
    rcases hh : edB e n i with _ | _
    · rfl
    · rw [range_any_true hi hh] at h; exact absurd h.2 (by decide)
  have := of_decide_eq_false h2
  omega
theorem bdL_part {B : Int} {l : List Int} (hB : 0 ≤ B) (h : bdL B l) (a b : Nat) : bdL B ((l.take a).drop b) := fun i => by
  rw [List.getD_eq_getElem?_getD, List.getElem?_drop, List.getElem?_take]
  split
  · have := h (b + i); rwa [List.getD_eq_getElem?_getD] at this
  · simp; omega
instance bands_c {s e : List Int} : CtO Tryd.prog 53 [lv rI s, lv rI e] (edO e (s.length : Int) = true ∧ (s.length ≤ 64 ∧ bdL 4194304 s) ∧ e.length ≤ 33) (fun g => [rA rI 3 g.v (bnL s e)]) := by
  refine (ctO Tryd.call53 Tryd.func53 Tryd.ntmps53 rfl Tryd.results53 rfl [12] fun h0 w0 ⟨h1, ⟨h2, h3⟩, h6⟩ => ?_)
  obtain ⟨h4, h5⟩ := edO_at h1
  have hrep : (List.replicate (e.length - 1) (0 : Int)).length = e.length - 1 := List.length_replicate
  have hsub : ((e.length : Int) - 1) = ((e.length - 1 : Nat) : Int) := by omega
  repeat first | refine nx ?_ | intro _
  rw [hsub]
  repeat first | refine nx ?_ | intro _
  rename_i g
  rw [hrep]
  refine gLp (fun k : Nat => [(15, iv k)]) (fun k => [rA rI 3 g (Go.Ear.rowAt (bnL s e) 0 (e.length - 1) k)]) (fun k => k ≤ e.length - 1) (fun k => e.length - 1 - k) 0 (Nat.zero_le _) fun k hk => ?_
  have hrl : (Go.Ear.rowAt (bnL s e) 0 (e.length - 1) k).length = e.length - 1 := Go.Ear.rowAt_len bnL_len hk
  repeat first | refine nx ?_ | intro _
  refine gIf (fun c => ?_) fun c => ?_
  · have h7 := h5 k (by omega)
    have h8 := h5 (k + 1) (by omega)
    rw [Nat.add_sub_cancel] at h8
    have hlp : (bnP s e k).length ≤ 64 := by unfold bnP; rw [List.length_drop, List.length_take]; omega
    have hbp : bdL 4194304 (bnP s e k) := bdL_part (by omega) h3 _ _
    repeat first | refine nx ?_ | intro _
    rw [show List.drop (e.getD k 0).toNat (List.take (e.getD (k + 1) 0).toNat s) = bnP s e k from rfl]
    have hend : bnB s e k = sqS (bnP s e k) (bnP s e k).length := rfl
    generalize bnP s e k = q at *
    refine gLp (fun i : Nat => [(30, iv i)]) (fun i => [rA rI 3 g ((Go.Ear.rowAt (bnL s e) 0 (e.length - 1) k).set k (sqS q i))]) (fun i => i ≤ q.length) (fun i => q.length - i) 0 (Nat.zero_le _) (fun i hi => ?_) (h2 := ⟨by
      have e1 : (Go.Ear.rowAt (bnL s e) 0 (e.length - 1) k).getD k 0 = 0 := by
        unfold Go.Ear.rowAt
        rw [List.getD_eq_getElem?_getD, List.getElem?_append_right (by rw [List.length_take]; omega), List.getElem?_replicate]
        split <;> rfl
      have := set_self (l := Go.Ear.rowAt (bnL s e) 0 (e.length - 1) k) (i := k) (d := 0) (by omega)
      rw [e1] at this
      exact this.symm, trivial⟩)
    have hrs : ((Go.Ear.rowAt (bnL s e) 0 (e.length - 1) k).set k (sqS q i)).length = e.length - 1 := by rw [List.length_set, hrl]
    repeat first | refine nx ?_ | intro _
    refine gIf (fun c1 => ?_) fun c1 => ?_
    · have hg : ((Go.Ear.rowAt (bnL s e) 0 (e.length - 1) k).set k (sqS q i)).getD k 0 = sqS q i := getD_set_eq (by omega)
      have hb1 := sqS_bd hbp i
      have hb2 := mul_bd2 (hbp i) (hbp i)
      have hb : ¬ (sqS q i < 0 ∨ 1125899906842624 < sqS q i ∨ q.getD i 0 * q.getD i 0 < -17592186044416 ∨ 17592186044416 < q.getD i 0 * q.getD i 0) := by omega
      clear hb1 hb2
      repeat first | refine nx ?_ | intro _
      rw [hg, List.set_set]
      exact gBk (i + 1) (by omega) (by omega)
    · have e2 : i = q.length := by omega
      subst e2
      repeat first | refine nx ?_ | intro _
      rw [Go.Ear.rowAt_set bnL_len c (by rw [bnL_at c, hend])]
      exact gBk (k + 1) (by omega) (by omega)
  · repeat first | refine nx ?_ | intro _
    rw [Go.Ear.rowAt_end bnL_len (by omega)]
def extL (n : Nat) (x : List Int) : List Int := x.take n ++ (List.replicate n 0).drop x.length
theorem extL_len {n : Nat} {x : List Int} : (extL n x).length = n := by unfold extL; simp; omega
theorem extL_bd {n : Nat} {x : List Int} {B : Int} (hB : 0 ≤ B) (h : bdL B x) : bdL B (extL n x) := fun i => by
  unfold extL
  rw [List.getD_eq_getElem?_getD, List.getElem?_append]
  split
  · rw [List.getElem?_take]
    split
    · have := h i; rwa [List.getD_eq_getElem?_getD] at this
    · simp; omega
  · rw [List.getElem?_drop, List.getElem?_replicate]
    split <;> simp <;> omega
theorem padI_bd {m : Int} (h : m ≤ 64) : 1 ≤ padI m ∧ padI m ≤ 64 ∧ m ≤ padI m := by
  unfold padI
  repeat' split
  all_goals omega
instance cepstrum_c {x : List Int} {n : Int} {B : List Res} [hg : HG B] : CtB Tryd.prog 55 [lv rI x, iv n] B ((x.length ≤ 64 ∧ bdL 65536 x) ∧ 0 ≤ n ∧ n ≤ padI x.length) (lv rI ((spL (extL (padI x.length).toNat x)).take n.toNat)) := by
  refine (ctB Tryd.call55 Tryd.func55 Tryd.ntmps55 rfl Tryd.results55 rfl [9] fun h0 w0 ⟨⟨h1, h2⟩, h3, h4⟩ => ?_)
  obtain ⟨m, rfl⟩ : ∃ m : Nat, n = (m : Int) := ⟨n.toNat, by omega⟩
  rw [Int.toNat_natCast]
  have hp := padI_bd (m := x.length) (by omega)
  obtain ⟨N, hN⟩ : ∃ N : Nat, padI x.length = (N : Int) := ⟨(padI x.length).toNat, by omega⟩
  rw [hN] at hp h4
  rw [hN, Int.toNat_natCast]
  have hle := extL_len (n := N) (x := x)
  have hbe := extL_bd (n := N) (by omega) h2
  have hsl := spL_len (x := extL N x)
  repeat first | refine nx ?_ | intro _
  rw [hN]
  repeat first | refine nx ?_ | intro _
  rename_i v
  rw [List.length_replicate, show x.take N ++ (List.replicate N 0).drop x.length = extL N x from rfl]
  repeat first | refine nx ?_ | intro _
  trivial
instance Weigh_i {l : List Int} {S : SV} {w : Int} [j : Vw (lv rI) S l] : Ct Tryd.prog 52 [S, iv w] (((1 ≤ l.length ∧ l.length ≤ 4096) ∧ 1 ≤ w ∧ w ≤ 3) ∧ valE l = 0 ∧ bdL 65536 l) (.tp [lv rI (wgL l w.toNat), iv 0]) :=
  ⟨(Weigh_c (k := 0) (j := j)).fn, fun ⟨⟨h1, h2, h3⟩, h4, h5⟩ => by
    obtain ⟨k, rfl⟩ : ∃ k : Nat, w = (k : Int) := ⟨w.toNat, by omega⟩
    rw [Int.toNat_natCast]
    exact (Weigh_c (k := k) (j := j)).h ⟨⟨h1, by omega, by omega⟩, h4, fun i _ => h5 i⟩⟩
theorem valE_ok {l : List Int} {B : Int} (h1 : l.length ≤ 200000) (hB : B ≤ 2147483647) (h : bdL B l) : valE l = 0 := by
  unfold valE
  rw [if_neg (by omega), if_neg]
  rw [Bool.not_eq_true, List.any_eq_false]
  intro v hv
  obtain ⟨i, hi, rfl⟩ := List.getElem_of_mem hv
  have := h i
  rw [List.getD_eq_getElem?_getD, List.getElem?_eq_getElem hi] at this
  unfold outI
  simp only [Option.getD_some] at this
  rw [decide_eq_false (by omega), decide_eq_false (by omega)]; simp
@[reducible] def rcpC (r : Rcp) : List SV := [iv r.num, iv r.den, iv r.size, iv r.step, iv r.win, iv r.pts, lv rI r.edges, iv r.cep, bv r.dif, bv r.cen]
def lgL (r : Rcp) (f : List Int) : List Int := (bnL (spL (extL r.pts.toNat (wgL f r.win.toNat))) r.edges).map lgF
def vecL (r : Rcp) (f : List Int) : List Int := if 0 < r.cep then (spL (extL (padI (lgL r f).length).toNat (lgL r f))).take r.cep.toNat else lgL r f
theorem wgL_bd {l : List Int} {m : Nat} {B : Int} (hl : l.length ≤ 4096) (hB : 0 ≤ B) (h : bdL B l) : bdL B (wgL l m) := fun i => by
  by_cases hi : i < l.length
  · rw [wgL_at hi]; exact wgI_bd hl hi hB (h i)
  · rw [getD_off (by simp [wgL]; omega)]; omega
theorem bnL_bd {s e : List Int} (h1 : s.length ≤ 64) (h2 : bdL 4194304 s) (k : Nat) : 0 ≤ (bnL s e).getD k 0 ∧ (bnL s e).getD k 0 ≤ 1125899906842624 := by
  by_cases h : k < e.length - 1
  · rw [bnL_at h]
    have hl : (bnP s e k).length ≤ 64 := by unfold bnP; rw [List.length_drop, List.length_take]; omega
    have := sqS_bd (l := bnP s e k) (bdL_part (by omega) h2 _ _) (bnP s e k).length
    unfold bnB
    omega
  · rw [getD_off (by rw [bnL_len]; omega)]; omega
theorem map_at {f : Int → Int} {l : List Int} {k : Nat} (h : k < l.length) : (l.map f).getD k 0 = f (l.getD k 0) := by
  rw [List.getD_eq_getElem?_getD, List.getElem?_map, List.getD_eq_getElem?_getD, List.getElem?_eq_getElem h]; rfl
theorem bdL_map {f : Int → Int} {l : List Int} {B : Int} (hB : 0 ≤ B) (h : ∀ k, k < l.length → -B ≤ f (l.getD k 0) ∧ f (l.getD k 0) ≤ B) : bdL B (l.map f) := fun k => by
  by_cases hk : k < l.length
  · rw [map_at hk]; exact h k hk
  · rw [getD_off (by rw [List.length_map]; omega)]; omega
instance vector_c {r : Rcp} {f : List Int} {B : List Res} [hg : HG B] : CtB Tryd.prog 30 [.pk (rcpC r) 0, lv rI f] B (r.Ok ∧ (f.length : Int) = r.size ∧ bdL 65536 f) (lv rI (vecL r f)) := by
  refine (ctB Tryd.call30 Tryd.func30 Tryd.ntmps30 rfl Tryd.results30 rfl [25, 36] fun h0 w0 ⟨ok, h1, h2⟩ => ?_)
  have hl := isLen_pos ok.len
  have hs := ok.size
  have hw := ok.win
  have hv : valE f = 0 := valE_ok (by omega) (by omega) h2
  obtain ⟨N, hN⟩ : ∃ N : Nat, r.pts = (N : Int) := ⟨r.pts.toNat, by omega⟩
  obtain ⟨he2, he⟩ := ok.edges
  have hlw : (wgL f r.win.toNat).length = f.length := by simp [wgL]
  have hle := extL_len (n := N) (x := wgL f r.win.toNat)
  have hbe := extL_bd (n := N) (by omega) (wgL_bd (m := r.win.toNat) (by omega) (by omega) h2)
  have hsl := spL_len (x := extL N (wgL f r.win.toNat))
  have hsb := spL_bd (by omega) (by omega) hbe
  have hed : edO r.edges ((spL (extL N (wgL f r.win.toNat))).length : Int) = true := by rw [hsl, hle, ← hN]; exact he2
  have hlg : lgL r f = (bnL (spL (extL N (wgL f r.win.toNat))) r.edges).map lgF := by unfold lgL; rw [hN, Int.toNat_natCast]
  repeat first | refine nx ?_ | intro _
  rw [hN]
  refine nx ?_
  intro v
  iterate 11 refine nx ?_
  rw [List.length_replicate, show (wgL f r.win.toNat).take N ++ (List.replicate N 0).drop (wgL f r.win.toNat).length = extL N (wgL f r.win.toNat) from rfl]
  refine gFz v ?_
  repeat first | refine nx ?_ | intro _
  rename_i ν
  generalize (ν 36).v = v8
  have hbn := fun k => bnL_bd (e := r.edges) (by rw [hsl, hle]; omega) hsb k
  have hbl : (bnL (spL (extL N (wgL f r.win.toNat))) r.edges).length = r.edges.length - 1 := bnL_len
  generalize bnL (spL (extL N (wgL f r.win.toNat))) r.edges = q at *
  clear hbe hsl hsb hed hle
  generalize extL N (wgL f r.win.toNat) = ex at *
  have hls : (q.map lgF).length = q.length := List.length_map ..
  have hlb : bdL 65536 (q.map lgF) := bdL_map (by omega) fun k hk => by
    have := lgF_bd (e := q.getD k 0) (by have := hbn k; omega)
    omega
  have hcep := ok.cep
  refine gLp (fun k : Nat => [(39, iv k)]) (fun k => [rA rI 3 v8 (mixL (q.map lgF) q k)]) (fun k => k ≤ q.length) (fun k => q.length - k) 0 (Nat.zero_le _) fun k hk => ?_
  have hm : (mixL (q.map lgF) q k).length = q.length := mixL_len hls
  repeat first | refine nx ?_ | intro _
  refine gIf (fun c => ?_) fun c => ?_
  · have hg : (mixL (q.map lgF) q k).getD k 0 = q.getD k 0 := mixL_at 0 hls (Nat.le_refl _)
    have hbk := hbn k
    have hq : 0 ≤ q.getD k 0 ∧ q.getD k 0 < 9223372036854775808 := by omega
    clear hbk
    repeat first | refine nx ?_ | intro _
    rw [hg]
    rw [← map_at (f := lgF) c, mixL_set 0 hls (by omega)]
    exact gBk (k + 1) (by omega) (by omega)
  · refine gFz v8 ?_
    rw [mixL_all hls (by omega)]
    rw [← hlg] at hls hlb ⊢
    have hcs : ((lgL r f).length ≤ 64 ∧ bdL 65536 (lgL r f)) ∧ 0 ≤ r.cep ∧ r.cep ≤ padI ((lgL r f).length : Int) := by
      refine ⟨⟨by omega, hlb⟩, hcep.1, ?_⟩
      rw [hls, hbl]
      have : ((r.edges.length - 1 : Nat) : Int) = (r.edges.length : Int) - 1 := by have := (edO_at he2).1; omega
      rw [this]; exact hcep.2
    unfold vecL
    repeat first | refine nx ?_ | intro _
    refine gIf (fun c1 => ?_) fun c1 => ?_
    · rw [if_pos c1]
      repeat first | refine nx ?_ | intro _
      trivial
    · rw [if_neg c1]
      repeat first | refine nx ?_ | intro _
      trivial
end Go.E3
