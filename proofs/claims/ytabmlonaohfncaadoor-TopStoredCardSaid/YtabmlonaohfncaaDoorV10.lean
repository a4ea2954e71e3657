/- V10: a part of the proofs about what is clipped and stored: how the program's functions run, and what they compute, for every input. -/
import Derived.Laws.BytesString
import Derived.Test.YtabmlonaohfncaaDoorV9
set_option linter.all false
set_option linter.unusedVariables false
set_option maxRecDepth 20000
set_option maxHeartbeats 8000000
set_option synthInstance.maxSize 1000
namespace Go.E3
open Go Go.Ear Go.Proofs
def bsS (q : List Nat) : ByteArray := (q.map fun x : Nat => (x : Int)).foldl (fun r n => r.push (UInt8.ofNat n.toNat)) ByteArray.empty
theorem rowsY {h : PH} : ∀ {css : List (List Value)} {q : List Nat}, Go.Ear.Rows rY h css q → css.flatten = (q.map fun x : Nat => (x : Int)).map (Value.int .u8)
  | [], [], _ => rfl
  | cs :: css, x :: q, ⟨a, b⟩ => by
    have := rowsY b
    match cs, a with
    | [v], ⟨hv, _⟩ =>
      have hv : v = .int .u8 (x : Int) := hv
      rw [List.flatten_cons, this, hv]; rfl
section
variable {P : Program} {n : Nat} {c : Bool} {loc env : EL} {B : List Res} {ms : List Nat} {d : Nat} {x y : Operand} {t u e : TypeId} {q : List Nat}
theorem OpW.neqS {ρ : Env} {w : World} {K : Env → World → Prop} {ty : TypeId} {pos : String} {af : Array Edge} {g : Option (Nat × Bool)} {a b : ByteArray} {r : Bool} (hx : ev n ρ x = .string a) (hy : ev n ρ y = .string b) (hr : (!(a.toList == b.toList)) = r)
    (hk : K (upd ρ d (.bool r)) w) : OpW P n ⟨some d, .binOp .neq t x y u, ty, pos, af, g⟩ ρ w K := by
  refine OpW.valD ?_ hk
  subst hr
  simp [execOp, hx, hy, eqGuard, binOp, Op.stringOp]
instance {s1 s2 : ByteArray} [lx : Lu n c loc env x (.cv (.string s1))] [ly : Lu n c loc env y (.cv (.string s2))] : St P n c loc env B ms d (.binOp .neq t x y u) True (.cv (.bool (decide (s1.data.toList ≠ s2.data.toList)))) := .p fun q _ _ _ _ _ _ s _ _ _ _ _ kk => OpW.neqS (cvE (lx.h q (s.f x))) (cvE (ly.h q (s.f y))) (by
  rw [ByteArray.toList_eq, ByteArray.toList_eq, Bool.eq_iff_iff]; simp) (kk _ rfl)
instance [ts : TS P t e] [te : TI P e .u8] [tu : TStr P u] [lx : Lu n c loc env x (lv rY q)] : St P n c loc env B ms d (.convert t u x) (1 ≤ q.length) (.cv (.string (bsS q))) := .p fun qc hq _ _ _ _ w s _ _ _ _ _ kk => by
  have ul : LR rY _ _ q := lx.h qc (s.f x)
  obtain ⟨css, sl, rr⟩ := ul
  obtain ⟨hl, base, cp, hv, hx⟩ := sl.reads s.gr.sat
  have hcl := rr.length
  have hfl := rowsY rr
  rcases hx with hx | ⟨b, off, arr, e', fz, rfl, h1, h2, h3⟩
  · rw [hfl] at hx; cases q with
    | nil => simp at hq
    | cons a l => simp at hx
  · refine OpW.valD ?_ (kk _ rfl)
    have hk1 : rY.k = 1 := rfl
    rw [hk1, Nat.mul_one] at h2 h3
    have hld : (loadCells ⟨b, off, none⟩ css.length).run P w = .ok ((q.map fun x : Nat => (x : Int)).map (Value.int .u8)).toArray w := by
      have := Go.Ear.run_loadCellsFrom (P := P) h1 css.length 0 #[] (by omega)
      rw [Nat.add_zero, h3, hfl] at this
      simpa [loadCells] using this
    have hb := run_bytesToString (P := P) w ⟨b, off, none⟩ css.length cp _ hld
    have hc := run_convert_bytes_string (P := P) w t u e (some ⟨b, off, none⟩) css.length cp ts.h te.h tu.h
    rw [hb] at hc
    simp only [execOp, hv, Sem.run_bind, hc, Result.andThen]; rfl
end
theorem leN_at {b : List Nat} {a n : Nat} : ∀ {k : Nat}, (∀ i, i < k → b.getD (a + i) 0 = n / 256 ^ i % 256) → leN b a k = n % 256 ^ k
  | 0, _ => by show 0 = n % 1; omega
  | k + 1, h => by
    show leN b a k + b.getD (a + k) 0 * 256 ^ k = _
    rw [leN_at fun i hi => h i (by omega), h k (by omega), Nat.pow_succ, Nat.mod_mul, Nat.mul_comm]
theorem byL_at {n k i : Nat} (h : i < k) : (byL n k).getD i 0 = n / 256 ^ i % 256 := by
  unfold byL
  rw [List.getD_eq_getElem?_getD, List.getElem?_map, List.getElem?_range h]; rfl
theorem leN_mid {x y : List Nat} {n k : Nat} {a : Nat} (ha : a = x.length) : leN (x ++ byL n k ++ y) a k = n % 256 ^ k := by
  subst ha
  refine leN_at fun i hi => ?_
  rw [List.getD_eq_getElem?_getD, List.append_assoc, List.getElem?_append_right (by omega), show x.length + i - x.length = i by omega, List.getElem?_append_left (by rw [byL_len]; exact hi), ← List.getD_eq_getElem?_getD, byL_at hi]
end Go.E3
