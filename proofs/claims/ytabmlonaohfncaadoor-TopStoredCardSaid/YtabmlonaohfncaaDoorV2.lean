/- V2: a part of the proofs about what is clipped and stored: how the program's functions run, and what they compute, for every input. -/
import Derived.Laws.StructEq
import Derived.Test.YtabmlonaohfncaaDoorV1
set_option linter.all false
set_option linter.unusedVariables false
set_option maxRecDepth 20000
set_option maxHeartbeats 4000000
set_option synthInstance.maxSize 1000
namespace Go.E3
open Go Go.Ear Go.Proofs
def engL (l : List Int) : Int := l.foldl (fun s v => s + v * v) 0
theorem sqr_bd {v : Int} (h : ¬ (v < -32768 ∨ 32768 < v)) : 0 ≤ v * v ∧ v * v ≤ 1073741824 := by
  rcases Int.le_total 0 v with h1 | h1
  · exact ⟨Int.mul_nonneg h1 h1, by have := Int.mul_le_mul (show v ≤ 32768 by omega) (show v ≤ 32768 by omega) h1 (by omega); omega⟩
  · have e : v * v = (-v) * (-v) := by rw [Int.neg_mul_neg]
    rw [e]
    exact ⟨Int.mul_nonneg (by omega) (by omega), by have := Int.mul_le_mul (show -v ≤ 32768 by omega) (show -v ≤ 32768 by omega) (by omega) (by omega); omega⟩
theorem engL_bd : ∀ (l : List Int) (s : Int), (∀ z ∈ l, ¬ (z < -32768 ∨ 32768 < z)) → 0 ≤ s → s ≤ l.foldl (fun s v => s + v * v) s ∧ l.foldl (fun s v => s + v * v) s ≤ s + l.length * 1073741824
  | [], s, _, hs => by simp
  | z :: l, s, h, hs => by
    have h1 := sqr_bd (h z (by simp))
    have h2 := engL_bd l (s + z * z) (fun y hy => h y (by simp [hy])) (by omega)
    rw [List.foldl_cons, List.length_cons]
    push_cast
    omega
instance energy_c {l : List Int} {S : SV} [j : Vw (lv rI) S l] : Ct Tryd.prog 79 [S] (l.length ≤ 4096 ∧ ∀ z ∈ l, ¬ (z < -32768 ∨ 32768 < z)) (iv (engL l)) := by
  refine ct1 j (ctI Tryd.call79 Tryd.func79 Tryd.ntmps79 rfl Tryd.results79 rfl [] fun h0 w0 ⟨hl, hb⟩ => ?_)
  repeat first | refine nx ?_ | intro _
  refine gLp (fun k : Nat => [(8, iv k), (3, iv ((l.take k).foldl (fun s v => s + v * v) 0))]) (fun _ => []) (fun k => k ≤ l.length) (fun k => l.length - k) 0 (Nat.zero_le _) fun k hk => ?_
  repeat first | refine nx ?_ | intro _
  refine gIf (fun c1 => ?_) fun c1 => ?_
  · have h1 := sqr_bd (hb _ (getD_in 0 c1))
    have h2 := engL_bd (l.take k) 0 (fun z hz => hb z (List.mem_of_mem_take hz)) (Int.le_refl _)
    have h3 : ((l.take k).length : Int) ≤ 4096 := by rw [List.length_take]; omega
    have h4 : ¬ ((l.take k).foldl (fun s v => s + v * v) 0 < 0 ∨ 4398046511104 < (l.take k).foldl (fun (s : Int) v => s + v * v) 0) := by omega
    have h5 : ¬ (l.getD k 0 * l.getD k 0 < 0 ∨ 1073741824 < l.getD k 0 * l.getD k 0) := by omega
    clear h1 h2 h3
    repeat first | refine nx ?_ | intro _
    exact gBk (k + 1) c1 (by omega) (h1 := by rw [foldl_take _ _ l 0 c1]; simp)
  · repeat first | refine nx ?_ | intro _
    rw [List.take_of_length_le (by omega)]; rfl
instance next_c {r : Int} {b : Bool} : Ct Tryd.prog 80 [iv r, bv b] (¬ (r < 0 ∨ 1000000 < r)) (iv (if b then r + 1 else 0)) := by
  refine (ctI Tryd.call80 Tryd.func80 Tryd.ntmps80 rfl Tryd.results80 rfl [] fun h0 w0 hr => ?_)
  repeat first | refine nx ?_ | intro _
  refine gIf (fun c => ?_) fun c => ?_ <;> repeat first | refine nx ?_ | intro _
  · simp [c]
  · simp [c]
instance in_c {x lo hi : Int} : Ct Tryd.prog 78 [iv x, iv lo, iv hi] True (bv (decide (lo ≤ x ∧ x ≤ hi))) := by
  refine (ctI Tryd.call78 Tryd.func78 Tryd.ntmps78 rfl Tryd.results78 rfl [] fun h0 w0 _ => ?_)
  repeat first | refine nx ?_ | intro _
  rw [Bool.eq_iff_iff]; simp
structure Gt where
  block : Int
  high : Int
  low : Int
  rise : Int
  fall : Int
  lead : Int
  longest : Int
@[reducible] def gtv (g : Gt) : SV := .ag [iv g.block, iv g.high, iv g.low, iv g.rise, iv g.fall, iv g.lead, iv g.longest]
structure Gt.Ok (g : Gt) : Prop where
  block : 1 ≤ g.block ∧ g.block ≤ 4096
  low : 0 ≤ g.low ∧ g.low ≤ g.high
  high : g.high ≤ 1073741824
  rise : 1 ≤ g.rise ∧ g.rise ≤ 1000
  fall : 1 ≤ g.fall ∧ g.fall ≤ 1000
  lead : 0 ≤ g.lead ∧ g.lead ≤ 1000
  longest : g.rise + g.fall + g.lead ≤ g.longest ∧ g.longest ≤ 100000
noncomputable instance {g : Gt} : Decidable g.Ok := Classical.propDecidable _
instance right_c {g : Gt} : Ct Tryd.prog 61 [gtv g] True (bv (decide g.Ok)) := by
  refine (ctI Tryd.call61 Tryd.func61 Tryd.ntmps61 rfl Tryd.results61 rfl [] fun h0 w0 _ => ?_)
  repeat first | refine nx ?_ | intro _
  rw [Bool.eq_iff_iff]
  simp only [Bool.and_eq_true, decide_eq_true_eq]
  exact ⟨fun ⟨⟨⟨⟨⟨⟨a, b⟩, c⟩, d⟩, e⟩, f⟩, g⟩ => ⟨a, b, c, d, e, f, g⟩, fun ⟨a, b, c, d, e, f, g⟩ => ⟨⟨⟨⟨⟨⟨a, b⟩, c⟩, d⟩, e⟩, f⟩, g⟩⟩
theorem run_eq39 {d : Nat} {a b a' b' : Int} {w : World} : (Op.equalIn (d + 1 + 1) 39 (.agg #[.int .i64 a, .int .i64 b]) (.agg #[.int .i64 a', .int .i64 b'])).run Tryd.prog w = .ok (a == a' && b == b') w := by
  rw [run_equalIn_struct w (d + 1) 39 _ _ (by kernel_rfl) (by kernel_rfl)]
  have hf : ∃ f1 f2 : Field, (Tryd.prog.fieldsOf 39).toList = [f1, f2] ∧ (f1.name ≠ "_" ∧ f1.type = 3 ∧ f1.offset = 0) ∧ (f2.name ≠ "_" ∧ f2.type = 3 ∧ f2.offset = 1) := by
    obtain ⟨fs, f, sz, h1, h2, h3, h4, h5⟩ := (inferInstance : FA Tryd.prog 39 0 0).h
    unfold Program.fieldsOf
    refine ⟨_, _, rfl, ⟨by decide, rfl, rfl⟩, ⟨by decide, rfl, rfl⟩⟩
  obtain ⟨f1, f2, hf, ⟨n1, t1, o1⟩, ⟨n2, t2, o2⟩⟩ := hf
  rw [hf]
  have hu : Tryd.prog.underlying 3 = some (.int .i64) := Tryd.underlying3
  have hs : ∀ (xs : Array Value) (o : Nat) (v : Value), xs[o]? = some v → ∀ w, (part 3 xs o).run Tryd.prog w = .ok v w := fun xs o v h w => by
    simp [part, isAgg, run_underlying hu, h]
  have he : ∀ (x y : Int) (w : World), (Op.equalIn (d + 1) 3 (.int .i64 x) (.int .i64 y)).run Tryd.prog w = .ok (x == y) w := fun x y w => run_equalIn_int w d 3 .i64 .i64 x y hu
  simp only [Op.eqFields, if_pos n1, if_pos n2, t1, t2, o1, o2, Sem.run_bind]
  rw [hs _ 0 (.int .i64 a) rfl, Result.andThen_ok, hs _ 0 (.int .i64 a') rfl, Result.andThen_ok, he, Result.andThen_ok]
  cases a == a'
  · rfl
  · simp only [Bool.not_true, Bool.false_eq_true, if_false, Sem.run_bind]
    rw [hs _ 1 (.int .i64 b) rfl, Result.andThen_ok, hs _ 1 (.int .i64 b') rfl, Result.andThen_ok, he, Result.andThen_ok]
    cases b == b' <;> rfl
section
variable {n : Nat} {c : Bool} {loc env : EL} {B : List Res} {ms : List Nat} {d : Nat} {x y : Operand} {i1 i2 j1 j2 : Int} {u : TypeId}
instance [lx : Lu n c loc env x (.ag [iv i1, iv i2])] [ly : Lu n c loc env y (.ag [iv j1, iv j2])] : St Tryd.prog n c loc env B ms d (.binOp .neq 39 x y u) True (bv (!(i1 == j1 && i2 == j2))) := .p fun q _ h0 w0 ρ h w s _ _ _ _ _ k => by
  obtain ⟨vs, e1, h1⟩ := lx.h q (s.f x)
  obtain ⟨us, e2, h2⟩ := ly.h q (s.f y)
  match vs, us, h1, h2 with
  | [_, _], [_, _], ⟨a1, a2, _⟩, ⟨b1, b2, _⟩ =>
    have a1 : _ = _ := a1; have a2 : _ = _ := a2; have b1 : _ = _ := b1; have b2 : _ = _ := b2
    subst a1; subst a2; subst b1; subst b2
    refine OpW.valD ?_ (k _ rfl)
    have hb : (binOp .neq 39 (.agg #[.int .i64 i1, .int .i64 i2]) (.agg #[.int .i64 j1, .int .i64 j2])).run Tryd.prog w = .ok (.bool (!(i1 == j1 && i2 == j2))) w := by
      rw [run_neq_struct, run_eq39 (d := 9998), Result.andThen_ok]
    have hg : (eqGuard .neq 39 x y (.agg #[.int .i64 i1, .int .i64 i2]) (.agg #[.int .i64 j1, .int .i64 j2])).run Tryd.prog w = .ok () w := run_eqGuard_agg w .neq 39 x y _ _ (by kernel_rfl)
    have hx : ev n ρ x = .agg #[.int .i64 i1, .int .i64 i2] := e1
    have hy : ev n ρ y = .agg #[.int .i64 j1, .int .i64 j2] := e2
    simp only [execOp, hx, hy, Sem.run_bind, hg, Result.andThen, hb]; rfl
end
instance sameSg_c {l l2 : List (Int × Int)} {S T : SV} [j : Vw (lv rSg) S l] [k : Vw (lv rSg) T l2] : Ct Tryd.prog 16 [S, T] (l.length ≤ 1099511627776 ∧ l2 = l) (bv true) := by
  refine ct2 j k (ctI Tryd.call16 Tryd.func16 Tryd.ntmps16 rfl Tryd.results16 rfl [] fun h0 w0 ⟨h1, h2⟩ => ?_)
  have h2 := h2.symm
  subst h2
  repeat first | refine nx ?_ | intro _
  refine gIf (fun c => absurd rfl c) fun c => ?_
  repeat first | refine nx ?_ | intro _
  refine gLp (fun k : Nat => [(5, iv k)]) (fun _ => []) (fun k => k ≤ l.length) (fun k => l.length - k) 0 (Nat.zero_le _) fun k hk => ?_
  repeat first | refine nx ?_ | intro _
  refine gIf (fun c1 => ?_) fun c1 => ?_
  · repeat first | refine nx ?_ | intro _
    refine gIf (fun c2 => ?_) fun c2 => ?_ <;> repeat first | refine nx ?_ | intro _
    · simp at c2
    · exact gBk (k + 1) c1 (by omega)
  · repeat first | refine nx ?_ | intro _
    trivial
instance sameLs_c {l l2 : List (List Int)} {S T : SV} [j : Vw (lv (rL rI)) S l] [k : Vw (lv (rL rI)) T l2] : Ct Tryd.prog 17 [S, T] ((l.length ≤ 1099511627776 ∧ ∀ x ∈ l, x.length ≤ 1099511627776) ∧ l2 = l) (bv true) := by
  refine ct2 j k (ctI Tryd.call17 Tryd.func17 Tryd.ntmps17 rfl Tryd.results17 rfl [] fun h0 w0 ⟨⟨h1, h3⟩, h2⟩ => ?_)
  have h2 := h2.symm
  subst h2
  repeat first | refine nx ?_ | intro _
  refine gIf (fun c => absurd rfl c) fun c => ?_
  repeat first | refine nx ?_ | intro _
  refine gLp (fun k : Nat => [(5, iv k)]) (fun _ => []) (fun k => k ≤ l.length) (fun k => l.length - k) 0 (Nat.zero_le _) fun k hk => ?_
  repeat first | refine nx ?_ | intro _
  refine gIf (fun c1 => ?_) fun c1 => ?_
  · have h4 := h3 _ (getD_in [] c1)
    repeat first | refine nx ?_ | intro _
    refine gIf (fun c2 => ?_) fun c2 => ?_ <;> repeat first | refine nx ?_ | intro _
    · exact absurd rfl c2
    · exact gBk (k + 1) c1 (by omega)
  · repeat first | refine nx ?_ | intro _
    trivial
end Go.E3
