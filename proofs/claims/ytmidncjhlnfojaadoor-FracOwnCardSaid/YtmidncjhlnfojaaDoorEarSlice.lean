/- About package frac: EarSlice. -/
import Derived.Test.YtmidncjhlnfojaaDoorEarOps
set_option linter.all false
namespace Go.Ear
def Sl (h : PH) (k : Nat) (v : Value) (css : List (List Value)) : Prop :=
  ∃ (base : Option Addr) (cap : Nat), v = .slice base css.length cap ∧ css.length ≤ cap ∧ (∀ cs ∈ css, cs.length = k) ∧
    (css = [] ∨ ∃ b off arr e fz, base = some ⟨b, off, none⟩ ∧ h b = some (.cells arr e fz) ∧ off + css.length * k ≤ arr.size ∧ ∀ i cs, css[i]? = some cs → cut arr (off + i * k) k = cs)
theorem Sl.mono {h h' : PH} {k : Nat} {v : Value} {css : List (List Value)} (s : Sl h k v css) (l : h.le h') : Sl h' k v css := by
  obtain ⟨base, cap, rfl, hc, hk, hx⟩ := s
  refine ⟨base, cap, rfl, hc, hk, ?_⟩
  rcases hx with hx | ⟨b, off, arr, e, fz, h1, h2, h3, h4⟩
  · exact .inl hx
  · exact .inr ⟨b, off, arr, e, fz, h1, l _ _ h2, h3, h4⟩
theorem Sl.nil (h : PH) (k : Nat) (base : Option Addr) (cap : Nat) : Sl h k (.slice base 0 cap) [] := ⟨base, cap, rfl, Nat.zero_le _, by simp, .inl rfl⟩
theorem Sl.shape {h : PH} {k : Nat} {v : Value} {css : List (List Value)} (s : Sl h k v css) : ∃ base cap, v = .slice base css.length cap ∧ css.length ≤ cap := by
  obtain ⟨base, cap, rfl, hc, _⟩ := s
  exact ⟨base, cap, rfl, hc⟩
theorem cut_one {arr : Array Value} {off : Nat} {c : Value} (h : cut arr off 1 = [c]) : arr[off]? = some c := by
  unfold cut at h
  have := congrArg (fun l : List Value => l[0]?) h
  simpa [List.getElem?_take, List.getElem?_drop] using this
theorem cut_of_one {arr : Array Value} {off : Nat} {c : Value} (h : arr[off]? = some c) : cut arr off 1 = [c] := by
  unfold cut
  have hl : off < arr.toList.length := by simpa using (Array.getElem?_eq_some_iff.1 h).1
  rw [List.drop_eq_getElem_cons hl]
  simp only [List.take_succ_cons, List.take_zero]
  have := (Array.getElem?_eq_some_iff.1 h).2
  simp [this]
theorem Sl.at {h : PH} {k : Nat} {v : Value} {css : List (List Value)} (s : Sl h k v css) {i : Nat} {cs : List Value} (hi : css[i]? = some cs) :
    ∃ b off cap arr e fz, v = .slice (some ⟨b, off, none⟩) css.length cap ∧ h b = some (.cells arr e fz) ∧ off + css.length * k ≤ arr.size ∧ cut arr (off + i * k) k = cs ∧ i < css.length ∧ off + i * k + k ≤ arr.size := by
  obtain ⟨base, cap, rfl, hc, hk, hx⟩ := s
  have hlt := (List.getElem?_eq_some_iff.1 hi).1
  rcases hx with rfl | ⟨b, off, arr, e, fz, rfl, h2, h3, h4⟩
  · simp at hi
  · refine ⟨b, off, cap, arr, e, fz, rfl, h2, h3, h4 i cs hi, hlt, ?_⟩
    have : (i + 1) * k ≤ css.length * k := Nat.mul_le_mul_right _ hlt
    rw [Nat.add_mul, Nat.one_mul] at this
    omega
theorem Sl.take {h : PH} {k : Nat} {base : Option Addr} {l cap : Nat} {css : List (List Value)} (s : Sl h k (.slice base l cap) css) (m : Nat) (hm : m ≤ css.length) :
    Sl h k (.slice base m cap) (css.take m) := by
  obtain ⟨base', cap', he, hc, hk, hx⟩ := s
  cases he
  refine ⟨base, cap, by simp [Nat.min_eq_left hm], by simp; omega, fun cs hcs => hk cs (List.mem_of_mem_take hcs), ?_⟩
  rcases hx with rfl | ⟨b, off, arr, e, fz, rfl, h2, h3, h4⟩
  · exact .inl (by simp)
  · refine .inr ⟨b, off, arr, e, fz, rfl, h2, ?_, ?_⟩
    · simp only [List.length_take, Nat.min_eq_left hm]
      have : m * k ≤ css.length * k := Nat.mul_le_mul_right _ hm
      omega
    · intro i cs hi
      rw [List.getElem?_take] at hi
      split at hi
      · exact h4 i cs hi
      · cases hi
def Own (lo : Nat) (h : PH) (w : World) (e : TypeId) (k : Nat) (v : Value) (len : Nat) (xs : List Value) : Prop :=
  xs.length = len * k ∧ ((v = .slice none 0 0 ∧ len = 0) ∨
    ∃ b cap arr, v = .slice (some ⟨b, 0, none⟩) len cap ∧ lo ≤ b ∧ h b = none ∧ w.heap[b]? = some (.cells arr e (0, 0)) ∧ len ≤ cap ∧ arr.size = cap * k ∧ arr.toList.take (len * k) = xs)
theorem Own.nil (lo : Nat) (h : PH) (w : World) (e : TypeId) (k : Nat) : Own lo h w e k (.slice none 0 0) 0 [] := ⟨by simp, .inl ⟨rfl, rfl⟩⟩
def Value.blk : Value → Option Nat
  | .slice (some a) _ _ => some a.block
  | _ => none
theorem Own.keep {lo : Nat} {h h' : PH} {w w' : World} {e : TypeId} {k : Nat} {v : Value} {len : Nat} {xs : List Value} (o : Own lo h w e k v len xs)
    (hb : ∀ b, Value.blk v = some b → b < w.heap.size → w'.heap[b]? = w.heap[b]? ∧ (h b = none → h' b = none)) : Own lo h' w' e k v len xs := by
  refine ⟨o.1, ?_⟩
  rcases o.2 with hn | ⟨b, cap, arr, rfl, h1, h2, h3, h4⟩
  · exact .inl hn
  · have := hb b rfl (Array.getElem?_eq_some_iff.1 h3).1
    exact .inr ⟨b, cap, arr, rfl, h1, this.2 h2, by rw [this.1]; exact h3, h4⟩
theorem Own.gr {lo : Nat} {h h' : PH} {w w' : World} {e : TypeId} {k : Nat} {v : Value} {len : Nat} {xs : List Value} (o : Own lo h w e k v len xs) (g : Gr h w h' w') : Own lo h' w' e k v len xs :=
  o.keep fun b _ hlt => ⟨g.ext.block b hlt, g.noneAt hlt⟩
def chunks (k : Nat) : Nat → List Value → List (List Value)
  | 0, _ => []
  | n + 1, xs => xs.take k :: chunks k n (xs.drop k)
theorem chunks_length (k : Nat) : ∀ (n : Nat) (xs : List Value), (chunks k n xs).length = n
  | 0, _ => rfl
  | n + 1, xs => by simp [chunks, chunks_length k n]
theorem chunks_at (k : Nat) : ∀ (n : Nat) (xs : List Value) (i : Nat), i < n → (chunks k n xs)[i]? = some ((xs.drop (i * k)).take k)
  | 0, _, _, h => by omega
  | n + 1, xs, 0, _ => by simp [chunks]
  | n + 1, xs, i + 1, h => by
    simp only [chunks, List.getElem?_cons_succ]
    rw [chunks_at k n _ i (by omega), List.drop_drop]
    congr 3
    rw [Nat.add_mul, Nat.one_mul, Nat.add_comm]
theorem chunks_flatten (k : Nat) : ∀ (css : List (List Value)), (∀ cs ∈ css, cs.length = k) → chunks k css.length css.flatten = css
  | [], _ => rfl
  | cs :: css, h => by
    have hc : cs.length = k := h cs (List.mem_cons_self ..)
    simp only [List.length_cons, chunks, List.flatten_cons]
    rw [List.take_left' hc, List.drop_left' hc, chunks_flatten k css fun c hc => h c (List.mem_cons_of_mem _ hc)]
theorem Own.freeze {lo : Nat} {h0 h : PH} {w0 w : World} {e : TypeId} {k : Nat} {v : Value} {len : Nat} {css : List (List Value)} (g : Gr h0 w0 h w) (hlo : w0.heap.size ≤ lo)
    (hk : ∀ cs ∈ css, cs.length = k) (hl : css.length = len) (o : Own lo h w e k v len css.flatten) :
    ∃ h', Gr h0 w0 h' w ∧ h.le h' ∧ (∀ i, h i = none → some i ≠ Value.blk v → h' i = none) ∧ Sl h' k v css := by
  rcases o.2 with ⟨rfl, hn⟩ | ⟨b, cap, arr, rfl, h1, h2, h3, h4, h5, h6⟩
  · refine ⟨h, g, PH.le.refl h, fun i hi _ => hi, ?_⟩
    have : css = [] := by
      cases css with
      | nil => rfl
      | cons c cs => simp at hl; omega
    subst this
    exact Sl.nil h k _ _
  · refine ⟨h.put b (.cells arr e (0, 0)), g.freeze h3 h2 (Nat.le_trans hlo h1), PH.le_put _ h2, fun i hi hne => ?_, _, cap, by rw [hl], by rw [hl]; exact h4, hk, .inr ⟨b, 0, arr, e, (0, 0), rfl, PH.put_at .., ?_, ?_⟩⟩
    · rw [PH.put_ne _ (fun e => hne (by simp [Value.blk, e]))]; exact hi
    · rw [hl, h5]; simp; exact Nat.mul_le_mul_right _ h4
    · intro i cs hi
      have hlt := (List.getElem?_eq_some_iff.1 hi).1
      have hc := chunks_at k css.length css.flatten i hlt
      rw [chunks_flatten k css hk, hi] at hc
      have hc := Option.some.inj hc
      unfold cut
      rw [hc, ← h6, Nat.zero_add]
      rw [List.drop_take, List.take_take]
      congr 1
      have : (i + 1) * k ≤ len * k := Nat.mul_le_mul_right _ (by omega)
      rw [Nat.add_mul, Nat.one_mul] at this
      omega
theorem made_one (z : Value) (n : Nat) : madeCells #[z] n = Array.replicate n z := by
  apply Array.ext
  · simp [madeCells]
  · intro i h1 h2
    simp only [madeCells, Array.getElem_map, Array.getElem_replicate, List.size_toArray, List.length_cons, List.length_nil, Nat.zero_add, Nat.mod_one]
    rfl
section ops
variable {P : Program} {n : Nat} {ρ : Env} {w : World} {K : Env → World → Prop} {d : Tmp} {ty : TypeId} {pos : String} {af : Array Edge} {g : Option (Nat × Bool)}
theorem OpW.make {t e : TypeId} {i : TypeInfo} {z : Value} {x y : Operand} {kx ky : IntKind} {l c : Nat} (ht : IsUnd P t (.slice e)) (hi : P.info? e = some i) (hz : i.zero = some z)
    (hx : ev n ρ x = .int kx l) (hy : ev n ρ y = .int ky c) (hlc : l ≤ c) (hb : i.bytes * c ≤ 281474976710656) (h63 : c ≤ 9223372036854775807)
    (hk : K (upd ρ d (.slice (some ⟨w.heap.size, 0, none⟩) l c)) (newW w (.cells (madeCells z.cells (c * i.size)) e (0, 0)))) : OpW P n ⟨some d, .makeSlice t x y, ty, pos, af, g⟩ ρ w K := by
  refine OpW.valD ?_ hk
  have hr := run_make (P := P) w t e i z ht hi hz kx ky l c (by omega) (by omega)
    (by have h := Int.ofNat_le.2 hb
        rw [Int.natCast_mul] at h; omega) (by omega)
  simp only [execOp, hx, hy, Sem.run_bind, hr, Result.andThen, Int.toNat_natCast]
  rfl
theorem OpW.sliceTo {t e : TypeId} {x y : Operand} {k : IntKind} {a : Option Addr} {l c m : Nat} {sz : Nat} (ht : IsUnd P t (.slice e)) (hs : IsSize P e sz) (hx : ev n ρ x = .slice a l c) (hy : ev n ρ y = .int k m) (hm : m ≤ c)
    (hk : K (upd ρ d (.slice a m c)) w) : OpW P n ⟨some d, .slice t x none (some y) none, ty, pos, af, g⟩ ρ w K := by
  refine OpW.slice hx ?_ hk
  have hmm : (0 : Int) ≤ (m : Int) ∧ (m : Int) ≤ (c : Int) := by omega
  have ha : (if c = 0 then a else a.map (·.add (0 * sz))) = a := by
    split
    · rfl
    · cases a <;> simp [Addr.add]
  simp only [Instr.sliceAt, Sem.run_bind, ht.run w, Result.andThen, Option.map_none, Option.map_some, hy, Instr.slice, Instr.sliceBounds, Instr.sliceBound, asIntOf, Sem.run_pure, hmm, and_self, if_true, hs w, Int.toNat_natCast, Nat.sub_zero, ha]
theorem OpW.sliceFrom {t e : TypeId} {x y : Operand} {k : IntKind} {a : Option Addr} {l c m : Nat} {sz : Nat} (ht : IsUnd P t (.slice e)) (hs : IsSize P e sz) (hx : ev n ρ x = .slice a l c) (hy : ev n ρ y = .int k m) (hm : m ≤ l)
    (hk : K (upd ρ d (.slice (if c = m then a else a.map (·.add (m * sz))) (l - m) (c - m))) w) : OpW P n ⟨some d, .slice t x (some y) none none, ty, pos, af, g⟩ ρ w K := by
  refine OpW.slice hx ?_ hk
  have hmm : (0 : Int) ≤ (m : Int) ∧ (m : Int) ≤ (l : Int) := by omega
  simp only [Instr.sliceAt, Sem.run_bind, ht.run w, Result.andThen, Option.map_none, Option.map_some, hy, Instr.slice, Instr.sliceBounds, Instr.sliceBound, asIntOf, Sem.run_pure, hmm, and_self, if_true, hs w, Int.toNat_natCast]
theorem OpW.sliceStr {t : TypeId} {x : Operand} {lo hi : Option Operand} {s : ByteArray} {l m : Nat} (ht : IsUnd P t .string) (hx : ev n ρ x = .string s)
    (hlo : ∀ w', (match lo.map (ev n ρ) with | some v => Instr.sliceBound v m .sliceB | none => (pure 0 : Sem Nat)).run P w' = .ok l w')
    (hhi : ∀ w', (match hi.map (ev n ρ) with | some v => Instr.sliceBound v s.size .sliceAlen | none => (pure s.size : Sem Nat)).run P w' = .ok m w')
    (hk : K (upd ρ d (.string (s.extract l m))) w) : OpW P n ⟨some d, .slice t x lo hi none, ty, pos, af, g⟩ ρ w K := by
  refine OpW.valD ?_ hk
  have hb : (Instr.sliceBounds false s.size s.size (lo.map (ev n ρ)) (hi.map (ev n ρ)) none).run P w = .ok (l, m, s.size) w := by
    unfold Instr.sliceBounds
    cases h1 : hi.map (ev n ρ) with
    | none =>
      rw [h1] at hhi
      have hm : s.size = m := by have := hhi w; simp at this; exact this
      subst hm
      cases h2 : lo.map (ev n ρ) with
      | none => rw [h2] at hlo; have := hlo w; simp at this; subst this; simp
      | some v => rw [h2] at hlo; have := hlo w; simp at this; simp [this]
    | some u =>
      rw [h1] at hhi
      have hu := hhi w
      simp at hu
      cases h2 : lo.map (ev n ρ) with
      | none => rw [h2] at hlo; have := hlo w; simp at this; subst this; simp [hu]
      | some v => rw [h2] at hlo; have := hlo w; simp at this; simp [hu, this]
  have h2 : (Instr.slice t (.string s) (lo.map (ev n ρ)) (hi.map (ev n ρ)) none).run P w = .ok (.string (s.extract l m)) w := by
    simp only [Instr.slice, Sem.run_bind, ht.run w, Result.andThen, hb, Option.isSome_none, Bool.false_eq_true, if_false]
    simp
  have h3 : (Instr.sliceAt t (.string s) (lo.map (ev n ρ)) (hi.map (ev n ρ)) none).run P w = .ok (.string (s.extract l m)) w := by
    simp only [Instr.sliceAt, Sem.run_bind, ht.run w, Result.andThen, h2]
  simp only [execOp, hx, Sem.run_bind, Option.map_none, h3, Result.andThen]
  rfl
theorem OpW.indexStr {t : TypeId} {x y : Operand} {k : IntKind} {s : ByteArray} {i : Nat} {b : UInt8} (ht : IsUnd P t .string) (hx : ev n ρ x = .string s) (hy : ev n ρ y = .int k i) (hi : s[i]? = some b)
    (hk : K (upd ρ d (.int .u8 b.toNat)) w) : OpW P n ⟨some d, .index t x y, ty, pos, af, g⟩ ρ w K := by
  refine OpW.valD ?_ hk
  have h0 : (0 : Int) ≤ (i : Int) := by omega
  simp only [execOp, hx, hy, Sem.run_bind, Instr.index, asIntOf, Sem.run_pure, Result.andThen, ht.run w, h0, if_true, Int.toNat_natCast, hi]
end ops
end Go.Ear
