/- About package frac: EarStr. -/
import Derived.Test.YtmidncjhlnfojaaDoorEarFrac
import Derived.Laws.RangeAny
import Derived.Laws.Strings
import Derived.Lib.OthersKept
import Derived.Lib.ItoaNum
import Derived.Lib.LaidTab
import Derived.Sort.Grow
import Derived.Deep.Draws
set_option linter.all false
namespace Go.Ear
def S (l : List UInt8) : ByteArray := ⟨l.toArray⟩
theorem S_size (l : List UInt8) : (S l).size = l.length := by simp [S, ByteArray.size]
theorem S_append (a b : List UInt8) : S a ++ S b = S (a ++ b) := by
  apply ByteArray.ext; simp [S]
theorem S_toList (l : List UInt8) : (S l).toList = l := by rw [ByteArray.toList_eq]; simp [S]
theorem S_data (l : List UInt8) : (S l).data.toList = l := by simp [S]
theorem S_at (l : List UInt8) (i : Nat) : (S l)[i]? = l[i]? := by
  by_cases h : i < l.length
  · rw [List.getElem?_eq_getElem h, getElem?_pos (S l) i (by rw [S_size]; exact h)]
    simp [S, ByteArray.getElem_eq_getElem_data]
  · rw [List.getElem?_eq_none (by omega), getElem?_neg (S l) i (by rw [S_size]; exact h)]
theorem S_extract (l : List UInt8) (a b : Nat) : (S l).extract a b = S ((l.drop a).take (b - a)) := by
  apply ByteArray.ext
  simp only [S, ByteArray.data_extract]
  simp [List.extract_eq_take_drop]
def rpS : Rp (List UInt8) where
  k := 1
  R := fun _ cs s => cs = [.string (S s)]
  len := fun e => by rw [e]; rfl
  one := fun e c hc => by rw [e] at hc; simp at hc; subst hc; rfl
  mono := fun e _ => e
section ops
variable {P : Program} {n : Nat} {ρ : Env} {w : World} {K : Env → World → Prop} {d : Tmp} {ty : TypeId} {pos : String} {af : Array Edge} {g : Option (Nat × Bool)}
theorem OpW.catSS {t u : TypeId} {x y : Operand} {a b : List UInt8} (hx : ev n ρ x = .string (S a)) (hy : ev n ρ y = .string (S b)) (hb : a.length + b.length ≤ 9223372036854775807)
    (hk : K (upd ρ d (.string (S (a ++ b)))) w) : OpW P n ⟨some d, .binOp .add t x y u, ty, pos, af, g⟩ ρ w K := by
  refine OpW.catS hx hy (by rw [S_size, S_size]; show _ ≤ (9223372036854775807 : Int); omega) ?_
  rw [S_append]; exact hk
theorem OpW.lenSS {x : Operand} {t : TypeId} {s : List UInt8} (ht : IsUnd P t .string) (hx : ev n ρ x = .string (S s)) (hk : K (upd ρ d (.int .i64 s.length)) w) :
    OpW P n ⟨some d, .call ⟨.builtin .len, #[x], #[t]⟩, ty, pos, af, g⟩ ρ w K := by
  refine OpW.lenStr ht hx ?_
  rw [S_size]; exact hk
theorem OpW.eqlSS {t u : TypeId} {x y : Operand} {a b : List UInt8} {r : Bool} (hx : ev n ρ x = .string (S a)) (hy : ev n ρ y = .string (S b)) (hr : decide (a = b) = r)
    (hk : K (upd ρ d (.bool r)) w) : OpW P n ⟨some d, .binOp .eql t x y u, ty, pos, af, g⟩ ρ w K := by
  refine OpW.eqlS hx hy (r := r) ?_ hk
  rw [S_toList, S_toList, ← hr]
  rw [Bool.eq_iff_iff]; simp
theorem OpW.indexSS {t : TypeId} {x y : Operand} {k : IntKind} {s : List UInt8} {i : Nat} (ht : IsUnd P t .string) (hx : ev n ρ x = .string (S s)) (hy : ev n ρ y = .int k i) (hi : i < s.length)
    (hk : K (upd ρ d (.int .u8 (((s.getD i 0).toNat : Nat) : Int))) w) : OpW P n ⟨some d, .index t x y, ty, pos, af, g⟩ ρ w K := by
  refine OpW.indexStr ht hx hy (b := s.getD i 0) ?_ hk
  rw [S_at, List.getD_eq_getElem?_getD, List.getElem?_eq_getElem hi]; rfl
theorem OpW.sliceSS {t : TypeId} {x : Operand} {lo hi : Option Operand} {s : List UInt8} {l m : Nat} (ht : IsUnd P t .string) (hx : ev n ρ x = .string (S s))
    (hlo : match lo with | some y => (∃ k, ev n ρ y = .int k (l : Int)) ∧ l ≤ m | none => l = 0)
    (hhi : match hi with | some y => (∃ k, ev n ρ y = .int k (m : Int)) ∧ m ≤ s.length | none => m = s.length)
    (hk : K (upd ρ d (.string (S ((s.drop l).take (m - l))))) w) : OpW P n ⟨some d, .slice t x lo hi none, ty, pos, af, g⟩ ρ w K := by
  refine OpW.sliceStr (l := l) (m := m) ht hx (fun w' => ?_) (fun w' => ?_) (by rw [S_extract]; exact hk)
  · cases lo with
    | none => simp only [Option.map_none]; subst hlo; rfl
    | some y =>
      obtain ⟨⟨k, e⟩, hle⟩ := hlo
      have hmm : (0 : Int) ≤ (l : Int) ∧ (l : Int) ≤ (m : Int) := by omega
      simp only [Option.map_some, e, Instr.sliceBound, asIntOf, Sem.run_bind, Sem.run_pure, Result.andThen, hmm, and_self, if_true, Int.toNat_natCast]
  · cases hi with
    | none => simp only [Option.map_none, S_size]; subst hhi; rfl
    | some y =>
      obtain ⟨⟨k, e⟩, hle⟩ := hhi
      have hmm : (0 : Int) ≤ (m : Int) ∧ (m : Int) ≤ ((S s).size : Int) := by rw [S_size]; omega
      simp only [Option.map_some, e, Instr.sliceBound, asIntOf, Sem.run_bind, Sem.run_pure, Result.andThen, hmm, and_self, if_true, Int.toNat_natCast]
theorem OpW.sliceSFrom {t : TypeId} {x y : Operand} {k : IntKind} {s : List UInt8} {l : Nat} (ht : IsUnd P t .string) (hx : ev n ρ x = .string (S s)) (hy : ev n ρ y = .int k (l : Int)) (hl : l ≤ s.length)
    (hk : K (upd ρ d (.string (S (s.drop l)))) w) : OpW P n ⟨some d, .slice t x (some y) none none, ty, pos, af, g⟩ ρ w K := by
  refine OpW.sliceSS (l := l) (m := s.length) ht hx ⟨⟨k, hy⟩, hl⟩ rfl ?_
  rw [List.take_of_length_le (by simp)]; exact hk
theorem OpW.sliceSTo {t : TypeId} {x y : Operand} {k : IntKind} {s : List UInt8} {m : Nat} (ht : IsUnd P t .string) (hx : ev n ρ x = .string (S s)) (hy : ev n ρ y = .int k (m : Int)) (hm : m ≤ s.length)
    (hk : K (upd ρ d (.string (S (s.take m)))) w) : OpW P n ⟨some d, .slice t x none (some y) none, ty, pos, af, g⟩ ρ w K := by
  refine OpW.sliceSS (l := 0) (m := m) ht hx rfl ⟨⟨k, hy⟩, hm⟩ ?_
  rw [Nat.sub_zero, List.drop_zero]; exact hk
theorem OpW.rangeSS {h : PH} {t : TypeId} {x : Operand} {l : List UInt8} (hs : Sat h w) (ht : IsUnd P t .string) (hx : ev n ρ x = .string (S l))
    (hk : ∀ b w', Gr h w h w' → h b = none → w.heap.size ≤ b → w'.heap[b]? = some (.stringIter (S l) 0) → K (upd ρ d (.pointer (some ⟨b, 0, none⟩))) w') : OpW P n ⟨some d, .range t x, ty, pos, af, g⟩ ρ w K := by
  refine OpW.valD (v := .pointer (some ⟨w.heap.size, 0, none⟩)) (w' := newW w (.stringIter (S l) 0)) ?_ (hk _ _ (Gr.new hs _) hs.fresh (Nat.le_refl _) (newW_at w _))
  simp only [execOp, hx, Instr.range, Sem.run_bind, ht.run w, Result.andThen, Sem.run_pure, newObj, Sem.run]
  rfl
theorem OpW.nextSS {x : Operand} {b p : Nat} {l : List UInt8} (hx : ev n ρ x = .pointer (some ⟨b, 0, none⟩)) (hb : w.heap[b]? = some (.stringIter (S l) p))
    (hend : ¬ p < l.length → K (upd ρ d (.tuple #[.bool false])) w)
    (hgo : ∀ r wd w', p < l.length → Put w w' b (.stringIter (S l) (p + wd)) → ((l.getD p 0).toNat < 128 ∧ r = (l.getD p 0).toNat ∧ wd = 1 ∨ 128 ≤ (l.getD p 0).toNat ∧ 128 ≤ r) →
      K (upd ρ d (.tuple #[.bool true, .int .i64 (p : Int), .int .i32 ((r : Nat) : Int)])) w') : OpW P n ⟨some d, .next x true, ty, pos, af, g⟩ ρ w K := by
  by_cases hp : p < l.length
  · have hs : p < (S l).size := by rw [S_size]; exact hp
    have hr := Lib.run_next_any_at (P := P) w b (S l) p ty hb hs
    have hbyte : ((S l)[p]'hs) = l.getD p 0 := by
      rw [List.getD_eq_getElem?_getD, List.getElem?_eq_getElem hp]; simp [S, ByteArray.getElem_eq_getElem_data]
    refine OpW.valD (w' := w.iterAt b (S l) (p + (Utf8.decode (S l) p).2)) (v := .tuple #[.bool true, .int .i64 (p : Int), .int .i32 ((Utf8.decode (S l) p).1 : Int)]) ?_ (hgo (Utf8.decode (S l) p).1 (Utf8.decode (S l) p).2 _ hp ?_ ?_)
    · simp only [execOp, hx, hr, Sem.run_bind, Result.andThen]; rfl
    · exact ⟨rfl, rfl, rfl, Lib.iterAt_size .., Lib.iterAt_heap w b (S l) p _ hb, fun i hi => Lib.iterAt_other w b i (S l) _ hi⟩
    · by_cases ha : ((S l)[p]'hs).toNat < 128
      · rw [decode_ascii (S l) p hs ha]
        rw [hbyte] at ha ⊢
        exact .inl ⟨ha, rfl, rfl⟩
      · have := decode_high (S l) p hs (by omega)
        rw [hbyte] at ha
        exact .inr ⟨by omega, this.1⟩
  · have hr := Lib.run_next_end_at (P := P) w b (S l) p ty hb (by rw [S_size]; exact hp)
    refine OpW.valD (w' := w) (v := .tuple #[.bool false]) ?_ (hend hp)
    simp only [execOp, hx, hr, Sem.run_bind, Result.andThen]; rfl
end ops
def Tab (h : PH) : Prop := ∃ e fz, h 0 = some (.cells (Lib.pow10Tab.map fun z => Value.int .u64 z).toArray e fz)
theorem Tab.mono {h h' : PH} (t : Tab h) (l : h.le h') : Tab h' := by
  obtain ⟨e, fz, q⟩ := t; exact ⟨e, fz, l _ _ q⟩
theorem Gr.grown {h : PH} {w : World} (s : Sat h w) (k : Nat) (os : Array Obj) : Gr h w h (Sort.grow (w.drewN k) os) := by
  have hb : ∀ b, b < w.heap.size → (Sort.grow (w.drewN k) os).heap[b]? = w.heap[b]? := fun b hb => by
    show (w.heap ++ os)[b]? = _
    rw [Array.getElem?_append_left hb]
  refine ⟨fun b x e => ?_, ⟨rfl, rfl, rfl, ?_, hb⟩, PH.le.refl h, fun _ hb => .inl hb⟩
  · rw [hb b (s.lt (by rw [e]; exact fun h => nomatch h))]; exact s b x e
  · show _ ≤ (w.heap ++ os).size
    rw [Array.size_append]; omega
theorem Tab.is {P : Program} {h : PH} {w : World} (t : Tab h) (s : Sat h w) (g : P.globalNamed "internal/strconv.uint64pow10" = some 0) : Lib.TabIs P w "internal/strconv.uint64pow10" .u64 Lib.pow10Tab := by
  obtain ⟨e, fz, q⟩ := t
  unfold Lib.TabIs World.var?
  rw [g, Option.bind_some, s _ _ q]
def decT (n : Nat) : List UInt8 := Lib.decDigits n
end Go.Ear
