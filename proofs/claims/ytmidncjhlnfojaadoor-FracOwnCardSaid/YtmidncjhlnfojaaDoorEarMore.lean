/- About package frac: EarMore. -/
import Derived.Test.YtmidncjhlnfojaaDoorEarSlice
set_option linter.all false
namespace Go.Ear
theorem grownCap_le {w : World} {need old : Nat} {e : TypeId} (h : need ≤ 9223372036854775807) : grownCap w need old e ≤ 9223372036854775808 := by
  have := grownCap_le_maxLen w need old e (by simp only [maxLen]; omega)
  simp only [maxLen] at this; omega
structure Ow (w w' : World) (b : Option Nat) : Prop where
  os : w'.os = w.os
  tape : w'.tape = w.tape
  output : w'.output = w.output
  size : w.heap.size ≤ w'.heap.size
  block : ∀ i, i < w.heap.size → some i ≠ b → w'.heap[i]? = w.heap[i]?
theorem Gr.ow {h0 h : PH} {w0 w w' : World} {b : Option Nat} (a : Gr h0 w0 h w) (p : Ow w w' b) (hn : ∀ i, b = some i → h i = none ∧ w0.heap.size ≤ i) : Gr h0 w0 h w' :=
  ⟨fun i x e => by
      have hlt := a.sat.lt (by rw [e]; exact fun h => nomatch h)
      rw [p.block i hlt (by rintro rfl; rw [(hn i rfl).1] at e; cases e)]; exact a.sat i x e,
    ⟨p.os.trans a.ext.os, p.tape.trans a.ext.tape, p.output.trans a.ext.output, Nat.le_trans a.ext.size p.size,
      fun i hi => by
        rw [p.block i (Nat.lt_of_lt_of_le hi a.ext.size) (by rintro rfl; have := (hn i rfl).2; omega)]; exact a.ext.block i hi⟩, a.le, a.fresh⟩
def Reads (w : World) (x : Value) (m : Nat) (k : Nat) (ys : List Value) : Prop :=
  ys.length = m * k ∧ ∃ base c, x = .slice base m c ∧ (ys = [] ∨ ∃ b off arr e fz, base = some ⟨b, off, none⟩ ∧ w.heap[b]? = some (.cells arr e fz) ∧ off + m * k ≤ arr.size ∧ cut arr off (m * k) = ys)
theorem flatten_length {k : Nat} : ∀ {css : List (List Value)}, (∀ cs ∈ css, cs.length = k) → css.flatten.length = css.length * k
  | [], _ => by simp
  | cs :: css, h => by
    simp only [List.flatten_cons, List.length_append, List.length_cons, h cs (List.mem_cons_self ..), flatten_length fun c hc => h c (List.mem_cons_of_mem _ hc)]
    rw [Nat.add_mul, Nat.one_mul, Nat.add_comm]
theorem cut_add (arr : Array Value) (off a b : Nat) : cut arr off (a + b) = cut arr off a ++ cut arr (off + a) b := by
  unfold cut
  rw [List.take_add, List.drop_drop]
theorem cut_flatten {arr : Array Value} {k : Nat} : ∀ (css : List (List Value)) (off : Nat), (∀ i cs, css[i]? = some cs → cut arr (off + i * k) k = cs) → cut arr off (css.length * k) = css.flatten
  | [], off, _ => by simp [cut]
  | cs :: css, off, h => by
    have h0 := h 0 cs rfl
    rw [Nat.zero_mul, Nat.add_zero] at h0
    have ih := cut_flatten css (off + k) (fun i c hc => by
      have := h (i + 1) c (by simpa using hc)
      rw [Nat.add_mul, Nat.one_mul] at this
      rw [← this]; congr 1; omega)
    simp only [List.length_cons, List.flatten_cons]
    rw [Nat.add_mul, Nat.one_mul, Nat.add_comm, cut_add, h0, ih]
theorem Sl.reads {h : PH} {w : World} {k : Nat} {v : Value} {css : List (List Value)} (s : Sl h k v css) (hs : Sat h w) : Reads w v css.length k css.flatten := by
  obtain ⟨base, cap, rfl, hc, hk, hx⟩ := s
  refine ⟨flatten_length hk, base, cap, rfl, ?_⟩
  rcases hx with rfl | ⟨b, off, arr, e, fz, rfl, h2, h3, h4⟩
  · exact .inl rfl
  · exact .inr ⟨b, off, arr, e, fz, rfl, hs _ _ h2, h3, cut_flatten css off h4⟩
theorem run_firstCells {P : Program} {w : World} {x : Value} {m k : Nat} {ys : List Value} (r : Reads w x m k ys) : (Builtin.firstCells k m x).run P w = .ok ys.toArray w := by
  obtain ⟨hl, base, c, rfl, hx⟩ := r
  rcases hx with rfl | ⟨b, off, arr, e, fz, rfl, h1, h2, h3⟩
  · cases base with
    | none => rfl
    | some a =>
      have : m * k = 0 := by simpa using hl.symm
      simp [Builtin.firstCells, this, loadCells, loadCellsFrom]
  · have := run_loadCellsFrom (P := P) (w := w) (off := off) h1 (m * k) 0 #[] (by omega)
    simp only [Builtin.firstCells, loadCells, this]
    simp [h3]
theorem Reads.drew {w : World} {x : Value} {m k : Nat} {ys : List Value} (r : Reads w x m k ys) (d : Nat) : Reads { w with drawn := d } x m k ys := r
section
variable {P : Program} {w : World}
theorem run_append {lo : Nat} {h : PH} {t ty e : TypeId} {i : TypeInfo} {z : Value} {v x : Value} {len m : Nat} {xs ys : List Value}
    (ht : P.underlying t = some (.slice e)) (hi : P.info? e = some i) (hz : i.zero = some z) (hzs : z.cells.size = i.size)
    (hs : Sat h w) (hlo : lo ≤ w.heap.size) (own : Own lo h w e i.size v len xs) (r : Reads w x m i.size ys) (h1 : ∀ y ∈ ys, y.oneCell' = true)
    (h63 : len + m ≤ 9223372036854775807) (hb : (len + m) * i.bytes ≤ 140737488355328) :
    ∃ v' w', (Builtin.append_ #[t, t] ty #[v, x]).run P w = .ok v' w' ∧ Own lo h w' e i.size v' (len + m) (xs ++ ys) ∧ Ow w w' (Value.blk v) ∧
      (∀ b, Value.blk v' = some b → Value.blk v = some b ∨ w.heap.size ≤ b) := by
  have hrl := r.1
  obtain ⟨base, c, rfl, hrx⟩ := r.2
  have hfc := run_firstCells (P := P) r
  have hlen : (xs ++ ys).length = (len + m) * i.size := by rw [List.length_append, own.1, hrl, Nat.add_mul]
  have grow : ∀ (sCap : Nat) (olds : Value), len + m > sCap → (Builtin.firstCells i.size len olds).run P w.drew = .ok xs.toArray w.drew → (∃ b : Option Addr, olds = .slice b len sCap) →
      (Builtin.append_ #[t, t] ty #[olds, .slice base m c]).run P w = .ok (.slice (some ⟨w.heap.size, 0, none⟩) (len + m) (grownCap w (len + m) sCap e))
        (w.drew.alloc (.cells (xs.toArray ++ ys.toArray ++ Builtin.zeroCells z.cells (grownCap w (len + m) sCap e - (len + m))) e)) := by
    intro sCap olds hgt hold ⟨bo, ho⟩
    subst ho
    have hn : ¬ (len + m ≤ sCap) := by omega
    have h63' : ¬ (9223372036854775807 < ((len : Int) + (m : Int))) := by omega
    have hfit := growslice_fits (need := len + m) (old := sCap) (bytes := i.bytes) hgt hb
    have h48 : ¬ (281474976710656 < Builtin.nextslicecap (len + m) sCap * i.bytes) := by omega
    have hfc' : (Builtin.firstCells i.size m (.slice base m c)).run P w.drew = .ok ys.toArray w.drew := run_firstCells (P := P) (r.drew _)
    simp [Builtin.append_, run_underlying ht, sizeOf, typeInfo, zeroValue, hi, hz, Builtin.lenOf, hn, h63', h48, Question.forced, newRow, grownCap, hold, hfc', Array.append_assoc]
    try (rw [← List.append_toArray, Array.append_assoc])
  have grown : ∀ sCap, len + m > sCap → (w.drew.alloc (.cells (xs.toArray ++ ys.toArray ++ Builtin.zeroCells z.cells (grownCap w (len + m) sCap e - (len + m))) e)).heap[w.heap.size]? =
      some (.cells (xs.toArray ++ ys.toArray ++ Builtin.zeroCells z.cells (grownCap w (len + m) sCap e - (len + m))) e (0, 0)) := fun sCap _ => heap_alloc_new w.drew _
  have fin : ∀ sCap, len + m > sCap → Own lo h (w.drew.alloc (.cells (xs.toArray ++ ys.toArray ++ Builtin.zeroCells z.cells (grownCap w (len + m) sCap e - (len + m))) e)) e i.size
      (.slice (some ⟨w.heap.size, 0, none⟩) (len + m) (grownCap w (len + m) sCap e)) (len + m) (xs ++ ys) := by
    intro sCap hgt
    have hge := grownCap_ge w (len + m) sCap e
    refine ⟨hlen, .inr ⟨w.heap.size, _, _, rfl, hlo, hs.fresh, grown sCap hgt, hge, ?_, ?_⟩⟩
    · simp only [Array.size_append, List.size_toArray, size_zeroCells, hzs, own.1, hrl, ← Nat.add_mul]
      congr 1; omega
    · simp only [Array.toList_append]
      rw [show xs ++ ys = xs ++ ys from rfl, ← hlen]
      exact List.take_left
  have ow : ∀ sCap b, len + m > sCap → Ow w (w.drew.alloc (.cells (xs.toArray ++ ys.toArray ++ Builtin.zeroCells z.cells (grownCap w (len + m) sCap e - (len + m))) e)) b := fun sCap b _ =>
    ⟨rfl, rfl, rfl, by simp, fun k hk _ => heap_alloc_old w.drew _ k hk⟩
  rcases own.2 with ⟨rfl, rfl⟩ | ⟨b, cap, arr, rfl, hb1, hb2, hb3, hb4, hb5, hb6⟩
  · have hx : xs = [] := List.eq_nil_of_length_eq_zero (by simpa using own.1)
    subst hx
    by_cases hm : m = 0
    · subst hm
      have : ys = [] := List.eq_nil_of_length_eq_zero (by simpa using hrl)
      subst this
      refine ⟨.slice none 0 0, w, ?_, Own.nil lo h w e i.size, ⟨rfl, rfl, rfl, Nat.le_refl _, fun _ _ _ => rfl⟩, by simp [Value.blk]⟩
      simp [Builtin.append_, run_underlying ht, sizeOf, typeInfo, hi, Builtin.lenOf, hfc]
    · exact ⟨_, _, grow 0 (.slice none 0 0) (by omega) rfl ⟨none, rfl⟩, fin 0 (by omega), ow 0 _ (by omega), by simp [Value.blk]⟩
  · by_cases hroom : len + m ≤ cap
    · have hfit : len * i.size + 0 + ys.length ≤ arr.size := by
        rw [hrl, hb5, Nat.add_zero, ← Nat.add_mul]; exact Nat.mul_le_mul_right _ hroom
      obtain ⟨w', hst, hp⟩ := run_storeCells_own (P := P) ys (len * i.size) 0 arr w hb3 hfit h1
      refine ⟨.slice (some ⟨b, 0, none⟩) (len + m) cap, w', ?_, ⟨hlen, .inr ⟨b, cap, _, rfl, hb1, hb2, hp.at_, hroom, by rw [putIn_size, hb5], ?_⟩⟩, ⟨hp.os, hp.tape, hp.output, by rw [hp.size]; exact Nat.le_refl _, fun k _ hk => hp.other k (fun e => hk (by simp [Value.blk, e]))⟩, by simp [Value.blk]⟩
      · simp [Builtin.append_, run_underlying ht, sizeOf, typeInfo, hi, Builtin.lenOf, hroom, hfc, addr_add, hst]
      · have key : ∀ (cs : List Value) (a : Array Value) (off : Nat), off + cs.length ≤ a.size → (putIn a off cs).toList.take (off + cs.length) = a.toList.take off ++ cs := by
          intro cs
          induction cs with
          | nil => intro a off _; simp [putIn]
          | cons c cs ih =>
            intro a off hle
            simp only [List.length_cons] at hle ⊢
            have := ih (a.setIfInBounds off c) (off + 1) (by simp; omega)
            rw [putIn, show off + (cs.length + 1) = off + 1 + cs.length by omega, this]
            simp only [Array.toList_setIfInBounds]
            have hlt : off < a.toList.length := by simp; omega
            rw [List.take_succ_eq_append_getElem (by simpa using hlt), List.take_set_of_le (Nat.le_refl _)]
            simp
        have := key ys arr (len * i.size + 0) (by simpa using hfit)
        rw [Nat.add_zero] at this
        rw [Nat.add_mul, ← hrl, Nat.add_zero, this, hb6]
    · have hold : (Builtin.firstCells i.size len (.slice (some ⟨b, 0, none⟩) len cap)).run P w.drew = .ok xs.toArray w.drew := by
        refine run_firstCells ⟨own.1, some ⟨b, 0, none⟩, cap, rfl, .inr ⟨b, 0, arr, e, (0, 0), rfl, hb3, ?_, ?_⟩⟩
        · rw [hb5, Nat.zero_add]; exact Nat.mul_le_mul_right _ hb4
        · unfold cut; simpa using hb6
      exact ⟨_, _, grow cap _ (by omega) hold ⟨_, rfl⟩, fin cap (by omega), ow cap _ (by omega), fun b' hb' => .inr (by simp [Value.blk] at hb'; omega)⟩
end
section ops
variable {P : Program} {n : Nat} {ρ : Env} {w : World} {K : Env → World → Prop} {d : Tmp} {ty : TypeId} {pos : String} {af : Array Edge} {g : Option (Nat × Bool)}
theorem OpW.append {lo : Nat} {h : PH} {t e : TypeId} {i : TypeInfo} {z : Value} {a b : Operand} {v x : Value} {len m : Nat} {xs ys : List Value}
    (ht : P.underlying t = some (.slice e)) (hi : P.info? e = some i) (hz : i.zero = some z) (hzs : z.cells.size = i.size)
    (hs : Sat h w) (hlo : lo ≤ w.heap.size) (ha : ev n ρ a = v) (hb : ev n ρ b = x) (own : Own lo h w e i.size v len xs) (r : Reads w x m i.size ys) (h1 : ∀ y ∈ ys, y.oneCell' = true)
    (h63 : len + m ≤ 9223372036854775807) (hbb : (len + m) * i.bytes ≤ 140737488355328)
    (hk : ∀ v' w', Own lo h w' e i.size v' (len + m) (xs ++ ys) → Ow w w' (Value.blk v) → (∀ b, Value.blk v' = some b → Value.blk v = some b ∨ w.heap.size ≤ b) → K (upd ρ d v') w') :
    OpW P n ⟨some d, .call ⟨.builtin .append, #[a, b], #[t, t]⟩, ty, pos, af, g⟩ ρ w K := by
  obtain ⟨v', w', hr, o, ow, hbl⟩ := run_append (P := P) (ty := ty) ht hi hz hzs hs hlo own r h1 h63 hbb
  refine OpW.valD ?_ (hk v' w' o ow hbl)
  simp only [execOp, resolve, invoke, builtin, Sem.run_bind, Sem.run_pure, Result.andThen, List.map_toArray, List.map_cons, List.map_nil, ha, hb, hr]
theorem OpW.buildSlice {t e : TypeId} {len : Nat} {ps : Array (Nat × Operand)} {arr : Array Value}
    (hr : ∀ w, (Instr.buildSlice t len (ps.map fun (i, x) => (i, ev n ρ x))).run P w = .ok (.slice (some ⟨w.heap.size, 0, none⟩) len len) (newW w (.cells arr e (0, 0))))
    (hk : K (upd ρ d (.slice (some ⟨w.heap.size, 0, none⟩) len len)) (newW w (.cells arr e (0, 0)))) : OpW P n ⟨some d, .buildSlice t len ps, ty, pos, af, g⟩ ρ w K :=
  OpW.valD (by simp only [execOp, Sem.run_bind, hr, Result.andThen]; rfl) hk
theorem run_build {t : TypeId} {fs : Array Field} {z : Value} {parts : List (Nat × Value)} {places : List (Nat × Nat)} {cs : Array Value} (ht : IsUnd P t (.struct fs)) (hz : IsZero P t z)
    (hp : ∀ w, (fs.mapM fun (f : Field) => (do pure (f.offset, ← sizeOf f.type) : Sem (Nat × Nat))).run P w = .ok places.toArray w)
    (hf : Instr.fill (places[·]?) z.cells parts = some cs) (w : World) : (Instr.build t parts.toArray).run P w = .ok (.agg cs) w := by
  have hf' : Instr.fill (places.toArray[·]?) z.cells parts = some cs := by
    rw [← hf]; congr 1; funext x; simp
  simp only [Instr.build, Sem.run_bind, hz w, Result.andThen, ht.run w, hp w, hf']
  rfl
theorem OpW.build {t : TypeId} {fs : Array Field} {z : Value} {ps : List (Nat × Operand)} {places : List (Nat × Nat)} {cs : List Value} (ht : IsUnd P t (.struct fs)) (hz : IsZero P t z)
    (hp : ∀ w, (fs.mapM fun (f : Field) => (do pure (f.offset, ← sizeOf f.type) : Sem (Nat × Nat))).run P w = .ok places.toArray w)
    (hf : Instr.fill (places[·]?) z.cells (ps.map fun p => (p.1, ev n ρ p.2)) = some cs.toArray)
    (hk : K (upd ρ d (.agg cs.toArray)) w) : OpW P n ⟨some d, .build t ps.toArray, ty, pos, af, g⟩ ρ w K := by
  have hr := run_build (P := P) ht hz hp hf w
  refine OpW.valD ?_ hk
  simp only [execOp, List.map_toArray, Sem.run_bind]
  rw [show (ps.map fun (x : Nat × Operand) => (x.1, ev n ρ x.2)) = ps.map fun p => (p.1, ev n ρ p.2) from rfl, hr]
  rfl
theorem OpW.makeFunc {fn : Fn} {xs ys : List Operand} {v : Value} (hv : Value.func fn (xs.map (ev n ρ)).toArray (ys.map (ev n ρ)).toArray = v) (hk : K (upd ρ d v) w) :
    OpW P n ⟨some d, .makeFunc fn xs.toArray ys.toArray, ty, pos, af, g⟩ ρ w K :=
  OpW.valD (by subst hv; simp [execOp, Instr.makeFunc]) hk
theorem OpW.nilCheck {x : Operand} {a : Addr} (hx : ev n ρ x = .pointer (some a)) (hk : K (upd ρ d (.pointer (some a))) w) : OpW P n ⟨some d, .nilCheck x, ty, pos, af, g⟩ ρ w K :=
  OpW.valD (by simp [execOp, hx]) hk
def IsFn (P : Program) (f : FuncId) : Prop := ∀ args w, (callFunc f args).run P w = .ok (.enter f args) w
theorem OpW.callF {f : FuncId} {xs : List Operand} {ts : Array TypeId} {vs : List Value} {h : PH} {Q : PH → Value → Prop} {dd : Option Tmp} (hf : IsFn P f) (hx : xs.map (ev n ρ) = vs)
    (hc : Calls P f vs.toArray w (Ret h w Q)) (hk : ∀ v h' w', Gr h w h' w' → Q h' v → K (updO ρ dd v) w') :
    OpW P n ⟨dd, .call ⟨.value (.func f), xs.toArray, ts⟩, ty, pos, af, g⟩ ρ w K := by
  refine OpW.call (f := f) (args := vs.toArray) ?_ hc hk
  simp only [execOp, resolve, ev, Deferred.ofValue, Sem.run_bind, Sem.run_pure, Result.andThen, invoke, List.map_toArray, hx]
  have := hf (#[] ++ vs.toArray ++ #[]) w
  simpa using this
theorem OpW.callV {c : Operand} {f : FuncId} {first cap : List Value} {xs : List Operand} {ts : Array TypeId} {vs : List Value} {h : PH} {Q : PH → Value → Prop} {dd : Option Tmp}
    (hcv : ev n ρ c = .func (.func f) first.toArray cap.toArray) (hf : IsFn P f) (hx : first ++ xs.map (ev n ρ) ++ cap = vs)
    (hc : Calls P f vs.toArray w (Ret h w Q)) (hk : ∀ v h' w', Gr h w h' w' → Q h' v → K (updO ρ dd v) w') :
    OpW P n ⟨dd, .call ⟨.value c, xs.toArray, ts⟩, ty, pos, af, g⟩ ρ w K := by
  refine OpW.call (f := f) (args := vs.toArray) ?_ hc hk
  subst hx
  simp only [execOp, resolve, hcv, Deferred.ofValue, Sem.run_bind, Sem.run_pure, Result.andThen, invoke, List.map_toArray, List.append_toArray, hf _ w]
end ops
end Go.Ear
