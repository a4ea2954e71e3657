/- K2: a part of the proofs about package model: how the program's functions run, and what they compute, for every input. -/
import Derived.RangeFuncNested
import Derived.RangeFuncLeaves
import Derived.Sort.LoopGhostIn
import Derived.TacticsIn
import Derived.Test.YtpmndikbfalfoaaGreatK1
set_option linter.all false
namespace Go.Ear
def env0 : Nat → List Value → Env
  | _, [] => fun _ => undef
  | i, a :: az => upd (env0 (i + 1) az) i a
theorem env0_at : ∀ (az : List Value) (i j : Nat), env0 i az (i + j) = az.getD j undef
  | [], i, j => by simp [env0]
  | a :: az, i, 0 => by simp [env0, upd]
  | a :: az, i, j + 1 => by
    have := env0_at az (i + 1) j
    simp only [env0]
    rw [upd_ne _ _ (by omega), show i + (j + 1) = i + 1 + j by omega, this]
    simp
theorem mk_env0 {n : Nat} {vs : List Value} (h : vs.length ≤ n) : (⟨vs.toArray ++ Array.replicate (n - vs.length) undef, []⟩ : Act) = mk n (env0 0 vs) := by
  unfold mk
  congr 1
  apply Array.ext
  · simp; omega
  · intro i h1 h2
    have h3 := env0_at vs 0 i
    rw [Nat.zero_add] at h3
    simp only [Array.getElem_ofFn, h3]
    by_cases hi : i < vs.length
    · rw [Array.getElem_append_left (by simpa using hi)]
      simp [List.getD_eq_getElem?_getD, hi]
    · rw [Array.getElem_append_right (by simpa using hi)]
      simp [List.getD_eq_getElem?_getD, List.getElem?_eq_none (Nat.le_of_not_lt hi)]
def retQ (P : Program) (fn : Func) (R : Value → World → Prop) : Exit → Env → World → Prop
  | .normal, ρ, w | .ret, ρ, w => ∃ v, (results fn (mk fn.ntmps ρ).tmps).run P w = .ok v w ∧ R v w
  | _, _, _ => False
theorem calls_ear {P : Program} {f : FuncId} {fn : Func} {c : Code} {vs : List Value} {h : PH} {w : World} {Q : PH → Value → Prop}
    (hf : P.funcs[f]? = some fn) (hb : fn.body = some c) (hn : Nat.ble vs.length fn.ntmps = true)
    (hw : Wp P fn.ntmps c (retQ P fn fun v w' => ∃ h', Gr h w h' w' ∧ Q h' v) (env0 0 vs) w) : Calls P f vs.toArray w (Ret h w Q) := by
  refine calls_of_wp hf hb ?_
  have := mk_env0 (Nat.le_of_ble_eq_true hn)
  simp only [List.size_toArray]
  rw [this]
  refine wp_mono hw.out ?_
  rintro e a w' ⟨ρ, rfl, hq⟩
  cases e <;> first
    | (obtain ⟨v, hr, h', hg, hq⟩ := hq; exact ⟨rfl, v, hr, v, h', rfl, hg, hq⟩)
    | exact hq.elim
def resOne (tmps : Array Value) : ResultVar → Sem Value
  | .tmp t => pure (tmps.getD t undef)
  | .cell a t => do loadVar t (← asAddr (tmps.getD a undef))
theorem results_eq (fn : Func) (tmps : Array Value) : results fn tmps = (do
    let vs ← fn.results.mapM (resOne tmps)
    pure (if h : vs.size = 1 then vs[0] else .tuple vs)) := by
  unfold results
  congr 2
def resOf (P : Program) (n : Nat) (ρ : Env) (w : World) (rv : ResultVar) (v : Value) : Prop := (resOne (mk n ρ).tmps rv).run P w = .ok v w
theorem resOf_tmp {P : Program} {n : Nat} {ρ : Env} {w : World} {t : Tmp} {v : Value} (h : ev n ρ (.tmp t) = v) : resOf P n ρ w (.tmp t) v := by
  have := eval_mk (n := n) (ρ := ρ) (.tmp t)
  simp only [Act.eval] at this
  simp [resOf, resOne, this, h]
theorem resOf_cell1 {P : Program} {n : Nat} {ρ : Env} {w : World} {a : Tmp} {t : TypeId} {b off : Nat} {arr : Array Value} {e : TypeId} {fz : Nat × Nat} {v : Value} (hA : IsAgg P t false)
    (hx : ev n ρ (.tmp a) = .pointer (some ⟨b, off, none⟩)) (hb : w.heap[b]? = some (.cells arr e fz)) (hv : arr[off]? = some v) : resOf P n ρ w (.cell a t) v := by
  have := eval_mk (n := n) (ρ := ρ) (.tmp a)
  simp only [Act.eval] at this
  simp [resOf, resOne, this, hx, asAddr, loadVar, hA w, load, Sem.run, cell_of hb hv]
theorem resOf_cellA {P : Program} {n : Nat} {ρ : Env} {w : World} {a : Tmp} {t : TypeId} {b off k : Nat} {arr : Array Value} {e : TypeId} {fz : Nat × Nat} {cs : List Value} (hA : IsAgg P t true) (hs : IsSize P t k)
    (hx : ev n ρ (.tmp a) = .pointer (some ⟨b, off, none⟩)) (hb : w.heap[b]? = some (.cells arr e fz)) (hfit : off + k ≤ arr.size) (hv : cut arr off k = cs) : resOf P n ρ w (.cell a t) (.agg cs.toArray) := by
  have := eval_mk (n := n) (ρ := ρ) (.tmp a)
  simp only [Act.eval] at this
  have hl := run_loadCellsFrom (P := P) (w := w) (off := off) hb k 0 #[] (by omega)
  simp only [resOf, resOne, this, hx, asAddr, loadVar, Sem.run_bind, Sem.run_pure, Result.andThen, hA w, hs w, if_true, loadCells, hl]
  simp [hv]
theorem fin1 {P : Program} {fn : Func} {R : Value → World → Prop} {ρ : Env} {w : World} {rv : ResultVar} {v : Value} (hr : fn.results = #[rv])
    (h0 : resOf P fn.ntmps ρ w rv v) (hR : R (v) w) : ∃ v, (results fn (mk fn.ntmps ρ).tmps).run P w = .ok v w ∧ R v w := by
  refine ⟨v, ?_, hR⟩
  unfold resOf at h0
  rw [results_eq, hr]
  simp [h0]
theorem fin1_ret {P : Program} {fn : Func} {R : Value → World → Prop} {ρ : Env} {w : World} {rv : ResultVar} {v : Value} (hr : fn.results = #[rv])
    (h0 : resOf P fn.ntmps ρ w rv v) (hR : R (v) w) : retQ P fn R .ret ρ w := fin1 hr h0 hR
theorem fin1_end {P : Program} {fn : Func} {R : Value → World → Prop} {ρ : Env} {w : World} {rv : ResultVar} {v : Value} (hr : fn.results = #[rv])
    (h0 : resOf P fn.ntmps ρ w rv v) (hR : R (v) w) : retQ P fn R .normal ρ w := fin1 hr h0 hR
theorem fin2 {P : Program} {fn : Func} {R : Value → World → Prop} {ρ : Env} {w : World} {rv ru : ResultVar} {v u : Value} (hr : fn.results = #[rv, ru])
    (h0 : resOf P fn.ntmps ρ w rv v) (h1 : resOf P fn.ntmps ρ w ru u) (hR : R (.tuple #[v, u]) w) : ∃ v, (results fn (mk fn.ntmps ρ).tmps).run P w = .ok v w ∧ R v w := by
  refine ⟨.tuple #[v, u], ?_, hR⟩
  unfold resOf at h0 h1
  rw [results_eq, hr]
  simp [h0, h1]
theorem fin2_ret {P : Program} {fn : Func} {R : Value → World → Prop} {ρ : Env} {w : World} {rv ru : ResultVar} {v u : Value} (hr : fn.results = #[rv, ru])
    (h0 : resOf P fn.ntmps ρ w rv v) (h1 : resOf P fn.ntmps ρ w ru u) (hR : R (.tuple #[v, u]) w) : retQ P fn R .ret ρ w := fin2 hr h0 h1 hR
theorem fin2_end {P : Program} {fn : Func} {R : Value → World → Prop} {ρ : Env} {w : World} {rv ru : ResultVar} {v u : Value} (hr : fn.results = #[rv, ru])
    (h0 : resOf P fn.ntmps ρ w rv v) (h1 : resOf P fn.ntmps ρ w ru u) (hR : R (.tuple #[v, u]) w) : retQ P fn R .normal ρ w := fin2 hr h0 h1 hR
theorem fin3 {P : Program} {fn : Func} {R : Value → World → Prop} {ρ : Env} {w : World} {rv ru rx : ResultVar} {v u x : Value} (hr : fn.results = #[rv, ru, rx])
    (h0 : resOf P fn.ntmps ρ w rv v) (h1 : resOf P fn.ntmps ρ w ru u) (h2 : resOf P fn.ntmps ρ w rx x) (hR : R (.tuple #[v, u, x]) w) : ∃ v, (results fn (mk fn.ntmps ρ).tmps).run P w = .ok v w ∧ R v w := by
  refine ⟨.tuple #[v, u, x], ?_, hR⟩
  unfold resOf at h0 h1 h2
  rw [results_eq, hr]
  simp [h0, h1, h2]
theorem fin3_ret {P : Program} {fn : Func} {R : Value → World → Prop} {ρ : Env} {w : World} {rv ru rx : ResultVar} {v u x : Value} (hr : fn.results = #[rv, ru, rx])
    (h0 : resOf P fn.ntmps ρ w rv v) (h1 : resOf P fn.ntmps ρ w ru u) (h2 : resOf P fn.ntmps ρ w rx x) (hR : R (.tuple #[v, u, x]) w) : retQ P fn R .ret ρ w := fin3 hr h0 h1 h2 hR
theorem fin3_end {P : Program} {fn : Func} {R : Value → World → Prop} {ρ : Env} {w : World} {rv ru rx : ResultVar} {v u x : Value} (hr : fn.results = #[rv, ru, rx])
    (h0 : resOf P fn.ntmps ρ w rv v) (h1 : resOf P fn.ntmps ρ w ru u) (h2 : resOf P fn.ntmps ρ w rx x) (hR : R (.tuple #[v, u, x]) w) : retQ P fn R .normal ρ w := fin3 hr h0 h1 h2 hR
theorem fin4 {P : Program} {fn : Func} {R : Value → World → Prop} {ρ : Env} {w : World} {rv ru rx ry : ResultVar} {v u x y : Value} (hr : fn.results = #[rv, ru, rx, ry])
    (h0 : resOf P fn.ntmps ρ w rv v) (h1 : resOf P fn.ntmps ρ w ru u) (h2 : resOf P fn.ntmps ρ w rx x) (h3 : resOf P fn.ntmps ρ w ry y) (hR : R (.tuple #[v, u, x, y]) w) : ∃ v, (results fn (mk fn.ntmps ρ).tmps).run P w = .ok v w ∧ R v w := by
  refine ⟨.tuple #[v, u, x, y], ?_, hR⟩
  unfold resOf at h0 h1 h2 h3
  rw [results_eq, hr]
  simp [h0, h1, h2, h3]
theorem fin4_ret {P : Program} {fn : Func} {R : Value → World → Prop} {ρ : Env} {w : World} {rv ru rx ry : ResultVar} {v u x y : Value} (hr : fn.results = #[rv, ru, rx, ry])
    (h0 : resOf P fn.ntmps ρ w rv v) (h1 : resOf P fn.ntmps ρ w ru u) (h2 : resOf P fn.ntmps ρ w rx x) (h3 : resOf P fn.ntmps ρ w ry y) (hR : R (.tuple #[v, u, x, y]) w) : retQ P fn R .ret ρ w := fin4 hr h0 h1 h2 h3 hR
theorem fin4_end {P : Program} {fn : Func} {R : Value → World → Prop} {ρ : Env} {w : World} {rv ru rx ry : ResultVar} {v u x y : Value} (hr : fn.results = #[rv, ru, rx, ry])
    (h0 : resOf P fn.ntmps ρ w rv v) (h1 : resOf P fn.ntmps ρ w ru u) (h2 : resOf P fn.ntmps ρ w rx x) (h3 : resOf P fn.ntmps ρ w ry y) (hR : R (.tuple #[v, u, x, y]) w) : retQ P fn R .normal ρ w := fin4 hr h0 h1 h2 h3 hR
theorem finN {P : Program} {fn : Func} {R : Value → World → Prop} {ρ : Env} {w : World} (hr : fn.results = #[]) (hR : R (.tuple #[]) w) :
    ∃ v, (results fn (mk fn.ntmps ρ).tmps).run P w = .ok v w ∧ R v w := ⟨.tuple #[], by simp [results, hr], hR⟩
theorem finN_ret {P : Program} {fn : Func} {R : Value → World → Prop} {ρ : Env} {w : World} (hr : fn.results = #[]) (hR : R (.tuple #[]) w) : retQ P fn R .ret ρ w := finN hr hR
theorem finN_end {P : Program} {fn : Func} {R : Value → World → Prop} {ρ : Env} {w : World} (hr : fn.results = #[]) (hR : R (.tuple #[]) w) : retQ P fn R .normal ρ w := finN hr hR
theorem natv {k : IntKind} {a b : Nat} (h : a = b) : Value.int k (a : Int) = Value.int k (b : Int) := by rw [h]
theorem intv {k : IntKind} {a b : Int} (h : a = b) : Value.int k a = Value.int k b := by rw [h]
theorem boolv {a b : Bool} (h : a = b) : Value.bool a = Value.bool b := by rw [h]
theorem Ext.keep {w w' : World} (e : Ext w w') {b : Nat} {o : Obj} (h : w.heap[b]? = some o) : w'.heap[b]? = some o := by
  rw [e.block b (Array.getElem?_eq_some_iff.1 h).1]; exact h
theorem Gr.keepNone {h h' : PH} {w w' : World} (g : Gr h w h' w') {b : Nat} {o : Obj} (ob : w.heap[b]? = some o) (hn : h b = none) : h' b = none :=
  g.noneAt (Array.getElem?_eq_some_iff.1 ob).1 hn
theorem blk_lt {w : World} {b : Nat} {o : Obj} (h : w.heap[b]? = some o) : b < w.heap.size := (Array.getElem?_eq_some_iff.1 h).1
section ops
variable {P : Program} {n : Nat} {ρ : Env} {w : World} {K : Env → World → Prop} {d : Tmp} {ty : TypeId} {pos : String} {af : Array Edge} {g : Option (Nat × Bool)}
theorem OpW.boxO {h : PH} {t : TypeId} {x : Operand} {v : Value} {arr : Array Value} (hs : Sat h w) (hx : ev n ρ x = v) (hv : v.cells = arr)
    (hk : ∀ b w', Gr h w h w' → h b = none → w.heap.size ≤ b → w'.heap[b]? = some (.cells arr t (0, 0)) → K (upd ρ d (.pointer (some ⟨b, 0, none⟩))) w') : OpW P n ⟨some d, .box t x, ty, pos, af, g⟩ ρ w K := by
  subst hv
  exact OpW.box hx (hk _ _ (Gr.new hs _) hs.fresh (Nat.le_refl _) (newW_at w _))
theorem OpW.allocO {h : PH} {t : TypeId} {z : Value} {arr : Array Value} (hs : Sat h w) (hz : IsZero P t z) (hv : z.cells = arr)
    (hk : ∀ b w', Gr h w h w' → h b = none → w.heap.size ≤ b → w'.heap[b]? = some (.cells arr t (0, 0)) → K (upd ρ d (.pointer (some ⟨b, 0, none⟩))) w') : OpW P n ⟨some d, .alloc t, ty, pos, af, g⟩ ρ w K := by
  subst hv
  exact OpW.alloc hz (hk _ _ (Gr.new hs _) hs.fresh (Nat.le_refl _) (newW_at w _))
theorem OpW.boxK {h : PH} {t : TypeId} {x : Operand} {v : Value} {arr : Array Value} (hs : Sat h w) (hx : ev n ρ x = v) (hv : v.cells = arr)
    (hk : ∀ b h' w', Gr h w h' w' → h' b = some (.cells arr t (0, 0)) → K (upd ρ d (.pointer (some ⟨b, 0, none⟩))) w') : OpW P n ⟨some d, .box t x, ty, pos, af, g⟩ ρ w K := by
  refine OpW.boxO hs hx hv ?_
  intro b w' gr hn hlo hb
  exact hk b _ w' (gr.freeze hb hn hlo) (PH.put_at ..)
theorem OpW.makeO {h : PH} {t e : TypeId} {i : TypeInfo} {z : Value} {x y : Operand} {kx ky : IntKind} {l c : Nat} {arr : Array Value} (hs : Sat h w) (ht : IsUnd P t (.slice e)) (hi : P.info? e = some i) (hz : i.zero = some z)
    (hx : ev n ρ x = .int kx l) (hy : ev n ρ y = .int ky c) (hlc : l ≤ c) (hb : i.bytes * c ≤ 281474976710656) (h63 : c ≤ 9223372036854775807) (harr : madeCells z.cells (c * i.size) = arr)
    (hk : ∀ b w', Gr h w h w' → h b = none → w.heap.size ≤ b → w'.heap[b]? = some (.cells arr e (0, 0)) → K (upd ρ d (.slice (some ⟨b, 0, none⟩) l c)) w') : OpW P n ⟨some d, .makeSlice t x y, ty, pos, af, g⟩ ρ w K := by
  subst harr
  exact OpW.make ht hi hz hx hy hlc hb h63 (hk _ _ (Gr.new hs _) hs.fresh (Nat.le_refl _) (newW_at w _))
theorem made_list {z : Value} {len : Nat} : madeCells z.cells (len * z.cells.size) = ((List.replicate len z.cells.toList).flatten).toArray := by
  generalize hz : z.cells = zs
  apply Array.ext_getElem?
  intro i
  by_cases hi : i < len * zs.size
  · have hk : 0 < zs.size := Nat.pos_of_ne_zero (by intro e; rw [e, Nat.mul_zero] at hi; omega)
    have h1 : (madeCells zs (len * zs.size))[i]? = some (zs[i % zs.size]!) := by
      simp [madeCells, hi]
    rw [h1]
    have key : ∀ (n i : Nat), i < n * zs.size → ((List.replicate n zs.toList).flatten)[i]? = zs.toList[i % zs.size]? := by
      intro n
      induction n with
      | zero => intro i h; omega
      | succ n ih =>
        intro i h
        simp only [List.replicate_succ, List.flatten_cons]
        by_cases hl : i < zs.size
        · rw [List.getElem?_append_left (by simpa using hl), Nat.mod_eq_of_lt hl]
        · rw [List.getElem?_append_right (by simpa using hl)]
          simp only [Array.length_toList]
          rw [ih (i - zs.size) (by rw [Nat.add_mul, Nat.one_mul] at h; omega)]
          congr 1
          exact (Nat.mod_eq_sub_mod (by omega)).symm
    rw [List.getElem?_toArray, key len i hi]
    have hm : i % zs.size < zs.size := Nat.mod_lt _ hk
    simp [hm]
  · rw [Array.getElem?_eq_none (by simp [madeCells]; omega), List.getElem?_toArray, List.getElem?_eq_none]
    have : ((List.replicate len zs.toList).flatten).length = len * zs.size := by simp
    omega
theorem run_buildSlice {t e : TypeId} {len : Nat} {z : Value} {parts : Array (Nat × Value)} {arr : Array Value} (ht : IsUnd P t (.slice e)) (hs : IsSize P e z.cells.size) (hz : IsZero P e z)
    (hlen : Nat.ble (len * z.cells.size) 16777216 = true) (hf : Instr.fill (fun i => some (i * z.cells.size, z.cells.size)) ((List.replicate len z.cells.toList).flatten).toArray parts.toList = some arr) (w : World) :
    (Instr.buildSlice t len parts).run P w = .ok (.slice (some ⟨w.heap.size, 0, none⟩) len len) (newW w (.cells arr e (0, 0))) := by
  have hl := Nat.le_of_ble_eq_true hlen
  have h1 : ¬ (len * z.cells.size > 2 ^ 24) := by
    have : (2 : Nat) ^ 24 = 16777216 := rfl
    omega
  have hcells : (Array.range (len * z.cells.size)).map (fun j => (if len * z.cells.size = 0 then #[] else z.cells)[j % (if len * z.cells.size = 0 then #[] else z.cells).size]!) = ((List.replicate len z.cells.toList).flatten).toArray := by
    rw [← made_list]
    unfold madeCells
    split
    · rename_i h0; rw [h0]; simp
    · rfl
  simp only [Instr.buildSlice, Sem.run_bind, ht.run w, Result.andThen, hs w]
  rw [if_neg h1]
  by_cases h0 : len * z.cells.size = 0
  · simp only [h0, if_true] at hcells ⊢
    simp only [Sem.run_bind, Sem.run_pure, Result.andThen]
    rw [hcells, hf]
    simp [newRow, newObj, Sem.run]
    rfl
  · simp only [h0, if_false] at hcells ⊢
    simp only [Sem.run_bind, Sem.run_pure, Result.andThen, hz w]
    rw [hcells, hf]
    simp [newRow, newObj, Sem.run]
    rfl
theorem OpW.buildSliceO {h : PH} {t e : TypeId} {len : Nat} {z : Value} {ps : List (Nat × Operand)} {arr : Array Value} (hs : Sat h w) (ht : IsUnd P t (.slice e)) (hz : IsZero P e z) (hsz : IsSize P e z.cells.size)
    (hlen : Nat.ble (len * z.cells.size) 16777216 = true)
    (hf : Instr.fill (fun i => some (i * z.cells.size, z.cells.size)) ((List.replicate len z.cells.toList).flatten).toArray (ps.map fun p => (p.1, ev n ρ p.2)) = some arr)
    (hk : ∀ b w', Gr h w h w' → h b = none → w.heap.size ≤ b → w'.heap[b]? = some (.cells arr e (0, 0)) → K (upd ρ d (.slice (some ⟨b, 0, none⟩) len len)) w') : OpW P n ⟨some d, .buildSlice t len ps.toArray, ty, pos, af, g⟩ ρ w K :=
  OpW.buildSlice (fun w => by rw [List.map_toArray]; exact run_buildSlice ht hsz hz hlen (by simpa using hf) w) (hk _ _ (Gr.new hs _) hs.fresh (Nat.le_refl _) (newW_at w _))
end ops
end Go.Ear
namespace Go.Ear
theorem cut_cell {arr : Array Value} {off k : Nat} {cs : List Value} (h : cut arr off k = cs) (i : Nat) (hi : i < k) {c : Value} (hc : cs[i]? = some c) : arr[off + i]? = some c := by
  subst h
  unfold cut at hc
  simpa [List.getElem?_take, List.getElem?_drop, hi] using hc
structure Rp (α : Type) where
  k : Nat
  R : PH → List Value → α → Prop
  len : ∀ {h cs x}, R h cs x → cs.length = k
  one : ∀ {h cs x}, R h cs x → ∀ c ∈ cs, c.oneCell' = true
  mono : ∀ {h h' cs x}, R h cs x → h.le h' → R h' cs x
section
variable {α : Type} {r : Rp α} {h h' : PH}
def Rows (r : Rp α) (h : PH) : List (List Value) → List α → Prop
  | [], [] => True
  | cs :: css, x :: l => r.R h cs x ∧ Rows r h css l
  | _, _ => False
theorem Rows.mono : ∀ {css : List (List Value)} {l : List α}, Rows r h css l → h.le h' → Rows r h' css l
  | [], [], _, _ => trivial
  | _ :: _, _ :: _, u, e => ⟨r.mono u.1 e, Rows.mono u.2 e⟩
theorem Rows.length : ∀ {css : List (List Value)} {l : List α}, Rows r h css l → css.length = l.length
  | [], [], _ => rfl
  | _ :: _, _ :: _, u => by simp [Rows.length u.2]
theorem Rows.lens : ∀ {css : List (List Value)} {l : List α}, Rows r h css l → ∀ cs ∈ css, cs.length = r.k
  | [], [], _, cs, hc => by cases hc
  | c :: _, _ :: _, u, cs, hc => by
    rcases List.mem_cons.1 hc with rfl | hc
    · exact r.len u.1
    · exact Rows.lens u.2 cs hc
theorem Rows.ones : ∀ {css : List (List Value)} {l : List α}, Rows r h css l → ∀ c ∈ css.flatten, c.oneCell' = true
  | [], [], _, c, hc => by simp at hc
  | cs :: _, _ :: _, u, c, hc => by
    rw [List.flatten_cons] at hc
    rcases List.mem_append.1 hc with hc | hc
    · exact r.one u.1 c hc
    · exact Rows.ones u.2 c hc
theorem Rows.at : ∀ {css : List (List Value)} {l : List α}, Rows r h css l → ∀ {i : Nat} {cs : List Value}, css[i]? = some cs → ∀ d, r.R h cs (l.getD i d)
  | [], [], _, i, cs, hi, d => by simp at hi
  | c :: _, x :: _, u, 0, cs, hi, d => by simp at hi; subst hi; exact u.1
  | c :: _, x :: _, u, i + 1, cs, hi, d => by simpa using Rows.at u.2 (by simpa using hi) d
theorem Rows.append : ∀ {css : List (List Value)} {l : List α} {css2 : List (List Value)} {l2 : List α}, Rows r h css l → Rows r h css2 l2 → Rows r h (css ++ css2) (l ++ l2)
  | [], [], _, _, _, v => v
  | _ :: _, _ :: _, _, _, u, v => ⟨u.1, Rows.append u.2 v⟩
theorem Rows.set : ∀ {css : List (List Value)} {l : List α}, Rows r h css l → ∀ (i : Nat) {cs : List Value} {x : α}, r.R h cs x → Rows r h (css.set i cs) (l.set i x)
  | [], [], _, _, _, _, _ => trivial
  | _ :: _, _ :: _, u, 0, _, _, v => ⟨v, u.2⟩
  | _ :: _, _ :: _, u, i + 1, _, _, v => ⟨u.1, Rows.set u.2 i v⟩
theorem Rows.take : ∀ {css : List (List Value)} {l : List α}, Rows r h css l → ∀ m : Nat, Rows r h (css.take m) (l.take m)
  | [], [], _, m => by simp [Rows]
  | _ :: _, _ :: _, u, 0 => trivial
  | _ :: _, _ :: _, u, m + 1 => ⟨u.1, Rows.take u.2 m⟩
theorem Rows.drop : ∀ {css : List (List Value)} {l : List α}, Rows r h css l → ∀ m : Nat, Rows r h (css.drop m) (l.drop m)
  | [], [], _, m => by simp [Rows]
  | _ :: _, _ :: _, u, 0 => u
  | _ :: _, _ :: _, u, m + 1 => Rows.drop u.2 m
theorem Rows.replicate {cs : List Value} {x : α} (u : r.R h cs x) : ∀ n, Rows r h (List.replicate n cs) (List.replicate n x)
  | 0 => trivial
  | n + 1 => ⟨u, Rows.replicate u n⟩
theorem Rows.cons {cs : List Value} {x : α} {css : List (List Value)} {l : List α} (u : r.R h cs x) (v : Rows r h css l) : Rows r h (cs :: css) (x :: l) := ⟨u, v⟩
theorem Rows.nil : Rows r h [] [] := trivial
def LR (r : Rp α) (h : PH) (v : Value) (l : List α) : Prop := ∃ css, Sl h r.k v css ∧ Rows r h css l
theorem LR.mono {v : Value} {l : List α} (u : LR r h v l) (e : h.le h') : LR r h' v l := by
  obtain ⟨css, a, b⟩ := u; exact ⟨css, a.mono e, b.mono e⟩
theorem LR.cast {v : Value} {l m : List α} (e : l = m) (u : LR r h v l) : LR r h v m := e ▸ u
theorem LR.nil (r : Rp α) (h : PH) (b : Option Addr) (c : Nat) : LR r h (.slice b 0 c) [] := ⟨[], Sl.nil h r.k b c, trivial⟩
theorem LR.shape {v : Value} {l : List α} (u : LR r h v l) : ∃ base cap, v = .slice base l.length cap ∧ l.length ≤ cap := by
  obtain ⟨css, a, b⟩ := u
  have := a.shape
  rwa [b.length] at this
theorem stab_LR (r : Rp α) (l : List α) : Stab fun h _ x => LR r h x l := fun _ _ _ _ _ g u => u.mono g.le
theorem LR.at {base : Option Addr} {len cap : Nat} {l : List α} (u : LR r h (.slice base len cap) l) (d0 : α) {i : Nat} (hi : i < l.length) :
    ∃ b off arr e fz cs, base = some ⟨b, off, none⟩ ∧ h b = some (.cells arr e fz) ∧ cut arr (off + i * r.k) r.k = cs ∧ off + i * r.k + r.k ≤ arr.size ∧ r.R h cs (l.getD i d0) := by
  obtain ⟨css, a, b⟩ := u
  have hl : i < css.length := by rw [b.length]; exact hi
  have hc : css[i]? = some css[i] := List.getElem?_eq_getElem hl
  obtain ⟨bb, off, cap', arr, e, fz, ev, hb, _, hcut, _, hf⟩ := a.at hc
  cases ev
  exact ⟨bb, off, arr, e, fz, _, rfl, hb, hcut, hf, b.at hc d0⟩
theorem LR.take {base : Option Addr} {len cap : Nat} {l : List α} (u : LR r h (.slice base len cap) l) (m : Nat) (hm : m ≤ l.length) : LR r h (.slice base m cap) (l.take m) := by
  obtain ⟨css, a, b⟩ := u
  exact ⟨css.take m, a.take m (by rw [b.length]; exact hm), b.take m⟩
theorem LR.isNone {base : Option Addr} {len cap : Nat} {l : List α} (u : LR r h (.slice base len cap) l) (hb : base.isNone = true) : l = [] := by
  cases l with
  | nil => rfl
  | cons x l =>
    obtain ⟨b, off, _, _, _, _, e, _⟩ := u.at x (i := 0) (by simp)
    subst e; cases hb
def RelA (r : Rp α) (h : PH) (arr : Array Value) (l : List α) : Prop := ∃ css z, arr.toList = css.flatten ++ z ∧ Rows r h css l
theorem RelA.mono {arr : Array Value} {l : List α} (u : RelA r h arr l) (e : h.le h') : RelA r h' arr l := by
  obtain ⟨css, z, a, b⟩ := u; exact ⟨css, z, a, b.mono e⟩
theorem RelA.cast {arr : Array Value} {l m : List α} (e : l = m) (u : RelA r h arr l) : RelA r h arr m := e ▸ u
theorem RelA.size {arr : Array Value} {l : List α} (u : RelA r h arr l) : l.length * r.k ≤ arr.size := by
  obtain ⟨css, z, a, b⟩ := u
  have := congrArg List.length a
  rw [List.length_append, flatten_length b.lens, b.length] at this
  simp at this; omega
theorem cut_flat {k : Nat} : ∀ (css : List (List Value)) (z : List Value), (∀ cs ∈ css, cs.length = k) → ∀ i cs, css[i]? = some cs → ((css.flatten ++ z).drop (i * k)).take k = cs
  | [], z, _, i, cs, hi => by simp at hi
  | c :: css, z, hk, 0, cs, hi => by
    simp at hi; subst hi
    have hc := hk c (List.mem_cons_self ..)
    simp [List.append_assoc, List.take_left' hc]
  | c :: css, z, hk, i + 1, cs, hi => by
    have hc := hk c (List.mem_cons_self ..)
    rw [List.flatten_cons, List.append_assoc, Nat.add_mul, Nat.one_mul, Nat.add_comm, ← List.drop_drop, List.drop_left' hc]
    exact cut_flat css z (fun x hx => hk x (List.mem_cons_of_mem _ hx)) i cs (by simpa using hi)
theorem RelA.at {arr : Array Value} {l : List α} (u : RelA r h arr l) (d0 : α) {i : Nat} (hi : i < l.length) :
    ∃ cs, cut arr (i * r.k) r.k = cs ∧ i * r.k + r.k ≤ arr.size ∧ r.R h cs (l.getD i d0) := by
  have hs := u.size
  obtain ⟨css, z, a, b⟩ := u
  have hl : i < css.length := by rw [b.length]; exact hi
  have hc : css[i]? = some css[i] := List.getElem?_eq_getElem hl
  refine ⟨css[i], ?_, ?_, b.at hc d0⟩
  · unfold cut; rw [a]; exact cut_flat css z b.lens i _ hc
  · have : (i + 1) * r.k ≤ l.length * r.k := Nat.mul_le_mul_right _ hi
    rw [Nat.add_mul, Nat.one_mul] at this; omega
theorem LR.own {b cap len : Nat} {arr : Array Value} {l : List α} {e : TypeId} {fz : Nat × Nat} (hb : h b = some (.cells arr e fz)) (u : RelA r h arr l) (hl : l.length = len) (hc : len ≤ cap) : LR r h (.slice (some ⟨b, 0, none⟩) len cap) l := by
  subst hl
  have hs := u.size
  obtain ⟨css, z, a, bb⟩ := u
  refine ⟨css, ⟨some ⟨b, 0, none⟩, cap, by rw [bb.length], by rw [bb.length]; exact hc, bb.lens, .inr ⟨b, 0, arr, e, fz, rfl, hb, by rw [bb.length]; omega, ?_⟩⟩, bb⟩
  intro i cs hi
  unfold cut
  rw [a, Nat.zero_add]
  exact cut_flat css z bb.lens i cs hi
theorem RelA.lit {css : List (List Value)} {l : List α} (u : Rows r h css l) : RelA r h css.flatten.toArray l := ⟨css, [], by simp, u⟩
theorem putIn_toList : ∀ (cs : List Value) (arr : Array Value) (off : Nat), off + cs.length ≤ arr.size → (putIn arr off cs).toList = arr.toList.take off ++ cs ++ arr.toList.drop (off + cs.length)
  | [], arr, off, _ => by simp [putIn]
  | c :: cs, arr, off, hf => by
    simp only [List.length_cons] at hf
    have hlt : off < arr.toList.length := by simp; omega
    rw [putIn, putIn_toList cs _ _ (by simp; omega), Array.toList_setIfInBounds]
    rw [List.take_succ_eq_append_getElem (by simpa using hlt), List.take_set_of_le (Nat.le_refl _), List.drop_set_of_lt (by omega)]
    simp [Nat.add_comm, Nat.add_left_comm]
theorem flat_set {k : Nat} : ∀ (css : List (List Value)) (z : List Value), (∀ cs ∈ css, cs.length = k) → ∀ i cs, i < css.length → cs.length = k →
    (css.set i cs).flatten ++ z = (css.flatten ++ z).take (i * k) ++ cs ++ (css.flatten ++ z).drop (i * k + k)
  | [], z, _, i, cs, hi, _ => by simp at hi
  | c :: css, z, hk, 0, cs, hi, hl => by
    have hc := hk c (List.mem_cons_self ..)
    simp only [List.set_cons_zero, List.flatten_cons, Nat.zero_mul, List.take_zero, List.nil_append, Nat.zero_add, List.append_assoc]
    rw [List.drop_left' hc]
  | c :: css, z, hk, i + 1, cs, hi, hl => by
    have hc := hk c (List.mem_cons_self ..)
    have ih := flat_set css z (fun x hx => hk x (List.mem_cons_of_mem _ hx)) i cs (by simpa using hi) hl
    simp only [List.set_cons_succ, List.flatten_cons, List.append_assoc] at ih ⊢
    rw [ih, Nat.add_mul, Nat.one_mul]
    rw [show i * k + k = c.length + i * k by omega, List.take_length_add_append, show c.length + i * k + k = c.length + (i * k + k) by omega, List.drop_length_add_append]
    rw [show i * k + k = c.length + i * k by omega]
    simp [List.append_assoc]
theorem RelA.set {arr : Array Value} {l : List α} (u : RelA r h arr l) {i : Nat} (hi : i < l.length) {cs : List Value} {x : α} (v : r.R h cs x) : RelA r h (putIn arr (i * r.k) cs) (l.set i x) := by
  have hs := u.size
  obtain ⟨css, z, a, b⟩ := u
  have hc := r.len v
  have : (i + 1) * r.k ≤ l.length * r.k := Nat.mul_le_mul_right _ hi
  rw [Nat.add_mul, Nat.one_mul] at this
  refine ⟨css.set i cs, z, ?_, b.set i v⟩
  rw [putIn_toList cs arr _ (by omega), a, flat_set css z b.lens i cs (by rw [b.length]; exact hi) hc, hc]
theorem RelA.made {z : Value} {x : α} (n : Nat) {s : Nat} (hz : z.cells.size = s) (hk : s = r.k) (u : r.R h z.cells.toList x) : RelA r h (madeCells z.cells (n * s)) (List.replicate n x) := by
  subst hz
  rw [made_list]
  exact ⟨List.replicate n z.cells.toList, [], by simp, Rows.replicate u n⟩
def OwnL (r : Rp α) (lo : Nat) (h : PH) (w : World) (e : TypeId) (v : Value) (l : List α) : Prop := ∃ css, Own lo h w e r.k v l.length css.flatten ∧ Rows r h css l
theorem OwnL.nil (r : Rp α) (lo : Nat) (h : PH) (w : World) (e : TypeId) : OwnL r lo h w e (.slice none 0 0) [] := ⟨[], Own.nil lo h w e r.k, trivial⟩
theorem OwnL.cast {lo : Nat} {w : World} {e : TypeId} {v : Value} {l m : List α} (q : l = m) (u : OwnL r lo h w e v l) : OwnL r lo h w e v m := q ▸ u
theorem OwnL.gr {lo : Nat} {w w' : World} {e : TypeId} {v : Value} {l : List α} (u : OwnL r lo h w e v l) (g : Gr h w h' w') : OwnL r lo h' w' e v l := by
  obtain ⟨css, a, b⟩ := u; exact ⟨css, a.gr g, b.mono g.le⟩
theorem OwnL.put {lo : Nat} {w w' : World} {e : TypeId} {v : Value} {l : List α} {b : Nat} {o : Obj} (u : OwnL r lo h w e v l) (p : Put w w' b o) (hn : Value.blk v ≠ some b) : OwnL r lo h w' e v l := by
  obtain ⟨css, a, bb⟩ := u
  exact ⟨css, a.keep fun i hi _ => ⟨p.other i (fun e => hn (by rw [hi, e])), fun x => x⟩, bb⟩
theorem OwnL.freezeOther {lo : Nat} {w : World} {e : TypeId} {v : Value} {l : List α} (u : OwnL r lo h w e v l) {b : Nat} (le : h.le h') (fr : ∀ i, i ≠ b → h i = none → h' i = none) (hn : Value.blk v ≠ some b) : OwnL r lo h' w e v l := by
  obtain ⟨css, a, bb⟩ := u
  exact ⟨css, a.keep fun i hi _ => ⟨rfl, fun x => fr i (fun e => hn (by rw [hi, e])) x⟩, bb.mono le⟩
theorem OwnL.lt {lo : Nat} {w : World} {e : TypeId} {v : Value} {l : List α} (u : OwnL r lo h w e v l) {b : Nat} (hb : Value.blk v = some b) : b < w.heap.size ∧ h b = none ∧ lo ≤ b := by
  obtain ⟨css, a, _⟩ := u
  rcases a.2 with ⟨rfl, _⟩ | ⟨b', cap, arr, rfl, h1, h2, h3, _⟩
  · cases hb
  · simp [Value.blk] at hb; subst hb
    exact ⟨(Array.getElem?_eq_some_iff.1 h3).1, h2, h1⟩
theorem OwnL.ne_new {lo : Nat} {w : World} {e : TypeId} {v : Value} {l : List α} (u : OwnL r lo h w e v l) {b : Nat} (hb : w.heap.size ≤ b) : Value.blk v ≠ some b := fun e => by
  have := (u.lt e).1; omega
theorem OwnL.ow {lo : Nat} {h0 : PH} {w0 w w' : World} {e : TypeId} {v : Value} {l : List α} (u : OwnL r lo h w e v l) (g : Gr h0 w0 h w) (hlo : w0.heap.size ≤ lo) (p : Ow w w' (Value.blk v)) : Gr h0 w0 h w' :=
  g.ow p fun i hi => ⟨(u.lt hi).2.1, Nat.le_trans hlo (u.lt hi).2.2⟩
theorem OwnL.shape {lo : Nat} {w : World} {e : TypeId} {v : Value} {l : List α} (u : OwnL r lo h w e v l) : ∃ base cap, v = .slice base l.length cap ∧ l.length ≤ cap := by
  obtain ⟨css, a, _⟩ := u
  rcases a.2 with ⟨rfl, hl⟩ | ⟨b', cap, arr, rfl, _, _, _, h4, _⟩
  · exact ⟨none, 0, by rw [hl], by omega⟩
  · exact ⟨_, cap, rfl, h4⟩
theorem OwnL.freeze {lo : Nat} {h0 : PH} {w0 w : World} {e : TypeId} {v : Value} {l : List α} (g : Gr h0 w0 h w) (hlo : w0.heap.size ≤ lo) (u : OwnL r lo h w e v l) :
    ∃ h', Gr h0 w0 h' w ∧ h.le h' ∧ (∀ i, h i = none → Value.blk v ≠ some i → h' i = none) ∧ LR r h' v l := by
  obtain ⟨css, a, b⟩ := u
  obtain ⟨h', g', le, fr, sl⟩ := Own.freeze g hlo b.lens b.length a
  exact ⟨h', g', le, fun i hi hn => fr i hi (fun e => hn e.symm), css, sl, b.mono le⟩
theorem OwnL.block {lo : Nat} {w : World} {e : TypeId} {v : Value} {l : List α} (u : OwnL r lo h w e v l) (hne : l ≠ []) :
    ∃ b cap arr, v = .slice (some ⟨b, 0, none⟩) l.length cap ∧ lo ≤ b ∧ h b = none ∧ w.heap[b]? = some (.cells arr e (0, 0)) ∧ l.length ≤ cap ∧ RelA r h arr l := by
  obtain ⟨css, a, b⟩ := u
  rcases a.2 with ⟨rfl, hl⟩ | ⟨bb, cap, arr, rfl, h1, h2, h3, h4, h5, h6⟩
  · exact absurd (List.eq_nil_of_length_eq_zero hl) hne
  · exact ⟨bb, cap, arr, rfl, h1, h2, h3, h4, css, arr.toList.drop (l.length * r.k), by rw [← h6, List.take_append_drop], b⟩
end
section ops
variable {P : Program} {n : Nat} {ρ : Env} {w : World} {K : Env → World → Prop} {d : Tmp} {ty : TypeId} {pos : String} {af : Array Edge} {g : Option (Nat × Bool)} {α : Type} {r : Rp α}
theorem OpW.indexL {h : PH} {t e : TypeId} {x y : Operand} {k : IntKind} {base : Option Addr} {len cap j : Nat} {l : List α} {i : Int} (d0 : α) {s : Nat} (hsk : s = r.k) (ht : IsUnd P t (.slice e)) (hs : IsSize P e s) (hx : ev n ρ x = .slice base len cap)
    (u : LR r h (.slice base len cap) l) (hy : ev n ρ y = .int k i) (hj : j < l.length) (hi : i = (j : Int))
    (hk : ∀ b o arr e' fz cs, h b = some (.cells arr e' fz) → cut arr o s = cs → o + s ≤ arr.size → r.R h cs (l.getD j d0) → K (upd ρ d (.pointer (some ⟨b, o, none⟩))) w) :
    OpW P n ⟨some d, .indexAddr t x y, ty, pos, af, g⟩ ρ w K := by
  subst hsk
  obtain ⟨b, off, arr, e', fz, cs, rfl, hb, hv, hf, hr⟩ := u.at d0 hj
  obtain ⟨_, _, he, _⟩ := u.shape
  cases he
  exact OpW.indexAddr ht hs hx hy (by omega) (by rw [hi]; simp) (hk b (off + j * r.k) arr e' fz cs hb hv hf hr)
theorem OpW.appendL {lo : Nat} {h : PH} {t e : TypeId} {i : TypeInfo} {z : Value} {a b : Operand} {v x : Value} {l m : List α}
    (ht : P.underlying t = some (.slice e)) (hi : P.info? e = some i) (hz : i.zero = some z) (hzs : z.cells.size = i.size) (hik : i.size = r.k)
    (hs : Sat h w) (hlo : lo ≤ w.heap.size) (ha : ev n ρ a = v) (hb : ev n ρ b = x) (own : OwnL r lo h w e v l) (u : LR r h x m)
    (h63 : l.length + m.length ≤ 9223372036854775807) (hbb : (l.length + m.length) * i.bytes ≤ 140737488355328)
    (hk : ∀ v' w', OwnL r lo h w' e v' (l ++ m) → Ow w w' (Value.blk v) → (∀ b, Value.blk v' = some b → Value.blk v = some b ∨ w.heap.size ≤ b) → K (upd ρ d v') w') :
    OpW P n ⟨some d, .call ⟨.builtin .append, #[a, b], #[t, t]⟩, ty, pos, af, g⟩ ρ w K := by
  obtain ⟨css, o, rr⟩ := own
  obtain ⟨css2, s2, rr2⟩ := u
  rw [← hik] at o s2
  have rd := s2.reads hs
  rw [rr2.length] at rd
  refine OpW.append (P := P) (ty := ty) ht hi hz hzs hs hlo ha hb o rd rr2.ones h63 hbb ?_
  intro v' w' o' ow hbl
  refine hk v' w' ⟨css ++ css2, ?_, rr.append rr2⟩ ow hbl
  rw [List.flatten_append, List.length_append, ← hik]; exact o'
end ops
theorem blk_ne {v v' : Value} {w : World} {b : Nat} {o : Obj} (hbl : ∀ b, Value.blk v' = some b → Value.blk v = some b ∨ w.heap.size ≤ b) (hn : Value.blk v ≠ some b) (hb : w.heap[b]? = some o) : Value.blk v' ≠ some b := fun e => by
  rcases hbl b e with h | h
  · exact hn h
  · have := blk_lt hb; omega
theorem Ow.keep {w w' : World} {v : Value} {b : Nat} {o : Obj} (p : Ow w w' (Value.blk v)) (hn : Value.blk v ≠ some b) (hb : w.heap[b]? = some o) : w'.heap[b]? = some o := by
  rw [p.block b (blk_lt hb) (fun e => hn e.symm)]; exact hb
section
variable {α β : Type} {r : Rp α} {r2 : Rp β} {h h' : PH}
theorem LR.at' {base : Option Addr} {len cap : Nat} {l : List α} (u : LR r h (.slice base len cap) l) (d0 : α) {s : Nat} (hsk : s = r.k) {i : Nat} (hi : i < l.length) :
    ∃ b off arr e fz cs, base = some ⟨b, off, none⟩ ∧ h b = some (.cells arr e fz) ∧ cut arr (off + i * s) s = cs ∧ off + i * s + s ≤ arr.size ∧ r.R h cs (l.getD i d0) := by
  subst hsk; exact u.at d0 hi
theorem RelA.at' {arr : Array Value} {l : List α} (u : RelA r h arr l) (d0 : α) {s : Nat} (hsk : s = r.k) {i : Nat} (hi : i < l.length) :
    ∃ cs, cut arr (i * s) s = cs ∧ i * s + s ≤ arr.size ∧ r.R h cs (l.getD i d0) := by
  subst hsk; exact u.at d0 hi
theorem RelA.storeA {w w' : World} {b off : Nat} {arr : Array Value} {e : TypeId} {l : List α} (u : RelA r h arr l) {cs : List Value} (q : Put w w' b (.cells (putIn arr off cs) e (0, 0))) {i : Nat} (ho : off = i * r.k) (hi : i < l.length) {x : α} (v : r.R h cs x) :
    ∃ arr', w'.heap[b]? = some (.cells arr' e (0, 0)) ∧ RelA r h arr' (l.set i x) := by
  subst ho; exact ⟨_, q.at_, u.set hi v⟩
theorem RelA.store1 {w w' : World} {b off : Nat} {arr : Array Value} {e : TypeId} {l : List α} (u : RelA r h arr l) {c : Value} (q : Put w w' b (.cells (arr.setIfInBounds off c) e (0, 0))) {i : Nat} (ho : off = i * r.k) (hi : i < l.length) {x : α} (v : r.R h [c] x) :
    ∃ arr', w'.heap[b]? = some (.cells arr' e (0, 0)) ∧ RelA r h arr' (l.set i x) := by
  subst ho; exact ⟨_, q.at_, u.set hi v⟩
theorem RelA.fit {arr : Array Value} {l : List α} (u : RelA r h arr l) {s : Nat} (hsk : s = r.k) {i : Nat} (hi : i < l.length) : i * s + s ≤ arr.size := by
  obtain ⟨_, _, h2, _⟩ := u.at' (l.getD 0 (l[i])) hsk hi; exact h2
theorem OwnL.ow2 {lo : Nat} {w w' : World} {e : TypeId} {v v2 : Value} {l : List α} (u : OwnL r lo h w e v2 l) (p : Ow w w' (Value.blk v)) (hn : ∀ b, Value.blk v2 = some b → Value.blk v ≠ some b) : OwnL r lo h w' e v2 l := by
  obtain ⟨css, a, bb⟩ := u
  exact ⟨css, a.keep fun i hi hlt => ⟨p.block i hlt (fun e => hn i hi e.symm), fun x => x⟩, bb⟩
theorem OwnL.nn {lo : Nat} {w : World} {e : TypeId} {v v' v2 : Value} {l : List α} (u : OwnL r lo h w e v2 l) (hbl : ∀ b, Value.blk v' = some b → Value.blk v = some b ∨ w.heap.size ≤ b) (hn : ∀ b, Value.blk v2 = some b → Value.blk v ≠ some b) :
    ∀ b, Value.blk v2 = some b → Value.blk v' ≠ some b := fun b hb e => by
  rcases hbl b e with h | h
  · exact hn b hb h
  · have := (u.lt hb).1; omega
theorem nn_symm {v v2 : Value} (hn : ∀ b, Value.blk v2 = some b → Value.blk v ≠ some b) : ∀ b, Value.blk v = some b → Value.blk v2 ≠ some b := fun b hb e => hn b e hb
theorem nn_nil {v : Value} {l c : Nat} : ∀ b, Value.blk (.slice none l c) = some b → Value.blk v ≠ some b := fun b hb => by cases hb
theorem ne_nil {b l c : Nat} : Value.blk (.slice none l c) ≠ some b := fun e => by cases e
theorem LR.own' {b cap len : Nat} {arr : Array Value} {l : List α} {e : TypeId} {fz : Nat × Nat} (hb : h b = some (.cells arr e fz)) {css : List (List Value)} (ha : arr = css.flatten.toArray) (u : Rows r h css l) (hl : l.length = len) (hc : len ≤ cap) : LR r h (.slice (some ⟨b, 0, none⟩) len cap) l := by
  subst ha; exact LR.own hb (RelA.lit u) hl hc
end
end Go.Ear
namespace Go.Ear
theorem OwnL.freezeOwn {α : Type} {r : Rp α} {h h' : PH} {lo : Nat} {w : World} {e : TypeId} {v v2 : Value} {l : List α} (u : OwnL r lo h w e v2 l) (le : h.le h') (fr : ∀ i, h i = none → Value.blk v ≠ some i → h' i = none) (nn : ∀ b, Value.blk v2 = some b → Value.blk v ≠ some b) : OwnL r lo h' w e v2 l := by
  obtain ⟨css, a, bb⟩ := u
  exact ⟨css, a.keep fun i hi _ => ⟨rfl, fun x => fr i x (nn i hi)⟩, bb.mono le⟩
end Go.Ear
namespace Go.Ear
structure Ctx where
  round : Option Nat
  defers : List Deferred
def mkX (X : Ctx) (n : Nat) (ρ : Env) : Act := ⟨Array.ofFn (n := n) fun i => ρ i.val, X.defers⟩
def FX (X : Ctx) : Fence := { Fence.wide with round := X.round }
def toQX (X : Ctx) (n : Nat) (Q : Exit → Env → World → Prop) : Exit → Act → World → Prop := fun e a w => ∃ ρ, a = mkX X n ρ ∧ Q e ρ w
theorem mkX_tmps {X : Ctx} {n : Nat} {ρ : Env} : (mkX X n ρ).tmps = (mk n ρ).tmps := rfl
theorem eval_tmps {a a' : Act} (h : a.tmps = a'.tmps) : a.eval = a'.eval := by
  funext x; cases x <;> simp [Act.eval, h]
theorem eval_mkX {X : Ctx} {n : Nat} {ρ : Env} : (mkX X n ρ).eval = ev n ρ := (eval_tmps mkX_tmps).trans eval_mk'
theorem put_act {t : Array Value} {ds : List Deferred} {d : Option Tmp} {v : Value} : (⟨t, ds⟩ : Act).put d v = ⟨((⟨t, []⟩ : Act).put d v).tmps, ds⟩ := by
  cases d <;> rfl
theorem put_defers {a : Act} {d : Option Tmp} {v : Value} : (a.put d v).defers = a.defers := by cases d <;> rfl
theorem put_mkX {X : Ctx} {n : Nat} {ρ : Env} {d : Option Nat} {v : Value} : (mkX X n ρ).put d v = mkX X n (updO ρ d v) := by
  have h := put_mk (n := n) (ρ := ρ) (d := d) (v := v)
  unfold mkX mk at *
  rw [put_act, h]
def WpX (X : Ctx) (P : Program) (n : Nat) (c : Code) (Q : Exit → Env → World → Prop) (ρ : Env) (w : World) : Prop := c.wpIn (FX X) 0 P (toQX X n Q) (mkX X n ρ) w
def noDefer (o : Oper) : Bool := match o.op with | .defer _ => false | _ => true
theorem semAt_plain {X : Ctx} {ρ : Operand → Value} {o : Oper} (h : noDefer o = true) : Oper.semAt (FX X).round ρ o = execOp ρ o := by
  show Oper.semAt X.round ρ o = _
  cases hr : X.round with
  | none => rfl
  | some l => exact Oper.semAt_some l ρ o (fun c e => by unfold noDefer at h; rw [e] at h; cases h)
theorem calls_in {X : Ctx} {k : Nat} {P : Program} {f : FuncId} {args : Array Value} {w : World} {R : Ending → World → Prop} (h : Calls P f args w R) : CallsIn (FX X) k P f args w R :=
  (callsIn_wide (n := k)).2 h
theorem rows_in {X : Ctx} {k : Nat} {P : Program} {row : String} {args : Array Value} {w : World} {R : Value → World → Prop} (h : Go.Rows P row args w R) : RowsIn (FX X) k P row args w R := by
  intro c cs _
  obtain ⟨v, w', r, s⟩ := h c cs
  exact ⟨v, w', r, stepsIn_wide.2 s⟩
theorem opX_of {X : Ctx} {P : Program} {n : Nat} {o : Oper} {ρ : Env} {w : World} {K : Env → World → Prop} {Q : Exit → Act → World → Prop} (hp : noDefer o = true) (h : OpW P n o ρ w K) :
    o.wpIn (FX X) 0 P (mkX X n ρ) w (fun a w' => ∃ ρ', a = mkX X n ρ' ∧ K ρ' w') Q := by
  refine ⟨fun _ _ => trivial, ?_⟩
  rw [eval_mkX, semAt_plain hp]
  unfold OpW Oper.wp at h
  rw [eval_mk'] at h
  have key : ∀ (v : Value) (w' : World), (∃ ρ', (mk n ρ).put o.dst v = mk n ρ' ∧ K ρ' w') → ∃ ρ', (mkX X n ρ).put o.dst v = mkX X n ρ' ∧ K ρ' w' := by
    rintro v w' ⟨ρ', e, k⟩
    refine ⟨ρ', ?_, k⟩
    unfold mkX mk at *
    rw [put_act, e]
  revert h
  generalize (execOp (ev n ρ) o).run P w = r
  intro h
  cases r with
  | halt hh w' => cases hh <;> exact h.elim
  | ok nx w' =>
    cases nx with
    | value v => exact key _ _ h
    | skip => exact key _ _ h
    | defer d =>
      obtain ⟨ρ', e, _⟩ := h
      have := congrArg Act.defers e
      rw [put_defers] at this
      cases this
    | enter f args =>
      refine ⟨(fun hx => by cases hx), calls_in (Calls.mono h ?_)⟩
      intro e w' he
      cases e with
      | returned v => exact key _ _ he
      | panicked c => exact he.elim
      | outgrown => obtain ⟨_, _, h⟩ := he; exact h.elim
    | row rw args => exact ⟨(fun hx => by cases hx), rows_in (Go.Rows.mono h fun v w'' hh => key _ _ hh)⟩
    | _ => exact h.elim
theorem wpListX_of_Ops {X : Ctx} {P : Program} {n : Nat} {ops : Array Oper} {K : Env → World → Prop} {Q : Exit → Env → World → Prop} (hKQ : ∀ ρ w, K ρ w → Q .normal ρ w)
    (l : List Oper) (hl : l.all noDefer = true) : ∀ ρ w, Ops P n ops K l ρ w → wpListIn (FX X) 0 P ops (toQX X n Q) l (mkX X n ρ) w := by
  induction l with
  | nil => intro ρ w h; unfold Ops at h; exact ⟨ρ, rfl, hKQ _ _ h⟩
  | cons o rest ih =>
    intro ρ w h
    rw [List.all_cons, Bool.and_eq_true] at hl
    unfold wpListIn
    unfold Ops at h
    rw [mkX_tmps]
    split
    · rename_i hw
      rw [if_pos hw] at h
      have := opX_of (X := X) (Q := toQX X n Q) hl.1 h
      refine ⟨this.1, ?_⟩
      have h2 := this.2
      clear this
      revert h2
      generalize (Oper.semAt (FX X).round (mkX X n ρ).eval o).run P w = r
      intro h2
      cases r with
      | halt hh w' => cases hh <;> exact h2
      | ok nx w' =>
        cases nx with
        | value v => obtain ⟨ρ', e, k⟩ := h2; exact (by rw [e]; exact ih hl.2 _ _ k : wpListIn (FX X) 0 P ops (toQX X n Q) rest ((mkX X n ρ).put o.dst v) w')
        | skip => obtain ⟨ρ', e, k⟩ := h2; exact (by rw [e]; exact ih hl.2 _ _ k : wpListIn (FX X) 0 P ops (toQX X n Q) rest ((mkX X n ρ).put o.dst undef) w')
        | defer d =>
          obtain ⟨ρ', e, k⟩ := h2
          exact (by rw [e]; exact ih hl.2 _ _ k : wpListIn (FX X) 0 P ops (toQX X n Q) rest (({ mkX X n ρ with defers := d :: (mkX X n ρ).defers } : Act).put o.dst undef) w')
        | enter f args =>
          obtain ⟨h1, h2⟩ := h2
          refine ⟨h1, CallsIn.mono h2 ?_⟩
          intro e w' he
          cases e with
          | returned v => obtain ⟨ρ', e, k⟩ := he; exact (by rw [e]; exact ih hl.2 _ _ k : wpListIn (FX X) 0 P ops (toQX X n Q) rest ((mkX X n ρ).put o.dst v) w')
          | panicked c => exact he
          | outgrown => exact he
        | row rw args =>
          obtain ⟨h1, h2⟩ := h2
          refine ⟨h1, Go.RowsIn.mono h2 ?_⟩
          rintro v w' ⟨ρ', e, k⟩
          rw [e]; exact ih hl.2 _ _ k
        | round l f tmps assign body =>
          obtain ⟨h1, h2⟩ := h2
          refine ⟨h1, RoundIn.mono h2 ?_⟩
          intro e w' he
          cases e with
          | returned v => obtain ⟨ρ', e, k⟩ := he; exact (by rw [e]; exact ih hl.2 _ _ k : wpListIn (FX X) 0 P ops (toQX X n Q) rest ((mkX X n ρ).put o.dst v) w')
          | panicked c => exact he
          | outgrown => exact he
        | _ => exact h2
    · rename_i hw
      rw [if_neg hw] at h
      rw [put_mkX]
      exact ⟨fun _ _ => trivial, ih hl.2 _ _ h⟩
def onlyN (K : Env → World → Prop) : Exit → Env → World → Prop
  | .normal, ρ, w => K ρ w
  | _, _, _ => False
theorem opsIn_defers {P : Program} {n : Nat} {ops : Array Oper} {K : Env → World → Prop} : ∀ (ls : List Nat) (a : Act) (w : World), wpOps P ops (toQ n (onlyN K)) ls a w → a.defers = []
  | [], a, w, h => by obtain ⟨ρ, rfl, _⟩ := h; rfl
  | i :: ls, a, w, h => by
    simp only [wpOps] at h
    cases ho : ops[i]? with
    | none => rw [ho] at h; exact opsIn_defers ls a w h
    | some o =>
      rw [ho] at h
      simp only at h
      split at h
      · rcases h with h | ⟨_, _, _, h⟩
        · unfold Oper.wp at h
          revert h
          generalize (execOp a.eval o).run P w = r
          intro h
          cases r with
          | halt hh w' => cases hh <;> first | (obtain ⟨_, _, h⟩ := h; exact h.elim) | exact h.elim
          | ok nx w' =>
            cases nx with
            | value v => have := opsIn_defers ls _ _ h; rwa [put_defers] at this
            | skip => have := opsIn_defers ls _ _ h; rwa [put_defers] at this
            | defer d => have := opsIn_defers ls _ _ h; rw [put_defers] at this; cases this
            | enter f args =>
              obtain ⟨e, w', fr, hR, _⟩ := h []
              cases e with
              | returned v => have := opsIn_defers ls _ _ hR; rwa [put_defers] at this
              | panicked c => obtain ⟨_, _, h⟩ := hR; exact h.elim
              | outgrown => obtain ⟨_, _, _, _, h⟩ := hR; exact h.elim
            | row rr args =>
              obtain ⟨v, w', hR, _⟩ := h default []
              have := opsIn_defers ls _ _ hR; rwa [put_defers] at this
            | _ => exact h.elim
        · obtain ⟨_, _, h⟩ := h; exact h.elim
      · have := opsIn_defers ls _ _ h; rwa [put_defers] at this
theorem opsIn_of {X : Ctx} {P : Program} {n : Nat} {ops : Array Oper} {K : Env → World → Prop} (hp : ops.toList.all noDefer = true) : ∀ (ls : List Nat) (t : Array Value) (w : World),
    wpOps P ops (toQ n (onlyN K)) ls ⟨t, []⟩ w → wpOpsIn (FX X) 0 P ops (toQX X n (onlyN K)) ls ⟨t, X.defers⟩ w
  | [], t, w, h => by
    obtain ⟨ρ, e, k⟩ := h
    refine ⟨ρ, ?_, k⟩
    unfold mkX; unfold mk at e; cases e; rfl
  | i :: ls, t, w, h => by
    simp only [wpOps] at h
    simp only [wpOpsIn]
    cases ho : ops[i]? with
    | none => rw [ho] at h; exact opsIn_of hp ls t w h
    | some o =>
      have hno : noDefer o = true := List.all_eq_true.1 hp o (List.mem_of_getElem? (i := i) (by simpa using ho))
      have go : ∀ (v : Value) (w' : World), wpOps P ops (toQ n (onlyN K)) ls ((⟨t, []⟩ : Act).put o.dst v) w' → wpOpsIn (FX X) 0 P ops (toQX X n (onlyN K)) ls ((⟨t, X.defers⟩ : Act).put o.dst v) w' := by
        intro v w' hh
        rw [put_act] at hh ⊢
        exact opsIn_of hp ls _ w' hh
      rw [ho] at h
      simp only at h ⊢
      split at h
      · rename_i hw
        rw [if_pos hw]
        refine ⟨fun _ _ => trivial, ?_⟩
        rw [semAt_plain hno, eval_tmps (a := ⟨t, X.defers⟩) (a' := ⟨t, []⟩) rfl]
        rcases h with h | ⟨_, _, _, h⟩
        · unfold Oper.wp at h
          revert h
          generalize (execOp (⟨t, []⟩ : Act).eval o).run P w = r
          intro h
          cases r with
          | halt hh w' => cases hh <;> first | (obtain ⟨_, _, h⟩ := h; exact h.elim) | exact h.elim
          | ok nx w' =>
            cases nx with
            | value v => exact go _ _ h
            | skip => exact go _ _ h
            | defer d => have := opsIn_defers ls _ _ h; rw [put_defers] at this; cases this
            | enter f args =>
              refine ⟨(fun hx => by cases hx), calls_in (Calls.mono h ?_)⟩
              intro e w' he
              cases e with
              | returned v => exact go _ _ he
              | panicked c => obtain ⟨_, _, h⟩ := he; exact h.elim
              | outgrown => obtain ⟨_, _, _, _, h⟩ := he; exact h.elim
            | row rr args => exact ⟨(fun hx => by cases hx), rows_in (Go.Rows.mono h fun v w'' hh => go _ _ hh)⟩
            | _ => exact h.elim
        · obtain ⟨_, _, h⟩ := h; exact h.elim
      · rename_i hw
        rw [if_neg hw]
        exact ⟨fun _ _ => trivial, go _ _ h⟩
section rules
variable {X : Ctx} {P : Program} {n : Nat} {Q : Exit → Env → World → Prop} {ρ : Env} {w : World}
theorem WpX.mono {c : Code} {Q' : Exit → Env → World → Prop} (h : WpX X P n c Q ρ w) (hq : ∀ e ρ w, Q e ρ w → Q' e ρ w) : WpX X P n c Q' ρ w :=
  wpIn_mono h fun e _ w ⟨ρ, ea, q⟩ => ⟨ρ, ea, hq e ρ w q⟩
theorem WpX.skip (h : Q .normal ρ w) : WpX X P n .skip Q ρ w := wpIn_skip ⟨ρ, rfl, h⟩
theorem WpX.label {l : Nat} (h : Q .normal ρ w) : WpX X P n (.label l) Q ρ w := wpIn_label ⟨ρ, rfl, h⟩
theorem WpX.exit {id : Nat} (h : Q (.exit id) ρ w) : WpX X P n (.exit id) Q ρ w := wpIn_exit ⟨ρ, rfl, h⟩
theorem WpX.ret (h : Q .ret ρ w) : WpX X P n .ret Q ρ w := wpIn_ret ⟨ρ, rfl, h⟩
theorem WpX.seq {x y : Code} (h : WpX X P n x (thenQ (WpX X P n y Q) Q) ρ w) : WpX X P n (.seq x y) Q ρ w := by
  refine wpIn_seq (wpIn_mono h ?_)
  rintro e a w ⟨ρ', rfl, hq⟩
  cases e <;> first | exact hq | exact ⟨_, rfl, hq⟩
theorem WpX.cond {c : Operand} {x y : Code} {t : Bool} (hc : ev n ρ c = .bool t) (ht : t = true → WpX X P n x Q ρ w) (hf : t = false → WpX X P n y Q ρ w) :
    WpX X P n (.cond c x y) Q ρ w := wpIn_cond_split (by rw [eval_mkX, hc]) ht hf
theorem WpX.cond_t {c : Operand} {x y : Code} (hc : ev n ρ c = .bool true) (h : WpX X P n x Q ρ w) : WpX X P n (.cond c x y) Q ρ w :=
  wpIn_cond_true (by rw [eval_mkX, hc]) h
theorem WpX.cond_f {c : Operand} {x y : Code} (hc : ev n ρ c = .bool false) (h : WpX X P n y Q ρ w) : WpX X P n (.cond c x y) Q ρ w :=
  wpIn_cond_false (by rw [eval_mkX, hc]) h
theorem WpX.block {id : Nat} {c : Code} (h : WpX X P n c (blockQ id Q) ρ w) : WpX X P n (.block id c) Q ρ w := by
  refine wpIn_block (wpIn_mono h ?_)
  rintro e a w ⟨ρ', rfl, hq⟩
  cases e with
  | exit id' =>
    simp only [Exit.inBlock, blockQ] at hq ⊢
    by_cases hid : id' = id
    · subst hid; simp at hq; simp; exact ⟨_, rfl, hq⟩
    · have : Nat.beq id' id = false := beq_ne hid
      rw [this] at hq
      rw [if_neg hid]; exact ⟨_, rfl, hq⟩
  | _ => exact ⟨_, rfl, hq⟩
theorem WpX.region {id : Nat} {l : List Oper} (hd : l.all noDefer = true) (h : Ops P n l.toArray (Q .normal) l ρ w) : WpX X P n (.region id l.toArray false) Q ρ w :=
  wpIn_region_lit (wpListX_of_Ops (fun _ _ h => h) l hd ρ w h)
theorem WpX.loop {σ : Type} {c : Code} (I : σ → Env → World → Prop) (μ : σ → Nat) (s₀ : σ) (h₀ : I s₀ ρ w)
    (round : ∀ s ρ w, I s ρ w → WpX X P n c (thenQ (fun ρ' w' => ∃ s', I s' ρ' w' ∧ μ s' < μ s) Q) ρ w) : WpX X P n (.loop c) Q ρ w := by
  refine wpIn_loop_ghost (fun k a w => ∃ s ρ, a = mkX X n ρ ∧ I s ρ w ∧ μ s = k) (μ s₀) ⟨s₀, ρ, rfl, h₀, rfl⟩ ?_
  rintro k a w ⟨s, ρ, rfl, hI, rfl⟩
  refine wpIn_mono (round s ρ w hI) ?_
  rintro e a w ⟨ρ', rfl, hq⟩
  cases e with
  | normal => obtain ⟨s', hI', hlt⟩ := hq; exact ⟨μ s', hlt, s', ρ', rfl, hI', rfl⟩
  | _ => exact ⟨_, rfl, hq⟩
theorem WpX.cut {c : Code} {N : Env → World → Prop} (R : Env → World → Prop) (h : WpX X P n c (thenQ R Q) ρ w) (k : ∀ ρ w, R ρ w → N ρ w) : WpX X P n c (thenQ N Q) ρ w := by
  refine h.mono ?_
  intro e ρ w hq
  cases e <;> first | exact k _ _ hq | exact hq
theorem WpX.draw {id : Nat} {l : List Oper} {K : Env → World → Prop} (hd : l.all noDefer = true)
    (h : ∀ t, wpOps P l.toArray (toQ n (onlyN K)) (Region.schedule (P.follows .mixedOrders) l.toArray t) (mk n ρ) { w with drawn := w.drawn + 1 }) (hk : ∀ ρ w, K ρ w → Q .normal ρ w) : WpX X P n (.region id l.toArray true) Q ρ w := by
  have h2 : WpX X P n (.region id l.toArray true) (onlyN K) ρ w := wpIn_region_draw fun t => opsIn_of (by simpa using hd) _ _ _ (h t)
  exact h2.mono fun e ρ w h => by cases e <;> first | exact hk _ _ h | exact h.elim
theorem WpX.scope0 {c : Code} (h : WpX ⟨none, []⟩ P n c (scopeQ Q) ρ w) : WpX ⟨none, []⟩ P n (.scope c) Q ρ w := wpIn_wide.2 (Wp.out (Wp.scope (P := P) (n := n) (Q := Q) (ρ := ρ) (w := w) (Wp.of (wpIn_wide.1 h))))
end rules
def IterK (P : Program) (gf : Nat) (lb : Array Value) (idx : Nat → Value) (len : Nat) (B : World → Prop) : Prop :=
  ∀ (l : Nat) (J : Nat → World → Prop) (W : World), (∀ k W, J k W → B W) →
    (∀ k W, k < len → J k W → YieldAt Fence.wide 0 P l #[idx k] W fun e W' => e = .returned (.bool true) ∧ J (k + 1) W') → J 0 W →
    CallsIn Fence.wide 0 P gf (#[.func (.yield l) #[] #[]] ++ lb) W fun e W' => (∃ v, e = .returned v) ∧ J len W'
theorem Put.obj {w : World} {l : Nat} {o : Obj} (h : l < w.heap.size) : Put w (w.putObj l o) l o :=
  ⟨rfl, rfl, rfl, World.putObj_size, World.putObj_heap_same h, fun _ hi => World.putObj_heap_other hi⟩
abbrev X0 : Ctx := ⟨none, []⟩
theorem WpX.yield {P : Program} {n : Nat} {Q : Exit → Env → World → Prop} {ρ : Env} {w : World} {l : Nat} {x : Value} {d1 d2 d3 : Tmp} {o1 o2 f2 : Operand} {ty1 ty2 ty3 : TypeId} {p1 p2 p3 : String} {a1 a2 a3 : Array Edge} {ts : Array TypeId} {id : Nat} {rest : List Oper}
    {R : Ending → World → Prop} (hr : rest.all noDefer = true) (e1 : ev n ρ o1 = .func (.yield l) #[] #[]) (e2 : ev n (upd ρ d1 (.func (.yield l) #[] #[])) o2 = x) 
    (hf : ev n (upd (upd ρ d1 (.func (.yield l) #[] #[])) d2 x) f2 = .func (.yield l) #[] #[]) (hx : ev n (upd (upd ρ d1 (.func (.yield l) #[] #[])) d2 x) (.tmp d2) = x)
    (hy : YieldAt Fence.wide 0 P l #[x] w R)
    (hk : ∀ e w', R e w' → ∃ v, e = .returned v ∧ Ops P n (⟨some d1, .move o1, ty1, p1, a1, none⟩ :: ⟨some d2, .move o2, ty2, p2, a2, none⟩ :: ⟨some d3, .call ⟨.value f2, #[.tmp d2], ts⟩, ty3, p3, a3, none⟩ :: rest).toArray (Q .normal) rest (upd (upd (upd ρ d1 (.func (.yield l) #[] #[])) d2 x) d3 v) w') :
    WpX X0 P n (.region id (⟨some d1, .move o1, ty1, p1, a1, none⟩ :: ⟨some d2, .move o2, ty2, p2, a2, none⟩ :: ⟨some d3, .call ⟨.value f2, #[.tmp d2], ts⟩, ty3, p3, a3, none⟩ :: rest).toArray false) Q ρ w := by
  refine wpIn_region_lit ?_
  generalize hops : (⟨some d1, .move o1, ty1, p1, a1, none⟩ :: ⟨some d2, .move o2, ty2, p2, a2, none⟩ :: ⟨some d3, .call ⟨.value f2, #[.tmp d2], ts⟩, ty3, p3, a3, none⟩ :: rest : List Oper).toArray = ops at hk ⊢
  unfold wpListIn
  rw [if_pos (show Region.wanted ⟨some d1, .move o1, ty1, p1, a1, none⟩ _ = true from rfl)]
  refine ⟨fun _ _ => trivial, ?_⟩
  rw [eval_mkX, show Oper.semAt (FX X0).round (ev n ρ) ⟨some d1, .move o1, ty1, p1, a1, none⟩ = execOp (ev n ρ) ⟨some d1, .move o1, ty1, p1, a1, none⟩ from rfl,
    show (execOp (ev n ρ) ⟨some d1, .move o1, ty1, p1, a1, none⟩).run P w = .ok (.value (.func (.yield l) #[] #[])) w from by simp [execOp, e1]]
  show wpListIn _ _ _ _ _ _ ((mkX X0 n ρ).put (some d1) _) w
  rw [put_mkX]
  unfold wpListIn
  rw [if_pos (show Region.wanted ⟨some d2, .move o2, ty2, p2, a2, none⟩ _ = true from rfl)]
  refine ⟨fun _ _ => trivial, ?_⟩
  rw [eval_mkX]
  rw [show (Oper.semAt (FX X0).round (ev n (updO ρ (some d1) (.func (.yield l) #[] #[]))) ⟨some d2, .move o2, ty2, p2, a2, none⟩).run P w = .ok (.value x) w from by
    rw [semAt_plain rfl]
    simp only [updO]
    simp [execOp, e2]]
  show wpListIn _ _ _ _ _ _ ((mkX X0 n _).put (some d2) _) w
  rw [put_mkX]
  unfold wpListIn
  rw [if_pos (show Region.wanted ⟨some d3, .call ⟨.value f2, #[.tmp d2], ts⟩, ty3, p3, a3, none⟩ _ = true from rfl)]
  refine ⟨fun _ _ => trivial, ?_⟩
  obtain ⟨fn, tmps, assign, body, hyr, hround⟩ := hy
  rw [eval_mkX]
  rw [show (Oper.semAt (FX X0).round (ev n (updO (updO ρ (some d1) (.func (.yield l) #[] #[])) (some d2) x)) ⟨some d3, .call ⟨.value f2, #[.tmp d2], ts⟩, ty3, p3, a3, none⟩).run P w = .ok (.round l fn tmps assign body) w from by
    rw [semAt_plain rfl]
    simp only [updO]
    simp [execOp, resolve, hf, hx, invoke, hyr, go_sem]]
  refine ⟨(fun h => by cases h), RoundIn.mono (F := FX X0) hround ?_⟩
  intro e w' he
  obtain ⟨v, rfl, hkk⟩ := hk e w' he
  show wpListIn _ _ _ _ _ _ ((mkX X0 n _).put (some d3) v) w'
  rw [put_mkX]
  exact wpListX_of_Ops (fun _ _ h => h) rest hr _ _ hkk
end Go.Ear
set_option linter.unusedVariables false
namespace Go.E3
open Go Go.Ear
structure KR where
  R : PH → Value → Prop
  one : ∀ {h v}, R h v → v.oneCell' = true
  mono : ∀ {h h' v}, h.le h' → R h v → R h' v
inductive SV where
  | cv (v : Value)
  | kv (r : KR)
  | ag (l : List SV)
  | tp (l : List SV)
  | pk (l : List SV) (o : Nat)
  | cn (c : Bool) (s : SV)
mutual
def den (h : PH) : SV → Value → Prop
  | .cv v, x => x = v
  | .kv r, x => r.R h x
  | .ag l, x => ∃ vs, x = .agg vs.toArray ∧ denL h l vs
  | .tp l, x => ∃ vs, x = .tuple vs.toArray ∧ denL h l vs
  | .pk l o, x => ∃ b off arr t fz, h b = some (.cells arr t fz) ∧ x = .pointer (some ⟨b, off + o, none⟩) ∧ off + l.length ≤ arr.size ∧ denL h l (cut arr off l.length)
  | .cn c s, x => (c = true → den h s x) ∧ (c = false → x = undef)
def denL (h : PH) : List SV → List Value → Prop
  | [], [] => True
  | s :: l, v :: vs => den h s v ∧ denL h l vs
  | _, _ => False
end
mutual
theorem den.mono {h h' : PH} (e : h.le h') : ∀ {s : SV} {x : Value}, den h s x → den h' s x
  | .cv v, x, u => u
  | .kv r, x, u => r.mono e u
  | .ag l, x, ⟨vs, a, b⟩ => ⟨vs, a, denL.mono e b⟩
  | .tp l, x, ⟨vs, a, b⟩ => ⟨vs, a, denL.mono e b⟩
  | .pk l o, x, ⟨b, off, arr, t, fz, a1, a2, a3, a4⟩ => ⟨b, off, arr, t, fz, e _ _ a1, a2, a3, denL.mono e a4⟩
  | .cn c s, x, ⟨a, b⟩ => ⟨fun q => den.mono e (a q), b⟩
theorem denL.mono {h h' : PH} (e : h.le h') : ∀ {l : List SV} {vs : List Value}, denL h l vs → denL h' l vs
  | [], [], _ => trivial
  | _ :: _, _ :: _, u => ⟨den.mono e u.1, denL.mono e u.2⟩
end
theorem denL.length {h : PH} : ∀ {l : List SV} {vs : List Value}, denL h l vs → vs.length = l.length
  | [], [], _ => rfl
  | _ :: _, _ :: _, u => by simp [denL.length u.2]
theorem denL.at {h : PH} : ∀ {l : List SV} {vs : List Value}, denL h l vs → ∀ {i : Nat} {s : SV}, l[i]? = some s → ∃ v, vs[i]? = some v ∧ den h s v
  | [], [], _, i, s, e => by simp at e
  | _ :: _, v :: _, u, 0, s, e => by simp at e; subst e; exact ⟨v, rfl, u.1⟩
  | _ :: _, _ :: _, u, i + 1, s, e => by simpa using denL.at u.2 (by simpa using e)
theorem denL.take {h : PH} : ∀ {l : List SV} {vs : List Value}, denL h l vs → ∀ m, denL h (l.take m) (vs.take m)
  | [], [], _, m => by simp [denL]
  | _ :: _, _ :: _, u, 0 => trivial
  | _ :: _, _ :: _, u, m + 1 => ⟨u.1, denL.take u.2 m⟩
theorem denL.drop {h : PH} : ∀ {l : List SV} {vs : List Value}, denL h l vs → ∀ m, denL h (l.drop m) (vs.drop m)
  | [], [], _, m => by simp [denL]
  | _ :: _, _ :: _, u, 0 => u
  | _ :: _, _ :: _, u, m + 1 => denL.drop u.2 m
theorem denL.app {h : PH} : ∀ {l : List SV} {vs : List Value} {l2 : List SV} {vs2 : List Value}, denL h l vs → denL h l2 vs2 → denL h (l ++ l2) (vs ++ vs2)
  | [], [], _, _, _, v => v
  | _ :: _, _ :: _, _, _, u, v => ⟨u.1, denL.app u.2 v⟩
theorem denL.set {h : PH} : ∀ {l : List SV} {vs : List Value}, denL h l vs → ∀ {i : Nat} {s : SV} {v : Value}, den h s v → denL h (l.set i s) (vs.set i v)
  | [], [], _, _, _, _, _ => trivial
  | _ :: _, _ :: _, u, 0, _, _, d => ⟨d, u.2⟩
  | _ :: _, _ :: _, u, i + 1, _, _, d => ⟨u.1, denL.set u.2 d⟩
def SV.one : SV → Bool
  | .cv v => v.oneCell'
  | .kv _ => true
  | .pk .. => true
  | _ => false
theorem den.one {h : PH} {s : SV} {x : Value} (u : den h s x) (o : s.one = true) : x.oneCell' = true := by
  cases s with
  | cv v => cases u; exact o
  | kv r => exact r.one u
  | pk l o => obtain ⟨b, off, arr, t, fz, _, rfl, _⟩ := u; rfl
  | _ => cases o
theorem denL.one {h : PH} : ∀ {l : List SV} {vs : List Value}, denL h l vs → l.all SV.one = true → ∀ c ∈ vs, c.oneCell' = true
  | [], [], _, _, c, hc => by cases hc
  | s :: l, v :: vs, u, o, c, hc => by
    simp only [List.all_cons, Bool.and_eq_true] at o
    rcases List.mem_cons.1 hc with rfl | hc
    · exact den.one u.1 o.1
    · exact denL.one u.2 o.2 c hc
abbrev EL := List (Nat × SV)
def EnvOk (h : PH) (ρ : Env) : EL → Prop
  | [] => True
  | (s, S) :: l => den h S (ρ s) ∧ EnvOk h ρ l
theorem EnvOk.mono {h h' : PH} {ρ : Env} (e : h.le h') : ∀ {l : EL}, EnvOk h ρ l → EnvOk h' ρ l
  | [], _ => trivial
  | _ :: _, u => ⟨u.1.mono e, EnvOk.mono e u.2⟩
theorem EnvOk.ext {h : PH} {ρ ρ' : Env} : ∀ {l : EL}, (∀ p ∈ l, ρ p.1 = ρ' p.1) → EnvOk h ρ l → EnvOk h ρ' l
  | [], _, _ => trivial
  | p :: _, e, u => ⟨by rw [← e p (List.mem_cons_self ..)]; exact u.1, EnvOk.ext (fun q hq => e q (List.mem_cons_of_mem _ hq)) u.2⟩
def nIn (d : Nat) : EL → Bool
  | [] => true
  | (s, _) :: l => !Nat.beq s d && nIn d l
theorem EnvOk.upd {h : PH} {ρ : Env} {d : Nat} {v : Value} : ∀ {l : EL}, nIn d l = true → EnvOk h ρ l → EnvOk h (upd ρ d v) l
  | [], _, _ => trivial
  | (s, S) :: l, n, u => by
    unfold nIn at n
    rw [Bool.and_eq_true, Bool.not_eq_true'] at n
    refine ⟨?_, EnvOk.upd n.2 u.2⟩
    rw [upd_ne _ _ (fun e => by subst e; rw [beq_self] at n; exact Bool.noConfusion n.1)]
    exact u.1
structure Res where
  bor : Bool := false
  fp : Nat → Prop
  pr : PH → World → Prop
  st : ∀ {h w h' w'}, h.le h' → (∀ i, fp i → w'.heap[i]? = w.heap[i]?) → (∀ i, fp i → h' i = none) → pr h w → pr h' w'
  fz : PH → Prop
  fzm : ∀ {h h'}, h.le h' → fz h → fz h'
  frz : ∀ {h0 : PH} {w0 : World} {h : PH} {w : World}, Gr h0 w0 h w → pr h w → (∀ i, fp i → h i = none ∧ (bor = false → w0.heap.size ≤ i)) → ∃ h', Gr h0 w0 h' w ∧ h.le h' ∧ (∀ i, h i = none → ¬ fp i → h' i = none) ∧ fz h'
def OwnB (w0 : World) : List Res → PH → World → Prop
  | [], _, _ => True
  | r :: B, h, w => r.pr h w ∧ (∀ i, r.fp i → h i = none ∧ (r.bor = false → w0.heap.size ≤ i) ∧ i < w.heap.size) ∧ (∀ r' ∈ B, ∀ i, r.fp i → ¬ r'.fp i) ∧ OwnB w0 B h w
section
variable {w0 : World} {h h' : PH} {w w' : World} {B : List Res} {r r' : Res} {j : Nat}
theorem OwnB.foot : ∀ {B : List Res}, OwnB w0 B h w → ∀ r ∈ B, ∀ i, r.fp i → h i = none ∧ (r.bor = false → w0.heap.size ≤ i) ∧ i < w.heap.size
  | _ :: _, o, r, hr, i, hi => by
    rcases List.mem_cons.1 hr with rfl | hr
    · exact o.2.1 i hi
    · exact OwnB.foot o.2.2.2 r hr i hi
theorem OwnB.keep (l : h.le h') (hs : w.heap.size ≤ w'.heap.size) : ∀ {B : List Res}, OwnB w0 B h w → (∀ r ∈ B, ∀ i, r.fp i → w'.heap[i]? = w.heap[i]? ∧ h' i = none) → OwnB w0 B h' w'
  | [], _, _ => trivial
  | r :: _, o, hk => ⟨r.st l (fun i hi => (hk r (List.mem_cons_self ..) i hi).1) (fun i hi => (hk r (List.mem_cons_self ..) i hi).2) o.1, fun i hi => ⟨(hk r (List.mem_cons_self ..) i hi).2, (o.2.1 i hi).2.1, Nat.lt_of_lt_of_le (o.2.1 i hi).2.2 hs⟩, o.2.2.1,
      OwnB.keep l hs o.2.2.2 fun r' hr' => hk r' (List.mem_cons_of_mem _ hr')⟩
theorem OwnB.grow (o : OwnB w0 B h w) (g : Gr h w h' w') : OwnB w0 B h' w' :=
  o.keep g.le g.ext.size fun r hr i hi => by
    have := o.foot r hr i hi
    exact ⟨g.ext.block i this.2.2, g.noneAt this.2.2 this.1⟩
theorem OwnB.at : ∀ {B : List Res}, OwnB w0 B h w → ∀ (j : Nat) {r : Res}, B[j]? = some r → r.pr h w ∧ ∀ i, r.fp i → h i = none ∧ (r.bor = false → w0.heap.size ≤ i) ∧ i < w.heap.size
  | [], _, j, _, e => by simp at e
  | _ :: _, o, 0, _, e => by simp at e; exact e ▸ ⟨o.1, o.2.1⟩
  | _ :: _, o, j + 1, _, e => OwnB.at o.2.2.2 j (by simpa using e)
theorem OwnB.apart : ∀ {B : List Res}, OwnB w0 B h w → ∀ (j : Nat) {r : Res}, B[j]? = some r → ∀ r' ∈ B.eraseIdx j, ∀ i, r.fp i → ¬ r'.fp i
  | [], _, j, _, e => by simp at e
  | _ :: _, o, 0, _, e => by simp at e; subst e; exact fun r' hr' => o.2.2.1 r' (by simpa using hr')
  | x :: B, o, j + 1, r, e => by
    intro r' hr' i hi
    have e' : B[j]? = some r := by simpa using e
    rw [List.eraseIdx_cons_succ] at hr'
    rcases List.mem_cons.1 hr' with rfl | hr'
    · exact fun q => o.2.2.1 r (List.mem_of_getElem? e') i q hi
    · exact OwnB.apart o.2.2.2 j e' r' hr' i hi
theorem OwnB.erase : ∀ {B : List Res}, OwnB w0 B h w → ∀ (j : Nat), OwnB w0 (B.eraseIdx j) h w
  | [], o, _ => by simpa using o
  | _ :: _, o, 0 => by simpa using o.2.2.2
  | x :: B, o, j + 1 => by
    rw [List.eraseIdx_cons_succ]
    exact ⟨o.1, o.2.1, fun r' hr' => o.2.2.1 r' (List.mem_of_mem_eraseIdx hr'), o.2.2.2.erase j⟩
theorem OwnB.set (nb : r.bor = false) (l : h.le h') (hs : w.heap.size ≤ w'.heap.size) (hn : ∀ r ∈ B.eraseIdx j, ∀ i, r.fp i → w'.heap[i]? = w.heap[i]? ∧ h' i = none) {r' : Res} (hp : r'.pr h' w') (hf : ∀ i, r'.fp i → r.fp i ∧ h' i = none ∨ (w.heap.size ≤ i ∧ i < w'.heap.size ∧ h' i = none))
    (o : OwnB w0 B h w) (hw : w0.heap.size ≤ w.heap.size) (e : B[j]? = some r) : OwnB w0 (B.set j r') h' w' := by
  induction B generalizing j with
  | nil => simp at e
  | cons x B ih =>
    cases j with
    | zero =>
      simp at e; subst e
      simp only [List.eraseIdx_cons_zero] at hn
      refine ⟨hp, fun i hi => ?_, fun r2 hr2 i hi q => ?_, OwnB.keep l hs o.2.2.2 hn⟩
      · rcases hf i hi with ⟨a, b⟩ | ⟨a, b, c⟩
        · exact ⟨b, fun _ => (o.2.1 i a).2.1 nb, Nat.lt_of_lt_of_le (o.2.1 i a).2.2 hs⟩
        · exact ⟨c, fun _ => by omega, b⟩
      · rcases hf i hi with ⟨a, _⟩ | ⟨a, _, _⟩
        · exact o.2.2.1 r2 hr2 i a q
        · have := (o.2.2.2.foot r2 hr2 i q).2.2; omega
    | succ j =>
      have e' : B[j]? = some r := by simpa using e
      rw [List.eraseIdx_cons_succ] at hn
      have hx := hn x (List.mem_cons_self ..)
      refine ⟨x.st l (fun i hi => (hx i hi).1) (fun i hi => (hx i hi).2) o.1, fun i hi => ⟨(hx i hi).2, (o.2.1 i hi).2.1, Nat.lt_of_lt_of_le (o.2.1 i hi).2.2 hs⟩, fun r2 hr2 i hi q => ?_, ih (fun r hr => hn r (List.mem_cons_of_mem _ hr)) o.2.2.2 e'⟩
      rcases List.mem_or_eq_of_mem_set hr2 with hr2 | rfl
      · exact o.2.2.1 r2 hr2 i hi q
      · rcases hf i q with ⟨a, _⟩ | ⟨a, _, _⟩
        · exact o.2.2.1 r (List.mem_of_getElem? e') i hi a
        · have := (o.2.1 i hi).2.2; omega
theorem OwnB.perm {A B : List Res} (p : A.Perm B) : OwnB w0 A h w → OwnB w0 B h w := by
  induction p with
  | nil => exact fun x => x
  | cons x p ih => exact fun o => ⟨o.1, o.2.1, fun r' hr' => o.2.2.1 r' (p.mem_iff.2 hr'), ih o.2.2.2⟩
  | swap x y l => exact fun o => ⟨o.2.2.2.1, o.2.2.2.2.1, fun r' hr' i hi q => by
      rcases List.mem_cons.1 hr' with rfl | hr'
      · exact o.2.2.1 x (List.mem_cons_self ..) i q hi
      · exact o.2.2.2.2.2.1 r' hr' i hi q, o.1, o.2.1, fun r' hr' => o.2.2.1 r' (List.mem_cons_of_mem _ hr'), o.2.2.2.2.2.2⟩
  | trans _ _ a b => exact fun o => b (a o)
theorem OwnB.left : ∀ {A B : List Res}, OwnB w0 (A ++ B) h w → OwnB w0 A h w
  | [], _, _ => trivial
  | _ :: _, _, o => ⟨o.1, o.2.1, fun r' hr' => o.2.2.1 r' (List.mem_append_left _ hr'), OwnB.left o.2.2.2⟩
theorem OwnB.freeze {h0 : PH} (g : Gr h0 w0 h w) (o : OwnB w0 B h w) (e : B[j]? = some r) : ∃ h', Gr h0 w0 h' w ∧ h.le h' ∧ r.fz h' ∧ OwnB w0 (B.eraseIdx j) h' w := by
  have a := o.at j e
  obtain ⟨h', g', le, fr, z⟩ := r.frz g a.1 fun i hi => ⟨(a.2 i hi).1, (a.2 i hi).2.1⟩
  refine ⟨h', g', le, z, (o.erase j).keep le (Nat.le_refl _) fun r' hr' i hi => ⟨rfl, fr i ?_ fun q => o.apart j e r' hr' i q hi⟩⟩
  exact (o.foot r' (List.mem_of_mem_eraseIdx hr') i hi).1
theorem OwnB.all {h0 : PH} : ∀ {B : List Res} {h : PH}, Gr h0 w0 h w → OwnB w0 B h w → ∃ h', Gr h0 w0 h' w ∧ h.le h' ∧ ∀ r ∈ B, r.fz h'
  | [], h, g, _ => ⟨h, g, fun _ _ x => x, fun _ hr => by cases hr⟩
  | r :: B, h, g, o => by
    obtain ⟨h1, g1, l1, z1, o1⟩ := OwnB.freeze (j := 0) (r := r) g o rfl
    obtain ⟨h2, g2, l2, z2⟩ := OwnB.all g1 o1
    exact ⟨h2, g2, l1.trans l2, fun r' hr' => by
      rcases List.mem_cons.1 hr' with rfl | hr'
      · exact r'.fzm l2 z1
      · exact z2 r' hr'⟩
end
def bo (r : Res) : Res where
  bor := true
  fp := r.fp
  pr := r.pr
  st := r.st
  fz := fun _ => True
  fzm := fun _ _ => trivial
  frz := fun {h0 w0 h w} g _ _ => ⟨h, g, PH.le.refl h, fun _ x _ => x, trivial⟩
def noW (w : World) : World := { w with heap := #[] }
theorem OwnB.bo (w1 : World) {w0 : World} {h : PH} {w : World} : ∀ {B : List Res}, OwnB w0 B h w → OwnB w1 (B.map bo) h w
  | [], _ => trivial
  | _ :: _, o => ⟨o.1, fun i hi => ⟨(o.2.1 i hi).1, fun e => (by cases e), (o.2.1 i hi).2.2⟩, fun r' hr' i hi q => by
      obtain ⟨r, hr, rfl⟩ := List.mem_map.1 hr'
      exact o.2.2.1 r hr i hi q, OwnB.bo w1 o.2.2.2⟩
theorem OwnB.unbo {w0 : World} {h : PH} {w : World} : ∀ {B : List Res}, OwnB w0 (B.map E3.bo) h w → OwnB (noW w) B h w
  | [], _ => trivial
  | _ :: _, o => ⟨o.1, fun i hi => ⟨(o.2.1 i hi).1, fun _ => Nat.zero_le _, (o.2.1 i hi).2.2⟩, fun r' hr' i hi q => o.2.2.1 (E3.bo r') (List.mem_map.2 ⟨r', hr', rfl⟩) i hi q, OwnB.unbo o.2.2.2⟩
def Fx (loc env : EL) (h : PH) (ρ : Env) (x : Operand) : Prop := ∀ t S, x = .tmp t → ((t, S) ∈ loc ∨ (t, S) ∈ env) → den h S (ρ t)
theorem EnvOk.mem {h : PH} {ρ : Env} : ∀ {l : EL}, EnvOk h ρ l → ∀ {t : Nat} {S : SV}, (t, S) ∈ l → den h S (ρ t)
  | _ :: _, u, t, S, m => by
    rcases List.mem_cons.1 m with e | m
    · cases e; exact u.1
    · exact EnvOk.mem u.2 m
structure Sx (h0 : PH) (w0 : World) (loc env : EL) (B : List Res) (os : List Operand) (ρ : Env) (h : PH) (w : World) : Prop where
  gr : Gr h0 w0 h w
  fx : ∀ x ∈ os, Fx loc env h ρ x
  ow : OwnB w0 B h w
structure Sy (h0 : PH) (w0 : World) (loc env : EL) (B : List Res) (ρ : Env) (h : PH) (w : World) : Prop where
  gr : Gr h0 w0 h w
  lo : EnvOk h ρ loc
  en : EnvOk h ρ env
  ow : OwnB w0 B h w
theorem Sy.grow {h0 : PH} {w0 : World} {loc env : EL} {B : List Res} {ρ : Env} {h h' : PH} {w w' : World} (s : Sy h0 w0 loc env B ρ h w) (g : Gr h w h' w') : Sy h0 w0 loc env B ρ h' w' := ⟨s.gr.trans g, s.lo.mono g.le, s.en.mono g.le, s.ow.grow g⟩
theorem Sy.x {h0 : PH} {w0 : World} {loc env : EL} {B : List Res} {ρ : Env} {h : PH} {w : World} (s : Sy h0 w0 loc env B ρ h w) (os : List Operand) : Sx h0 w0 loc env B os ρ h w :=
  ⟨s.gr, fun x _ t S _ m => m.elim s.lo.mem s.en.mem, s.ow⟩
theorem Sx.f {h0 : PH} {w0 : World} {loc env : EL} {B : List Res} {op : Op} {ρ : Env} {h : PH} {w : World} (s : Sx h0 w0 loc env B op.operands.toList ρ h w) (x : Operand) (hx : x ∈ op.operands.toList := by simp [Op.operands, Call.operands]) : Fx loc env h ρ x := s.fx x hx
theorem freeze_ex {h0 h : PH} {w0 w : World} (a : Gr h0 w0 h w) {b : Nat} {o : Obj} (hb : w.heap[b]? = some o) (hn : h b = none) (h0b : w0.heap.size ≤ b) : ∃ h', Gr h0 w0 h' w ∧ h.le h' ∧ h' b = some o ∧ ∀ i, i ≠ b → h i = none → h' i = none :=
  ⟨h.put b o, a.freeze hb hn h0b, PH.le_put o hn, PH.put_at .., fun i hi e => by rw [PH.put_ne o hi]; exact e⟩
def rV (v : Value) (l : List SV) (t : TypeId) : Res where
  fp := fun i => v = .pointer (some ⟨i, 0, none⟩)
  pr := fun h w => ∃ b arr, v = .pointer (some ⟨b, 0, none⟩) ∧ w.heap[b]? = some (.cells arr t (0, 0)) ∧ denL h l arr.toList
  st := fun le hw _ ⟨b, arr, e, a, d⟩ => ⟨b, arr, e, (hw b e).trans a, d.mono le⟩
  fz := fun h => den h (.pk l 0) v
  fzm := fun le u => u.mono le
  frz := fun {h0 w0 h w} g ⟨b, arr, e, a, d⟩ hf => by
    obtain ⟨h', g', le, hb, fr⟩ := freeze_ex g a (hf b e).1 ((hf b e).2 rfl)
    refine ⟨h', g', le, fun i hi hn => fr i (fun q => hn (q ▸ e)) hi, b, 0, arr, t, (0, 0), hb, by simp [e], ?_, ?_⟩
    · have := d.length; simp at this; omega
    · have hl := d.length
      have : cut arr 0 l.length = arr.toList := by unfold cut; rw [← hl, List.drop_zero]; exact List.take_of_length_le (Nat.le_refl _)
      rw [this]; exact d.mono le
def lv {α : Type} (r : Rp α) (l : List α) : SV := .kv ⟨fun h v => LR r h v l, fun {h v} u => by obtain ⟨b, c, rfl, _⟩ := u.shape; rfl, fun e u => u.mono e⟩
def rA {α : Type} (r : Rp α) (e : TypeId) (v : Value) (l : List α) : Res where
  fp := fun i => Value.blk v = some i
  pr := fun h w => OwnL r 0 h w e v l
  st := fun le hw hn u => by
    obtain ⟨css, a, b⟩ := u
    exact ⟨css, a.keep fun i hi hlt => ⟨hw i hi, fun _ => hn i hi⟩, b.mono le⟩
  fz := fun h => LR r h v l
  fzm := fun le u => u.mono le
  frz := fun {h0 w0 h w} g u hf => by
    obtain ⟨css, a, b⟩ := u
    have a2 : Go.Ear.Own w0.heap.size h w e r.k v l.length css.flatten := by
      refine ⟨a.1, ?_⟩
      rcases a.2 with hn | ⟨bb, cap, arr, rfl, h1, h2⟩
      · exact .inl hn
      · exact .inr ⟨bb, cap, arr, rfl, (hf bb rfl).2 rfl, h2⟩
    obtain ⟨h', g', le, fr, z⟩ := OwnL.freeze g (Nat.le_refl _) ⟨css, a2, b⟩
    exact ⟨h', g', le, fr, z⟩
def rK (v : Value) (l : List SV) : Res where
  fp := fun _ => False
  pr := fun h _ => den h (.pk l 0) v
  st := fun le _ _ a => a.mono le
  fz := fun _ => True
  fzm := fun _ _ => trivial
  frz := fun {h0 w0 h w} g _ _ => ⟨h, g, PH.le.refl h, fun _ x _ => x, trivial⟩
def rO (b : Nat) (o : Obj) : Res where
  fp := fun i => i = b
  pr := fun _ w => w.heap[b]? = some o
  st := fun _ hw _ a => (hw b rfl).trans a
  fz := fun _ => True
  fzm := fun _ _ => trivial
  frz := fun {h0 w0 h w} g _ _ => ⟨h, g, PH.le.refl h, fun _ x _ => x, trivial⟩
theorem getD_off {α : Type _} {l : List α} {i : Nat} {d : α} (h : l.length ≤ i) : l.getD i d = d := by rw [List.getD_eq_getElem?_getD, List.getElem?_eq_none h]; rfl
def vnil : Value := .slice none 0 0
def rZ {α : Type} (r : Rp α) (e : TypeId) (vs : List Value) (ls : List (List α)) : Res where
  fp := fun i => ∃ t, Value.blk (vs.getD t vnil) = some i
  pr := fun h w => vs.length = ls.length ∧ (∀ t, OwnL r 0 h w e (vs.getD t vnil) (ls.getD t [])) ∧ ∀ t u b, Value.blk (vs.getD t vnil) = some b → Value.blk (vs.getD u vnil) = some b → t = u
  st := fun le hw hn ⟨a, b, c⟩ => ⟨a, fun t => by
    obtain ⟨css, x, y⟩ := b t
    exact ⟨css, x.keep fun i hi hlt => ⟨hw i ⟨t, hi⟩, fun _ => hn i ⟨t, hi⟩⟩, y.mono le⟩, c⟩
  fz := fun h => vs.length = ls.length ∧ ∀ t, LR r h (vs.getD t vnil) (ls.getD t [])
  fzm := fun le u => ⟨u.1, fun t => (u.2 t).mono le⟩
  frz := fun {h0 w0 h w} g ⟨a, b, c⟩ hf => by
    have key : ∀ k : Nat, ∃ h', Gr h0 w0 h' w ∧ h.le h' ∧ (∀ i, h i = none → (¬ ∃ t, t < k ∧ Value.blk (vs.getD t vnil) = some i) → h' i = none) ∧ ∀ t, t < k → LR r h' (vs.getD t vnil) (ls.getD t []) := by
      intro k
      induction k with
      | zero => exact ⟨h, g, PH.le.refl h, fun _ x _ => x, fun t ht => by omega⟩
      | succ k ih =>
        obtain ⟨h1, g1, l1, f1, z1⟩ := ih
        obtain ⟨css, x, y⟩ := b k
        have x2 : Go.Ear.Own w0.heap.size h1 w e r.k (vs.getD k vnil) (ls.getD k []).length css.flatten := by
          have x' := x.keep (h' := h1) (w' := w) fun i hi hlt => ⟨rfl, fun hn => f1 i hn (by rintro ⟨t, ht, e⟩; have := c t k i e hi; omega)⟩
          refine ⟨x'.1, ?_⟩
          rcases x'.2 with hn | ⟨bb, cap, arr, h1, h2, h3⟩
          · exact .inl hn
          · exact .inr ⟨bb, cap, arr, h1, (hf bb ⟨k, by rw [h1]; rfl⟩).2 rfl, h3⟩
        obtain ⟨h2, g2, l2, f2, z2⟩ := OwnL.freeze g1 (Nat.le_refl _) ⟨css, x2, y.mono l1⟩
        refine ⟨h2, g2, l1.trans l2, fun i hi hn => f2 i (f1 i hi fun ⟨t, ht, e⟩ => hn ⟨t, by omega, e⟩) fun e => hn ⟨k, by omega, e⟩, fun t ht => ?_⟩
        by_cases htk : t = k
        · subst htk; exact z2
        · exact (z1 t (by omega)).mono l2
    obtain ⟨h', g', l', f', z'⟩ := key vs.length
    refine ⟨h', g', l', fun i hi hn => f' i hi fun ⟨t, _, e⟩ => hn ⟨t, e⟩, a, fun t => ?_⟩
    by_cases ht : t < vs.length
    · exact z' t ht
    · rw [getD_off (by omega), getD_off (by omega)]
      exact LR.nil r h' none 0
def ov (v : Value) : SV := .kv ⟨fun _ x => x = v ∧ v.oneCell' = true, fun u => u.1 ▸ u.2, fun _ u => u⟩
def fo (v : Value) (o : Nat) : SV := .kv ⟨fun _ x => ∃ b off, v = .pointer (some ⟨b, off, none⟩) ∧ x = .pointer (some ⟨b, off + o, none⟩), fun ⟨b, _, _, e⟩ => e ▸ rfl, fun _ u => u⟩
def pa (v : Value) (k j o : Nat) : SV := .kv ⟨fun _ x => ∃ b l c, v = .slice (some ⟨b, 0, none⟩) l c ∧ x = .pointer (some ⟨b, j * k + o, none⟩), fun ⟨b, _, _, _, e⟩ => e ▸ rfl, fun _ u => u⟩
class RpC {α : Type} (r : Rp α) (c : outParam (α → List SV)) : Prop where h : ∀ {h cs x}, r.R h cs x ↔ denL h (c x) cs
theorem RpC.len {α : Type} {r : Rp α} {c : α → List SV} [i : RpC r c] {h : PH} {cs : List Value} {x : α} (u : r.R h cs x) : (c x).length = r.k := by
  rw [← r.len u]; exact (i.h.1 u).length.symm
end Go.E3
namespace Go.Ear
variable {P : Program}
theorem in_i64 {a : Int} (h : -9223372036854775808 ≤ a ∧ a ≤ 9223372036854775807) : IntKind.i64.wrap a = a := IntWalk.i64_in _ h
theorem in_u64 {a : Int} (h : 0 ≤ a ∧ a ≤ 18446744073709551615) : IntKind.u64.wrap a = a := IntWalk.u64_in _ h
theorem in_u32 {a : Int} (h : 0 ≤ a ∧ a ≤ 4294967295) : IntKind.u32.wrap a = a := IntWalk.u32_in _ h
theorem in_u8 {a : Int} (h : 0 ≤ a ∧ a ≤ 255) : IntKind.u8.wrap a = a := IntWalk.u8_in _ h
theorem in_i32 {a : Int} (h : -2147483648 ≤ a ∧ a ≤ 2147483647) : IntKind.i32.wrap a = a := IntWalk.i32_in _ h
theorem add_i64 {a b : Nat} (h : a + b ≤ 9223372036854775807) : IntKind.i64.wrap ((a : Int) + (b : Int)) = ((a + b : Nat) : Int) := (in_i64 (by omega)).trans (by omega)
theorem add_u64 {a b : Nat} (h : a + b ≤ 18446744073709551615) : IntKind.u64.wrap ((a : Int) + (b : Int)) = ((a + b : Nat) : Int) := (in_u64 (by omega)).trans (by omega)
theorem add_u32 {a b : Nat} (h : a + b ≤ 4294967295) : IntKind.u32.wrap ((a : Int) + (b : Int)) = ((a + b : Nat) : Int) := (in_u32 (by omega)).trans (by omega)
theorem sub_i64 {a b : Nat} (h : b ≤ a) (h2 : a ≤ 9223372036854775807) : IntKind.i64.wrap ((a : Int) - (b : Int)) = ((a - b : Nat) : Int) := (in_i64 (by omega)).trans (by omega)
theorem sub_u64 {a b : Nat} (h : b ≤ a) (h2 : a ≤ 18446744073709551615) : IntKind.u64.wrap ((a : Int) - (b : Int)) = ((a - b : Nat) : Int) := (in_u64 (by omega)).trans (by omega)
theorem sub_u32 {a b : Nat} (h : b ≤ a) (h2 : a ≤ 4294967295) : IntKind.u32.wrap ((a : Int) - (b : Int)) = ((a - b : Nat) : Int) := (in_u32 (by omega)).trans (by omega)
theorem mul_i64 {a b : Nat} (h : a * b ≤ 9223372036854775807) : IntKind.i64.wrap ((a : Int) * (b : Int)) = ((a * b : Nat) : Int) := by
  rw [← Int.natCast_mul]; exact in_i64 (by omega)
theorem mul_u64 {a b : Nat} (h : a * b ≤ 18446744073709551615) : IntKind.u64.wrap ((a : Int) * (b : Int)) = ((a * b : Nat) : Int) := by
  rw [← Int.natCast_mul]; exact in_u64 (by omega)
theorem quo_u64 {a b : Nat} (h : a ≤ 18446744073709551615) : IntKind.u64.wrap ((a : Int).tdiv (b : Int)) = ((a / b : Nat) : Int) := by
  have : (a : Int).tdiv (b : Int) = ((a / b : Nat) : Int) := rfl
  rw [this]
  have h2 := Nat.div_le_self a b
  generalize a / b = q at *
  exact in_u64 (by omega)
theorem quo_i64 {a b : Nat} (h : a ≤ 9223372036854775807) : IntKind.i64.wrap ((a : Int).tdiv (b : Int)) = ((a / b : Nat) : Int) := by
  have : (a : Int).tdiv (b : Int) = ((a / b : Nat) : Int) := rfl
  rw [this]
  have h2 := Nat.div_le_self a b
  generalize a / b = q at *
  exact in_i64 (by omega)
theorem rem_nat {a b : Nat} : (a : Int).tmod (b : Int) = ((a % b : Nat) : Int) := rfl
theorem conv_u32 {a : Nat} : IntKind.u32.wrap (a : Int) = ((a % 4294967296 : Nat) : Int) := by rw [IntKind.wrap_u32]; omega
theorem conv_u32' {a : Nat} (h : a < 4294967296) : IntKind.u32.wrap (a : Int) = (a : Int) := in_u32 (by omega)
theorem conv_u8' {a : Nat} (h : a < 256) : IntKind.u8.wrap (a : Int) = (a : Int) := in_u8 (by omega)
theorem conv_u64 {a : Nat} (h : a ≤ 18446744073709551615) : IntKind.u64.wrap (a : Int) = (a : Int) := in_u64 (by omega)
theorem conv_i64 {a : Nat} (h : a ≤ 9223372036854775807) : IntKind.i64.wrap (a : Int) = (a : Int) := in_i64 (by omega)
theorem conv_i32 {a : Nat} (h : a ≤ 2147483647) : IntKind.i32.wrap (a : Int) = (a : Int) := in_i32 (by omega)
theorem bits_pos (k : IntKind) : k.bits ≤ 64 := by cases k <;> decide
theorem shr_nat {k yk : IntKind} {a s : Nat} (hs : s ≤ k.bits) (w : World) : (Op.shift .shr k (a : Int) yk (s : Int)).run P w = .ok (.int k ((a / 2 ^ s : Nat) : Int)) w := by
  unfold Op.shift
  rw [if_neg (by omega)]
  simp only [Int.toNat_natCast, Nat.min_eq_left hs]
  have : ((a : Int).fdiv (2 ^ s)) = ((a / 2 ^ s : Nat) : Int) := by
    rw [show ((2 : Int) ^ s) = ((2 ^ s : Nat) : Int) by simp, Int.fdiv_eq_ediv_of_nonneg _ (Int.natCast_nonneg _)]
    exact (Int.natCast_ediv a (2 ^ s)).symm
  rw [this]; rfl
theorem shl_nat {k yk : IntKind} {a s : Nat} {r : Int} (hs : s ≤ k.bits) (hr : k.wrap ((a * 2 ^ s : Nat) : Int) = r) (w : World) : (Op.shift .shl k (a : Int) yk (s : Int)).run P w = .ok (.int k r) w := by
  unfold Op.shift
  rw [if_neg (by omega)]
  simp only [Int.toNat_natCast, Nat.min_eq_left hs]
  have : ((a : Int) * (2 ^ s)) = ((a * 2 ^ s : Nat) : Int) := by simp
  rw [this, hr]; rfl
theorem or_u64 {a b : Nat} (ha : a < 18446744073709551616) (hb : b < 18446744073709551616) (w : World) : (Op.intBits .or .u64 (a : Int) (b : Int)).run P w = .ok (.int .u64 ((a ||| b : Nat) : Int)) w := by
  have h := Nat.or_lt_two_pow (x := a) (y := b) (n := 64) ha hb
  have e : IntKind.u64.wrap ((BitVec.ofInt 64 (a : Int) ||| BitVec.ofInt 64 (b : Int)).toNat : Int) = ((a ||| b : Nat) : Int) := by
    have ea : (BitVec.ofInt 64 (a : Int)).toNat = a := by simp; omega
    have eb : (BitVec.ofInt 64 (b : Int)).toNat = b := by simp; omega
    rw [BitVec.toNat_or, ea, eb]
    exact conv_u64 (by omega)
  show Result.ok (Value.int .u64 (IntKind.u64.wrap ((BitVec.ofInt 64 (a : Int) ||| BitVec.ofInt 64 (b : Int)).toNat : Int))) w = _
  rw [e]
theorem and_u64 {a b : Nat} (ha : a < 18446744073709551616) (hb : b < 18446744073709551616) (w : World) : (Op.intBits .and .u64 (a : Int) (b : Int)).run P w = .ok (.int .u64 ((a &&& b : Nat) : Int)) w := by
  have h := Nat.and_lt_two_pow (n := 64) a (y := b) hb
  have e : IntKind.u64.wrap ((BitVec.ofInt 64 (a : Int) &&& BitVec.ofInt 64 (b : Int)).toNat : Int) = ((a &&& b : Nat) : Int) := by
    have ea : (BitVec.ofInt 64 (a : Int)).toNat = a := by simp; omega
    have eb : (BitVec.ofInt 64 (b : Int)).toNat = b := by simp; omega
    rw [BitVec.toNat_and, ea, eb]
    exact conv_u64 (by omega)
  show Result.ok (Value.int .u64 (IntKind.u64.wrap ((BitVec.ofInt 64 (a : Int) &&& BitVec.ofInt 64 (b : Int)).toNat : Int))) w = _
  rw [e]
theorem or_u32 {a b : Nat} (ha : a < 4294967296) (hb : b < 4294967296) (w : World) : (Op.intBits .or .u32 (a : Int) (b : Int)).run P w = .ok (.int .u32 ((a ||| b : Nat) : Int)) w := by
  have h := Nat.or_lt_two_pow (x := a) (y := b) (n := 32) ha hb
  have e : IntKind.u32.wrap ((BitVec.ofInt 32 (a : Int) ||| BitVec.ofInt 32 (b : Int)).toNat : Int) = ((a ||| b : Nat) : Int) := by
    have ea : (BitVec.ofInt 32 (a : Int)).toNat = a := by simp; omega
    have eb : (BitVec.ofInt 32 (b : Int)).toNat = b := by simp; omega
    rw [BitVec.toNat_or, ea, eb]
    exact conv_u32' (by omega)
  show Result.ok (Value.int .u32 (IntKind.u32.wrap ((BitVec.ofInt 32 (a : Int) ||| BitVec.ofInt 32 (b : Int)).toNat : Int))) w = _
  rw [e]
theorem and_u32 {a b : Nat} (ha : a < 4294967296) (hb : b < 4294967296) (w : World) : (Op.intBits .and .u32 (a : Int) (b : Int)).run P w = .ok (.int .u32 ((a &&& b : Nat) : Int)) w := by
  have h := Nat.and_lt_two_pow (n := 32) a (y := b) hb
  have e : IntKind.u32.wrap ((BitVec.ofInt 32 (a : Int) &&& BitVec.ofInt 32 (b : Int)).toNat : Int) = ((a &&& b : Nat) : Int) := by
    have ea : (BitVec.ofInt 32 (a : Int)).toNat = a := by simp; omega
    have eb : (BitVec.ofInt 32 (b : Int)).toNat = b := by simp; omega
    rw [BitVec.toNat_and, ea, eb]
    exact conv_u32' (by omega)
  show Result.ok (Value.int .u32 (IntKind.u32.wrap ((BitVec.ofInt 32 (a : Int) &&& BitVec.ofInt 32 (b : Int)).toNat : Int))) w = _
  rw [e]
theorem and_i64 {a b : Nat} (ha : a < 9223372036854775808) (hb : b < 9223372036854775808) (w : World) : (Op.intBits .and .i64 (a : Int) (b : Int)).run P w = .ok (.int .i64 ((a &&& b : Nat) : Int)) w := by
  have h := Nat.and_lt_two_pow (n := 63) a (y := b) hb
  have e : IntKind.i64.wrap ((BitVec.ofInt 64 (a : Int) &&& BitVec.ofInt 64 (b : Int)).toNat : Int) = ((a &&& b : Nat) : Int) := by
    have ea : (BitVec.ofInt 64 (a : Int)).toNat = a := by simp; omega
    have eb : (BitVec.ofInt 64 (b : Int)).toNat = b := by simp; omega
    rw [BitVec.toNat_and, ea, eb]
    exact conv_i64 (by omega)
  show Result.ok (Value.int .i64 (IntKind.i64.wrap ((BitVec.ofInt 64 (a : Int) &&& BitVec.ofInt 64 (b : Int)).toNat : Int))) w = _
  rw [e]
theorem max_nat {k : IntKind} {t u ty : TypeId} {a b : Nat} (w : World) : (Builtin.max_ #[t, u] ty #[.int k (a : Int), .int k (b : Int)]).run P w = .ok (.int k ((max a b : Nat) : Int)) w := by
  have h : (if (b : Int) > (a : Int) then (b : Int) else (a : Int)) = ((max a b : Nat) : Int) := by split <;> omega
  show Result.ok (Value.int k (if (b : Int) > (a : Int) then (b : Int) else (a : Int))) w = _
  rw [h]
theorem min_nat {k : IntKind} {t u ty : TypeId} {a b : Nat} (w : World) : (Builtin.min_ #[t, u] ty #[.int k (a : Int), .int k (b : Int)]).run P w = .ok (.int k ((min a b : Nat) : Int)) w := by
  have h : (if (b : Int) < (a : Int) then (b : Int) else (a : Int)) = ((min a b : Nat) : Int) := by split <;> omega
  show Result.ok (Value.int k (if (b : Int) < (a : Int) then (b : Int) else (a : Int))) w = _
  rw [h]
end Go.Ear
