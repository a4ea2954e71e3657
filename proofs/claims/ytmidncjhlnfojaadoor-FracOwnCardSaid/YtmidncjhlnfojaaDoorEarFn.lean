/- About package frac: EarFn. -/
import Derived.Test.YtmidncjhlnfojaaDoorEarMore
set_option linter.all false
namespace Go.Ear
def env0 : Nat → List Value → Env
  | _, [] => fun _ => undef
  | i, a :: as => upd (env0 (i + 1) as) i a
theorem env0_at : ∀ (as : List Value) (i j : Nat), env0 i as (i + j) = as.getD j undef
  | [], i, j => by simp [env0]
  | a :: as, i, 0 => by simp [env0, upd]
  | a :: as, i, j + 1 => by
    have := env0_at as (i + 1) j
    simp only [env0]
    rw [upd_ne _ _ (by omega), show i + (j + 1) = i + 1 + j by omega, this]
    simp
theorem mk_env0 {n : Nat} {vs : List Value} (h : vs.length ≤ n) : (⟨vs.toArray ++ Array.replicate (n - vs.length) undef, []⟩ : Act) = mk n (env0 0 vs) := by
  unfold mk
  congr 1
  apply Array.ext
  · simp; omega
  · intro i h1 h2
    have h3 := env0_at vs 0 i
    rw [Nat.zero_add] at h3
    simp only [Array.getElem_ofFn, h3]
    by_cases hi : i < vs.length
    · rw [Array.getElem_append_left (by simpa using hi)]
      simp [List.getD_eq_getElem?_getD, hi]
    · rw [Array.getElem_append_right (by simpa using hi)]
      simp [List.getD_eq_getElem?_getD, List.getElem?_eq_none (Nat.le_of_not_lt hi)]
def retQ (P : Program) (fn : Func) (R : Value → World → Prop) : Exit → Env → World → Prop
  | .normal, ρ, w | .ret, ρ, w => ∃ v, (results fn (mk fn.ntmps ρ).tmps).run P w = .ok v w ∧ R v w
  | _, _, _ => False
theorem calls_ear {P : Program} {f : FuncId} {fn : Func} {c : Code} {vs : List Value} {h : PH} {w : World} {Q : PH → Value → Prop}
    (hf : P.funcs[f]? = some fn) (hb : fn.body = some c) (hn : Nat.ble vs.length fn.ntmps = true)
    (hw : Wp P fn.ntmps c (retQ P fn fun v w' => ∃ h', Gr h w h' w' ∧ Q h' v) (env0 0 vs) w) : Calls P f vs.toArray w (Ret h w Q) := by
  refine calls_of_wp hf hb ?_
  have := mk_env0 (Nat.le_of_ble_eq_true hn)
  simp only [List.size_toArray]
  rw [this]
  refine wp_mono hw.out ?_
  rintro e a w' ⟨ρ, rfl, hq⟩
  cases e <;> first
    | (obtain ⟨v, hr, h', hg, hq⟩ := hq; exact ⟨rfl, v, hr, v, h', rfl, hg, hq⟩)
    | exact hq.elim
def resOne (tmps : Array Value) : ResultVar → Sem Value
  | .tmp t => pure (tmps.getD t undef)
  | .cell a t => do loadVar t (← asAddr (tmps.getD a undef))
theorem results_eq (fn : Func) (tmps : Array Value) : results fn tmps = (do
    let vs ← fn.results.mapM (resOne tmps)
    pure (if h : vs.size = 1 then vs[0] else .tuple vs)) := by
  unfold results
  congr 2
def resOf (P : Program) (n : Nat) (ρ : Env) (w : World) (rv : ResultVar) (v : Value) : Prop := (resOne (mk n ρ).tmps rv).run P w = .ok v w
theorem resOf_tmp {P : Program} {n : Nat} {ρ : Env} {w : World} {t : Tmp} {v : Value} (h : ev n ρ (.tmp t) = v) : resOf P n ρ w (.tmp t) v := by
  have := eval_mk (n := n) (ρ := ρ) (.tmp t)
  simp only [Act.eval] at this
  simp [resOf, resOne, this, h]
theorem resOf_cell1 {P : Program} {n : Nat} {ρ : Env} {w : World} {a : Tmp} {t : TypeId} {b off : Nat} {arr : Array Value} {e : TypeId} {fz : Nat × Nat} {v : Value} (hA : IsAgg P t false)
    (hx : ev n ρ (.tmp a) = .pointer (some ⟨b, off, none⟩)) (hb : w.heap[b]? = some (.cells arr e fz)) (hv : arr[off]? = some v) : resOf P n ρ w (.cell a t) v := by
  have := eval_mk (n := n) (ρ := ρ) (.tmp a)
  simp only [Act.eval] at this
  simp [resOf, resOne, this, hx, asAddr, loadVar, hA w, load, Sem.run, cell_of hb hv]
theorem resOf_cellA {P : Program} {n : Nat} {ρ : Env} {w : World} {a : Tmp} {t : TypeId} {b off k : Nat} {arr : Array Value} {e : TypeId} {fz : Nat × Nat} {cs : List Value} (hA : IsAgg P t true) (hs : IsSize P t k)
    (hx : ev n ρ (.tmp a) = .pointer (some ⟨b, off, none⟩)) (hb : w.heap[b]? = some (.cells arr e fz)) (hfit : off + k ≤ arr.size) (hv : cut arr off k = cs) : resOf P n ρ w (.cell a t) (.agg cs.toArray) := by
  have := eval_mk (n := n) (ρ := ρ) (.tmp a)
  simp only [Act.eval] at this
  have hl := run_loadCellsFrom (P := P) (w := w) (off := off) hb k 0 #[] (by omega)
  simp only [resOf, resOne, this, hx, asAddr, loadVar, Sem.run_bind, Sem.run_pure, Result.andThen, hA w, hs w, if_true, loadCells, hl]
  simp [hv]
theorem fin1 {P : Program} {fn : Func} {R : Value → World → Prop} {ρ : Env} {w : World} {rv : ResultVar} {v : Value} (hr : fn.results = #[rv])
    (h0 : resOf P fn.ntmps ρ w rv v) (hR : R (v) w) : ∃ v, (results fn (mk fn.ntmps ρ).tmps).run P w = .ok v w ∧ R v w := by
  refine ⟨v, ?_, hR⟩
  unfold resOf at h0
  rw [results_eq, hr]
  simp [h0]
theorem fin1_ret {P : Program} {fn : Func} {R : Value → World → Prop} {ρ : Env} {w : World} {rv : ResultVar} {v : Value} (hr : fn.results = #[rv])
    (h0 : resOf P fn.ntmps ρ w rv v) (hR : R (v) w) : retQ P fn R .ret ρ w := fin1 hr h0 hR
theorem fin1_end {P : Program} {fn : Func} {R : Value → World → Prop} {ρ : Env} {w : World} {rv : ResultVar} {v : Value} (hr : fn.results = #[rv])
    (h0 : resOf P fn.ntmps ρ w rv v) (hR : R (v) w) : retQ P fn R .normal ρ w := fin1 hr h0 hR
theorem fin2 {P : Program} {fn : Func} {R : Value → World → Prop} {ρ : Env} {w : World} {rv ru : ResultVar} {v u : Value} (hr : fn.results = #[rv, ru])
    (h0 : resOf P fn.ntmps ρ w rv v) (h1 : resOf P fn.ntmps ρ w ru u) (hR : R (.tuple #[v, u]) w) : ∃ v, (results fn (mk fn.ntmps ρ).tmps).run P w = .ok v w ∧ R v w := by
  refine ⟨.tuple #[v, u], ?_, hR⟩
  unfold resOf at h0 h1
  rw [results_eq, hr]
  simp [h0, h1]
theorem fin2_ret {P : Program} {fn : Func} {R : Value → World → Prop} {ρ : Env} {w : World} {rv ru : ResultVar} {v u : Value} (hr : fn.results = #[rv, ru])
    (h0 : resOf P fn.ntmps ρ w rv v) (h1 : resOf P fn.ntmps ρ w ru u) (hR : R (.tuple #[v, u]) w) : retQ P fn R .ret ρ w := fin2 hr h0 h1 hR
theorem fin2_end {P : Program} {fn : Func} {R : Value → World → Prop} {ρ : Env} {w : World} {rv ru : ResultVar} {v u : Value} (hr : fn.results = #[rv, ru])
    (h0 : resOf P fn.ntmps ρ w rv v) (h1 : resOf P fn.ntmps ρ w ru u) (hR : R (.tuple #[v, u]) w) : retQ P fn R .normal ρ w := fin2 hr h0 h1 hR
theorem fin3 {P : Program} {fn : Func} {R : Value → World → Prop} {ρ : Env} {w : World} {rv ru rx : ResultVar} {v u x : Value} (hr : fn.results = #[rv, ru, rx])
    (h0 : resOf P fn.ntmps ρ w rv v) (h1 : resOf P fn.ntmps ρ w ru u) (h2 : resOf P fn.ntmps ρ w rx x) (hR : R (.tuple #[v, u, x]) w) : ∃ v, (results fn (mk fn.ntmps ρ).tmps).run P w = .ok v w ∧ R v w := by
  refine ⟨.tuple #[v, u, x], ?_, hR⟩
  unfold resOf at h0 h1 h2
  rw [results_eq, hr]
  simp [h0, h1, h2]
theorem fin3_ret {P : Program} {fn : Func} {R : Value → World → Prop} {ρ : Env} {w : World} {rv ru rx : ResultVar} {v u x : Value} (hr : fn.results = #[rv, ru, rx])
    (h0 : resOf P fn.ntmps ρ w rv v) (h1 : resOf P fn.ntmps ρ w ru u) (h2 : resOf P fn.ntmps ρ w rx x) (hR : R (.tuple #[v, u, x]) w) : retQ P fn R .ret ρ w := fin3 hr h0 h1 h2 hR
theorem fin3_end {P : Program} {fn : Func} {R : Value → World → Prop} {ρ : Env} {w : World} {rv ru rx : ResultVar} {v u x : Value} (hr : fn.results = #[rv, ru, rx])
    (h0 : resOf P fn.ntmps ρ w rv v) (h1 : resOf P fn.ntmps ρ w ru u) (h2 : resOf P fn.ntmps ρ w rx x) (hR : R (.tuple #[v, u, x]) w) : retQ P fn R .normal ρ w := fin3 hr h0 h1 h2 hR
theorem fin4 {P : Program} {fn : Func} {R : Value → World → Prop} {ρ : Env} {w : World} {rv ru rx ry : ResultVar} {v u x y : Value} (hr : fn.results = #[rv, ru, rx, ry])
    (h0 : resOf P fn.ntmps ρ w rv v) (h1 : resOf P fn.ntmps ρ w ru u) (h2 : resOf P fn.ntmps ρ w rx x) (h3 : resOf P fn.ntmps ρ w ry y) (hR : R (.tuple #[v, u, x, y]) w) : ∃ v, (results fn (mk fn.ntmps ρ).tmps).run P w = .ok v w ∧ R v w := by
  refine ⟨.tuple #[v, u, x, y], ?_, hR⟩
  unfold resOf at h0 h1 h2 h3
  rw [results_eq, hr]
  simp [h0, h1, h2, h3]
theorem fin4_ret {P : Program} {fn : Func} {R : Value → World → Prop} {ρ : Env} {w : World} {rv ru rx ry : ResultVar} {v u x y : Value} (hr : fn.results = #[rv, ru, rx, ry])
    (h0 : resOf P fn.ntmps ρ w rv v) (h1 : resOf P fn.ntmps ρ w ru u) (h2 : resOf P fn.ntmps ρ w rx x) (h3 : resOf P fn.ntmps ρ w ry y) (hR : R (.tuple #[v, u, x, y]) w) : retQ P fn R .ret ρ w := fin4 hr h0 h1 h2 h3 hR
theorem fin4_end {P : Program} {fn : Func} {R : Value → World → Prop} {ρ : Env} {w : World} {rv ru rx ry : ResultVar} {v u x y : Value} (hr : fn.results = #[rv, ru, rx, ry])
    (h0 : resOf P fn.ntmps ρ w rv v) (h1 : resOf P fn.ntmps ρ w ru u) (h2 : resOf P fn.ntmps ρ w rx x) (h3 : resOf P fn.ntmps ρ w ry y) (hR : R (.tuple #[v, u, x, y]) w) : retQ P fn R .normal ρ w := fin4 hr h0 h1 h2 h3 hR
theorem finN {P : Program} {fn : Func} {R : Value → World → Prop} {ρ : Env} {w : World} (hr : fn.results = #[]) (hR : R (.tuple #[]) w) :
    ∃ v, (results fn (mk fn.ntmps ρ).tmps).run P w = .ok v w ∧ R v w := ⟨.tuple #[], by simp [results, hr], hR⟩
theorem finN_ret {P : Program} {fn : Func} {R : Value → World → Prop} {ρ : Env} {w : World} (hr : fn.results = #[]) (hR : R (.tuple #[]) w) : retQ P fn R .ret ρ w := finN hr hR
theorem finN_end {P : Program} {fn : Func} {R : Value → World → Prop} {ρ : Env} {w : World} (hr : fn.results = #[]) (hR : R (.tuple #[]) w) : retQ P fn R .normal ρ w := finN hr hR
theorem natv {k : IntKind} {a b : Nat} (h : a = b) : Value.int k (a : Int) = Value.int k (b : Int) := by rw [h]
theorem intv {k : IntKind} {a b : Int} (h : a = b) : Value.int k a = Value.int k b := by rw [h]
theorem boolv {a b : Bool} (h : a = b) : Value.bool a = Value.bool b := by rw [h]
theorem Ext.keep {w w' : World} (e : Ext w w') {b : Nat} {o : Obj} (h : w.heap[b]? = some o) : w'.heap[b]? = some o := by
  rw [e.block b (Array.getElem?_eq_some_iff.1 h).1]; exact h
theorem Gr.keepNone {h h' : PH} {w w' : World} (g : Gr h w h' w') {b : Nat} {o : Obj} (ob : w.heap[b]? = some o) (hn : h b = none) : h' b = none :=
  g.noneAt (Array.getElem?_eq_some_iff.1 ob).1 hn
theorem blk_lt {w : World} {b : Nat} {o : Obj} (h : w.heap[b]? = some o) : b < w.heap.size := (Array.getElem?_eq_some_iff.1 h).1
section ops
variable {P : Program} {n : Nat} {ρ : Env} {w : World} {K : Env → World → Prop} {d : Tmp} {ty : TypeId} {pos : String} {af : Array Edge} {g : Option (Nat × Bool)}
theorem OpW.boxO {h : PH} {t : TypeId} {x : Operand} {v : Value} {arr : Array Value} (hs : Sat h w) (hx : ev n ρ x = v) (hv : v.cells = arr)
    (hk : ∀ b w', Gr h w h w' → h b = none → w.heap.size ≤ b → w'.heap[b]? = some (.cells arr t (0, 0)) → K (upd ρ d (.pointer (some ⟨b, 0, none⟩))) w') : OpW P n ⟨some d, .box t x, ty, pos, af, g⟩ ρ w K := by
  subst hv
  exact OpW.box hx (hk _ _ (Gr.new hs _) hs.fresh (Nat.le_refl _) (newW_at w _))
theorem OpW.allocO {h : PH} {t : TypeId} {z : Value} {arr : Array Value} (hs : Sat h w) (hz : IsZero P t z) (hv : z.cells = arr)
    (hk : ∀ b w', Gr h w h w' → h b = none → w.heap.size ≤ b → w'.heap[b]? = some (.cells arr t (0, 0)) → K (upd ρ d (.pointer (some ⟨b, 0, none⟩))) w') : OpW P n ⟨some d, .alloc t, ty, pos, af, g⟩ ρ w K := by
  subst hv
  exact OpW.alloc hz (hk _ _ (Gr.new hs _) hs.fresh (Nat.le_refl _) (newW_at w _))
theorem OpW.boxK {h : PH} {t : TypeId} {x : Operand} {v : Value} {arr : Array Value} (hs : Sat h w) (hx : ev n ρ x = v) (hv : v.cells = arr)
    (hk : ∀ b h' w', Gr h w h' w' → h' b = some (.cells arr t (0, 0)) → K (upd ρ d (.pointer (some ⟨b, 0, none⟩))) w') : OpW P n ⟨some d, .box t x, ty, pos, af, g⟩ ρ w K := by
  refine OpW.boxO hs hx hv ?_
  intro b w' gr hn hlo hb
  exact hk b _ w' (gr.freeze hb hn hlo) (PH.put_at ..)
theorem OpW.makeO {h : PH} {t e : TypeId} {i : TypeInfo} {z : Value} {x y : Operand} {kx ky : IntKind} {l c : Nat} {arr : Array Value} (hs : Sat h w) (ht : IsUnd P t (.slice e)) (hi : P.info? e = some i) (hz : i.zero = some z)
    (hx : ev n ρ x = .int kx l) (hy : ev n ρ y = .int ky c) (hlc : l ≤ c) (hb : i.bytes * c ≤ 281474976710656) (h63 : c ≤ 9223372036854775807) (harr : madeCells z.cells (c * i.size) = arr)
    (hk : ∀ b w', Gr h w h w' → h b = none → w.heap.size ≤ b → w'.heap[b]? = some (.cells arr e (0, 0)) → K (upd ρ d (.slice (some ⟨b, 0, none⟩) l c)) w') : OpW P n ⟨some d, .makeSlice t x y, ty, pos, af, g⟩ ρ w K := by
  subst harr
  exact OpW.make ht hi hz hx hy hlc hb h63 (hk _ _ (Gr.new hs _) hs.fresh (Nat.le_refl _) (newW_at w _))
theorem made_list {z : Value} {len : Nat} : madeCells z.cells (len * z.cells.size) = ((List.replicate len z.cells.toList).flatten).toArray := by
  generalize hz : z.cells = zs
  apply Array.ext_getElem?
  intro i
  by_cases hi : i < len * zs.size
  · have hk : 0 < zs.size := Nat.pos_of_ne_zero (by intro e; rw [e, Nat.mul_zero] at hi; omega)
    have h1 : (madeCells zs (len * zs.size))[i]? = some (zs[i % zs.size]!) := by
      simp [madeCells, hi]
    rw [h1]
    have key : ∀ (n i : Nat), i < n * zs.size → ((List.replicate n zs.toList).flatten)[i]? = zs.toList[i % zs.size]? := by
      intro n
      induction n with
      | zero => intro i h; omega
      | succ n ih =>
        intro i h
        simp only [List.replicate_succ, List.flatten_cons]
        by_cases hl : i < zs.size
        · rw [List.getElem?_append_left (by simpa using hl), Nat.mod_eq_of_lt hl]
        · rw [List.getElem?_append_right (by simpa using hl)]
          simp only [Array.length_toList]
          rw [ih (i - zs.size) (by rw [Nat.add_mul, Nat.one_mul] at h; omega)]
          congr 1
          exact (Nat.mod_eq_sub_mod (by omega)).symm
    rw [List.getElem?_toArray, key len i hi]
    have hm : i % zs.size < zs.size := Nat.mod_lt _ hk
    simp [hm]
  · rw [Array.getElem?_eq_none (by simp [madeCells]; omega), List.getElem?_toArray, List.getElem?_eq_none]
    have : ((List.replicate len zs.toList).flatten).length = len * zs.size := by simp
    omega
theorem run_buildSlice {t e : TypeId} {len : Nat} {z : Value} {parts : Array (Nat × Value)} {arr : Array Value} (ht : IsUnd P t (.slice e)) (hs : IsSize P e z.cells.size) (hz : IsZero P e z)
    (hlen : Nat.ble (len * z.cells.size) 16777216 = true) (hf : Instr.fill (fun i => some (i * z.cells.size, z.cells.size)) ((List.replicate len z.cells.toList).flatten).toArray parts.toList = some arr) (w : World) :
    (Instr.buildSlice t len parts).run P w = .ok (.slice (some ⟨w.heap.size, 0, none⟩) len len) (newW w (.cells arr e (0, 0))) := by
  have hl := Nat.le_of_ble_eq_true hlen
  have h1 : ¬ (len * z.cells.size > 2 ^ 24) := by
    have : (2 : Nat) ^ 24 = 16777216 := rfl
    omega
  have hcells : (Array.range (len * z.cells.size)).map (fun j => (if len * z.cells.size = 0 then #[] else z.cells)[j % (if len * z.cells.size = 0 then #[] else z.cells).size]!) = ((List.replicate len z.cells.toList).flatten).toArray := by
    rw [← made_list]
    unfold madeCells
    split
    · rename_i h0; rw [h0]; simp
    · rfl
  simp only [Instr.buildSlice, Sem.run_bind, ht.run w, Result.andThen, hs w]
  rw [if_neg h1]
  by_cases h0 : len * z.cells.size = 0
  · simp only [h0, if_true] at hcells ⊢
    simp only [Sem.run_bind, Sem.run_pure, Result.andThen]
    rw [hcells, hf]
    simp [newRow, newObj, Sem.run]
    rfl
  · simp only [h0, if_false] at hcells ⊢
    simp only [Sem.run_bind, Sem.run_pure, Result.andThen, hz w]
    rw [hcells, hf]
    simp [newRow, newObj, Sem.run]
    rfl
theorem OpW.buildSliceO {h : PH} {t e : TypeId} {len : Nat} {z : Value} {ps : List (Nat × Operand)} {arr : Array Value} (hs : Sat h w) (ht : IsUnd P t (.slice e)) (hz : IsZero P e z) (hsz : IsSize P e z.cells.size)
    (hlen : Nat.ble (len * z.cells.size) 16777216 = true)
    (hf : Instr.fill (fun i => some (i * z.cells.size, z.cells.size)) ((List.replicate len z.cells.toList).flatten).toArray (ps.map fun p => (p.1, ev n ρ p.2)) = some arr)
    (hk : ∀ b w', Gr h w h w' → h b = none → w.heap.size ≤ b → w'.heap[b]? = some (.cells arr e (0, 0)) → K (upd ρ d (.slice (some ⟨b, 0, none⟩) len len)) w') : OpW P n ⟨some d, .buildSlice t len ps.toArray, ty, pos, af, g⟩ ρ w K :=
  OpW.buildSlice (fun w => by rw [List.map_toArray]; exact run_buildSlice ht hsz hz hlen (by simpa using hf) w) (hk _ _ (Gr.new hs _) hs.fresh (Nat.le_refl _) (newW_at w _))
end ops
end Go.Ear
