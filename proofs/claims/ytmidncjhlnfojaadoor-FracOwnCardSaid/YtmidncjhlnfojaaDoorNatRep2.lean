/- About package frac: NatRep2. -/
import Derived.Test.YtmidncjhlnfojaaDoorNatRep
import Derived.Test.YtmidncjhlnfojaaDoorEarNum
set_option linter.all false
namespace Go.Ear
theorem cellsU_flatten : ∀ (l : List Nat), (cellsU l).flatten = l.map fun (x : Nat) => Value.int .u32 (x : Int)
  | [] => rfl
  | x :: l => by have := cellsU_flatten l; simp only [cellsU, List.map_cons, List.flatten_cons] at this ⊢; rw [this]; rfl
theorem N.shape {h : PH} {v : Value} {n : Nat} (u : N h v n) : ∃ base cap, v = .slice base (digs n).length cap ∧ (digs n).length ≤ cap := U.shape u
theorem stab_U (l : List Nat) : Stab fun h _ x => U h x l := fun _ _ _ _ _ g u => u.mono g.le
theorem stab_N (n : Nat) : Stab fun h _ x => N h x n := fun _ _ _ _ _ g u => U.mono u g.le
theorem N.cast {h : PH} {v : Value} {a b : Nat} (e : a = b) (u : N h v a) : N h v b := e ▸ u
theorem U.cast {h : PH} {v : Value} {a b : List Nat} (e : a = b) (u : U h v a) : U h v b := e ▸ u
theorem stab_own (m : Nat) (arr : Array Value) (t : TypeId) : Stab fun h w x => ∃ b, x = .pointer (some ⟨b, 0, none⟩) ∧ m ≤ b ∧ h b = none ∧ w.heap[b]? = some (.cells arr t (0, 0)) :=
  fun _ _ _ _ _ g ⟨b, hx, hm, hn, hb⟩ => ⟨b, hx, hm, g.keepNone hb hn, g.ext.keep hb⟩
theorem stab_tup2 {φ ψ : PH → World → Value → Prop} (a : Stab φ) (b : Stab ψ) : Stab fun h w x => ∃ x1 x2, x = .tuple #[x1, x2] ∧ φ h w x1 ∧ ψ h w x2 :=
  fun _ _ _ _ _ g ⟨x1, x2, e, p, q⟩ => ⟨x1, x2, e, a _ _ _ _ _ g p, b _ _ _ _ _ g q⟩
theorem stab_tup3 {φ ψ χ : PH → World → Value → Prop} (a : Stab φ) (b : Stab ψ) (c : Stab χ) : Stab fun h w x => ∃ x1 x2 x3, x = .tuple #[x1, x2, x3] ∧ φ h w x1 ∧ ψ h w x2 ∧ χ h w x3 :=
  fun _ _ _ _ _ g ⟨x1, x2, x3, e, p, q, r⟩ => ⟨x1, x2, x3, e, a _ _ _ _ _ g p, b _ _ _ _ _ g q, c _ _ _ _ _ g r⟩
def ua (k : IntKind) (l : List Nat) : Array Value := (l.map fun (x : Nat) => Value.int k (x : Int)).toArray
theorem ua_size (k : IntKind) (l : List Nat) : (ua k l).size = l.length := by simp [ua]
theorem ua_lt {k : IntKind} {l : List Nat} {i : Nat} (h : i < l.length) : i < (ua k l).size := by rw [ua_size]; exact h
theorem ua_at {k : IntKind} {l : List Nat} {i : Nat} (h : i < l.length) : (ua k l)[i]? = some (.int k ((l.getD i 0 : Nat) : Int)) := by
  simp [ua, h, List.getD_eq_getElem?_getD]
theorem ua_set (k : IntKind) (l : List Nat) (i x : Nat) : (ua k l).setIfInBounds i (.int k (x : Int)) = ua k (l.set i x) := by
  simp [ua, List.map_set]
theorem made_ua (k : IntKind) (n : Nat) : madeCells (Value.int k 0).cells (n * 1) = ua k (List.replicate n 0) := by
  rw [Nat.mul_one]
  show madeCells #[Value.int k 0] n = _
  rw [made_one]
  simp [ua]
def uaz (k : IntKind) (l : List Nat) (z : Array Value) : Array Value := ua k l ++ z
theorem uaz_lt {k : IntKind} {l : List Nat} {z : Array Value} {i : Nat} (h : i < l.length) : i < (uaz k l z).size := by
  unfold uaz; rw [Array.size_append, ua_size]; omega
theorem uaz_at {k : IntKind} {l : List Nat} {z : Array Value} {i : Nat} (h : i < l.length) : (uaz k l z)[i]? = some (.int k ((l.getD i 0 : Nat) : Int)) := by
  unfold uaz
  rw [Array.getElem?_append_left (ua_lt h)]; exact ua_at h
theorem uaz_set {k : IntKind} {l : List Nat} {z : Array Value} {i x : Nat} (h : i < l.length) : (uaz k l z).setIfInBounds i (.int k (x : Int)) = uaz k (l.set i x) z := by
  unfold uaz
  rw [Array.setIfInBounds_append_left (ua_lt h), ua_set]
theorem Gr.thaw {h h' : PH} {w w' : World} (g : Gr h w h' w') : Gr h w h w' :=
  ⟨fun _ _ e => g.sat _ _ (g.le _ _ e), g.ext, PH.le.refl h, fun _ hb => .inl hb⟩
theorem lt_nat {a b : Nat} : decide ((a : Int) < (b : Int)) = decide (a < b) := decide_eq_decide.2 Int.ofNat_lt
theorem le_nat {a b : Nat} : decide ((a : Int) ≤ (b : Int)) = decide (a ≤ b) := decide_eq_decide.2 Int.ofNat_le
theorem eq_nat {a b : Nat} : decide ((a : Int) = (b : Int)) = decide (a = b) := decide_eq_decide.2 Int.ofNat_inj
theorem ne_nat {a b : Nat} : decide ((a : Int) ≠ (b : Int)) = decide (a ≠ b) := decide_eq_decide.2 (not_congr Int.ofNat_inj)
theorem freeze_ex {h0 h : PH} {w0 w : World} {b : Nat} {o : Obj} (g : Gr h0 w0 h w) (ob : w.heap[b]? = some o) (n : h b = none) (lo : w0.heap.size ≤ b) :
    ∃ h', Gr h0 w0 h' w ∧ h.le h' ∧ h' b = some o ∧ ∀ i, i ≠ b → h i = none → h' i = none :=
  ⟨h.put b o, g.freeze ob n lo, PH.le_put o n, PH.put_at .., fun i hi hn => by rw [PH.put_ne o hi]; exact hn⟩
theorem U.own {h : PH} {b cap len : Nat} {l : List Nat} {e : TypeId} {fz : Nat × Nat} (hb : h b = some (.cells (ua .u32 l) e fz)) (f : Fit l) (hl : l.length = len) (hc : len ≤ cap) : U h (.slice (some ⟨b, 0, none⟩) len cap) l := by
  subst hl
  refine ⟨f, some ⟨b, 0, none⟩, cap, by rw [cellsU_length], by rw [cellsU_length]; exact hc, by simp [cellsU], .inr ⟨b, 0, _, e, fz, rfl, hb, by rw [cellsU_length, ua_size]; omega, ?_⟩⟩
  intro i cs hi
  simp only [cellsU, List.getElem?_map] at hi
  cases hx : l[i]? with
  | none => rw [hx] at hi; cases hi
  | some x =>
    rw [hx] at hi
    have hi := Option.some.inj hi
    subst hi
    rw [Nat.zero_add, Nat.mul_one]
    refine cut_of_one ?_
    have hlt := (List.getElem?_eq_some_iff.1 hx).1
    rw [ua_at hlt, List.getD_eq_getElem?_getD, hx]; rfl
theorem U.nil (h : PH) (base : Option Addr) (cap : Nat) : U h (.slice base 0 cap) [] := ⟨fun _ hx => (nomatch hx), Sl.nil h 1 base cap⟩
theorem U.isNone {h : PH} {base : Option Addr} {len cap : Nat} {l : List Nat} (u : U h (.slice base len cap) l) (hb : base.isNone = true) : l = [] := by
  obtain ⟨_, b', c', e, _, _, hx⟩ := u
  cases e
  rcases hx with hx | ⟨b, off, arr, e, fz, rfl, _⟩
  · simpa [cellsU] using hx
  · cases hb
theorem U.ownz {h : PH} {b cap len : Nat} {l : List Nat} {z : Array Value} {e : TypeId} {fz : Nat × Nat} (hb : h b = some (.cells (uaz .u32 l z) e fz)) (f : Fit l) (hl : l.length = len) (hc : len ≤ cap) : U h (.slice (some ⟨b, 0, none⟩) len cap) l := by
  subst hl
  refine ⟨f, some ⟨b, 0, none⟩, cap, by rw [cellsU_length], by rw [cellsU_length]; exact hc, by simp [cellsU], .inr ⟨b, 0, _, e, fz, rfl, hb, by rw [cellsU_length]; unfold uaz; rw [Array.size_append, ua_size]; omega, ?_⟩⟩
  intro i cs hi
  simp only [cellsU, List.getElem?_map] at hi
  cases hx : l[i]? with
  | none => rw [hx] at hi; cases hi
  | some x =>
    rw [hx] at hi
    have hi := Option.some.inj hi
    subst hi
    rw [Nat.zero_add, Nat.mul_one]
    refine cut_of_one ?_
    have hlt := (List.getElem?_eq_some_iff.1 hx).1
    rw [uaz_at hlt, List.getD_eq_getElem?_getD, hx]; rfl
theorem Fit.set {l : List Nat} (f : Fit l) (i x : Nat) (hx : x < 4294967296) : Fit (l.set i x) := by
  intro y hy
  rcases List.mem_or_eq_of_mem_set hy with h | h
  · exact f y h
  · omega
theorem Fit.replicate (n : Nat) : Fit (List.replicate n 0) := by
  intro y hy; rw [(List.mem_replicate.1 hy).2]; omega
section ops
variable {P : Program} {n : Nat} {ρ : Env} {w : World} {K : Env → World → Prop} {d : Tmp} {ty : TypeId} {pos : String} {af : Array Edge} {g : Option (Nat × Bool)}
theorem OpW.indexU {h : PH} {t e : TypeId} {x y : Operand} {k : IntKind} {base : Option Addr} {len cap j : Nat} {l : List Nat} {i : Int} (ht : IsUnd P t (.slice e)) (hs : IsSize P e 1) (hx : ev n ρ x = .slice base len cap)
    (u : U h (.slice base len cap) l) (hy : ev n ρ y = .int k i) (hj : j < l.length) (hi : i = (j : Int))
    (hk : ∀ b o arr e' fz, h b = some (.cells arr e' fz) → arr[o]? = some (.int .u32 ((l.getD j 0 : Nat) : Int)) → K (upd ρ d (.pointer (some ⟨b, o, none⟩))) w) :
    OpW P n ⟨some d, .indexAddr t x y, ty, pos, af, g⟩ ρ w K := by
  obtain ⟨b, off, arr, e', fz, rfl, hb, hv⟩ := u.at hj
  obtain ⟨_, _, he, _⟩ := u.shape
  cases he
  exact iA ht hs hx hy (by omega) (by rw [hi]; simp) (hk b (off + j) arr e' fz hb hv)
theorem OpW.appendFresh {h : PH} {t e : TypeId} {i : TypeInfo} {z : Value} {a b : Operand} {x : Value} {base : Option Addr} {k : Nat} {css : List (List Value)}
    (hs : Sat h w) (ht : P.underlying t = some (.slice e)) (hi : P.info? e = some i) (hz : i.zero = some z) (hzs : z.cells.size = i.size) (hik : i.size = k)
    (ha : ev n ρ a = .slice base 0 0) (hb : ev n ρ b = x) (u : Sl h k x css) (h1 : ∀ y ∈ css.flatten, y.oneCell' = true)
    (h63 : css.length ≤ 9223372036854775807) (hbb : css.length * i.bytes ≤ 140737488355328)
    (hk : ∀ r h' w', Gr h w h' w' → Sl h' k r css → K (upd ρ d r) w') :
    OpW P n ⟨some d, .call ⟨.builtin .append, #[a, b], #[t, t]⟩, ty, pos, af, g⟩ ρ w K := by
  subst hik
  have r := u.reads hs
  have hfc := run_firstCells (P := P) r
  obtain ⟨bx, cx, rfl, _⟩ := u.shape
  by_cases hm : css = []
  · subst hm
    refine OpW.valD (v := .slice base 0 0) (w' := w) ?_ (hk _ h w (Gr.refl hs) (Sl.nil h _ _ _))
    have hfc0 : (Builtin.firstCells i.size 0 (.slice bx 0 cx)).run P w = .ok #[] w := by simpa using hfc
    have hst : ∀ ad, (storeCells ad ([] : List Value)).run P w = .ok () w := fun _ => rfl
    simp only [execOp, resolve, invoke, builtin, Sem.run_bind, Sem.run_pure, Result.andThen, List.map_toArray, List.map_cons, List.map_nil, ha, hb]
    cases base <;> simp [Builtin.append_, run_underlying ht, sizeOf, typeInfo, hi, Builtin.lenOf, hfc0, hst]
  · have hpos : 0 < css.length := List.length_pos_iff.2 hm
    have hn : ¬ (css.length ≤ 0) := by omega
    have h63' : ¬ (9223372036854775807 < (css.length : Int)) := by omega
    have hfit := growslice_fits (need := css.length) (old := 0) (bytes := i.bytes) hpos hbb
    have h48 : ¬ (281474976710656 < Builtin.nextslicecap css.length 0 * i.bytes) := by omega
    have hfc' : (Builtin.firstCells i.size css.length (.slice bx css.length cx)).run P w.drew = .ok css.flatten.toArray w.drew := run_firstCells (P := P) (r.drew _)
    have hold : (Builtin.firstCells i.size 0 (.slice base 0 0)).run P w.drew = .ok #[] w.drew := by cases base <;> simp [Builtin.firstCells, loadCells, loadCellsFrom]
    have hrun : (Builtin.append_ #[t, t] ty #[.slice base 0 0, .slice bx css.length cx]).run P w = .ok (.slice (some ⟨w.heap.size, 0, none⟩) css.length (grownCap w css.length 0 e))
        (w.drew.alloc (.cells (css.flatten.toArray ++ Builtin.zeroCells z.cells (grownCap w css.length 0 e - css.length)) e)) := by
      simp [Builtin.append_, run_underlying ht, sizeOf, typeInfo, zeroValue, hi, hz, Builtin.lenOf, hm, h63', h48, Question.forced, newRow, grownCap, hold, hfc']
    generalize hW : w.drew.alloc (.cells (css.flatten.toArray ++ Builtin.zeroCells z.cells (grownCap w css.length 0 e - css.length)) e) = W at hrun
    have hat : W.heap[w.heap.size]? = some (.cells (css.flatten.toArray ++ Builtin.zeroCells z.cells (grownCap w css.length 0 e - css.length)) e (0, 0)) := by rw [← hW]; exact heap_alloc_new w.drew _
    have gr : Gr h w h W := by
      rw [← hW]
      exact ⟨fun b o e => by rw [heap_alloc_old w.drew _ b (hs.lt (by rw [e]; exact fun h => nomatch h))]; exact hs b o e, ⟨rfl, rfl, rfl, by simp, fun b hb => heap_alloc_old w.drew _ b hb⟩, PH.le.refl h, fun _ hb => .inl hb⟩
    have own : Own w.heap.size h W e i.size (.slice (some ⟨w.heap.size, 0, none⟩) css.length (grownCap w css.length 0 e)) css.length css.flatten := by
      refine ⟨r.1, .inr ⟨_, _, _, rfl, Nat.le_refl _, hs.fresh, hat, ?_, ?_, ?_⟩⟩
      · exact grownCap_ge w css.length 0 e
      · have hge := grownCap_ge w css.length 0 e
        simp only [Array.size_append, List.size_toArray, size_zeroCells, hzs, r.1, ← Nat.add_mul]
        congr 1; omega
      · simp only [Array.toList_append]
        rw [← r.1]; exact List.take_left
    obtain ⟨h', gr', _, _, sl⟩ := own.freeze gr (Nat.le_refl _) (by obtain ⟨_, _, _, _, hk, _⟩ := u; exact hk) rfl
    refine OpW.valD ?_ (hk _ h' W gr' sl)
    simp only [execOp, resolve, invoke, builtin, Sem.run_bind, Sem.run_pure, Result.andThen, List.map_toArray, List.map_cons, List.map_nil, ha, hb, hrun]
theorem OpW.cloneU {h : PH} {t e : TypeId} {i : TypeInfo} {z : Value} {a b : Operand} {base : Option Addr} {x : Value} {l : List Nat}
    (hs : Sat h w) (ht : P.underlying t = some (.slice e)) (hi : P.info? e = some i) (hz : i.zero = some z) (hzs : z.cells.size = i.size) (hik : i.size = 1)
    (ha : ev n ρ a = .slice base 0 0) (hb : ev n ρ b = x) (u : U h x l) (h63 : l.length ≤ 9223372036854775807) (hbb : l.length * i.bytes ≤ 140737488355328)
    (hk : ∀ r h' w', Gr h w h' w' → U h' r l → K (upd ρ d r) w') :
    OpW P n ⟨some d, .call ⟨.builtin .append, #[a, b], #[t, t]⟩, ty, pos, af, g⟩ ρ w K :=
  OpW.appendFresh hs ht hi hz hzs hik ha hb u.2 (by
    intro y hy
    simp only [cellsU, List.mem_flatten, List.mem_map] at hy
    obtain ⟨_, ⟨x, _, rfl⟩, hy⟩ := hy
    simp at hy; subst hy; rfl) (by rw [cellsU_length]; exact h63) (by rw [cellsU_length]; exact hbb) (fun r h' w' gr s => hk r h' w' gr ⟨u.1, s⟩)
theorem OpW.cloneUO {h : PH} {t e : TypeId} {i : TypeInfo} {z : Value} {a b : Operand} {base : Option Addr} {x : Value} {l : List Nat}
    (hs : Sat h w) (ht : P.underlying t = some (.slice e)) (hi : P.info? e = some i) (hz : i.zero = some z) (hzs : z.cells.size = i.size) (hik : i.size = 1)
    (ha : ev n ρ a = .slice base 0 0) (hb : ev n ρ b = x) (u : U h x l) (hne : l ≠ []) (h63 : l.length ≤ 9223372036854775807) (hbb : l.length * i.bytes ≤ 140737488355328)
    (hk : ∀ r h' w', Gr h w h' w' → (∃ b c z, r = .slice (some ⟨b, 0, none⟩) l.length c ∧ h b = none ∧ w.heap.size ≤ b ∧ h' b = some (.cells (uaz .u32 l z) e (0, 0)) ∧ l.length ≤ c) → K (upd ρ d r) w') :
    OpW P n ⟨some d, .call ⟨.builtin .append, #[a, b], #[t, t]⟩, ty, pos, af, g⟩ ρ w K := by
  have r := u.2.reads hs
  rw [cellsU_length, cellsU_flatten] at r
  obtain ⟨bx, cx, rfl, _⟩ := u.shape
  have hpos : 0 < l.length := List.length_pos_iff.2 hne
  have hn : ¬ (l.length ≤ 0) := by omega
  have h63' : ¬ (9223372036854775807 < (l.length : Int)) := by omega
  have hfit := growslice_fits (need := l.length) (old := 0) (bytes := i.bytes) hpos hbb
  have h48 : ¬ (281474976710656 < Builtin.nextslicecap l.length 0 * i.bytes) := by omega
  have hfc' : (Builtin.firstCells i.size l.length (.slice bx l.length cx)).run P w.drew = .ok (ua .u32 l) w.drew := by
    rw [hik]; exact run_firstCells (P := P) (r.drew _)
  have hold : (Builtin.firstCells i.size 0 (.slice base 0 0)).run P w.drew = .ok #[] w.drew := by cases base <;> simp [Builtin.firstCells, loadCells, loadCellsFrom]
  have hrun : (Builtin.append_ #[t, t] ty #[.slice base 0 0, .slice bx l.length cx]).run P w = .ok (.slice (some ⟨w.heap.size, 0, none⟩) l.length (grownCap w l.length 0 e))
      (w.drew.alloc (.cells (uaz .u32 l (Builtin.zeroCells z.cells (grownCap w l.length 0 e - l.length))) e)) := by
    simp [Builtin.append_, run_underlying ht, sizeOf, typeInfo, zeroValue, hi, hz, Builtin.lenOf, hne, h63', h48, Question.forced, newRow, grownCap, hold, hfc', uaz]
  generalize Builtin.zeroCells z.cells (grownCap w l.length 0 e - l.length) = zz at hrun
  generalize hW : w.drew.alloc (.cells (uaz .u32 l zz) e) = W at hrun
  have hat : W.heap[w.heap.size]? = some (.cells (uaz .u32 l zz) e (0, 0)) := by rw [← hW]; exact heap_alloc_new w.drew _
  have gr : Gr h w h W := by
    rw [← hW]
    exact ⟨fun b o e => by rw [heap_alloc_old w.drew _ b (hs.lt (by rw [e]; exact fun h => nomatch h))]; exact hs b o e, ⟨rfl, rfl, rfl, by simp, fun b hb => heap_alloc_old w.drew _ b hb⟩, PH.le.refl h, fun _ hb => .inl hb⟩
  refine OpW.valD ?_ (hk _ (h.put w.heap.size _) W (gr.freeze hat hs.fresh (Nat.le_refl _)) ⟨w.heap.size, grownCap w l.length 0 e, zz, rfl, hs.fresh, Nat.le_refl _, PH.put_at .., grownCap_ge w l.length 0 e⟩)
  simp only [execOp, resolve, invoke, builtin, Sem.run_bind, Sem.run_pure, Result.andThen, List.map_toArray, List.map_cons, List.map_nil, ha, hb, hrun]
theorem thaw_close {h0 h h1 : PH} {w0 w : World} {r : Value} {l : List Nat} (g : Gr h0 w0 h w)
    (hr : ∃ b c z, r = .slice (some ⟨b, 0, none⟩) l.length c ∧ h b = none ∧ w.heap.size ≤ b ∧ h1 b = some (.cells (uaz .u32 l z) 51 (0, 0)) ∧ l.length ≤ c) :
    ∃ b c z, r = .slice (some ⟨b, 0, none⟩) l.length c ∧ h0 b = none ∧ w0.heap.size ≤ b ∧ h1 b = some (.cells (uaz .u32 l z) 51 (0, 0)) ∧ l.length ≤ c := by
  obtain ⟨b, c, z, e, hn, hlo, hb, hc⟩ := hr
  refine ⟨b, c, z, e, ?_, Nat.le_trans g.ext.size hlo, hb, hc⟩
  cases h0b : h0 b with
  | none => rfl
  | some o => rw [g.le _ _ h0b] at hn; cases hn
theorem OpW.indexStr' {t : TypeId} {x y : Operand} {k : IntKind} {s : ByteArray} {i : Nat} {v : Int} (ht : IsUnd P t .string) (hx : ev n ρ x = .string s) (hy : ev n ρ y = .int k i) (hi : (s[i]?).map (fun b => ((b.toNat : Nat) : Int)) = some v)
    (hk : K (upd ρ d (.int .u8 v)) w) : OpW P n ⟨some d, .index t x y, ty, pos, af, g⟩ ρ w K := by
  cases hb : s[i]? with
  | none => rw [hb] at hi; cases hi
  | some b =>
    rw [hb] at hi
    have := Option.some.inj hi
    subst this
    exact OpW.indexStr ht hx hy hb hk
end ops
end Go.Ear
