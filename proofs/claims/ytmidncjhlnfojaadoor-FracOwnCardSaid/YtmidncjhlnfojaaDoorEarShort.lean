/- About package frac: EarShort. -/
import Derived.Test.YtmidncjhlnfojaaDoorEarStore
set_option linter.all false
namespace Go.Ear
section
variable {P : Program} {n : Nat} {Q : Exit → Env → World → Prop} {ρ : Env} {w : World} {K : Env → World → Prop} {ops : Array Oper} {rest : List Oper} {d : Tmp} {ty : TypeId} {pos : String} {af : Array Edge} {g : Option (Nat × Bool)}
theorem mv {x : Operand} (h : Ops P n ops K rest (upd ρ d (ev n ρ x)) w) : Ops P n ops K (⟨some d, .move x, ty, pos, af, none⟩ :: rest) ρ w := oC (OpW.move rfl h)
theorem ma {x : Operand} (h : Ops P n ops K rest (upd ρ d (ev n ρ x)) w) : Ops P n ops K (⟨some d, .assign x, ty, pos, af, none⟩ :: rest) ρ w := oC (OpW.assign rfl h)
theorem sr {id : Nat} {l : List Oper} {y : Code} (h : Ops P n l.toArray (Wp P n y Q) l ρ w) : Wp P n (.seq (.region id l.toArray false) y) Q ρ w := wS (wR h)
theorem fg {c : Code} (l : List (Nat × Value)) (h : l.map (fun p => ρ p.1) = l.map (·.2)) (k : ∀ ρb, Wp P n c Q (upds ρb l) w) : Wp P n c Q ρ w := by
  refine Wp.forget l ?_ k
  clear k
  induction l with
  | nil => trivial
  | cons p l ih => simp only [List.map_cons, List.cons.injEq] at h; exact ⟨h.1, ih h.2⟩
theorem fo {os : List Oper} (l : List (Nat × Value)) (h : l.map (fun p => ρ p.1) = l.map (·.2)) (k : ∀ ρb, Ops P n ops K os (upds ρb l) w) : Ops P n ops K os ρ w := by
  refine Ops.forget l ?_ k
  clear k
  induction l with
  | nil => trivial
  | cons p l ih => simp only [List.map_cons, List.cons.injEq] at h; exact ⟨h.1, ih h.2⟩
theorem nm {ρ : Env} {l : List (Nat × Value)} (h : l.map (fun p => ρ p.1) = l.map (·.2)) : ρ = upds ρ l := by
  refine named ?_
  induction l with
  | nil => trivial
  | cons p l ih => simp only [List.map_cons, List.cons.injEq] at h; exact ⟨h.1, ih h.2⟩
theorem cF {f : FuncId} {xs : List Operand} {ts : Array TypeId} {vs : List Value} {h : PH} {Q : PH → Value → Prop} {dd : Option Tmp} (hf : IsFn P f)
    (hc : Calls P f vs.toArray w (Ret h w Q)) (hx : xs.map (ev n ρ) = vs) (hk : ∀ v h' w', Gr h w h' w' → Q h' v → K (updO ρ dd v) w') :
    OpW P n ⟨dd, .call ⟨.value (.func f), xs.toArray, ts⟩, ty, pos, af, g⟩ ρ w K := OpW.callF hf hx hc hk
theorem sA {dd : Option Tmp} {t : TypeId} {x y : Operand} {b off k : Nat} {arr : Array Value} {e : TypeId} {cs : List Value} (hs : IsSize P t k) (hl : cs.length = k)
    (hx : ev n ρ x = .pointer (some ⟨b, off, none⟩)) (hy : ev n ρ y = .agg cs.toArray) (h1 : cs.all Value.oneCell' = true) (hb : w.heap[b]? = some (.cells arr e (0, 0))) (hfit : Nat.ble (off + k) arr.size = true)
    (hk : ∀ w', Put w w' b (.cells (putIn arr off cs) e (0, 0)) → K (updO ρ dd undef) w') : OpW P n ⟨dd, .store t x y, ty, pos, af, g⟩ ρ w K :=
  OpW.storeA hs hl hx hy (List.all_eq_true.1 h1) hb (Nat.le_of_ble_eq_true hfit) hk
theorem sR {dd : Option Tmp} {t : TypeId} {x y : Operand} {b off k : Nat} {arr : Array Value} {e : TypeId} {cs : List Value} (hs : IsSize P t k) (hl : cs.length = k)
    (hx : ev n ρ x = .pointer (some ⟨b, off, none⟩)) (hy : ev n ρ y = .agg cs.toArray) (h1 : cs.all Value.oneCell' = true) (hb : w.heap[b]? = some (.cells arr e (0, 0))) (hfit : off + k ≤ arr.size)
    (hk : ∀ w', Put w w' b (.cells (putIn arr off cs) e (0, 0)) → K (updO ρ dd undef) w') : OpW P n ⟨dd, .store t x y, ty, pos, af, g⟩ ρ w K :=
  OpW.storeA hs hl hx hy (List.all_eq_true.1 h1) hb hfit hk
theorem s1 {dd : Option Tmp} {t : TypeId} {x y : Operand} {b off : Nat} {arr : Array Value} {e : TypeId} {v : Value} (hs : IsSize P t 1)
    (hx : ev n ρ x = .pointer (some ⟨b, off, none⟩)) (hy : ev n ρ y = v) (h1 : v.oneCell' = true) (hb : w.heap[b]? = some (.cells arr e (0, 0))) (ho : Nat.blt off arr.size = true)
    (hk : ∀ w', Put w w' b (.cells (arr.setIfInBounds off v) e (0, 0)) → K (updO ρ dd undef) w') : OpW P n ⟨dd, .store t x y, ty, pos, af, g⟩ ρ w K :=
  OpW.store1 hs hx hy h1 hb (by rw [blt_eq] at ho; exact of_decide_eq_true ho) hk
theorem lA {t : TypeId} {x : Operand} {b off k : Nat} {arr : Array Value} {e : TypeId} {fz : Nat × Nat} {cs : List Value} (hA : IsAgg P t true) (hs : IsSize P t k)
    (hx : ev n ρ x = .pointer (some ⟨b, off, none⟩)) (hb : w.heap[b]? = some (.cells arr e fz)) (hfit : Nat.ble (off + k) arr.size = true) (hv : cut arr off k = cs)
    (hk : K (upd ρ d (.agg cs.toArray)) w) : OpW P n ⟨some d, .load t x, ty, pos, af, g⟩ ρ w K := OpW.loadA hA hs hx hb (Nat.le_of_ble_eq_true hfit) hv hk
end
abbrev OB (h : PH) (w : World) (b : Nat) (o : Obj) : Prop := w.heap[b]? = some o ∧ h b = none
section
variable {h h' : PH} {w w' : World} {b b' : Nat} {o o' : Obj}
theorem Gr.kp (g : Gr h w h' w') (x : OB h w b o) : OB h' w' b o := ⟨g.ext.keep x.1, g.keepNone x.1 x.2⟩
theorem Put.kp (p : Put w w' b' o') (ne : b ≠ b') (x : OB h w b o) : OB h w' b o := ⟨(p.other b ne).trans x.1, x.2⟩
theorem Ow.kp {v : Value} (p : Ow w w' (Value.blk v)) (ne : Value.blk v ≠ some b) (x : OB h w b o) : OB h w' b o := ⟨Ow.keep p ne x.1, x.2⟩
theorem oz (fr : ∀ i, i ≠ b' → h i = none → h' i = none) (ne : b ≠ b') (x : OB h w b o) : OB h' w b o := ⟨x.1, fr b ne x.2⟩
theorem oy {v : Value} (fr : ∀ i, h i = none → Value.blk v ≠ some i → h' i = none) (ne : Value.blk v ≠ some b) (x : OB h w b o) : OB h' w b o := ⟨x.1, fr b x.2 ne⟩
end
theorem cxn {α : Type} : ([] : List α) = [] := rfl
theorem cx {α : Type} {a b : α} {l m : List α} (e : a = b) (f : l = m) : a :: l = b :: m := by rw [e, f]
abbrev eqv (v : Value) : PH → World → Value → Prop := fun _ _ x => x = v
end Go.Ear
