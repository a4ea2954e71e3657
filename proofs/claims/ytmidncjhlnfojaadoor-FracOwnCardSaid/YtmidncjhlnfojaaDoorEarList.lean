/- About package frac: EarList. -/
import Derived.Test.YtmidncjhlnfojaaDoorNumRep
set_option linter.all false
namespace Go.Ear
theorem cut_cell {arr : Array Value} {off k : Nat} {cs : List Value} (h : cut arr off k = cs) (i : Nat) (hi : i < k) {c : Value} (hc : cs[i]? = some c) : arr[off + i]? = some c := by
  subst h
  unfold cut at hc
  simpa [List.getElem?_take, List.getElem?_drop, hi] using hc
structure Rp (α : Type) where
  k : Nat
  R : PH → List Value → α → Prop
  len : ∀ {h cs x}, R h cs x → cs.length = k
  one : ∀ {h cs x}, R h cs x → ∀ c ∈ cs, c.oneCell' = true
  mono : ∀ {h h' cs x}, R h cs x → h.le h' → R h' cs x
section
variable {α : Type} {r : Rp α} {h h' : PH}
def Rows (r : Rp α) (h : PH) : List (List Value) → List α → Prop
  | [], [] => True
  | cs :: css, x :: l => r.R h cs x ∧ Rows r h css l
  | _, _ => False
theorem Rows.mono : ∀ {css : List (List Value)} {l : List α}, Rows r h css l → h.le h' → Rows r h' css l
  | [], [], _, _ => trivial
  | _ :: _, _ :: _, u, e => ⟨r.mono u.1 e, Rows.mono u.2 e⟩
theorem Rows.length : ∀ {css : List (List Value)} {l : List α}, Rows r h css l → css.length = l.length
  | [], [], _ => rfl
  | _ :: _, _ :: _, u => by simp [Rows.length u.2]
theorem Rows.lens : ∀ {css : List (List Value)} {l : List α}, Rows r h css l → ∀ cs ∈ css, cs.length = r.k
  | [], [], _, cs, hc => by cases hc
  | c :: _, _ :: _, u, cs, hc => by
    rcases List.mem_cons.1 hc with rfl | hc
    · exact r.len u.1
    · exact Rows.lens u.2 cs hc
theorem Rows.ones : ∀ {css : List (List Value)} {l : List α}, Rows r h css l → ∀ c ∈ css.flatten, c.oneCell' = true
  | [], [], _, c, hc => by simp at hc
  | cs :: _, _ :: _, u, c, hc => by
    rw [List.flatten_cons] at hc
    rcases List.mem_append.1 hc with hc | hc
    · exact r.one u.1 c hc
    · exact Rows.ones u.2 c hc
theorem Rows.at : ∀ {css : List (List Value)} {l : List α}, Rows r h css l → ∀ {i : Nat} {cs : List Value}, css[i]? = some cs → ∀ d, r.R h cs (l.getD i d)
  | [], [], _, i, cs, hi, d => by simp at hi
  | c :: _, x :: _, u, 0, cs, hi, d => by simp at hi; subst hi; exact u.1
  | c :: _, x :: _, u, i + 1, cs, hi, d => by simpa using Rows.at u.2 (by simpa using hi) d
theorem Rows.append : ∀ {css : List (List Value)} {l : List α} {css2 : List (List Value)} {l2 : List α}, Rows r h css l → Rows r h css2 l2 → Rows r h (css ++ css2) (l ++ l2)
  | [], [], _, _, _, v => v
  | _ :: _, _ :: _, _, _, u, v => ⟨u.1, Rows.append u.2 v⟩
theorem Rows.set : ∀ {css : List (List Value)} {l : List α}, Rows r h css l → ∀ (i : Nat) {cs : List Value} {x : α}, r.R h cs x → Rows r h (css.set i cs) (l.set i x)
  | [], [], _, _, _, _, _ => trivial
  | _ :: _, _ :: _, u, 0, _, _, v => ⟨v, u.2⟩
  | _ :: _, _ :: _, u, i + 1, _, _, v => ⟨u.1, Rows.set u.2 i v⟩
theorem Rows.take : ∀ {css : List (List Value)} {l : List α}, Rows r h css l → ∀ m : Nat, Rows r h (css.take m) (l.take m)
  | [], [], _, m => by simp [Rows]
  | _ :: _, _ :: _, u, 0 => trivial
  | _ :: _, _ :: _, u, m + 1 => ⟨u.1, Rows.take u.2 m⟩
theorem Rows.drop : ∀ {css : List (List Value)} {l : List α}, Rows r h css l → ∀ m : Nat, Rows r h (css.drop m) (l.drop m)
  | [], [], _, m => by simp [Rows]
  | _ :: _, _ :: _, u, 0 => u
  | _ :: _, _ :: _, u, m + 1 => Rows.drop u.2 m
theorem Rows.replicate {cs : List Value} {x : α} (u : r.R h cs x) : ∀ n, Rows r h (List.replicate n cs) (List.replicate n x)
  | 0 => trivial
  | n + 1 => ⟨u, Rows.replicate u n⟩
theorem Rows.cons {cs : List Value} {x : α} {css : List (List Value)} {l : List α} (u : r.R h cs x) (v : Rows r h css l) : Rows r h (cs :: css) (x :: l) := ⟨u, v⟩
theorem Rows.nil : Rows r h [] [] := trivial
def LR (r : Rp α) (h : PH) (v : Value) (l : List α) : Prop := ∃ css, Sl h r.k v css ∧ Rows r h css l
theorem LR.mono {v : Value} {l : List α} (u : LR r h v l) (e : h.le h') : LR r h' v l := by
  obtain ⟨css, a, b⟩ := u; exact ⟨css, a.mono e, b.mono e⟩
theorem LR.cast {v : Value} {l m : List α} (e : l = m) (u : LR r h v l) : LR r h v m := e ▸ u
theorem LR.nil (r : Rp α) (h : PH) (b : Option Addr) (c : Nat) : LR r h (.slice b 0 c) [] := ⟨[], Sl.nil h r.k b c, trivial⟩
theorem LR.shape {v : Value} {l : List α} (u : LR r h v l) : ∃ base cap, v = .slice base l.length cap ∧ l.length ≤ cap := by
  obtain ⟨css, a, b⟩ := u
  have := a.shape
  rwa [b.length] at this
theorem stab_LR (r : Rp α) (l : List α) : Stab fun h _ x => LR r h x l := fun _ _ _ _ _ g u => u.mono g.le
theorem LR.at {base : Option Addr} {len cap : Nat} {l : List α} (u : LR r h (.slice base len cap) l) (d0 : α) {i : Nat} (hi : i < l.length) :
    ∃ b off arr e fz cs, base = some ⟨b, off, none⟩ ∧ h b = some (.cells arr e fz) ∧ cut arr (off + i * r.k) r.k = cs ∧ off + i * r.k + r.k ≤ arr.size ∧ r.R h cs (l.getD i d0) := by
  obtain ⟨css, a, b⟩ := u
  have hl : i < css.length := by rw [b.length]; exact hi
  have hc : css[i]? = some css[i] := List.getElem?_eq_getElem hl
  obtain ⟨bb, off, cap', arr, e, fz, ev, hb, _, hcut, _, hf⟩ := a.at hc
  cases ev
  exact ⟨bb, off, arr, e, fz, _, rfl, hb, hcut, hf, b.at hc d0⟩
theorem LR.take {base : Option Addr} {len cap : Nat} {l : List α} (u : LR r h (.slice base len cap) l) (m : Nat) (hm : m ≤ l.length) : LR r h (.slice base m cap) (l.take m) := by
  obtain ⟨css, a, b⟩ := u
  exact ⟨css.take m, a.take m (by rw [b.length]; exact hm), b.take m⟩
theorem LR.isNone {base : Option Addr} {len cap : Nat} {l : List α} (u : LR r h (.slice base len cap) l) (hb : base.isNone = true) : l = [] := by
  cases l with
  | nil => rfl
  | cons x l =>
    obtain ⟨b, off, _, _, _, _, e, _⟩ := u.at x (i := 0) (by simp)
    subst e; cases hb
def RelA (r : Rp α) (h : PH) (arr : Array Value) (l : List α) : Prop := ∃ css z, arr.toList = css.flatten ++ z ∧ Rows r h css l
theorem RelA.mono {arr : Array Value} {l : List α} (u : RelA r h arr l) (e : h.le h') : RelA r h' arr l := by
  obtain ⟨css, z, a, b⟩ := u; exact ⟨css, z, a, b.mono e⟩
theorem RelA.cast {arr : Array Value} {l m : List α} (e : l = m) (u : RelA r h arr l) : RelA r h arr m := e ▸ u
theorem RelA.size {arr : Array Value} {l : List α} (u : RelA r h arr l) : l.length * r.k ≤ arr.size := by
  obtain ⟨css, z, a, b⟩ := u
  have := congrArg List.length a
  rw [List.length_append, flatten_length b.lens, b.length] at this
  simp at this; omega
theorem cut_flat {k : Nat} : ∀ (css : List (List Value)) (z : List Value), (∀ cs ∈ css, cs.length = k) → ∀ i cs, css[i]? = some cs → ((css.flatten ++ z).drop (i * k)).take k = cs
  | [], z, _, i, cs, hi => by simp at hi
  | c :: css, z, hk, 0, cs, hi => by
    simp at hi; subst hi
    have hc := hk c (List.mem_cons_self ..)
    simp [List.append_assoc, List.take_left' hc]
  | c :: css, z, hk, i + 1, cs, hi => by
    have hc := hk c (List.mem_cons_self ..)
    rw [List.flatten_cons, List.append_assoc, Nat.add_mul, Nat.one_mul, Nat.add_comm, ← List.drop_drop, List.drop_left' hc]
    exact cut_flat css z (fun x hx => hk x (List.mem_cons_of_mem _ hx)) i cs (by simpa using hi)
theorem RelA.at {arr : Array Value} {l : List α} (u : RelA r h arr l) (d0 : α) {i : Nat} (hi : i < l.length) :
    ∃ cs, cut arr (i * r.k) r.k = cs ∧ i * r.k + r.k ≤ arr.size ∧ r.R h cs (l.getD i d0) := by
  have hs := u.size
  obtain ⟨css, z, a, b⟩ := u
  have hl : i < css.length := by rw [b.length]; exact hi
  have hc : css[i]? = some css[i] := List.getElem?_eq_getElem hl
  refine ⟨css[i], ?_, ?_, b.at hc d0⟩
  · unfold cut; rw [a]; exact cut_flat css z b.lens i _ hc
  · have : (i + 1) * r.k ≤ l.length * r.k := Nat.mul_le_mul_right _ hi
    rw [Nat.add_mul, Nat.one_mul] at this; omega
theorem LR.own {b cap len : Nat} {arr : Array Value} {l : List α} {e : TypeId} {fz : Nat × Nat} (hb : h b = some (.cells arr e fz)) (u : RelA r h arr l) (hl : l.length = len) (hc : len ≤ cap) : LR r h (.slice (some ⟨b, 0, none⟩) len cap) l := by
  subst hl
  have hs := u.size
  obtain ⟨css, z, a, bb⟩ := u
  refine ⟨css, ⟨some ⟨b, 0, none⟩, cap, by rw [bb.length], by rw [bb.length]; exact hc, bb.lens, .inr ⟨b, 0, arr, e, fz, rfl, hb, by rw [bb.length]; omega, ?_⟩⟩, bb⟩
  intro i cs hi
  unfold cut
  rw [a, Nat.zero_add]
  exact cut_flat css z bb.lens i cs hi
theorem RelA.lit {css : List (List Value)} {l : List α} (u : Rows r h css l) : RelA r h css.flatten.toArray l := ⟨css, [], by simp, u⟩
theorem putIn_toList : ∀ (cs : List Value) (arr : Array Value) (off : Nat), off + cs.length ≤ arr.size → (putIn arr off cs).toList = arr.toList.take off ++ cs ++ arr.toList.drop (off + cs.length)
  | [], arr, off, _ => by simp [putIn]
  | c :: cs, arr, off, hf => by
    simp only [List.length_cons] at hf
    have hlt : off < arr.toList.length := by simp; omega
    rw [putIn, putIn_toList cs _ _ (by simp; omega), Array.toList_setIfInBounds]
    rw [List.take_succ_eq_append_getElem (by simpa using hlt), List.take_set_of_le (Nat.le_refl _), List.drop_set_of_lt (by omega)]
    simp [Nat.add_comm, Nat.add_left_comm]
theorem flat_set {k : Nat} : ∀ (css : List (List Value)) (z : List Value), (∀ cs ∈ css, cs.length = k) → ∀ i cs, i < css.length → cs.length = k →
    (css.set i cs).flatten ++ z = (css.flatten ++ z).take (i * k) ++ cs ++ (css.flatten ++ z).drop (i * k + k)
  | [], z, _, i, cs, hi, _ => by simp at hi
  | c :: css, z, hk, 0, cs, hi, hl => by
    have hc := hk c (List.mem_cons_self ..)
    simp only [List.set_cons_zero, List.flatten_cons, Nat.zero_mul, List.take_zero, List.nil_append, Nat.zero_add, List.append_assoc]
    rw [List.drop_left' hc]
  | c :: css, z, hk, i + 1, cs, hi, hl => by
    have hc := hk c (List.mem_cons_self ..)
    have ih := flat_set css z (fun x hx => hk x (List.mem_cons_of_mem _ hx)) i cs (by simpa using hi) hl
    simp only [List.set_cons_succ, List.flatten_cons, List.append_assoc] at ih ⊢
    rw [ih, Nat.add_mul, Nat.one_mul]
    rw [show i * k + k = c.length + i * k by omega, List.take_length_add_append, show c.length + i * k + k = c.length + (i * k + k) by omega, List.drop_length_add_append]
    rw [show i * k + k = c.length + i * k by omega]
    simp [List.append_assoc]
theorem RelA.set {arr : Array Value} {l : List α} (u : RelA r h arr l) {i : Nat} (hi : i < l.length) {cs : List Value} {x : α} (v : r.R h cs x) : RelA r h (putIn arr (i * r.k) cs) (l.set i x) := by
  have hs := u.size
  obtain ⟨css, z, a, b⟩ := u
  have hc := r.len v
  have : (i + 1) * r.k ≤ l.length * r.k := Nat.mul_le_mul_right _ hi
  rw [Nat.add_mul, Nat.one_mul] at this
  refine ⟨css.set i cs, z, ?_, b.set i v⟩
  rw [putIn_toList cs arr _ (by omega), a, flat_set css z b.lens i cs (by rw [b.length]; exact hi) hc, hc]
theorem RelA.made {z : Value} {x : α} (n : Nat) {s : Nat} (hz : z.cells.size = s) (hk : s = r.k) (u : r.R h z.cells.toList x) : RelA r h (madeCells z.cells (n * s)) (List.replicate n x) := by
  subst hz
  rw [made_list]
  exact ⟨List.replicate n z.cells.toList, [], by simp, Rows.replicate u n⟩
def OwnL (r : Rp α) (lo : Nat) (h : PH) (w : World) (e : TypeId) (v : Value) (l : List α) : Prop := ∃ css, Own lo h w e r.k v l.length css.flatten ∧ Rows r h css l
theorem OwnL.nil (r : Rp α) (lo : Nat) (h : PH) (w : World) (e : TypeId) : OwnL r lo h w e (.slice none 0 0) [] := ⟨[], Own.nil lo h w e r.k, trivial⟩
theorem OwnL.cast {lo : Nat} {w : World} {e : TypeId} {v : Value} {l m : List α} (q : l = m) (u : OwnL r lo h w e v l) : OwnL r lo h w e v m := q ▸ u
theorem OwnL.gr {lo : Nat} {w w' : World} {e : TypeId} {v : Value} {l : List α} (u : OwnL r lo h w e v l) (g : Gr h w h' w') : OwnL r lo h' w' e v l := by
  obtain ⟨css, a, b⟩ := u; exact ⟨css, a.gr g, b.mono g.le⟩
theorem OwnL.put {lo : Nat} {w w' : World} {e : TypeId} {v : Value} {l : List α} {b : Nat} {o : Obj} (u : OwnL r lo h w e v l) (p : Put w w' b o) (hn : Value.blk v ≠ some b) : OwnL r lo h w' e v l := by
  obtain ⟨css, a, bb⟩ := u
  exact ⟨css, a.keep fun i hi _ => ⟨p.other i (fun e => hn (by rw [hi, e])), fun x => x⟩, bb⟩
theorem OwnL.freezeOther {lo : Nat} {w : World} {e : TypeId} {v : Value} {l : List α} (u : OwnL r lo h w e v l) {b : Nat} (le : h.le h') (fr : ∀ i, i ≠ b → h i = none → h' i = none) (hn : Value.blk v ≠ some b) : OwnL r lo h' w e v l := by
  obtain ⟨css, a, bb⟩ := u
  exact ⟨css, a.keep fun i hi _ => ⟨rfl, fun x => fr i (fun e => hn (by rw [hi, e])) x⟩, bb.mono le⟩
theorem OwnL.lt {lo : Nat} {w : World} {e : TypeId} {v : Value} {l : List α} (u : OwnL r lo h w e v l) {b : Nat} (hb : Value.blk v = some b) : b < w.heap.size ∧ h b = none ∧ lo ≤ b := by
  obtain ⟨css, a, _⟩ := u
  rcases a.2 with ⟨rfl, _⟩ | ⟨b', cap, arr, rfl, h1, h2, h3, _⟩
  · cases hb
  · simp [Value.blk] at hb; subst hb
    exact ⟨(Array.getElem?_eq_some_iff.1 h3).1, h2, h1⟩
theorem OwnL.ne_new {lo : Nat} {w : World} {e : TypeId} {v : Value} {l : List α} (u : OwnL r lo h w e v l) {b : Nat} (hb : w.heap.size ≤ b) : Value.blk v ≠ some b := fun e => by
  have := (u.lt e).1; omega
theorem OwnL.ow {lo : Nat} {h0 : PH} {w0 w w' : World} {e : TypeId} {v : Value} {l : List α} (u : OwnL r lo h w e v l) (g : Gr h0 w0 h w) (hlo : w0.heap.size ≤ lo) (p : Ow w w' (Value.blk v)) : Gr h0 w0 h w' :=
  g.ow p fun i hi => ⟨(u.lt hi).2.1, Nat.le_trans hlo (u.lt hi).2.2⟩
theorem OwnL.shape {lo : Nat} {w : World} {e : TypeId} {v : Value} {l : List α} (u : OwnL r lo h w e v l) : ∃ base cap, v = .slice base l.length cap ∧ l.length ≤ cap := by
  obtain ⟨css, a, _⟩ := u
  rcases a.2 with ⟨rfl, hl⟩ | ⟨b', cap, arr, rfl, _, _, _, h4, _⟩
  · exact ⟨none, 0, by rw [hl], by omega⟩
  · exact ⟨_, cap, rfl, h4⟩
theorem OwnL.freeze {lo : Nat} {h0 : PH} {w0 w : World} {e : TypeId} {v : Value} {l : List α} (g : Gr h0 w0 h w) (hlo : w0.heap.size ≤ lo) (u : OwnL r lo h w e v l) :
    ∃ h', Gr h0 w0 h' w ∧ h.le h' ∧ (∀ i, h i = none → Value.blk v ≠ some i → h' i = none) ∧ LR r h' v l := by
  obtain ⟨css, a, b⟩ := u
  obtain ⟨h', g', le, fr, sl⟩ := Own.freeze g hlo b.lens b.length a
  exact ⟨h', g', le, fun i hi hn => fr i hi (fun e => hn e.symm), css, sl, b.mono le⟩
theorem OwnL.block {lo : Nat} {w : World} {e : TypeId} {v : Value} {l : List α} (u : OwnL r lo h w e v l) (hne : l ≠ []) :
    ∃ b cap arr, v = .slice (some ⟨b, 0, none⟩) l.length cap ∧ lo ≤ b ∧ h b = none ∧ w.heap[b]? = some (.cells arr e (0, 0)) ∧ l.length ≤ cap ∧ RelA r h arr l := by
  obtain ⟨css, a, b⟩ := u
  rcases a.2 with ⟨rfl, hl⟩ | ⟨bb, cap, arr, rfl, h1, h2, h3, h4, h5, h6⟩
  · exact absurd (List.eq_nil_of_length_eq_zero hl) hne
  · exact ⟨bb, cap, arr, rfl, h1, h2, h3, h4, css, arr.toList.drop (l.length * r.k), by rw [← h6, List.take_append_drop], b⟩
end
section ops
variable {P : Program} {n : Nat} {ρ : Env} {w : World} {K : Env → World → Prop} {d : Tmp} {ty : TypeId} {pos : String} {af : Array Edge} {g : Option (Nat × Bool)} {α : Type} {r : Rp α}
theorem OpW.indexL {h : PH} {t e : TypeId} {x y : Operand} {k : IntKind} {base : Option Addr} {len cap j : Nat} {l : List α} {i : Int} (d0 : α) {s : Nat} (hsk : s = r.k) (ht : IsUnd P t (.slice e)) (hs : IsSize P e s) (hx : ev n ρ x = .slice base len cap)
    (u : LR r h (.slice base len cap) l) (hy : ev n ρ y = .int k i) (hj : j < l.length) (hi : i = (j : Int))
    (hk : ∀ b o arr e' fz cs, h b = some (.cells arr e' fz) → cut arr o s = cs → o + s ≤ arr.size → r.R h cs (l.getD j d0) → K (upd ρ d (.pointer (some ⟨b, o, none⟩))) w) :
    OpW P n ⟨some d, .indexAddr t x y, ty, pos, af, g⟩ ρ w K := by
  subst hsk
  obtain ⟨b, off, arr, e', fz, cs, rfl, hb, hv, hf, hr⟩ := u.at d0 hj
  obtain ⟨_, _, he, _⟩ := u.shape
  cases he
  exact iA ht hs hx hy (by omega) (by rw [hi]; simp) (hk b (off + j * r.k) arr e' fz cs hb hv hf hr)
theorem OpW.appendL {lo : Nat} {h : PH} {t e : TypeId} {i : TypeInfo} {z : Value} {a b : Operand} {v x : Value} {l m : List α}
    (ht : P.underlying t = some (.slice e)) (hi : P.info? e = some i) (hz : i.zero = some z) (hzs : z.cells.size = i.size) (hik : i.size = r.k)
    (hs : Sat h w) (hlo : lo ≤ w.heap.size) (ha : ev n ρ a = v) (hb : ev n ρ b = x) (own : OwnL r lo h w e v l) (u : LR r h x m)
    (h63 : l.length + m.length ≤ 9223372036854775807) (hbb : (l.length + m.length) * i.bytes ≤ 140737488355328)
    (hk : ∀ v' w', OwnL r lo h w' e v' (l ++ m) → Ow w w' (Value.blk v) → (∀ b, Value.blk v' = some b → Value.blk v = some b ∨ w.heap.size ≤ b) → K (upd ρ d v') w') :
    OpW P n ⟨some d, .call ⟨.builtin .append, #[a, b], #[t, t]⟩, ty, pos, af, g⟩ ρ w K := by
  obtain ⟨css, o, rr⟩ := own
  obtain ⟨css2, s2, rr2⟩ := u
  rw [← hik] at o s2
  have rd := s2.reads hs
  rw [rr2.length] at rd
  refine OpW.append (P := P) (ty := ty) ht hi hz hzs hs hlo ha hb o rd rr2.ones h63 hbb ?_
  intro v' w' o' ow hbl
  refine hk v' w' ⟨css ++ css2, ?_, rr.append rr2⟩ ow hbl
  rw [List.flatten_append, List.length_append, ← hik]; exact o'
end ops
theorem blk_ne {v v' : Value} {w : World} {b : Nat} {o : Obj} (hbl : ∀ b, Value.blk v' = some b → Value.blk v = some b ∨ w.heap.size ≤ b) (hn : Value.blk v ≠ some b) (hb : w.heap[b]? = some o) : Value.blk v' ≠ some b := fun e => by
  rcases hbl b e with h | h
  · exact hn h
  · have := blk_lt hb; omega
theorem Ow.keep {w w' : World} {v : Value} {b : Nat} {o : Obj} (p : Ow w w' (Value.blk v)) (hn : Value.blk v ≠ some b) (hb : w.heap[b]? = some o) : w'.heap[b]? = some o := by
  rw [p.block b (blk_lt hb) (fun e => hn e.symm)]; exact hb
def fr0 : Fr := ⟨false, [], []⟩
theorem F.open {h : PH} {cs : List Value} {f : Fr} (u : F h (.agg cs.toArray) f) : ∃ b1 c1 b2 c2, cs = [.bool f.neg, .slice b1 f.n.length c1, .slice b2 f.d.length c2] ∧ f.n.length ≤ c1 ∧ f.d.length ≤ c2 ∧
    U h (.slice b1 f.n.length c1) f.n ∧ U h (.slice b2 f.d.length c2) f.d := by
  obtain ⟨b1, c1, b2, c2, e, h1, h2, u1, u2⟩ := u.shape
  refine ⟨b1, c1, b2, c2, ?_, h1, h2, u1, u2⟩
  cases cs
  · simp at e
  · simpa using e
def rpF : Rp Fr where
  k := 3
  R := fun h cs f => F h (.agg cs.toArray) f
  len := fun u => by obtain ⟨_, _, _, _, rfl, _⟩ := F.open u; rfl
  one := fun u c hc => by
    obtain ⟨_, _, _, _, rfl, _⟩ := F.open u
    simp only [List.mem_cons, List.not_mem_nil, or_false] at hc
    rcases hc with rfl | rfl | rfl <;> rfl
  mono := fun u e => F.mono u e
def rpK : Rp Rat where
  k := 3
  R := fun h cs q => Kn h (.agg cs.toArray) q
  len := fun u => rpF.len u
  one := fun u => rpF.one u
  mono := fun u e => F.mono u e
theorem Rows.comap {h : PH} : ∀ {css : List (List Value)} {l : List Rat}, Rows rpK h css l → Rows rpF h css (l.map frK)
  | [], [], _ => trivial
  | _ :: _, _ :: _, u => ⟨u.1, Rows.comap u.2⟩
theorem LR.toF {h : PH} {v : Value} {l : List Rat} (u : LR rpK h v l) : LR rpF h v (l.map frK) := by
  obtain ⟨css, a, b⟩ := u; exact ⟨css, a, b.comap⟩
def rpL {α : Type} (r : Rp α) : Rp (List α) where
  k := 1
  R := fun h cs l => ∃ v, cs = [v] ∧ LR r h v l
  len := fun ⟨_, e, _⟩ => by rw [e]; rfl
  one := fun ⟨v, e, u⟩ c hc => by
    subst e
    obtain ⟨b, cp, rfl, _⟩ := u.shape
    simp at hc; subst hc; rfl
  mono := fun ⟨v, e, u⟩ le => ⟨v, e, u.mono le⟩
def rpI : Rp Int where
  k := 1
  R := fun _ cs n => cs = [.int .i64 n] ∧ -9223372036854775808 ≤ n ∧ n ≤ 9223372036854775807
  len := fun e => by rw [e.1]; rfl
  one := fun e c hc => by rw [e.1] at hc; simp at hc; subst hc; rfl
  mono := fun e _ => e
def rpB : Rp Bool where
  k := 1
  R := fun _ cs n => cs = [.bool n]
  len := fun e => by rw [e]; rfl
  one := fun e c hc => by rw [e] at hc; simp at hc; subst hc; rfl
  mono := fun e _ => e
theorem Kn.mk {h : PH} {s : Bool} {x y : Value} {n : Nat} {l : List Nat} {q : Rat} (a : N h x n) (b : U h y l) (hs : s = decide (q.num < 0)) (hn : n = q.num.natAbs) (hd : l = if q.den = 1 then [] else digs q.den) : Kn h (.agg #[.bool s, x, y]) q := by
  subst hs hn hd; exact ⟨x, y, rfl, a, b⟩
theorem floor_fin {q : Rat} {b : Bool} {m : Nat} (h : (q.num < 0 ∧ 0 < q.num.natAbs % q.den ∧ m = q.num.natAbs / q.den + 1) ∨ (¬ (q.num < 0 ∧ 0 < q.num.natAbs % q.den) ∧ m = q.num.natAbs / q.den))
    (hb : b = (decide (q.num < 0) && decide (0 < m))) : b = decide ((q.floor : Rat).num < 0) ∧ m = (q.floor : Rat).num.natAbs := by
  rcases h with ⟨h1, h2, rfl⟩ | ⟨h1, rfl⟩
  · rw [floor_neg h1 h2]
    generalize q.num.natAbs / q.den = m at *
    refine ⟨?_, by omega⟩
    rw [hb, Bool.eq_iff_iff]
    simp only [Bool.and_eq_true, decide_eq_true_eq]
    omega
  · rw [floor_pos h1]
    generalize q.num.natAbs / q.den = m at *
    unfold sgn
    subst hb
    by_cases hn : q.num < 0
    · simp only [hn, decide_true, if_true, Bool.true_and]
      refine ⟨?_, by omega⟩
      rw [Bool.eq_iff_iff, decide_eq_true_eq, decide_eq_true_eq]; omega
    · simp only [hn, decide_false, Bool.false_eq_true, if_false, Bool.false_and]
      refine ⟨?_, by omega⟩
      rw [eq_comm, decide_eq_false_iff_not]; omega
theorem len_pos {n : Nat} : 0 < (digs n).length ↔ 0 < n := by
  have := sz_eq_zero (n := n)
  unfold sz at this; omega
end Go.Ear
namespace Go.Ear
section
variable {α β : Type} {r : Rp α} {r2 : Rp β} {h h' : PH}
theorem LR.at' {base : Option Addr} {len cap : Nat} {l : List α} (u : LR r h (.slice base len cap) l) (d0 : α) {s : Nat} (hsk : s = r.k) {i : Nat} (hi : i < l.length) :
    ∃ b off arr e fz cs, base = some ⟨b, off, none⟩ ∧ h b = some (.cells arr e fz) ∧ cut arr (off + i * s) s = cs ∧ off + i * s + s ≤ arr.size ∧ r.R h cs (l.getD i d0) := by
  subst hsk; exact u.at d0 hi
theorem RelA.at' {arr : Array Value} {l : List α} (u : RelA r h arr l) (d0 : α) {s : Nat} (hsk : s = r.k) {i : Nat} (hi : i < l.length) :
    ∃ cs, cut arr (i * s) s = cs ∧ i * s + s ≤ arr.size ∧ r.R h cs (l.getD i d0) := by
  subst hsk; exact u.at d0 hi
theorem RelA.storeA {w w' : World} {b off : Nat} {arr : Array Value} {e : TypeId} {l : List α} (u : RelA r h arr l) {cs : List Value} (q : Put w w' b (.cells (putIn arr off cs) e (0, 0))) {i : Nat} (ho : off = i * r.k) (hi : i < l.length) {x : α} (v : r.R h cs x) :
    ∃ arr', w'.heap[b]? = some (.cells arr' e (0, 0)) ∧ RelA r h arr' (l.set i x) := by
  subst ho; exact ⟨_, q.at_, u.set hi v⟩
theorem RelA.store1 {w w' : World} {b off : Nat} {arr : Array Value} {e : TypeId} {l : List α} (u : RelA r h arr l) {c : Value} (q : Put w w' b (.cells (arr.setIfInBounds off c) e (0, 0))) {i : Nat} (ho : off = i * r.k) (hi : i < l.length) {x : α} (v : r.R h [c] x) :
    ∃ arr', w'.heap[b]? = some (.cells arr' e (0, 0)) ∧ RelA r h arr' (l.set i x) := by
  subst ho; exact ⟨_, q.at_, u.set hi v⟩
theorem RelA.fit {arr : Array Value} {l : List α} (u : RelA r h arr l) {s : Nat} (hsk : s = r.k) {i : Nat} (hi : i < l.length) : i * s + s ≤ arr.size := by
  obtain ⟨_, _, h2, _⟩ := u.at' (l.getD 0 (l[i])) hsk hi; exact h2
theorem OwnL.ow2 {lo : Nat} {w w' : World} {e : TypeId} {v v2 : Value} {l : List α} (u : OwnL r lo h w e v2 l) (p : Ow w w' (Value.blk v)) (hn : ∀ b, Value.blk v2 = some b → Value.blk v ≠ some b) : OwnL r lo h w' e v2 l := by
  obtain ⟨css, a, bb⟩ := u
  exact ⟨css, a.keep fun i hi hlt => ⟨p.block i hlt (fun e => hn i hi e.symm), fun x => x⟩, bb⟩
theorem OwnL.nn {lo : Nat} {w : World} {e : TypeId} {v v' v2 : Value} {l : List α} (u : OwnL r lo h w e v2 l) (hbl : ∀ b, Value.blk v' = some b → Value.blk v = some b ∨ w.heap.size ≤ b) (hn : ∀ b, Value.blk v2 = some b → Value.blk v ≠ some b) :
    ∀ b, Value.blk v2 = some b → Value.blk v' ≠ some b := fun b hb e => by
  rcases hbl b e with h | h
  · exact hn b hb h
  · have := (u.lt hb).1; omega
theorem nn_symm {v v2 : Value} (hn : ∀ b, Value.blk v2 = some b → Value.blk v ≠ some b) : ∀ b, Value.blk v = some b → Value.blk v2 ≠ some b := fun b hb e => hn b e hb
theorem nn_nil {v : Value} {l c : Nat} : ∀ b, Value.blk (.slice none l c) = some b → Value.blk v ≠ some b := fun b hb => by cases hb
theorem ne_nil {b l c : Nat} : Value.blk (.slice none l c) ≠ some b := fun e => by cases e
theorem Kz (h : PH) : Kn h (.agg #[.bool false, .slice none 0 0, .slice none 0 0]) 0 := Kn.mk (Nnil h none 0) (U.nil h none 0) rfl rfl rfl
theorem Fz (h : PH) : F h (.agg #[.bool false, .slice none 0 0, .slice none 0 0]) fr0 := F.mk (U.nil h none 0) (U.nil h none 0)
theorem frK_zero : frK 0 = fr0 := by unfold frK fr0; simp [digs_zero]
theorem LR.own' {b cap len : Nat} {arr : Array Value} {l : List α} {e : TypeId} {fz : Nat × Nat} (hb : h b = some (.cells arr e fz)) {css : List (List Value)} (ha : arr = css.flatten.toArray) (u : Rows r h css l) (hl : l.length = len) (hc : len ≤ cap) : LR r h (.slice (some ⟨b, 0, none⟩) len cap) l := by
  subst ha; exact LR.own hb (RelA.lit u) hl hc
end
end Go.Ear
namespace Go.Ear
theorem OwnL.freezeOwn {α : Type} {r : Rp α} {h h' : PH} {lo : Nat} {w : World} {e : TypeId} {v v2 : Value} {l : List α} (u : OwnL r lo h w e v2 l) (le : h.le h') (fr : ∀ i, h i = none → Value.blk v ≠ some i → h' i = none) (nn : ∀ b, Value.blk v2 = some b → Value.blk v ≠ some b) : OwnL r lo h' w e v2 l := by
  obtain ⟨css, a, bb⟩ := u
  exact ⟨css, a.keep fun i hi _ => ⟨rfl, fun x => fr i x (nn i hi)⟩, bb.mono le⟩
theorem Qn.open {h : PH} {cs : List Value} {q : Rat} (u : Qn h (.agg cs.toArray) q) : ∃ b1 c1 b2 c2, cs = [.bool (decide (q.num < 0)), .slice b1 (digs q.num.natAbs).length c1, .slice b2 (digs q.den).length c2] ∧ (digs q.num.natAbs).length ≤ c1 ∧ (digs q.den).length ≤ c2 ∧
    N h (.slice b1 (digs q.num.natAbs).length c1) q.num.natAbs ∧ N h (.slice b2 (digs q.den).length c2) q.den := F.open u
def rpQ : Rp Rat where
  k := 3
  R := fun h cs q => Qn h (.agg cs.toArray) q
  len := fun u => rpF.len u
  one := fun u => rpF.one u
  mono := fun u e => F.mono u e
end Go.Ear
namespace Go.Ear
theorem cmpN_one {d : Nat} : cmpN d 1 = 0 ↔ d = 1 := by
  have h1 := cmpN_neg (a := d) (b := 1)
  have h2 := cmpN_pos (a := d) (b := 1)
  constructor
  · intro h; omega
  · rintro rfl; exact cmpN_eq 1
end Go.Ear
namespace Go.Ear
theorem Nnil' {h : PH} {m : Nat} (e : m = 0) : N h (.slice none (digs m).length 0) m := by
  subst e
  have := Nnil h none 0
  rwa [show (digs 0).length = 0 by rw [digs_zero]; rfl]
theorem nilN {m : Nat} (e : m = 0) : Value.slice none 0 0 = Value.slice none (digs m).length 0 := by
  subst e
  rw [show (digs 0).length = 0 by rw [digs_zero]; rfl]
end Go.Ear
