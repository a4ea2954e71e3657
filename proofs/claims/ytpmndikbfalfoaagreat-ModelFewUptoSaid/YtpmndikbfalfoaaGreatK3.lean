/- K3: a part of the proofs about package model: how the program's functions run, and what they compute, for every input. -/
import Derived.Test.YtpmndikbfalfoaaGreatK2
set_option linter.all false
set_option linter.unusedVariables false
namespace Go.E3
open Go Go.Ear
class RflE {α : Sort _} (a : α) (b : outParam α) : Prop where h : a = b
instance {α : Sort _} {a : α} : RflE a a := ⟨rfl⟩
class TS (P : Program) (t : TypeId) (e : outParam TypeId) : Prop where h : IsUnd P t (.slice e)
class TZ (P : Program) (t : TypeId) (k : outParam Nat) : Prop where h : IsSize P t k
class TA (P : Program) (t : TypeId) (b : outParam Bool) : Prop where h : IsAgg P t b
class TI (P : Program) (t : TypeId) (k : outParam IntKind) : Prop where h : IsUnd P t (.int k)
class TD (P : Program) (t : TypeId) : Prop where h : ∃ d, IsUnd P t d
class TB (P : Program) (t : TypeId) : Prop where h : IsUnd P t .bool
class FA (P : Program) (t : TypeId) (i : Nat) (o : outParam Nat) : Prop where
  h : ∃ (fs : Array Field) (f : Field) (sz : Nat), IsUnd P t (.struct fs) ∧ fs[i]? = some f ∧ IsSize P f.type sz ∧ sz ≠ 0 ∧ f.offset = o
class ZC (P : Program) (t : TypeId) (l : outParam (List SV)) : Prop where h : ∃ z, IsZero P t z ∧ ∀ {h}, denL h l z.cells.toList
structure El (P : Program) (e : TypeId) (k b : Nat) (z : Value) (i : TypeInfo) : Prop where
  hi : P.info? e = some i
  hz : i.zero = some z
  hc : z.cells.size = i.size
  hk : i.size = k
  hb : i.bytes = b
class RT (P : Program) (e : TypeId) (α : outParam Type) (r : outParam (Rp α)) (bb : outParam Nat) (d : outParam α) : Prop where
  k : IsSize P e r.k
  e : ∃ z i, El P e r.k bb z i ∧ ∀ h, r.R h z.cells.toList d
class BT (P : Program) (t : TypeId) (places : outParam (List (Nat × Nat))) (zl : outParam (List SV)) : Prop where
  h : ∃ fs z, IsUnd P t (.struct fs) ∧ IsZero P t z ∧ (∀ w, (fs.mapM fun (f : Field) => (do pure (f.offset, ← sizeOf f.type) : Sem (Nat × Nat))).run P w = .ok places.toArray w) ∧ ∀ {h}, denL h zl z.cells.toList
theorem blt_of {a b : Nat} (h : Nat.ble b a = false) : Nat.blt a b = true := by
  rw [blt_eq]; apply decide_eq_true
  rcases Nat.lt_or_ge a b with q | q
  · exact q
  · rw [Nat.ble_eq_true_of_le q] at h; cases h
class LkE (env : EL) (t : Nat) (S : outParam SV) : Prop where h : (t, S) ∈ env
instance LkE.hd {env : EL} {t : Nat} {S : SV} : LkE ((t, S) :: env) t S := ⟨List.mem_cons_self ..⟩
instance (priority := low) LkE.tl {env : EL} {t d : Nat} {S X : SV} [i : LkE env t S] : LkE ((d, X) :: env) t S := ⟨List.mem_cons_of_mem _ i.h⟩
class LkT (loc env : EL) (t : Nat) (S : outParam SV) : Prop where h : (t, S) ∈ loc ∨ (t, S) ∈ env
instance {loc env : EL} {t : Nat} {S : SV} [i : LkE loc t S] : LkT loc env t S := ⟨.inl i.h⟩
instance (priority := low) {loc env : EL} {t : Nat} {S : SV} [i : LkE env t S] : LkT loc env t S := ⟨.inr i.h⟩
class Im (c d : Bool) : Prop where h : c = true → d = true
instance {c : Bool} : Im c c := ⟨fun x => x⟩
instance {a b c : Bool} [i : Im a c] : Im (a && b) c := ⟨fun x => i.h (Bool.and_eq_true_iff.1 x).1⟩
instance {a b c : Bool} [i : Im b c] : Im (a && b) c := ⟨fun x => i.h (Bool.and_eq_true_iff.1 x).2⟩
instance {c : Bool} : Im c true := ⟨fun _ => rfl⟩
class Un (c : Bool) (S : SV) (T : outParam SV) : Prop where h : c = true → ∀ {h v}, den h S v → den h T v
instance {c d : Bool} {S : SV} [i : Im c d] : Un c (.cn d S) S := ⟨fun x _ _ u => u.1 (i.h x)⟩
instance (priority := low) {c : Bool} {S : SV} : Un c S S := ⟨fun _ _ _ u => u⟩
class MC (l : List Value) (m : outParam (List SV)) : Prop where h : ∀ {h}, denL h m l
instance : MC [] [] := ⟨trivial⟩
instance {v : Value} {l : List Value} {m : List SV} [i : MC l m] : MC (v :: l) (.cv v :: m) := ⟨⟨rfl, i.h⟩⟩
class Lu (n : Nat) (c : Bool) (loc env : EL) (x : Operand) (S : outParam SV) : Prop where h : c = true → ∀ {h ρ}, Fx loc env h ρ x → den h S (ev n ρ x)
section
variable {n : Nat} {c : Bool} {loc env : EL} {S T : SV} {t : Nat}
instance {v : Value} : Lu n c loc env (.const v) (.cv v) := ⟨fun _ _ _ _ => rfl⟩
instance (priority := high) {l : List Value} {m : List SV} [i : MC l m] : Lu n c loc env (.const (.agg l.toArray)) (.ag m) := ⟨fun _ _ _ _ => ⟨l, rfl, i.h⟩⟩
instance {f : FuncId} : Lu n c loc env (.func f) (.cv (.func (.func f) #[] #[])) := ⟨fun _ _ _ _ => rfl⟩
instance {g : Nat} : Lu n c loc env (.global g) (.cv (.pointer (some ⟨g, 0, none⟩))) := ⟨fun _ _ _ _ => rfl⟩
instance [b : RflE (Nat.ble n t) false] [i : LkT loc env t S] [u : Un c S T] : Lu n c loc env (.tmp t) T := ⟨fun x h ρ a => by
  have : ev n ρ (.tmp t) = ρ t := by show (bif Nat.blt t n then ρ t else undef) = ρ t; rw [blt_of b.h]; rfl
  rw [this]; exact u.h x (a t _ rfl i.h)⟩
end
class Lus (n : Nat) (c : Bool) (loc env : EL) (xs : List Operand) (Ss : outParam (List SV)) : Prop where h : c = true → ∀ {h ρ}, (∀ x ∈ xs, Fx loc env h ρ x) → denL h Ss (xs.map (ev n ρ))
instance {n : Nat} {c : Bool} {loc env : EL} : Lus n c loc env [] [] := ⟨fun _ _ _ _ => trivial⟩
instance {n : Nat} {c : Bool} {loc env : EL} {x : Operand} {xs : List Operand} {S : SV} {Ss : List SV} [i : Lu n c loc env x S] [j : Lus n c loc env xs Ss] : Lus n c loc env (x :: xs) (S :: Ss) := ⟨fun q _ _ a => ⟨i.h q (a x (List.mem_cons_self ..)), j.h q fun y hy => a y (List.mem_cons_of_mem _ hy)⟩⟩
class Nth {α : Type _} (l : List α) (o : Nat) (S : outParam α) : Prop where h : l[o]? = some S
instance {α : Type _} {l : List α} {S : α} : Nth (S :: l) 0 S := ⟨rfl⟩
instance {α : Type _} {l : List α} {S X : α} {o : Nat} [i : Nth l o S] : Nth (X :: l) (o + 1) S := ⟨by simpa using i.h⟩
class Prt (l : List SV) (o m : Nat) (l' : outParam (List SV)) : Prop where h : (l.drop o).take m = l' ∧ o + m ≤ l.length
instance {l : List SV} : Prt l 0 0 [] := ⟨by simp, by simp⟩
instance {l l' : List SV} {x : SV} {m : Nat} [i : Prt l 0 m l'] : Prt (x :: l) 0 (m + 1) (x :: l') := ⟨by simp [← i.h.1], by have := i.h.2; simp; omega⟩
instance {l l' : List SV} {x : SV} {o m : Nat} [i : Prt l o m l'] : Prt (x :: l) (o + 1) m l' := ⟨by simp [← i.h.1], by have := i.h.2; simp; omega⟩
class Spl (l : List SV) (o : Nat) (cs : List SV) (l' : outParam (List SV)) : Prop where h : l.take o ++ cs ++ l.drop (o + cs.length) = l' ∧ o + cs.length ≤ l.length
instance {l : List SV} : Spl l 0 [] l := ⟨by simp, by simp⟩
instance {l l' cs : List SV} {x c : SV} [i : Spl l 0 cs l'] : Spl (x :: l) 0 (c :: cs) (c :: l') := ⟨by have := i.h.1; simp at this; simp [this], by have := i.h.2; simp at this ⊢; omega⟩
instance {l l' cs : List SV} {x : SV} {o : Nat} [i : Spl l o cs l'] : Spl (x :: l) (o + 1) cs (x :: l') := ⟨by rw [← i.h.1, show o + 1 + cs.length = (o + cs.length) + 1 by omega]; rfl, by have := i.h.2; simp; omega⟩
class AddN (a b : Nat) (c : outParam Nat) : Prop where h : a + b = c
instance (priority := high) {b : Nat} : AddN 0 b b := ⟨Nat.zero_add b⟩
instance {a : Nat} : AddN a 0 a := ⟨rfl⟩
instance (priority := low) {a b : Nat} : AddN a b (a + b) := ⟨rfl⟩
class Cl (S : SV) (l : outParam (List SV)) : Prop where h : ∀ {h v}, den h S v → denL h l v.cells.toList
class O1 (S : SV) : Prop where h : S.one = true
instance {r : KR} : O1 (.kv r) := ⟨rfl⟩
instance {l : List SV} {o : Nat} : O1 (.pk l o) := ⟨rfl⟩
instance {k : IntKind} {i : Int} : O1 (.cv (.int k i)) := ⟨rfl⟩
instance {b : Bool} : O1 (.cv (.bool b)) := ⟨rfl⟩
instance {s : ByteArray} : O1 (.cv (.string s)) := ⟨rfl⟩
instance {b : Option Addr} {l c : Nat} : O1 (.cv (.slice b l c)) := ⟨rfl⟩
instance {b : Option Addr} : O1 (.cv (.pointer b)) := ⟨rfl⟩
instance {f : Fn} {a b : Array Value} : O1 (.cv (.func f a b)) := ⟨rfl⟩
instance : O1 (.cv .nilFunc) := ⟨rfl⟩
instance {α : Type} {r : Rp α} {l : List α} : O1 (lv r l) := ⟨rfl⟩
instance {v : Value} : O1 (ov v) := ⟨rfl⟩
instance {v : Value} {o : Nat} : O1 (fo v o) := ⟨rfl⟩
instance {v : Value} {k j o : Nat} : O1 (pa v k j o) := ⟨rfl⟩
class O1L (l : List SV) : Prop where h : l.all SV.one = true
instance : O1L [] := ⟨rfl⟩
instance {S : SV} {l : List SV} [o : O1 S] [i : O1L l] : O1L (S :: l) := ⟨by rw [List.all_cons, o.h, i.h]; rfl⟩
theorem cells_one {v : Value} (h : v.oneCell' = true) : v.cells = #[v] := by cases v <;> first | rfl | cases h
instance {l : List SV} : Cl (.ag l) l := ⟨fun ⟨vs, e, u⟩ => by subst e; exact u⟩
instance (priority := low) {S : SV} [o : O1 S] : Cl S [S] := ⟨fun u => by rw [cells_one (u.one o.h)]; exact ⟨u, trivial⟩⟩
class HV (B : List Res) (v : Value) (l : outParam (List SV)) (t : outParam TypeId) : Prop where h : ∀ {w0 h w}, OwnB w0 B h w → ∃ b arr, v = .pointer (some ⟨b, 0, none⟩) ∧ w.heap[b]? = some (.cells arr t (0, 0)) ∧ denL h l arr.toList
class HA (B : List Res) (v : Value) (α : outParam Type) (r : outParam (Rp α)) (e : outParam TypeId) (l : outParam (List α)) : Prop where h : ∀ {w0 h w}, OwnB w0 B h w → OwnL r 0 h w e v l
class MV (B : List Res) (v : Value) (l : outParam (List SV)) (t : outParam TypeId) : Prop where h : rV v l t ∈ B
class MA (B : List Res) (v : Value) (α : outParam Type) (r : outParam (Rp α)) (e : outParam TypeId) (l : outParam (List α)) : Prop where h : rA r e v l ∈ B
class MZ (B : List Res) (vs : List Value) (α : outParam Type) (r : outParam (Rp α)) (e : outParam TypeId) (ls : outParam (List (List α))) : Prop where h : rZ r e vs ls ∈ B
structure Sb (B B' : List Res) : Prop where
  own : ∀ {w0 h w}, OwnB w0 B h w → OwnB w0 B' h w
  fp : ∀ r' ∈ B', ∀ i, r'.fp i → ∃ r ∈ B, r.fp i
theorem Sb.refl (B : List Res) : Sb B B := ⟨fun o => o, fun r h i x => ⟨r, h, x⟩⟩
theorem Sb.perm {A B : List Res} (p : A.Perm B) : Sb A B := ⟨fun o => o.perm p, fun r h i x => ⟨r, p.mem_iff.2 h, x⟩⟩
theorem Sb.trans {A B C : List Res} (x : Sb A B) (y : Sb B C) : Sb A C := ⟨fun o => y.own (x.own o), fun r h i q => by
  obtain ⟨r1, h1, f1⟩ := y.fp r h i q
  exact x.fp r1 h1 i f1⟩
theorem Sb.cons {A B : List Res} (x : Res) (s : Sb A B) : Sb (x :: A) (x :: B) := ⟨fun o => ⟨o.1, o.2.1, fun r' hr' i hi q => by
    obtain ⟨r, hr, f⟩ := s.fp r' hr' i q
    exact o.2.2.1 r hr i hi f, s.own o.2.2.2⟩, fun r hr i q => by
  rcases List.mem_cons.1 hr with rfl | hr
  · exact ⟨_, List.mem_cons_self .., q⟩
  · obtain ⟨r', h', f⟩ := s.fp r hr i q
    exact ⟨r', List.mem_cons_of_mem _ h', f⟩⟩
theorem Sb.drop1 (x : Res) (B : List Res) : Sb (x :: B) B := ⟨fun o => o.2.2.2, fun r h i q => ⟨r, List.mem_cons_of_mem _ h, q⟩⟩
class PV (B : List Res) (v : Value) (l : outParam (List SV)) (t : outParam TypeId) (B' : outParam (List Res)) : Prop where h : Sb B (rV v l t :: B')
class PA (B : List Res) (v : Value) (α : outParam Type) (r : outParam (Rp α)) (e : outParam TypeId) (l : outParam (List α)) (B' : outParam (List Res)) : Prop where h : Sb B (rA r e v l :: B')
class PZ (B : List Res) (vs : List Value) (α : outParam Type) (r : outParam (Rp α)) (e : outParam TypeId) (ls : outParam (List (List α))) (B' : outParam (List Res)) : Prop where h : Sb B (rZ r e vs ls :: B')
class PO (B : List Res) (b : Nat) (o : outParam Obj) (B' : outParam (List Res)) : Prop where h : Sb B (rO b o :: B')
class UA (B : List Res) (v : Value) (α : outParam Type) (r : outParam (Rp α)) (e : outParam TypeId) (l : outParam (List α)) (mk : outParam (List α → List Res)) : Prop where
  own : ∀ {w0 h w}, OwnB w0 B h w → OwnL r 0 h w e v l ∧ ∀ b, Value.blk v = some b → w0.heap.size ≤ b ∧ h b = none
  fpm : ∃ x ∈ B, ∀ b, Value.blk v = some b → x.fp b
  sub : ∀ l', ∀ r' ∈ mk l', ∃ x ∈ B, ∀ i, r'.fp i → x.fp i
  put : ∀ {w0 h w w' l' b o}, OwnB w0 B h w → Put w w' b o → Value.blk v = some b → OwnL r 0 h w' e v l' → l'.length = l.length → OwnB w0 (mk l') h w'
section
variable {α : Type} {B B' : List Res} {v v' : Value} {l l' : List SV} {t e : TypeId} {x y : Res} {r : Rp α} {m m' : List α} {vs : List Value} {ls : List (List α)} {k : Nat} {mk : List α → List Res}
instance : HV (rV v l t :: B) v l t := ⟨fun o => o.1⟩
instance : HV (bo (rV v l t) :: B) v l t := ⟨fun o => o.1⟩
instance (priority := low) [i : HV B v l t] : HV (x :: B) v l t := ⟨fun o => i.h o.2.2.2⟩
instance [i : HV B v l t] : HV (B.map bo) v l t := ⟨fun o => i.h o.unbo⟩
instance : HA (rA r e v m :: B) v α r e m := ⟨fun o => o.1⟩
instance : HA (bo (rA r e v m) :: B) v α r e m := ⟨fun o => o.1⟩
instance : HA (rZ r e vs ls :: B) (vs.getD k vnil) α r e (ls.getD k []) := ⟨fun o => o.1.2.1 k⟩
instance : HA (bo (rZ r e vs ls) :: B) (vs.getD k vnil) α r e (ls.getD k []) := ⟨fun o => o.1.2.1 k⟩
instance (priority := low) [i : HA B v α r e m] : HA (x :: B) v α r e m := ⟨fun o => i.h o.2.2.2⟩
instance [i : HA B v α r e m] : HA (B.map bo) v α r e m := ⟨fun o => i.h o.unbo⟩
instance : MV (rV v l t :: B) v l t := ⟨List.mem_cons_self ..⟩
instance (priority := low) [i : MV B v l t] : MV (x :: B) v l t := ⟨List.mem_cons_of_mem _ i.h⟩
instance : MA (rA r e v m :: B) v α r e m := ⟨List.mem_cons_self ..⟩
instance (priority := low) [i : MA B v α r e m] : MA (x :: B) v α r e m := ⟨List.mem_cons_of_mem _ i.h⟩
instance : MZ (rZ r e vs ls :: B) vs α r e ls := ⟨List.mem_cons_self ..⟩
instance (priority := low) [i : MZ B vs α r e ls] : MZ (x :: B) vs α r e ls := ⟨List.mem_cons_of_mem _ i.h⟩
theorem Sb.next (i : Sb B (y :: B')) : Sb (x :: B) (y :: x :: B') := (i.cons x).trans (.perm (.swap ..))
instance : PV (rV v l t :: B) v l t B := ⟨.refl _⟩
instance (priority := low) [i : PV B v l t B'] : PV (x :: B) v l t (x :: B') := ⟨i.h.next⟩
instance : PA (rA r e v m :: B) v α r e m B := ⟨.refl _⟩
instance (priority := low) [i : PA B v α r e m B'] : PA (x :: B) v α r e m (x :: B') := ⟨i.h.next⟩
instance : PZ (rZ r e vs ls :: B) vs α r e ls B := ⟨.refl _⟩
instance (priority := low) [i : PZ B vs α r e ls B'] : PZ (x :: B) vs α r e ls (x :: B') := ⟨i.h.next⟩
instance {b : Nat} {o : Obj} : PO (rO b o :: B) b o B := ⟨.refl _⟩
instance (priority := low) {b : Nat} {o : Obj} [i : PO B b o B'] : PO (x :: B) b o (x :: B') := ⟨i.h.next⟩
theorem getD_set' {β : Type _} {l : List β} {k t : Nat} {a d : β} (h : k < l.length) : (l.set k a).getD t d = if t = k then a else l.getD t d := by
  rw [List.getD_eq_getElem?_getD, List.getD_eq_getElem?_getD, List.getElem?_set]
  by_cases e : t = k
  · subst e; simp [h]
  · rw [if_neg (fun q => e q.symm), if_neg e]
theorem blk_nil : Value.blk vnil = none := rfl
instance : PA (rZ r e vs ls :: B) (vs.getD k vnil) α r e (ls.getD k []) (rZ r e (vs.set k vnil) (ls.set k []) :: B) := ⟨by
  have hz : ∀ (t b : Nat), Value.blk ((vs.set k vnil).getD t vnil) = some b → t ≠ k ∧ Value.blk (vs.getD t vnil) = some b := fun t b hb => by
    rcases Nat.lt_or_ge k vs.length with hk | hk
    · rw [getD_set' hk] at hb
      by_cases e : t = k
      · rw [if_pos e, blk_nil] at hb; cases hb
      · rw [if_neg e] at hb; exact ⟨e, hb⟩
    · rw [List.set_eq_of_length_le hk] at hb
      refine ⟨fun e => ?_, hb⟩
      subst e; rw [getD_off hk, blk_nil] at hb; cases hb
  refine ⟨fun {w0 h w} o => ?_, fun r' hr' i hi => ?_⟩
  · obtain ⟨⟨a, b, c⟩, f, d, g⟩ := o
    refine ⟨b k, fun i hi => f i ⟨k, hi⟩, fun r' hr' i hi => ?_, ⟨by rw [List.length_set, List.length_set]; exact a, fun t => ?_, fun t u b' h1 h2 => c t u b' (hz t b' h1).2 (hz u b' h2).2⟩, fun i ⟨t, ht⟩ => f i ⟨t, (hz t i ht).2⟩, fun r' hr' i ⟨t, ht⟩ => d r' hr' i ⟨t, (hz t i ht).2⟩, g⟩
    · rcases List.mem_cons.1 hr' with rfl | hr'
      · rintro ⟨t, ht⟩; exact (hz t i ht).1 (c t k i (hz t i ht).2 hi)
      · exact d r' hr' i ⟨k, hi⟩
    · rcases Nat.lt_or_ge k vs.length with hk | hk
      · rw [getD_set' hk, getD_set' (by omega)]
        by_cases e : t = k
        · rw [if_pos e, if_pos e]; exact OwnL.nil _ _ _ _ _
        · rw [if_neg e, if_neg e]; exact b t
      · rw [List.set_eq_of_length_le hk, List.set_eq_of_length_le (by omega)]; exact b t
  · rcases List.mem_cons.1 hr' with rfl | hr'
    · exact ⟨_, List.mem_cons_self .., k, hi⟩
    · rcases List.mem_cons.1 hr' with rfl | hr'
      · obtain ⟨t, ht⟩ := hi
        exact ⟨_, List.mem_cons_self .., t, (hz t i ht).2⟩
      · exact ⟨_, List.mem_cons_of_mem _ hr', hi⟩⟩
theorem OwnB.after {w0 : World} {h : PH} {w w' : World} {b : Nat} {o : Obj} (p : Put w w' b o) : ∀ {B : List Res}, OwnB w0 B h w → (∀ r ∈ B, ¬ r.fp b) → OwnB w0 B h w' := fun {B} ob hn =>
  ob.keep (fun _ _ x => x) (by rw [p.size]; exact Nat.le_refl _) fun r hr i hi => ⟨p.other i fun e => hn r hr (e ▸ hi), (ob.foot r hr i hi).1⟩
instance : UA (rA r e v m :: B) v α r e m (fun m' => rA r e v m' :: B) where
  own := fun o => ⟨o.1, fun b hb => ⟨(o.2.1 b hb).2.1 rfl, (o.2.1 b hb).1⟩⟩
  fpm := ⟨_, List.mem_cons_self .., fun _ q => q⟩
  sub := fun l' r' hr' => by
    rcases List.mem_cons.1 hr' with rfl | hr'
    · exact ⟨_, List.mem_cons_self .., fun _ q => q⟩
    · exact ⟨_, List.mem_cons_of_mem _ hr', fun _ q => q⟩
  put := fun o p hb u _ => ⟨u, fun i hi => ⟨(o.2.1 i hi).1, (o.2.1 i hi).2.1, by rw [p.size]; exact (o.2.1 i hi).2.2⟩, o.2.2.1, OwnB.after p o.2.2.2 fun r hr q => o.2.2.1 r hr _ hb q⟩
instance : UA (rZ r e vs ls :: B) (vs.getD k vnil) α r e (ls.getD k []) (fun m' => rZ r e vs (ls.set k m') :: B) where
  own := fun o => ⟨o.1.2.1 k, fun b hb => ⟨(o.2.1 b ⟨k, hb⟩).2.1 rfl, (o.2.1 b ⟨k, hb⟩).1⟩⟩
  fpm := ⟨_, List.mem_cons_self .., fun _ q => ⟨k, q⟩⟩
  sub := fun l' r' hr' => by
    rcases List.mem_cons.1 hr' with rfl | hr'
    · exact ⟨_, List.mem_cons_self .., fun _ q => q⟩
    · exact ⟨_, List.mem_cons_of_mem _ hr', fun _ q => q⟩
  put := fun {w0 h w w' l' b o'} o p hb u hl => by
    obtain ⟨⟨a, q, c⟩, f, d, g⟩ := o
    have hk : k < vs.length := by
      rcases Nat.lt_or_ge k vs.length with hk | hk
      · exact hk
      · rw [getD_off hk, blk_nil] at hb; cases hb
    refine ⟨⟨by rw [List.length_set]; exact a, fun t => ?_, c⟩, fun i hi => ⟨(f i hi).1, (f i hi).2.1, by rw [p.size]; exact (f i hi).2.2⟩, d, OwnB.after p g fun r hr q => d r hr _ ⟨k, hb⟩ q⟩
    rw [getD_set' (by omega)]
    by_cases e : t = k
    · subst e; rw [if_pos rfl]; exact u
    · rw [if_neg e]
      exact (q t).put p fun hb' => e (c t k _ hb' hb)
instance (priority := low) [i : UA B v α r e m mk] : UA (x :: B) v α r e m (fun m' => x :: mk m') where
  own := fun o => i.own o.2.2.2
  fpm := by obtain ⟨y, hy, f⟩ := i.fpm; exact ⟨y, List.mem_cons_of_mem _ hy, f⟩
  sub := fun l' r' hr' => by
    rcases List.mem_cons.1 hr' with rfl | hr'
    · exact ⟨_, List.mem_cons_self .., fun _ q => q⟩
    · obtain ⟨y, hy, f⟩ := i.sub l' r' hr'; exact ⟨y, List.mem_cons_of_mem _ hy, f⟩
  put := fun {w0 h w w' l' b o'} o p hb u hl => by
    obtain ⟨y, hy, f⟩ := i.fpm
    have hn : ¬ x.fp b := fun q => o.2.2.1 y hy b q (f b hb)
    refine ⟨x.st (fun _ _ q => q) (fun j hj => p.other j fun e => hn (e ▸ hj)) (fun j hj => (o.2.1 j hj).1) o.1, fun j hj => ⟨(o.2.1 j hj).1, (o.2.1 j hj).2.1, by rw [p.size]; exact (o.2.1 j hj).2.2⟩, fun r' hr' j hj q => ?_, i.put o.2.2.2 p hb u hl⟩
    obtain ⟨y2, hy2, f2⟩ := i.sub l' r' hr'
    exact o.2.2.1 y2 hy2 j hj (f2 j q)
end
theorem HV.own {B : List Res} {v : Value} {l : List SV} {t : TypeId} [i : HV B v l t] {w0 : World} {h : PH} {w : World} (o : OwnB w0 B h w) : ∃ b arr, v = .pointer (some ⟨b, 0, none⟩) ∧ w.heap[b]? = some (.cells arr t (0, 0)) ∧ denL h l arr.toList := i.h o
theorem HA.own {α : Type} {B : List Res} {v : Value} {r : Rp α} {e : TypeId} {m : List α} [i : HA B v α r e m] {w0 : World} {h : PH} {w : World} (o : OwnB w0 B h w) : OwnL r 0 h w e v m := i.h o
class IN (i : Int) (n : outParam Nat) : Prop where e : i = n
instance (n : Nat) : IN (n : Int) n := ⟨rfl⟩
instance (n : Nat) : IN (no_index (OfNat.ofNat n : Int)) (OfNat.ofNat n) := ⟨rfl⟩
class TN (i : Int) (n : outParam Nat) (sd : outParam Prop) : Prop where e : sd → i = n
instance (priority := high) {i : Int} {n : Nat} [x : IN i n] : TN i n True := ⟨fun _ => x.e⟩
instance {i j : Int} {a b : Nat} {s : Prop} [x : TN i a s] [y : IN j b] : TN (i - j) (a - b) (s ∧ b ≤ a) := ⟨fun h => by rw [x.e h.1, y.e]; omega⟩
instance {i j : Int} {a b : Nat} {s : Prop} [x : TN i a s] [y : IN j b] : TN (i + j) (a + b) s := ⟨fun h => by rw [x.e h, y.e]; omega⟩
instance (priority := low) {i : Int} : TN i i.toNat (0 ≤ i) := ⟨fun h => by omega⟩
class KM (k : IntKind) (m : outParam Nat) : Prop where h : ∀ {a : Nat}, a ≤ m → k.wrap (a : Int) = (a : Int)
instance : KM .i64 9223372036854775807 := ⟨conv_i64⟩
instance : KM .u64 18446744073709551615 := ⟨conv_u64⟩
instance : KM .u32 4294967295 := ⟨fun h => conv_u32' (by omega)⟩
instance : KM .u8 255 := ⟨fun h => conv_u8' (by omega)⟩
instance : KM .i32 2147483647 := ⟨conv_i32⟩
class KI (k : IntKind) (a b : outParam Int) : Prop where h : ∀ {x : Int}, a ≤ x → x ≤ b → k.wrap x = x
instance : KI .i64 (-9223372036854775808) 9223372036854775807 := ⟨fun h1 h2 => in_i64 ⟨h1, h2⟩⟩
instance : KI .i32 (-2147483648) 2147483647 := ⟨fun h1 h2 => in_i32 ⟨h1, h2⟩⟩
class KU (k : IntKind) : Prop where t : True
instance : KU .u64 := ⟨trivial⟩
instance : KU .u32 := ⟨trivial⟩
instance : KU .u8 := ⟨trivial⟩
class TP (b : Bool) (p : outParam Prop) : Prop where h : b = true ↔ p
instance {p : Prop} [Decidable p] : TP (decide p) p := ⟨decide_eq_true_iff⟩
instance {a b : Bool} {p q : Prop} [i : TP a p] [j : TP b q] : TP (a && b) (p ∧ q) := ⟨by rw [Bool.and_eq_true, i.h, j.h]⟩
instance {a b : Bool} {p q : Prop} [i : TP a p] [j : TP b q] : TP (a || b) (p ∨ q) := ⟨by rw [Bool.or_eq_true, i.h, j.h]⟩
instance {a : Bool} {p : Prop} [i : TP a p] : TP (!a) (¬ p) := ⟨by rw [← i.h]; cases a <;> simp⟩
instance (priority := low) {b : Bool} : TP b (b = true) := ⟨Iff.rfl⟩
instance : TP true True := ⟨by simp⟩
instance : TP false False := ⟨by simp⟩
class St (P : Program) (n : Nat) (c : Bool) (loc env : EL) (B : List Res) (ms : List Nat) (d : Nat) (op : Op) (side : outParam Prop) (S : outParam SV) : Prop where
  h : c = true → side → ∀ {h0 w0 ρ h w}, Sx h0 w0 loc env B op.operands.toList ρ h w → ∀ {ty : TypeId} {pos : String} {af : Array Edge} {g : Option (Nat × Bool)} {K : Env → World → Prop}, (∀ v h' w', Gr h w h' w' → den h' S v → K (upd ρ d v) w') → OpW P n ⟨some d, op, ty, pos, af, g⟩ ρ w K
theorem St.p {P : Program} {n : Nat} {c : Bool} {loc env : EL} {B : List Res} {ms : List Nat} {d : Nat} {op : Op} {side : Prop} {S : SV}
    (f : c = true → side → ∀ {h0 w0 ρ h w}, Sx h0 w0 loc env B op.operands.toList ρ h w → ∀ {ty : TypeId} {pos : String} {af : Array Edge} {g : Option (Nat × Bool)} {K : Env → World → Prop}, (∀ v, den h S v → K (upd ρ d v) w) → OpW P n ⟨some d, op, ty, pos, af, g⟩ ρ w K) : St P n c loc env B ms d op side S :=
  ⟨fun a b _ _ _ _ _ s _ _ _ _ _ k => f a b s fun v u => k v _ _ (Gr.refl s.gr.sat) u⟩
section
variable {P : Program} {n : Nat} {c : Bool} {loc env : EL} {B : List Res} {ms : List Nat} {d : Nat} {x y z : Operand} {S T : SV} {t u : TypeId} {k : IntKind} {i j : Int} {a b m : Nat}
instance [l : Lu n c loc env x S] : St P n c loc env B ms d (.move x) True S := .p fun q _ _ _ _ _ _ s _ _ _ _ _ k => OpW.move rfl (k _ (l.h q (s.f x)))
instance [l : Lu n c loc env x S] : St P n c loc env B ms d (.assign x) True S := .p fun q _ _ _ _ _ _ s _ _ _ _ _ k => OpW.assign rfl (k _ (l.h q (s.f x)))
theorem cvE {h : PH} {x v : Value} (u : den h (.cv v) x) : x = v := u
instance {g r : Bool} [l : Lu n c loc env x (.cv (.bool g))] [ly : Lu n (c && g) loc env y (.cv (.bool r))] : St P n c loc env B ms d (.pick x y (.const (.bool false))) True (.cv (.bool (g && r))) := .p fun q _ _ _ _ _ _ s _ _ _ _ _ k => by
  have e := cvE (l.h q (s.f x))
  cases g with
  | false => exact OpW.pickF e rfl (k _ rfl)
  | true => exact OpW.pickT e (cvE (ly.h (by rw [q]; rfl) (s.f y))) (k _ rfl)
instance {g r : Bool} [l : Lu n c loc env x (.cv (.bool g))] [ly : Lu n (c && !g) loc env y (.cv (.bool r))] : St P n c loc env B ms d (.pick x (.const (.bool true)) y) True (.cv (.bool (g || r))) := .p fun q _ _ _ _ _ _ s _ _ _ _ _ k => by
  have e := cvE (l.h q (s.f x))
  cases g with
  | true => exact OpW.pickT e rfl (k _ rfl)
  | false => exact OpW.pickF e (cvE (ly.h (by rw [q]; rfl) (s.f y))) (k _ rfl)
instance (priority := high) [l : Lu n c loc env x (.cv (.bool true))] : St P n c loc env B ms d (.pick x (.const (.bool true)) y) True (.cv (.bool true)) := .p fun q _ _ _ _ _ _ s _ _ _ _ _ k => OpW.pickT (cvE (l.h q (s.f x))) rfl (k _ rfl)
instance (priority := high) [l : Lu n c loc env x (.cv (.bool false))] : St P n c loc env B ms d (.pick x y (.const (.bool false))) True (.cv (.bool false)) := .p fun q _ _ _ _ _ _ s _ _ _ _ _ k => OpW.pickF (cvE (l.h q (s.f x))) rfl (k _ rfl)
section
variable [lx : Lu n c loc env x (.cv (.int k i))] [ly : Lu n c loc env y (.cv (.int k j))]
instance (priority := high) [a1 : IN i a] [b1 : IN j b] : St P n c loc env B ms d (.binOp .lss t x y u) True (.cv (.bool (decide (a < b)))) := .p fun q _ _ _ _ _ _ s _ _ _ _ _ k => OpW.lss (cvE (lx.h q (s.f x))) (cvE (ly.h q (s.f y))) (by rw [a1.e, b1.e]; exact decide_eq_decide.2 (by omega)) (k _ rfl)
instance (priority := high) [a1 : IN i a] [b1 : IN j b] : St P n c loc env B ms d (.binOp .leq t x y u) True (.cv (.bool (decide (a ≤ b)))) := .p fun q _ _ _ _ _ _ s _ _ _ _ _ k => OpW.leq (cvE (lx.h q (s.f x))) (cvE (ly.h q (s.f y))) (by rw [a1.e, b1.e]; exact decide_eq_decide.2 (by omega)) (k _ rfl)
instance (priority := high) [a1 : IN i a] [b1 : IN j b] : St P n c loc env B ms d (.binOp .gtr t x y u) True (.cv (.bool (decide (b < a)))) := .p fun q _ _ _ _ _ _ s _ _ _ _ _ k => OpW.gtr (cvE (lx.h q (s.f x))) (cvE (ly.h q (s.f y))) (by rw [a1.e, b1.e]; exact decide_eq_decide.2 (by omega)) (k _ rfl)
instance (priority := high) [a1 : IN i a] [b1 : IN j b] : St P n c loc env B ms d (.binOp .geq t x y u) True (.cv (.bool (decide (b ≤ a)))) := .p fun q _ _ _ _ _ _ s _ _ _ _ _ k => OpW.geq (cvE (lx.h q (s.f x))) (cvE (ly.h q (s.f y))) (by rw [a1.e, b1.e]; exact decide_eq_decide.2 (by omega)) (k _ rfl)
instance (priority := high) [a1 : IN i a] [b1 : IN j b] : St P n c loc env B ms d (.binOp .eql t x y u) True (.cv (.bool (decide (a = b)))) := .p fun q _ _ _ _ _ _ s _ _ _ _ _ k => OpW.eqlI (cvE (lx.h q (s.f x))) (cvE (ly.h q (s.f y))) (by rw [a1.e, b1.e]; exact decide_eq_decide.2 (by omega)) (k _ rfl)
instance (priority := high) [a1 : IN i a] [b1 : IN j b] : St P n c loc env B ms d (.binOp .neq t x y u) True (.cv (.bool (decide (a ≠ b)))) := .p fun q _ _ _ _ _ _ s _ _ _ _ _ k => OpW.neqI (cvE (lx.h q (s.f x))) (cvE (ly.h q (s.f y))) (by rw [a1.e, b1.e]; exact decide_eq_decide.2 (by omega)) (k _ rfl)
instance : St P n c loc env B ms d (.binOp .lss t x y u) True (.cv (.bool (decide (i < j)))) := .p fun q _ _ _ _ _ _ s _ _ _ _ _ k => OpW.lss (cvE (lx.h q (s.f x))) (cvE (ly.h q (s.f y))) rfl (k _ rfl)
instance : St P n c loc env B ms d (.binOp .leq t x y u) True (.cv (.bool (decide (i ≤ j)))) := .p fun q _ _ _ _ _ _ s _ _ _ _ _ k => OpW.leq (cvE (lx.h q (s.f x))) (cvE (ly.h q (s.f y))) rfl (k _ rfl)
instance : St P n c loc env B ms d (.binOp .gtr t x y u) True (.cv (.bool (decide (j < i)))) := .p fun q _ _ _ _ _ _ s _ _ _ _ _ k => OpW.gtr (cvE (lx.h q (s.f x))) (cvE (ly.h q (s.f y))) rfl (k _ rfl)
instance : St P n c loc env B ms d (.binOp .geq t x y u) True (.cv (.bool (decide (j ≤ i)))) := .p fun q _ _ _ _ _ _ s _ _ _ _ _ k => OpW.geq (cvE (lx.h q (s.f x))) (cvE (ly.h q (s.f y))) rfl (k _ rfl)
instance : St P n c loc env B ms d (.binOp .eql t x y u) True (.cv (.bool (decide (i = j)))) := .p fun q _ _ _ _ _ _ s _ _ _ _ _ k => OpW.eqlI (cvE (lx.h q (s.f x))) (cvE (ly.h q (s.f y))) rfl (k _ rfl)
instance : St P n c loc env B ms d (.binOp .neq t x y u) True (.cv (.bool (decide (i ≠ j)))) := .p fun q _ _ _ _ _ _ s _ _ _ _ _ k => OpW.neqI (cvE (lx.h q (s.f x))) (cvE (ly.h q (s.f y))) rfl (k _ rfl)
instance (priority := high) [a1 : IN i a] [b1 : IN j b] [km : KM k m] : St P n c loc env B ms d (.binOp .add t x y u) (a + b ≤ m) (.cv (.int k ((a + b : Nat) : Int))) := .p fun q sd _ _ _ _ _ s _ _ _ _ _ k => OpW.add (cvE (lx.h q (s.f x))) (cvE (ly.h q (s.f y))) (by rw [a1.e, b1.e, show (a : Int) + b = ((a + b : Nat) : Int) from rfl]; exact km.h sd) (k _ rfl)
instance {lo hi : Int} [km : KI k lo hi] : St P n c loc env B ms d (.binOp .add t x y u) (lo ≤ i + j ∧ i + j ≤ hi) (.cv (.int k (i + j))) := .p fun q sd _ _ _ _ _ s _ _ _ _ _ k => OpW.add (cvE (lx.h q (s.f x))) (cvE (ly.h q (s.f y))) (km.h sd.1 sd.2) (k _ rfl)
instance (priority := high) [a1 : IN i a] [b1 : IN j b] [KU k] [km : KM k m] : St P n c loc env B ms d (.binOp .sub t x y u) (b ≤ a ∧ a ≤ m) (.cv (.int k ((a - b : Nat) : Int))) := .p fun q sd _ _ _ _ _ s _ _ _ _ _ k => OpW.sub (cvE (lx.h q (s.f x))) (cvE (ly.h q (s.f y))) (by rw [a1.e, b1.e, show (a : Int) - b = ((a - b : Nat) : Int) by omega]; exact km.h (by omega)) (k _ rfl)
instance {lo hi : Int} [km : KI k lo hi] : St P n c loc env B ms d (.binOp .sub t x y u) (lo ≤ i - j ∧ i - j ≤ hi) (.cv (.int k (i - j))) := .p fun q sd _ _ _ _ _ s _ _ _ _ _ k => OpW.sub (cvE (lx.h q (s.f x))) (cvE (ly.h q (s.f y))) (km.h sd.1 sd.2) (k _ rfl)
instance (priority := high) [a1 : IN i a] [b1 : IN j b] [km : KM k m] : St P n c loc env B ms d (.binOp .mul t x y u) (a * b ≤ m) (.cv (.int k ((a * b : Nat) : Int))) := .p fun q sd _ _ _ _ _ s _ _ _ _ _ k => OpW.mul (cvE (lx.h q (s.f x))) (cvE (ly.h q (s.f y))) (by rw [a1.e, b1.e, ← Int.natCast_mul]; exact km.h sd) (k _ rfl)
instance [a1 : IN i a] [b1 : IN j b] [km : KM k m] : St P n c loc env B ms d (.binOp .quo t x y u) (b ≠ 0 ∧ a ≤ m) (.cv (.int k ((a / b : Nat) : Int))) := .p fun q sd _ _ _ _ _ s _ _ _ _ _ k => OpW.quo (cvE (lx.h q (s.f x))) (cvE (ly.h q (s.f y))) (by rw [b1.e]; omega) (by rw [a1.e, b1.e, show (a : Int).tdiv (b : Int) = ((a / b : Nat) : Int) from rfl]; exact km.h (Nat.le_trans (Nat.div_le_self a b) sd.2)) (k _ rfl)
instance (priority := low) {s1 : Prop} [a1 : TN i a s1] [b1 : IN j b] [km : KM k m] : St P n c loc env B ms d (.binOp .quo t x y u) (s1 ∧ b ≠ 0 ∧ a ≤ m) (.cv (.int k ((a / b : Nat) : Int))) := .p fun q sd _ _ _ _ _ s _ _ _ _ _ k => OpW.quo (cvE (lx.h q (s.f x))) (cvE (ly.h q (s.f y))) (by rw [b1.e]; omega) (by rw [a1.e sd.1, b1.e, show (a : Int).tdiv (b : Int) = ((a / b : Nat) : Int) from rfl]; exact km.h (Nat.le_trans (Nat.div_le_self a b) sd.2.2)) (k _ rfl)
instance (priority := low) {s1 : Prop} [a1 : TN i a s1] [b1 : IN j b] : St P n c loc env B ms d (.binOp .rem t x y u) (s1 ∧ b ≠ 0) (.cv (.int k ((a % b : Nat) : Int))) := .p fun q sd _ _ _ _ _ s _ _ _ _ _ k => OpW.rem (cvE (lx.h q (s.f x))) (cvE (ly.h q (s.f y))) (by rw [b1.e]; omega) (by rw [a1.e sd.1, b1.e]; rfl) (k _ rfl)
instance [a1 : IN i a] [b1 : IN j b] : St P n c loc env B ms d (.binOp .rem t x y u) (b ≠ 0) (.cv (.int k ((a % b : Nat) : Int))) := .p fun q sd _ _ _ _ _ s _ _ _ _ _ k => OpW.rem (cvE (lx.h q (s.f x))) (cvE (ly.h q (s.f y))) (by rw [b1.e]; omega) (by rw [a1.e, b1.e]; rfl) (k _ rfl)
end
class KB (k : IntKind) (m : outParam Nat) : Prop where
  o : ∀ {P : Program} {a b : Nat}, a < m → b < m → ∀ w, (Op.intBits .or k (a : Int) (b : Int)).run P w = .ok (.int k ((a ||| b : Nat) : Int)) w
  a : ∀ {P : Program} {a b : Nat}, a < m → b < m → ∀ w, (Op.intBits .and k (a : Int) (b : Int)).run P w = .ok (.int k ((a &&& b : Nat) : Int)) w
instance : KB .u64 18446744073709551616 := ⟨or_u64, and_u64⟩
instance : KB .u32 4294967296 := ⟨or_u32, and_u32⟩
section
variable [lx : Lu n c loc env x (.cv (.int k i))] [ly : Lu n c loc env y (.cv (.int k j))] [a1 : IN i a] [b1 : IN j b]
instance [kb : KB k m] : St P n c loc env B ms d (.binOp .or t x y u) (a < m ∧ b < m) (.cv (.int k ((a ||| b : Nat) : Int))) := .p fun q sd _ _ _ _ _ s _ _ _ _ _ k => OpW.bits (.inr (.inl rfl)) (cvE (lx.h q (s.f x))) (cvE (ly.h q (s.f y))) (fun w => by rw [a1.e, b1.e]; exact kb.o sd.1 sd.2 w) (k _ rfl)
instance [kb : KB k m] : St P n c loc env B ms d (.binOp .and t x y u) (a < m ∧ b < m) (.cv (.int k ((a &&& b : Nat) : Int))) := .p fun q sd _ _ _ _ _ s _ _ _ _ _ k => OpW.bits (.inl rfl) (cvE (lx.h q (s.f x))) (cvE (ly.h q (s.f y))) (fun w => by rw [a1.e, b1.e]; exact kb.a sd.1 sd.2 w) (k _ rfl)
end
instance [lx : Lu n c loc env x (.cv (.int .i64 i))] [ly : Lu n c loc env y (.cv (.int .i64 j))] [a1 : IN i a] [b1 : IN j b] : St P n c loc env B ms d (.binOp .and t x y u) (a < 9223372036854775808 ∧ b < 9223372036854775808) (.cv (.int .i64 ((a &&& b : Nat) : Int))) := .p fun q sd _ _ _ _ _ s _ _ _ _ _ k => OpW.bits (.inl rfl) (cvE (lx.h q (s.f x))) (cvE (ly.h q (s.f y))) (fun w => by rw [a1.e, b1.e]; exact and_i64 sd.1 sd.2 w) (k _ rfl)
class KBi (k : IntKind) (m : outParam Nat) : Prop where h : k.bits = m
instance : KBi .u64 64 := ⟨rfl⟩
instance : KBi .i64 64 := ⟨rfl⟩
instance : KBi .u32 32 := ⟨rfl⟩
instance : KBi .u8 8 := ⟨rfl⟩
section
variable {k2 : IntKind} {m2 : Nat} {sd2 : Prop} [lx : Lu n c loc env x (.cv (.int k i))] [ly : Lu n c loc env y (.cv (.int k2 j))] [a1 : IN i a] [b1 : TN j b sd2] [kb : KBi k m2]
instance : St P n c loc env B ms d (.binOp .shr t x y u) (sd2 ∧ b ≤ m2) (.cv (.int k ((a / 2 ^ b : Nat) : Int))) := .p fun q sd _ _ _ _ _ s _ _ _ _ _ k => OpW.shift (.inr rfl) (cvE (lx.h q (s.f x))) (cvE (ly.h q (s.f y))) (fun w => by rw [a1.e, b1.e sd.1]; exact shr_nat (by rw [kb.h]; exact sd.2) w) (k _ rfl)
instance [km : KM k m] : St P n c loc env B ms d (.binOp .shl t x y u) (sd2 ∧ b ≤ m2 ∧ a * 2 ^ b ≤ m) (.cv (.int k ((a * 2 ^ b : Nat) : Int))) := .p fun q sd _ _ _ _ _ s _ _ _ _ _ k => OpW.shift (.inl rfl) (cvE (lx.h q (s.f x))) (cvE (ly.h q (s.f y))) (fun w => by rw [a1.e, b1.e sd.1]; exact shl_nat (by rw [kb.h]; exact sd.2.1) (km.h sd.2.2) w) (k _ rfl)
end
instance (priority := high) {k2 : IntKind} {sd2 : Prop} [lx : Lu n c loc env x (.cv (.int .u32 i))] [ly : Lu n c loc env y (.cv (.int k2 j))] [a1 : IN i a] [b1 : TN j b sd2] : St P n c loc env B ms d (.binOp .shl t x y u) (sd2 ∧ b ≤ 32) (.cv (.int .u32 ((a * 2 ^ b % 4294967296 : Nat) : Int))) := .p fun q sd _ _ _ _ _ s _ _ _ _ _ k => OpW.shift (.inl rfl) (cvE (lx.h q (s.f x))) (cvE (ly.h q (s.f y))) (fun w => by rw [a1.e, b1.e sd.1]; exact shl_nat (show b ≤ 32 from sd.2) conv_u32 w) (k _ rfl)
section
variable {g r : Bool} [lx : Lu n c loc env x (.cv (.bool g))]
instance : St P n c loc env B ms d (.unOp .not t x) True (.cv (.bool (!g))) := .p fun q _ _ _ _ _ _ s _ _ _ _ _ k => OpW.notB (cvE (lx.h q (s.f x))) rfl (k _ rfl)
instance [tb : TB P t] [ly : Lu n c loc env y (.cv (.bool r))] : St P n c loc env B ms d (.binOp .eql t x y u) True (.cv (.bool (g == r))) := .p fun q _ _ _ _ _ _ s _ _ _ _ _ k => OpW.eqlB tb.h (cvE (lx.h q (s.f x))) (cvE (ly.h q (s.f y))) rfl (k _ rfl)
instance [tb : TB P t] [ly : Lu n c loc env y (.cv (.bool r))] : St P n c loc env B ms d (.binOp .neq t x y u) True (.cv (.bool (g != r))) := .p fun q _ _ _ _ _ _ s _ _ _ _ _ k => OpW.neqB tb.h (cvE (lx.h q (s.f x))) (cvE (ly.h q (s.f y))) rfl (k _ rfl)
end
section
variable {k2 : IntKind} [lx : Lu n c loc env x (.cv (.int k i))] [td : TD P t] [ti : TI P u k2]
instance (priority := high) [a1 : IN i a] [td : TD P t] [ti : TI P u .u32] : St P n c loc env B ms d (.convert t u x) True (.cv (.int .u32 ((a % 4294967296 : Nat) : Int))) := .p fun q sd _ _ _ _ _ s _ _ _ _ _ k => by
  obtain ⟨_, hd⟩ := td.h
  exact OpW.convI hd ti.h (cvE (lx.h q (s.f x))) (by rw [a1.e]; exact conv_u32) (k _ rfl)
instance [a1 : IN i a] [km : KM k2 m] : St P n c loc env B ms d (.convert t u x) (a ≤ m) (.cv (.int k2 (a : Int))) := .p fun q sd _ _ _ _ _ s _ _ _ _ _ k => by
  obtain ⟨_, hd⟩ := td.h
  exact OpW.convI hd ti.h (cvE (lx.h q (s.f x))) (by rw [a1.e]; exact km.h sd) (k _ rfl)
instance (priority := 200) {sd1 : Prop} [KU k2] [a1 : TN i a sd1] [km : KM k2 m] : St P n c loc env B ms d (.convert t u x) (sd1 ∧ a ≤ m) (.cv (.int k2 (a : Int))) := .p fun q sd _ _ _ _ _ s _ _ _ _ _ k => by
  obtain ⟨_, hd⟩ := td.h
  exact OpW.convI hd ti.h (cvE (lx.h q (s.f x))) (by rw [a1.e sd.1]; exact km.h sd.2) (k _ rfl)
instance (priority := low) {lo hi : Int} [km : KI k2 lo hi] : St P n c loc env B ms d (.convert t u x) (lo ≤ i ∧ i ≤ hi) (.cv (.int k2 i)) := .p fun q sd _ _ _ _ _ s _ _ _ _ _ k => by
  obtain ⟨_, hd⟩ := td.h
  exact OpW.convI hd ti.h (cvE (lx.h q (s.f x))) (km.h sd.1 sd.2) (k _ rfl)
end
instance {lo hi : Int} [lx : Lu n c loc env x (.cv (.int k i))] [km : KI k lo hi] : St P n c loc env B ms d (.unOp .neg t x) (lo ≤ -i ∧ -i ≤ hi) (.cv (.int k (-i))) := .p fun q sd _ _ _ _ _ s _ _ _ _ _ k => OpW.negI (cvE (lx.h q (s.f x))) (by rw [Int.zero_sub]; exact km.h sd.1 sd.2) (k _ rfl)
end
end Go.E3
set_option linter.unusedVariables false
namespace Go.E3
open Go Go.Ear
class D0 (α : Type) (d : outParam α) : Prop where t : True
instance : D0 Int 0 := ⟨trivial⟩
instance : D0 Nat 0 := ⟨trivial⟩
instance : D0 Bool false := ⟨trivial⟩
instance {α : Type} : D0 (List α) [] := ⟨trivial⟩
class Rk {α : Type} (r : Rp α) (k : outParam Nat) : Prop where h : r.k = k
def mkRp {α : Type} (k : Nat) (c : α → List SV) (hl : ∀ x, (c x).length = k) (ho : ∀ x, (c x).all SV.one = true) : Rp α where
  k := k
  R := fun h cs x => denL h (c x) cs
  len := fun {h cs x} u => by rw [← hl x]; exact u.length
  one := fun {h cs x} u => u.one (ho x)
  mono := fun u e => u.mono e
def rW : Rp Value := mkRp 1 (fun x => [ov x]) (fun _ => rfl) (fun _ => rfl)
instance : RpC rW (fun x => [ov x]) := ⟨Iff.rfl⟩
instance : Rk rW 1 := ⟨rfl⟩
instance : D0 Value vnil := ⟨trivial⟩
class TStr (P : Program) (t : TypeId) : Prop where h : IsUnd P t .string
theorem cut_part {arr : Array Value} {off n o m : Nat} {vs : List Value} (h : cut arr off n = vs) (ho : o + m ≤ n) : cut arr (off + o) m = (vs.drop o).take m := by
  subst h
  unfold cut
  rw [List.drop_take, List.take_take, List.drop_drop, Nat.min_eq_left (by omega)]
theorem cut_all {arr : Array Value} {h : PH} {l : List SV} (u : denL h l arr.toList) : denL h l (cut arr 0 l.length) := by
  have : cut arr 0 l.length = arr.toList := by unfold cut; rw [← u.length, List.drop_zero]; exact List.take_of_length_le (Nat.le_refl _)
  rw [this]; exact u
structure At (w : World) (b off : Nat) (vs : List Value) : Prop where
  h : ∃ arr t fz, w.heap[b]? = some (.cells arr t fz) ∧ off + vs.length ≤ arr.size ∧ cut arr off vs.length = vs
section
variable {P : Program} {n : Nat} {ρ : Env} {w : World} {K : Env → World → Prop} {d : Tmp} {ty : TypeId} {pos : String} {af : Array Edge} {g : Option (Nat × Bool)} {t : TypeId} {x : Operand} {b off o m : Nat} {vs : List Value} {l l' : List SV} {S : SV} {h : PH}
theorem At.load1 (a : At w b off vs) (u : denL h l vs) [nt : Nth l o S] (ta : IsAgg P t false) (hx : ev n ρ x = .pointer (some ⟨b, off + o, none⟩)) (k : ∀ v, den h S v → K (upd ρ d v) w) : OpW P n ⟨some d, .load t x, ty, pos, af, g⟩ ρ w K := by
  obtain ⟨arr, tt, fz, hb, hs, hc⟩ := a.h
  obtain ⟨v, hv, hd⟩ := u.at nt.h
  have hlt : o < vs.length := by
    rcases Nat.lt_or_ge o vs.length with q | q
    · exact q
    · rw [List.getElem?_eq_none q] at hv; cases hv
  exact OpW.load1 ta hx hb (cut_cell hc o hlt hv) (k v hd)
theorem At.loadA (a : At w b off vs) (u : denL h l vs) [pr : Prt l o m l'] (ta : IsAgg P t true) (tz : IsSize P t m) (hx : ev n ρ x = .pointer (some ⟨b, off + o, none⟩)) (k : ∀ v, den h (.ag l') v → K (upd ρ d v) w) : OpW P n ⟨some d, .load t x, ty, pos, af, g⟩ ρ w K := by
  obtain ⟨arr, tt, fz, hb, hs, hc⟩ := a.h
  have hl := u.length
  have h2 := pr.h.2
  refine OpW.loadA ta tz hx hb (by omega) (cut_part hc (by omega)) (k _ ⟨_, rfl, ?_⟩)
  rw [← pr.h.1]
  exact (u.drop o).take m
end
section
variable {α : Type} {P : Program} {n : Nat} {c : Bool} {loc env : EL} {B : List Res} {ms : List Nat} {d : Nat} {x y z : Operand} {S T : SV} {t u e : TypeId} {k : IntKind} {i j : Int} {a b m o o2 : Nat} {l l' : List SV} {v : Value} {r : Rp α} {q q' : List α} {d0 : α} {f : α → List SV}
theorem pkE {h : PH} {h0 : PH} {w0 w : World} {x : Value} (g : Gr h0 w0 h w) (u : den h (.pk l o) x) : ∃ b off vs, x = .pointer (some ⟨b, off + o, none⟩) ∧ At w b off vs ∧ denL h l vs := by
  obtain ⟨b, off, arr, t, fz, a1, a2, a3, a4⟩ := u
  refine ⟨b, off, _, a2, ⟨arr, t, fz, g.sat _ _ a1, ?_, ?_⟩, a4⟩
  · rw [a4.length]; exact a3
  · rw [a4.length]
class HC (B : List Res) (v : Value) (l : outParam (List SV)) : Prop where h : ∀ {w0 h w}, Sat h w → OwnB w0 B h w → ∃ b off vs, v = .pointer (some ⟨b, off, none⟩) ∧ At w b off vs ∧ denL h l vs
instance [i : HV B v l t] : HC B v l := ⟨fun _ o => by
  obtain ⟨b, arr, e, a, u⟩ := i.h o
  refine ⟨b, 0, arr.toList, e, ⟨arr, t, _, a, by simp, ?_⟩, u⟩
  unfold cut; rw [List.drop_zero]; exact List.take_of_length_le (Nat.le_refl _)⟩
instance : HC (rK v l :: B) v l := ⟨fun s o => by
  obtain ⟨b, off, arr, t, fz, a1, a2, a3, a4⟩ := o.1
  exact ⟨b, off, _, by simpa using a2, ⟨arr, t, fz, s _ _ a1, by rw [a4.length]; exact a3, by rw [a4.length]⟩, a4⟩⟩
instance : HC (bo (rK v l) :: B) v l := ⟨fun s o => by
  obtain ⟨b, off, arr, t, fz, a1, a2, a3, a4⟩ := o.1
  exact ⟨b, off, _, by simpa using a2, ⟨arr, t, fz, s _ _ a1, by rw [a4.length]; exact a3, by rw [a4.length]⟩, a4⟩⟩
instance (priority := 50) {x : Res} [i : HC B v l] : HC (x :: B) v l := ⟨fun s o => i.h s o.2.2.2⟩
instance (priority := 60) [i : HC B v l] : HC (B.map bo) v l := ⟨fun s o => i.h s o.unbo⟩
theorem hvE [i : HC B v l] {h0 : PH} {w0 : World} {ρ : Env} {h : PH} {w : World} {os : List Operand} (s : Sx h0 w0 loc env B os ρ h w) : ∃ b off vs, v = .pointer (some ⟨b, off, none⟩) ∧ At w b off vs ∧ denL h l vs := i.h s.gr.sat s.ow
theorem haE [i : HA B v α r e q] [rc : RpC r f] [D0 α d0] {h0 : PH} {w0 : World} {ρ : Env} {h : PH} {w : World} {os : List Operand} (s : Sx h0 w0 loc env B os ρ h w) {j : Nat} (hj : j < q.length) : ∃ b l c vs, v = .slice (some ⟨b, 0, none⟩) l c ∧ At w b (j * r.k) vs ∧ denL h (f (q.getD j d0)) vs := by
  have o := i.own s.ow
  obtain ⟨b, cap, arr, e, _, _, hb, _, u⟩ := o.block (by intro e; rw [e] at hj; cases hj)
  obtain ⟨cs, hc, hs, hr⟩ := u.at d0 hj
  have hl := r.len hr
  exact ⟨b, _, _, cs, e, ⟨arr, _, _, hb, by rw [hl]; exact hs, by rw [hl]; exact hc⟩, rc.h.1 hr⟩
instance [fa : FA P t a o2] [lx : Lu n c loc env x (.pk l o)] [ad : AddN o o2 b] : St P n c loc env B ms d (.fieldAddr t x a) True (.pk l b) := .p fun q _ _ _ _ _ _ s _ _ _ _ _ k => by
  obtain ⟨fs, f, sz, h1, h2, h3, h4, h5⟩ := fa.h
  have u := lx.h q (s.f x)
  have ⟨b, off, arr, t, fz, a1, a2, a3, a4⟩ := u
  exact OpW.fieldAddr h1 h2 h3 h4 a2 (by rw [h5]) (k _ ⟨b, off, arr, t, fz, a1, by rw [← ad.h, Nat.add_assoc], a3, a4⟩)
instance [fa : FA P t a o2] [lx : Lu n c loc env x (ov v)] [hv : HC B v l] : St P n c loc env B ms d (.fieldAddr t x a) True (fo v o2) := .p fun q _ _ _ _ _ _ s _ _ _ _ _ k => by
  obtain ⟨fs, f, sz, h1, h2, h3, h4, h5⟩ := fa.h
  have u := lx.h q (s.f x)
  obtain ⟨b, off, vs, e, _⟩ := hvE (v := v) s
  exact OpW.fieldAddr h1 h2 h3 h4 (u.1.trans e) (by rw [h5]) (k _ ⟨b, off, e, rfl⟩)
instance [fa : FA P t a o2] [lx : Lu n c loc env x (fo v o)] [ad : AddN o o2 b] : St P n c loc env B ms d (.fieldAddr t x a) True (fo v b) := .p fun q _ _ _ _ _ _ s _ _ _ _ _ k => by
  obtain ⟨fs, f, sz, h1, h2, h3, h4, h5⟩ := fa.h
  obtain ⟨b, off, e1, e2⟩ := lx.h q (s.f x)
  exact OpW.fieldAddr h1 h2 h3 h4 e2 (by rw [h5]) (k _ ⟨b, off, e1, by rw [← ad.h, Nat.add_assoc]⟩)
instance [fa : FA P t a o2] [lx : Lu n c loc env x (pa v m b o)] [ad : AddN o o2 e] : St P n c loc env B ms d (.fieldAddr t x a) True (pa v m b e) := .p fun q _ _ _ _ _ _ s _ _ _ _ _ k => by
  obtain ⟨fs, f, sz, h1, h2, h3, h4, h5⟩ := fa.h
  obtain ⟨b, _, _, e1, e2⟩ := lx.h q (s.f x)
  exact OpW.fieldAddr h1 h2 h3 h4 e2 (by rw [h5]) (k _ ⟨b, _, _, e1, by rw [← ad.h, Nat.add_assoc]⟩)
instance {sd : Prop} [ts : TS P t e] [tz : TZ P e m] [lx : Lu n c loc env x (lv r q)] [ly : Lu n c loc env y (.cv (.int k i))] [tn : TN i a sd] [rk : Rk r m] [rc : RpC r f] [D0 α d0] : St P n c loc env B ms d (.indexAddr t x y) (sd ∧ a < q.length) (.pk (f (q.getD a d0)) 0) := .p fun qc hsd _ _ _ _ _ s _ _ _ _ _ k => by
  have u : LR r _ _ q := lx.h qc (s.f x)
  obtain ⟨base, cp, e, hc⟩ := u.shape
  rw [e] at u
  refine OpW.indexL d0 rk.h.symm ts.h tz.h e u (cvE (ly.h qc (s.f y))) hsd.2 (tn.e hsd.1) fun b o arr e' fz cs hb hcu hsz hR => k _ ?_
  have hl := r.len hR
  rw [rk.h] at hl
  have dl := rc.h.1 hR
  have dll := dl.length
  refine ⟨b, o, arr, e', fz, hb, by simp, by omega, ?_⟩
  rw [← dll, hl, hcu]; exact dl
instance {sd : Prop} [ts : TS P t e] [tz : TZ P e m] [lx : Lu n c loc env x (ov v)] [ha : HA B v α r u q] [ly : Lu n c loc env y (.cv (.int k i))] [tn : TN i a sd] [rk : Rk r m] : St P n c loc env B ms d (.indexAddr t x y) (sd ∧ a < q.length) (pa v m a 0) := .p fun qc hsd _ _ _ _ _ s _ _ _ _ _ k => by
  have u := lx.h qc (s.f x)
  obtain ⟨b, cap, arr, e, _, _, hb, hcp, _⟩ := (ha.own s.ow).block (by intro e; rw [e] at hsd; exact absurd hsd.2 (by simp))
  have hi := tn.e hsd.1
  have := hsd.2
  exact OpW.indexAddr ts.h tz.h (u.1.trans e) (cvE (ly.h qc (s.f y))) (by omega) rfl (k _ ⟨b, _, _, e, by rw [hi]; simp⟩)
instance [ta : TA P t false] [lx : Lu n c loc env x (.pk l o)] [nt : Nth l o S] : St P n c loc env B ms d (.load t x) True S := .p fun q _ _ _ _ _ _ s _ _ _ _ _ k => by
  obtain ⟨b, off, vs, e, a, u⟩ := pkE s.gr (lx.h q (s.f x))
  exact a.load1 u ta.h e k
instance [ta : TA P t true] [tz : TZ P t m] [lx : Lu n c loc env x (.pk l o)] [pr : Prt l o m l'] : St P n c loc env B ms d (.load t x) True (.ag l') := .p fun q _ _ _ _ _ _ s _ _ _ _ _ k => by
  obtain ⟨b, off, vs, e, a, u⟩ := pkE s.gr (lx.h q (s.f x))
  exact a.loadA u ta.h tz.h e k
instance [ta : TA P t false] [lx : Lu n c loc env x (fo v o)] [hv : HC B v l] [nt : Nth l o S] : St P n c loc env B ms d (.load t x) True S := .p fun q _ _ _ _ _ _ s _ _ _ _ _ k => by
  obtain ⟨b, off, vs, e, a, u⟩ := hvE (v := v) s
  obtain ⟨b', off', e1, e2⟩ := lx.h q (s.f x)
  rw [e] at e1; cases e1
  exact a.load1 (o := o) u ta.h e2 k
instance [ta : TA P t true] [tz : TZ P t m] [lx : Lu n c loc env x (fo v o)] [hv : HC B v l] [pr : Prt l o m l'] : St P n c loc env B ms d (.load t x) True (.ag l') := .p fun q _ _ _ _ _ _ s _ _ _ _ _ k => by
  obtain ⟨b, off, vs, e, a, u⟩ := hvE (v := v) s
  obtain ⟨b', off', e1, e2⟩ := lx.h q (s.f x)
  rw [e] at e1; cases e1
  exact a.loadA (o := o) u ta.h tz.h e2 k
instance [ta : TA P t false] [lx : Lu n c loc env x (ov v)] [hv : HC B v l] [nt : Nth l 0 S] : St P n c loc env B ms d (.load t x) True S := .p fun q _ _ _ _ _ _ s _ _ _ _ _ k => by
  obtain ⟨b, off, vs, e, a, u⟩ := hvE (v := v) s
  exact a.load1 (o := 0) u ta.h ((lx.h q (s.f x)).1.trans e) k
instance [ta : TA P t true] [tz : TZ P t m] [lx : Lu n c loc env x (ov v)] [hv : HC B v l] [pr : Prt l 0 m l'] : St P n c loc env B ms d (.load t x) True (.ag l') := .p fun q _ _ _ _ _ _ s _ _ _ _ _ k => by
  obtain ⟨b, off, vs, e, a, u⟩ := hvE (v := v) s
  exact a.loadA (o := 0) u ta.h tz.h ((lx.h q (s.f x)).1.trans e) k
instance [ta : TA P t false] [lx : Lu n c loc env x (pa v m a o)] [ha : HA B v α r e q] [rk : Rk r m] [rc : RpC r f] [D0 α d0] [nt : Nth (f (q.getD a d0)) o S] : St P n c loc env B ms d (.load t x) (a < q.length) S := .p fun qc hsd _ _ _ _ _ s _ _ _ _ _ k => by
  obtain ⟨b, _, _, vs, e, at_, u⟩ := haE (v := v) (d0 := d0) (f := f) s hsd
  obtain ⟨b', _, _, e1, e2⟩ := lx.h qc (s.f x)
  rw [e] at e1; cases e1
  exact at_.load1 (o := o) u ta.h (by rw [e2, rk.h]) k
instance [ta : TA P t true] [tz : TZ P t b] [lx : Lu n c loc env x (pa v m a o)] [ha : HA B v α r e q] [rk : Rk r m] [rc : RpC r f] [D0 α d0] [pr : Prt (f (q.getD a d0)) o b l'] : St P n c loc env B ms d (.load t x) (a < q.length) (.ag l') := .p fun qc hsd _ _ _ _ _ s _ _ _ _ _ k => by
  obtain ⟨b, _, _, vs, e, at_, u⟩ := haE (v := v) (d0 := d0) (f := f) s hsd
  obtain ⟨b', _, _, e1, e2⟩ := lx.h qc (s.f x)
  rw [e] at e1; cases e1
  exact at_.loadA (o := o) u ta.h tz.h (by rw [e2, rk.h]) k
instance [ts : TS P t e] [lx : Lu n c loc env x (lv r q)] : St P n c loc env B ms d (.call ⟨.builtin .len, [x].toArray, [t].toArray⟩) True (.cv (.int .i64 (q.length : Int))) := .p fun qc _ _ _ _ _ _ s _ _ _ _ _ k => by
  have u : LR r _ _ q := lx.h qc (s.f x)
  obtain ⟨base, cp, e, hc⟩ := u.shape
  exact OpW.lenS ts.h e (k _ rfl)
instance [ts : TS P t e] [lx : Lu n c loc env x (ov v)] [ha : HA B v α r u q] : St P n c loc env B ms d (.call ⟨.builtin .len, [x].toArray, [t].toArray⟩) True (.cv (.int .i64 (q.length : Int))) := .p fun qc _ _ _ _ _ _ s _ _ _ _ _ k => by
  obtain ⟨base, cp, e, hc⟩ := (ha.own s.ow).shape
  exact OpW.lenS ts.h ((lx.h qc (s.f x)).1.trans e) (k _ rfl)
instance {bs : Option Addr} [ts : TS P t e] [lx : Lu n c loc env x (.cv (.slice bs a b))] : St P n c loc env B ms d (.call ⟨.builtin .len, [x].toArray, [t].toArray⟩) True (.cv (.int .i64 (a : Int))) := .p fun qc _ _ _ _ _ _ s _ _ _ _ _ k =>
  OpW.lenS ts.h (cvE (lx.h qc (s.f x))) (k _ rfl)
instance {s : ByteArray} [ts : TStr P t] [lx : Lu n c loc env x (.cv (.string s))] : St P n c loc env B ms d (.call ⟨.builtin .len, [x].toArray, [t].toArray⟩) True (.cv (.int .i64 (s.size : Int))) := .p fun qc _ _ _ _ _ _ s _ _ _ _ _ k =>
  OpW.lenStr ts.h (cvE (lx.h qc (s.f x))) (k _ rfl)
section
variable [lx : Lu n c loc env x (.cv (.int k i))] [ly : Lu n c loc env y (.cv (.int k j))] [a1 : IN i a] [b1 : IN j b]
instance : St P n c loc env B ms d (.call ⟨.builtin .max, [x, y].toArray, [t, u].toArray⟩) True (.cv (.int k ((max a b : Nat) : Int))) := .p fun q _ _ _ _ _ _ s _ _ _ _ _ k => OpW.maxI (cvE (lx.h q (s.f x))) (cvE (ly.h q (s.f y))) (fun w => by rw [a1.e, b1.e]; exact max_nat w) (k _ rfl)
instance : St P n c loc env B ms d (.call ⟨.builtin .min, [x, y].toArray, [t, u].toArray⟩) True (.cv (.int k ((min a b : Nat) : Int))) := .p fun q _ _ _ _ _ _ s _ _ _ _ _ k => OpW.minI (cvE (lx.h q (s.f x))) (cvE (ly.h q (s.f y))) (fun w => by rw [a1.e, b1.e]; exact min_nat w) (k _ rfl)
end
instance [lx : Lu n c loc env x (.tp l)] [nt : Nth l a S] : St P n c loc env B ms d (.extract x a) True S := .p fun q _ _ _ _ _ _ s _ _ _ _ _ k => by
  obtain ⟨vs, e, u⟩ := lx.h q (s.f x)
  obtain ⟨v, hv, hd⟩ := u.at nt.h
  exact OpW.extract e (by simpa using hv) (k _ hd)
instance [lx : Lu n c loc env x (.pk l o)] : St P n c loc env B ms d (.nilCheck x) True (.pk l o) := .p fun q _ _ _ _ _ _ s _ _ _ _ _ k => by
  have u := lx.h q (s.f x)
  have ⟨_, _, _, _, _, _, a2, _⟩ := u
  rw [a2] at u
  exact OpW.nilCheck a2 (k _ u)
instance [lx : Lu n c loc env x (ov v)] [hv : HC B v l] : St P n c loc env B ms d (.nilCheck x) True (ov v) := .p fun q _ _ _ _ _ _ s _ _ _ _ _ k => by
  have u := lx.h q (s.f x)
  obtain ⟨b, off, vs, e, _⟩ := hvE (v := v) s
  exact OpW.nilCheck (u.1.trans e) (k _ ⟨e.symm, u.2⟩)
instance [lx : Lu n c loc env x (fo v o)] : St P n c loc env B ms d (.nilCheck x) True (fo v o) := .p fun q _ _ _ _ _ _ s _ _ _ _ _ k => by
  obtain ⟨b, off, e1, e2⟩ := lx.h q (s.f x)
  exact OpW.nilCheck e2 (k _ ⟨b, off, e1, rfl⟩)
theorem LR.drop {h : PH} {base : Option Addr} {len cap m sz : Nat} {l : List α} (u : LR r h (.slice base len cap) l) (hs : sz = r.k) (hm : m ≤ l.length) : LR r h (.slice (if cap = m then base else base.map (·.add (m * sz))) (len - m) (cap - m)) (l.drop m) := by
  obtain ⟨css, s, rr⟩ := u
  refine ⟨css.drop m, ?_, rr.drop m⟩
  subst hs
  have hl := rr.length
  obtain ⟨base', cap', e, h1, h2, h3⟩ := s
  cases e
  refine ⟨_, _, by rw [List.length_drop], by rw [List.length_drop]; omega, fun cs hc => h2 cs (List.mem_of_mem_drop hc), ?_⟩
  rcases h3 with e | ⟨b, off, arr, e', fz, rfl, hb, hsz, hcu⟩
  · exact .inl (by rw [e]; simp)
  · rcases Nat.lt_or_ge m css.length with hlt | hge
    · have hne : ¬ cap = m := by omega
      rw [if_neg hne]
      refine .inr ⟨b, off + m * r.k, arr, e', fz, by simp [addr_add], hb, ?_, fun i cs hi => ?_⟩
      · rw [List.length_drop]
        have : m * r.k + (css.length - m) * r.k = css.length * r.k := by rw [← Nat.add_mul]; congr 1; omega
        omega
      · rw [List.getElem?_drop] at hi
        have := hcu (m + i) cs hi
        rwa [Nat.add_assoc, ← Nat.add_mul]
    · exact .inl (List.drop_eq_nil_of_le hge)
instance [ts : TS P t e] [tz : TZ P e m] [lx : Lu n c loc env x (lv r q)] [ly : Lu n c loc env y (.cv (.int k i))] {sd : Prop} [tn : TN i a sd] : St P n c loc env B ms d (.slice t x none (some y) none) (sd ∧ a ≤ q.length) (lv r (q.take a)) := .p fun qc hsd _ _ _ _ _ s _ _ _ _ _ k => by
  have u : LR r _ _ q := lx.h qc (s.f x)
  obtain ⟨base, cp, e, hc⟩ := u.shape
  rw [e] at u
  exact OpW.sliceTo ts.h tz.h e ((cvE (ly.h qc (s.f y))).trans (by rw [tn.e hsd.1])) (Nat.le_trans hsd.2 hc) (k _ (u.take a hsd.2))
instance [ts : TS P t e] [tz : TZ P e m] [rk : Rk r m] [lx : Lu n c loc env x (lv r q)] [ly : Lu n c loc env y (.cv (.int k i))] {sd : Prop} [tn : TN i a sd] : St P n c loc env B ms d (.slice t x (some y) none none) (sd ∧ a ≤ q.length) (lv r (q.drop a)) := .p fun qc hsd _ _ _ _ _ s _ _ _ _ _ k => by
  have u : LR r _ _ q := lx.h qc (s.f x)
  obtain ⟨base, cp, e, hc⟩ := u.shape
  rw [e] at u
  exact OpW.sliceFrom ts.h tz.h e ((cvE (ly.h qc (s.f y))).trans (by rw [tn.e hsd.1])) hsd.2 (k _ (LR.drop u rk.h.symm hsd.2))
class NotIn (d : Nat) (ms : List Nat) : Prop where t : True
instance : NotIn d [] := ⟨trivial⟩
instance {ms : List Nat} [RflE (Nat.beq d a) false] [NotIn d ms] : NotIn d (a :: ms) := ⟨trivial⟩
instance [NotIn d ms] [lx : Lu n c loc env x S] [cl : Cl S l] : St P n c loc env B ms d (.box t x) True (.pk l 0) := ⟨fun q _ _ _ _ _ _ s _ _ _ _ _ k =>
  OpW.boxK s.gr.sat rfl rfl fun b h' w' gr hb => k _ _ _ gr (by
    have u := (cl.h (lx.h q (s.f x))).mono gr.le
    have hl := u.length
    exact ⟨b, 0, _, t, _, hb, rfl, by simp at hl; omega, cut_all u⟩)⟩
def fnv (f : Fn) (az cs : List SV) : SV := .kv ⟨fun h x => ∃ us vs, x = .func f us.toArray vs.toArray ∧ denL h az us ∧ denL h cs vs, fun ⟨_, _, e, _⟩ => e ▸ rfl, fun le ⟨us, vs, e, a, b⟩ => ⟨us, vs, e, a.mono le, b.mono le⟩⟩
instance {f : Fn} {az cs : List SV} : O1 (fnv f az cs) := ⟨rfl⟩
instance {f : Fn} {xs ys : List Operand} {az cs : List SV} [lx : Lus n c loc env xs az] [ly : Lus n c loc env ys cs] : St P n c loc env B ms d (.makeFunc f xs.toArray ys.toArray) True (fnv f az cs) := .p fun q _ _ _ _ _ _ s _ _ _ _ _ k =>
  OpW.makeFunc rfl (k _ ⟨_, _, rfl, lx.h q fun x hx => s.f x (by simp [Op.operands, hx]), ly.h q fun x hx => s.f x (by simp [Op.operands, hx])⟩)
end
theorem foldl_put : ∀ (cs : List Value) (k off : Nat) (arr : Array Value), (cs.zipIdx k).foldl (fun (a : Array Value) (p : Value × Nat) => a.setIfInBounds (off + p.2) p.1) arr = putIn arr (off + k) cs
  | [], k, off, arr => rfl
  | c :: cs, k, off, arr => by rw [List.zipIdx_cons, List.foldl_cons, foldl_put cs (k + 1) off]; rfl
theorem foldl_set (cs : List Value) (off : Nat) (arr : Array Value) (h : off + cs.length ≤ arr.size) :
    (cs.zipIdx.foldl (fun (a : Array Value) (p : Value × Nat) => a.setIfInBounds (off + p.2) p.1) arr).toList = arr.toList.take off ++ cs ++ arr.toList.drop (off + cs.length) := by
  rw [foldl_put cs 0 off arr]; exact putIn_toList cs arr off h
class Fil (places : List (Nat × Nat)) (l : List SV) (ps : List (Nat × SV)) (l' : outParam (List SV)) : Prop where
  h : ∀ {h : PH} {arr : Array Value} {vs : List (Nat × Value)}, denL h l arr.toList → vs.map (·.1) = ps.map (·.1) → denL h (ps.map (·.2)) (vs.map (·.2)) → ∃ arr', Instr.fill (places[·]?) arr vs = some arr' ∧ denL h l' arr'.toList
instance {places : List (Nat × Nat)} {l : List SV} : Fil places l [] l := ⟨fun {h arr vs} u e _ => by
  cases vs with
  | nil => exact ⟨arr, rfl, u⟩
  | cons v vs => cases e⟩
instance {places : List (Nat × Nat)} {l l1 l2 cs : List SV} {i off sz : Nat} {S : SV} {ps : List (Nat × SV)} [np : Nth places i (off, sz)] [cl : Cl S cs] [hl : RflE cs.length sz] [sp : Spl l off cs l1] [f : Fil places l1 ps l2] : Fil places l ((i, S) :: ps) l2 := ⟨fun {h arr vs} u e d => by
  cases vs with
  | nil => cases e
  | cons v vs =>
    obtain ⟨j, v⟩ := v
    simp only [List.map_cons, List.cons.injEq] at e d
    obtain ⟨rfl, e⟩ := e
    have uc := cl.h d.1
    have hlc := uc.length
    simp only [Array.length_toList] at hlc
    have hla := u.length
    simp only [Array.length_toList] at hla
    have hfit := sp.h.2
    have hs := hl.h
    unfold Instr.fill
    have hp : places[j]? = some (off, sz) := np.h
    simp only [hp]
    rw [if_neg (by simp; omega)]
    refine f.h ?_ e d.2
    rw [← Array.foldl_toList, Array.toList_zipIdx, foldl_set _ off arr (by simp; omega), ← sp.h.1]
    simp only [Array.length_toList, hlc]
    exact ((u.take off).app uc).app (u.drop (off + cs.length))⟩
class Lup (n : Nat) (c : Bool) (loc env : EL) (xs : List (Nat × Operand)) (Ss : outParam (List (Nat × SV))) : Prop where h : c = true → Ss.map (·.1) = xs.map (·.1) ∧ ∀ {h ρ}, (∀ p ∈ xs, Fx loc env h ρ p.2) → denL h (Ss.map (·.2)) (xs.map fun p => ev n ρ p.2)
instance {n : Nat} {c : Bool} {loc env : EL} : Lup n c loc env [] [] := ⟨fun _ => ⟨rfl, fun _ => trivial⟩⟩
instance {n i : Nat} {c : Bool} {loc env : EL} {x : Operand} {xs : List (Nat × Operand)} {S : SV} {Ss : List (Nat × SV)} [a : Lu n c loc env x S] [j : Lup n c loc env xs Ss] : Lup n c loc env ((i, x) :: xs) ((i, S) :: Ss) := ⟨fun q => ⟨by simp [(j.h q).1], fun u => ⟨a.h q (u _ (List.mem_cons_self ..)), (j.h q).2 fun p hp => u p (List.mem_cons_of_mem _ hp)⟩⟩⟩
section
variable {α : Type} {P : Program} {n : Nat} {c : Bool} {loc env : EL} {B : List Res} {ms : List Nat} {d : Nat} {t e : TypeId} {xs : List (Nat × Operand)} {ps : List (Nat × SV)} {places : List (Nat × Nat)} {zl l : List SV}
instance [lx : Lup n c loc env xs ps] [bt : BT P t places zl] [f : Fil places zl ps l] : St P n c loc env B ms d (.build t xs.toArray) True (.ag l) := .p fun q _ _ _ ρ _ _ s _ _ _ _ _ k => by
  obtain ⟨fs, z, h1, h2, h3, h4⟩ := bt.h
  obtain ⟨e1, e2⟩ := lx.h q
  obtain ⟨arr, hf, u⟩ := f.h (arr := z.cells) (vs := xs.map fun p => (p.1, ev n ρ p.2)) h4 (by rw [List.map_map]; exact e1.symm) (by rw [List.map_map]; exact e2 fun p hp => s.f p.2 (by simp [Op.operands]; exact ⟨_, hp⟩))
  exact OpW.build h1 h2 h3 (cs := arr.toList) (by rw [hf]) (k _ ⟨arr.toList, by simp, u⟩)
theorem isZero_of {e : TypeId} {k b : Nat} {z : Value} {i : TypeInfo} (el : El P e k b z i) : IsZero P e z := fun w => by
  simp [zeroValue, typeInfo, el.hi, el.hz]
class Rd {α : Type} (r : Rp α) (S : SV) (x : outParam α) : Prop where h : ∀ {h v}, den h S v → r.R h v.cells.toList x
class Els {α : Type} (r : Rp α) (i : Nat) (ps : List (Nat × SV)) (l : outParam (List α)) : Prop where
  h : ∀ {h : PH} {xs : List (Nat × Value)}, xs.map (·.1) = ps.map (·.1) → denL h (ps.map (·.2)) (xs.map (·.2)) → Go.Ear.Rows r h (xs.map fun p => p.2.cells.toList) l ∧ ∀ {sz : Nat} {arr : Array Value}, sz = r.k → (i + l.length) * sz ≤ arr.size →
    ∃ arr', Instr.fill (fun i => some (i * sz, sz)) arr xs = some arr' ∧ arr'.toList = arr.toList.take (i * sz) ++ (xs.map fun p => p.2.cells.toList).flatten ++ arr.toList.drop ((i + l.length) * sz)
instance {r : Rp α} {i : Nat} : Els r i [] [] := ⟨fun {h xs} e _ => by
  cases xs with
  | nil => exact ⟨trivial, fun {sz arr} _ _ => ⟨arr, rfl, by simp⟩⟩
  | cons x xs => cases e⟩
instance {r : Rp α} {i : Nat} {S : SV} {ps : List (Nat × SV)} {x : α} {l : List α} [rd : Rd r S x] [f : Els r (i + 1) ps l] : Els r i ((i, S) :: ps) (x :: l) := ⟨fun {h xs} e u => by
  cases xs with
  | nil => cases e
  | cons v xs =>
    obtain ⟨j, v⟩ := v
    simp only [List.map_cons, List.cons.injEq] at e u
    obtain ⟨rfl, e⟩ := e
    obtain ⟨a1, a2⟩ := f.h e u.2
    refine ⟨⟨rd.h u.1, a1⟩, fun {sz arr} hk hfit => ?_⟩
    have hv := r.len (rd.h u.1)
    rw [← hk] at hv
    simp only [Array.length_toList] at hv
    simp only [List.length_cons] at hfit ⊢
    have m1 : (j + 1) * sz = j * sz + sz := by rw [Nat.add_mul, Nat.one_mul]
    have m2 : (j + (l.length + 1)) * sz = (j + 1 + l.length) * sz := by congr 1; omega
    have m3 : (j + 1 + l.length) * sz = j * sz + sz + l.length * sz := by rw [Nat.add_mul, m1]
    rw [m2] at hfit ⊢
    have hle : j * sz + v.cells.toList.length ≤ arr.size := by simp only [Array.length_toList]; omega
    have hput := putIn_toList v.cells.toList arr (j * sz) hle
    obtain ⟨arr', h1, h2⟩ := a2 (arr := putIn arr (j * sz) v.cells.toList) hk (by rw [putIn_size]; exact hfit)
    refine ⟨arr', ?_, ?_⟩
    · unfold Instr.fill
      simp only
      rw [if_neg (by simp; omega), ← Array.foldl_toList, Array.toList_zipIdx, foldl_put _ 0 (j * sz) arr]
      exact h1
    · rw [h2, hput]
      simp only [List.map_cons, List.flatten_cons, Array.length_toList] at *
      have e1 : (arr.toList.take (j * sz) ++ v.cells.toList ++ arr.toList.drop (j * sz + v.cells.size)).take ((j + 1) * sz) = arr.toList.take (j * sz) ++ v.cells.toList := by
        rw [List.take_append_of_le_length (by simp; omega)]
        exact List.take_of_length_le (by simp; omega)
      have e2 : (arr.toList.take (j * sz) ++ v.cells.toList ++ arr.toList.drop (j * sz + v.cells.size)).drop ((j + 1 + l.length) * sz) = arr.toList.drop ((j + 1 + l.length) * sz) := by
        have hl1 : (arr.toList.take (j * sz) ++ v.cells.toList).length = j * sz + sz := by simp; omega
        rw [List.drop_append, List.drop_eq_nil_of_le (by omega), hl1, List.drop_drop, List.nil_append]
        congr 1; omega
      rw [e1, e2]; simp⟩
instance {len : Nat} {r : Rp α} {bb : Nat} {d0 : α} {q : List α} [nn : NotIn d ms] [lx : Lup n c loc env xs ps] [ts : TS P t e] [rt : RT P e α r bb d0] [f : Els r 0 ps q] : St P n c loc env B ms d (.buildSlice t len xs.toArray) (q.length = len ∧ Nat.ble (len * r.k) 16777216 = true) (lv r q) := ⟨fun qc sd _ _ ρ _ _ s _ _ _ _ _ k => by
  obtain ⟨e1, e2⟩ := lx.h qc
  obtain ⟨z, i, el, hz⟩ := rt.e
  have hzk : z.cells.size = r.k := el.hc.trans el.hk
  obtain ⟨rr, hf⟩ := f.h (xs := xs.map fun p => (p.1, ev n ρ p.2)) (by rw [List.map_map]; exact e1.symm) (by rw [List.map_map]; exact e2 fun p hp => s.f p.2 (by simp [Op.operands]; exact ⟨_, hp⟩))
  obtain ⟨arr, h1, h2⟩ := hf (sz := z.cells.size) (arr := ((List.replicate len z.cells.toList).flatten).toArray) hzk (by simp [sd.1])
  refine OpW.buildSliceO s.gr.sat ts.h (isZero_of el) (by rw [hzk]; exact rt.k) (by rw [hzk]; exact sd.2) h1 fun b w' gr hn hlo hb => ?_
  obtain ⟨h', g', le, hb', _⟩ := freeze_ex gr hb hn hlo
  refine k _ _ _ g' ?_
  refine LR.own' hb' (css := xs.map fun p => (ev n ρ p.2).cells.toList) ?_ ?_ sd.1 (Nat.le_refl _)
  · apply Array.toList_inj.1
    rw [h2, Nat.zero_mul, Nat.zero_add, sd.1, List.drop_eq_nil_of_le (by simp)]
    simp only [List.take_zero, List.nil_append, List.append_nil, List.map_map]
    rfl
  · have := rr.mono le
    rwa [List.map_map] at this⟩
end
class Ct (P : Program) (f : FuncId) (args : List SV) (side : outParam Prop) (S : outParam SV) : Prop where
  fn : IsFn P f
  h : side → ∀ {h w vs}, Sat h w → denL h args vs → Calls P f vs.toArray w (Ret h w fun h' v => den h' S v)
class CtB (P : Program) (f : FuncId) (args : List SV) (B : List Res) (side : outParam Prop) (S : outParam SV) : Prop where
  fn : IsFn P f
  h : side → ∀ {w0 h w vs}, Sat h w → OwnB w0 B h w → denL h args vs → Calls P f vs.toArray w (Ret h w fun h' v => den h' S v)
instance (priority := 10) {P : Program} {f : FuncId} {args : List SV} {x : Res} {B : List Res} {sd : Prop} {S : SV} [c : CtB P f args B sd S] : CtB P f args (x :: B) sd S := ⟨c.fn, fun a _ _ _ _ s o u => c.h a s o.2.2.2 u⟩
instance (priority := 20) {P : Program} {f : FuncId} {args : List SV} {B : List Res} {sd : Prop} {S : SV} [c : CtB P f args B sd S] : CtB P f args (B.map bo) sd S := ⟨c.fn, fun a _ _ _ _ s o u => c.h a s o.unbo u⟩
instance (priority := 200) {P : Program} {f : FuncId} {args : List SV} {B : List Res} {sd : Prop} {S : SV} [c : Ct P f args sd S] : CtB P f args B sd S := ⟨c.fn, fun a _ _ _ _ s _ u => c.h a s u⟩
theorem ctK {P : Program} {f : FuncId} {az : List SV} {sd : Prop} {S : SV} {l : List SV} (c : ∀ v, CtB P f (ov v :: az) [rK v l] sd S) : Ct P f (.pk l 0 :: az) sd S := ⟨(c vnil).fn, fun a h w vs s u => by
  match vs, u with
  | v :: vs, u =>
    have ho : v.oneCell' = true := by obtain ⟨b, off, arr, t, fz, _, e, _⟩ := u.1; rw [e]; rfl
    exact (c v).h (w0 := w) a s ⟨u.1, fun i hi => hi.elim, (fun r' hr' => by cases hr'), trivial⟩ ⟨⟨rfl, ho⟩, u.2⟩⟩
class App3 (a b c : List SV) (l : outParam (List SV)) : Prop where h : a ++ b ++ c = l
instance {c : List SV} : App3 [] [] c c := ⟨rfl⟩
instance {x : SV} {b c l : List SV} [i : App3 [] b c l] : App3 [] (x :: b) c (x :: l) := ⟨by simp [← i.h]⟩
instance {x : SV} {a b c l : List SV} [i : App3 a b c l] : App3 (x :: a) b c (x :: l) := ⟨by simp [← i.h]⟩
section
variable {P : Program} {n : Nat} {c : Bool} {loc env : EL} {B : List Res} {ms : List Nat} {d : Nat} {x : Operand} {S : SV} {f : FuncId} {xs : List Operand} {ts : Array TypeId} {az cs as1 l : List SV} {sd : Prop}
instance [lx : Lus n c loc env xs az] [ct : CtB P f az B sd S] : St P n c loc env B ms d (.call ⟨.value (.func f), xs.toArray, ts⟩) sd S := ⟨fun q hs _ _ _ _ _ s _ _ _ _ _ k =>
  OpW.callF ct.fn rfl (ct.h hs s.gr.sat s.ow (lx.h q fun x hx => s.f x (by simp [Op.operands, Call.operands, hx]))) fun v h' w' gr u => k v h' w' gr u⟩
class Fv (P : Program) (F : SV) (az : List SV) (B : List Res) (side : outParam Prop) (S : outParam SV) : Prop where
  h : side → ∀ {w0 h w x vs}, Sat h w → OwnB w0 B h w → den h F x → denL h az vs → ∃ (f : FuncId) (us cs : List Value), x = .func (.func f) us.toArray cs.toArray ∧ IsFn P f ∧ Calls P f (us ++ vs ++ cs).toArray w (Ret h w fun h' v => den h' S v)
instance [ap : App3 as1 az cs l] [ct : CtB P f l B sd S] : Fv P (fnv (.func f) as1 cs) az B sd S := ⟨fun hs w0 h w x vs sat ow u a => by
  obtain ⟨us, ws, e, a1, a2⟩ := u
  exact ⟨f, us, ws, e, ct.fn, ct.h hs sat ow (by rw [← ap.h]; exact (a1.app a).app a2)⟩⟩
instance [ct : CtB P f az B sd S] : Fv P (.cv (.func (.func f) #[] #[])) az B sd S := ⟨fun hs w0 h w x vs sat ow u a => ⟨f, [], [], u, ct.fn, by simpa using ct.h hs sat ow a⟩⟩
instance (priority := 10) {F : SV} {r : Res} [c : Fv P F az B sd S] : Fv P F az (r :: B) sd S := ⟨fun a _ _ _ _ _ s o u v => c.h a s o.2.2.2 u v⟩
instance (priority := 20) {F : SV} [c : Fv P F az B sd S] : Fv P F az (B.map bo) sd S := ⟨fun a _ _ _ _ _ s o u v => c.h a s o.unbo u v⟩
instance {t : Nat} {F : SV} [lf : Lu n c loc env (.tmp t) F] [lx : Lus n c loc env xs az] [fv : Fv P F az B sd S] : St P n c loc env B ms d (.call ⟨.value (.tmp t), xs.toArray, ts⟩) sd S := ⟨fun q hs _ _ _ _ _ s _ _ _ _ _ k => by
  obtain ⟨g, us, cs, e, hf, hc⟩ := fv.h hs s.gr.sat s.ow (lf.h q (s.f (.tmp t))) (lx.h q fun x hx => s.f x (by simp [Op.operands, Call.operands, hx]))
  exact OpW.callV e hf rfl hc fun v h' w' gr u => k v h' w' gr u⟩
end
end Go.E3
set_option linter.unusedVariables false
namespace Go.E3
open Go Go.Ear
inductive Kt where
  | fin
  | seq (c : Code) (k : Kt)
  | blk (id : Nat) (k : Kt)
  | scp (k : Kt)
  | cut (I : Act → World → Prop) (k : Kt)
  | asg (b : Nat) (o o' : Obj) (c : Code) (k : Kt)
def WT (C : Ctx) (P : Program) (n : Nat) (c : Code) (T : Exit → Act → World → Prop) (ρ : Env) (w : World) : Prop := c.wpIn (FX C) 0 P T (mkX C n ρ) w
def thenT (N : Act → World → Prop) (T : Exit → Act → World → Prop) : Exit → Act → World → Prop
  | .normal, a, w => N a w
  | e, a, w => T e a w
def scopeT (T : Exit → Act → World → Prop) : Exit → Act → World → Prop
  | .goto _, _, _ => False
  | e, a, w => T e a w
def run (r : Option Nat) (P : Program) (T : Exit → Act → World → Prop) : Kt → Exit → Act → World → Prop
  | .fin => T
  | .seq c k => thenT (c.wpIn { Fence.wide with round := r } 0 P (run r P T k)) (run r P T k)
  | .blk id k => Exit.inBlock id (run r P T k)
  | .scp k => scopeT (run r P T k)
  | .cut I k => thenT I (run r P T k)
  | .asg b o o' c k => thenT (fun a w => w.heap[b]? = some o ∧ ∀ w', Put w w' b o' → w' = w.putObj b o' → c.wpIn { Fence.wide with round := r } 0 P (run r P T k) a w') fun _ _ _ => False
section
variable {C : Ctx} {P : Program} {n : Nat} {T : Exit → Act → World → Prop} {ρ : Env} {w : World}
theorem WT.mono {c : Code} {T' : Exit → Act → World → Prop} (h : WT C P n c T ρ w) (hq : ∀ e a w, T e a w → T' e a w) : WT C P n c T' ρ w := wpIn_mono h hq
theorem WT.cond {c : Operand} {x y : Code} {t : Bool} (hc : ev n ρ c = .bool t) (ht : t = true → WT C P n x T ρ w) (hf : t = false → WT C P n y T ρ w) : WT C P n (.cond c x y) T ρ w := wpIn_cond_split (by rw [eval_mkX, hc]) ht hf
theorem WT.region {id : Nat} {l : List Oper} (hd : l.all noDefer = true) (h : Ops P n l.toArray (fun ρ w => T .normal (mkX C n ρ) w) l ρ w) : WT C P n (.region id l.toArray false) T ρ w := by
  refine wpIn_mono (WpX.region (X := C) (Q := onlyN fun ρ w => T .normal (mkX C n ρ) w) hd h) ?_
  rintro e a w ⟨ρ', rfl, q⟩
  cases e <;> first | exact q | exact q.elim
theorem WT.draw {id : Nat} {l : List Oper} {K : Env → World → Prop} (hd : l.all noDefer = true)
    (h : ∀ t, wpOps P l.toArray (toQ n (onlyN K)) (Region.schedule (P.follows .mixedOrders) l.toArray t) (mk n ρ) { w with drawn := w.drawn + 1 }) (hk : ∀ ρ w, K ρ w → T .normal (mkX C n ρ) w) : WT C P n (.region id l.toArray true) T ρ w := by
  refine wpIn_mono (WpX.draw (X := C) (K := K) (Q := onlyN K) hd h fun _ _ x => x) ?_
  rintro e a w ⟨ρ', rfl, q⟩
  cases e <;> first | exact hk _ _ q | exact q.elim
theorem WT.scope0 {c : Code} (h : WT X0 P n c (scopeT T) ρ w) : WT X0 P n (.scope c) T ρ w := wpIn_wide.2 (wp_scope_straight (wp_mono (wpIn_wide.1 h) fun e a w q => by cases e <;> first | exact q | exact q.elim))
theorem WT.loop {σ : Type} {c : Code} (I : σ → Env → World → Prop) (μ : σ → Nat) (s₀ : σ) (h₀ : I s₀ ρ w)
    (round : ∀ s ρ w, I s ρ w → WT C P n c (thenT (fun a w' => ∃ ρ', a = mkX C n ρ' ∧ ∃ s', I s' ρ' w' ∧ μ s' < μ s) T) ρ w) : WT C P n (.loop c) T ρ w := by
  refine wpIn_loop_ghost (fun k a w => ∃ s ρ, a = mkX C n ρ ∧ I s ρ w ∧ μ s = k) (μ s₀) ⟨s₀, ρ, rfl, h₀, rfl⟩ ?_
  rintro k a w ⟨s, ρ, rfl, hI, rfl⟩
  refine wpIn_mono (round s ρ w hI) ?_
  rintro e a w hq
  cases e with
  | normal => obtain ⟨ρ', rfl, s', hI', hlt⟩ := hq; exact ⟨μ s', hlt, s', ρ', rfl, hI', rfl⟩
  | _ => exact hq
end
structure Fix where
  T : Exit → Act → World → Prop
  h0 : PH
  w0 : World
  c : Ctx
class C0 (X : Fix) : Prop where h : X.c = X0
instance {T : Exit → Act → World → Prop} {h0 : PH} {w0 : World} : C0 ⟨T, h0, w0, X0⟩ := ⟨rfl⟩
structure GW (P : Program) (n : Nat) (X : Fix) (ms : List Nat) (loc env : EL) (B : List Res) (c : Code) (k : Kt) : Prop where p : ∀ ρ h w, Sy X.h0 X.w0 loc env B ρ h w → WT X.c P n c (run X.c.round P X.T k) ρ w
structure GX (P : Program) (n : Nat) (X : Fix) (ms : List Nat) (loc env : EL) (B : List Res) (e : Exit) (k : Kt) : Prop where p : ∀ ρ h w, Sy X.h0 X.w0 loc env B ρ h w → run X.c.round P X.T k e (mkX X.c n ρ) w
def isAsg : Op → Bool
  | .assign _ => true
  | .move _ => true
  | _ => false
def memN (d : Nat) : List Nat → Bool
  | [] => false
  | x :: l => Nat.beq x d || memN d l
def okR : List Oper → List Nat → List Nat → Bool
  | [], _, _ => true
  | o :: rest, L, E => (match o.dst with | none => okR rest L E | some d => !memN d L && (isAsg o.op || !memN d E) && okR rest (d :: L) E)
structure GO (P : Program) (n : Nat) (X : Fix) (ms : List Nat) (loc env : EL) (B : List Res) (ol rest : List Oper) (k : Kt) : Prop where
  p : okR rest (loc.map (·.1)) (env.map (·.1)) = true → ∀ ρ h w, Sy X.h0 X.w0 loc env B ρ h w → Ops P n ol.toArray (fun ρ w => run X.c.round P X.T k .normal (mkX X.c n ρ) w) rest ρ w
class Nx (g : Prop) (side g' : outParam Prop) : Prop where h : side → g' → g
structure Chk (b : Bool) : Prop where h : b = true
theorem nx {g side g' : Prop} [i : Nx g side g'] (k : g') (hs : side := by
  first
  | trivial
  | exact ⟨by kernel_rfl⟩
  | ((repeat' first | trivial | refine And.intro ?_ ?_ | intro _) <;> first | omega | rfl | (simp only [List.length_take, List.length_drop, List.length_append, List.length_cons, List.length_nil, List.length_set, List.length_replicate] at *; omega))) : g := i.h hs k
theorem nIn_of {d : Nat} : ∀ {l : EL}, memN d (l.map (·.1)) = false → nIn d l = true
  | [], _ => rfl
  | (s, S) :: l, h => by
    simp only [List.map_cons, memN, Bool.or_eq_false_iff] at h
    simp only [nIn, h.1, Bool.not_false, Bool.true_and]
    exact nIn_of h.2
class AppL {α : Type _} (a b : List α) (c : outParam (List α)) : Prop where h : a ++ b = c
instance {α : Type _} {b : List α} : AppL [] b b := ⟨rfl⟩
instance {α : Type _} {x : α} {a b c : List α} [i : AppL a b c] : AppL (x :: a) b (x :: c) := ⟨by rw [← i.h]; rfl⟩
theorem EnvOk.app {h : PH} {ρ : Env} : ∀ {a b : EL}, EnvOk h ρ a → EnvOk h ρ b → EnvOk h ρ (a ++ b)
  | [], _, _, v => v
  | _ :: _, _, u, v => ⟨u.1, EnvOk.app u.2 v⟩
class InE (env : EL) (d : Nat) : Prop where t : True
instance {env : EL} {d : Nat} {S : SV} : InE ((d, S) :: env) d := ⟨trivial⟩
instance (priority := low) {env : EL} {d s : Nat} {S : SV} [InE env d] : InE ((s, S) :: env) d := ⟨trivial⟩
class Dl (env : EL) (d : Nat) (env' : outParam EL) : Prop where h : nIn d env' = true ∧ (∀ {h ρ}, EnvOk h ρ env → EnvOk h ρ env') ∧ ∀ e, memN e (env.map (·.1)) = false → memN e (env'.map (·.1)) = false
instance {d : Nat} : Dl [] d [] := ⟨rfl, fun u => u, fun _ h => h⟩
instance {d : Nat} {S : SV} {env env' : EL} [i : Dl env d env'] : Dl ((d, S) :: env) d env' := ⟨i.h.1, fun u => i.h.2.1 u.2, fun e h => i.h.2.2 e (by simp only [List.map_cons, memN, Bool.or_eq_false_iff] at h; exact h.2)⟩
instance (priority := low) {d s : Nat} {S : SV} {env env' : EL} [b : RflE (Nat.beq s d) false] [i : Dl env d env'] : Dl ((s, S) :: env) d ((s, S) :: env') := ⟨by simp [nIn, b.h, i.h.1], fun u => ⟨u.1, i.h.2.1 u.2⟩, fun e h => by
  simp only [List.map_cons, memN, Bool.or_eq_false_iff] at h ⊢; exact ⟨h.1, i.h.2.2 e h.2⟩⟩
structure Gh where
  v : Value
  l : List Value
class OwL (l env : EL) (env' : outParam EL) : Prop where h : ∀ {h ρ}, EnvOk h ρ l → EnvOk h ρ env → EnvOk h ρ env'
instance {env : EL} : OwL [] env env := ⟨fun _ u => u⟩
instance (priority := low) {l env env' : EL} {p : Nat × SV} [i : OwL l env env'] : OwL (p :: l) env env' := ⟨fun a u => i.h a.2 u⟩
instance {l env env' : EL} {ν : Nat → Gh} {d : Nat} [i : OwL l env env'] : OwL ((d, ov (ν d).v) :: l) env ((d, ov (ν d).v) :: env') := ⟨fun a u => ⟨a.1, i.h a.2 u⟩⟩
instance {l env env' : EL} {S : SV} {d : Nat} [i : OwL l env env'] : OwL ((d, .cn true S) :: l) env ((d, S) :: env') := ⟨fun a u => ⟨a.1.1 rfl, i.h a.2 u⟩⟩
section
variable {P : Program} {n : Nat} {X : Fix} {ms : List Nat} {loc env env' : EL} {B B' : List Res} {c x y : Code} {I : Act → World → Prop} {k : Kt} {ol rest : List Oper} {d : Nat} {op : Op} {ty : TypeId} {pos : String} {af : Array Edge} {sd : Prop} {S : SV}
instance : Nx (GW P n X ms loc env B (.seq x y) k) True (GW P n X ms loc env B x (.seq y k)) := ⟨fun _ a => ⟨fun ρ h w s => wpIn_seq (a.p ρ h w s)⟩⟩
instance : Nx (GW P n X ms loc env B .skip k) True (GX P n X ms loc env B .normal k) := ⟨fun _ a => ⟨fun ρ h w s => wpIn_skip (a.p ρ h w s)⟩⟩
instance {l : Nat} : Nx (GW P n X ms loc env B (.label l) k) True (GX P n X ms loc env B .normal k) := ⟨fun _ a => ⟨fun ρ h w s => wpIn_label (a.p ρ h w s)⟩⟩
instance {id : Nat} : Nx (GW P n X ms loc env B (.exit id) k) True (GX P n X ms loc env B (.exit id) k) := ⟨fun _ a => ⟨fun ρ h w s => wpIn_exit (a.p ρ h w s)⟩⟩
instance : Nx (GW P n X ms loc env B .ret k) True (GX P n X ms loc env B .ret k) := ⟨fun _ a => ⟨fun ρ h w s => wpIn_ret (a.p ρ h w s)⟩⟩
instance {id : Nat} : Nx (GW P n X ms loc env B (.block id x) k) True (GW P n X ms loc env B x (.blk id k)) := ⟨fun _ a => ⟨fun ρ h w s => wpIn_block (a.p ρ h w s)⟩⟩
instance [hx : C0 X] : Nx (GW P n X ms loc env B (.scope x) k) True (GW P n X ms loc env B x (.scp k)) := ⟨fun _ a => ⟨fun ρ h w s => by
  have h1 := a.p ρ h w s
  rw [hx.h] at h1 ⊢
  exact WT.scope0 h1⟩⟩
instance : Nx (GX P n X ms loc env B .normal (.seq c k)) True (GW P n X ms loc env B c k) := ⟨fun _ a => ⟨fun ρ h w s => a.p ρ h w s⟩⟩
instance {id : Nat} : Nx (GX P n X ms loc env B .normal (.blk id k)) True (GX P n X ms loc env B .normal k) := ⟨fun _ a => ⟨fun ρ h w s => a.p ρ h w s⟩⟩
instance : Nx (GX P n X ms loc env B .normal (.scp k)) True (GX P n X ms loc env B .normal k) := ⟨fun _ a => ⟨fun ρ h w s => a.p ρ h w s⟩⟩
instance {id : Nat} : Nx (GX P n X ms loc env B (.exit id) (.seq c k)) True (GX P n X ms loc env B (.exit id) k) := ⟨fun _ a => ⟨fun ρ h w s => a.p ρ h w s⟩⟩
instance {id : Nat} : Nx (GX P n X ms loc env B (.exit id) (.scp k)) True (GX P n X ms loc env B (.exit id) k) := ⟨fun _ a => ⟨fun ρ h w s => a.p ρ h w s⟩⟩
instance {id : Nat} : Nx (GX P n X ms loc env B (.exit id) (.cut I k)) True (GX P n X ms loc env B (.exit id) k) := ⟨fun _ a => ⟨fun ρ h w s => a.p ρ h w s⟩⟩
instance {id : Nat} : Nx (GX P n X ms loc env B (.exit id) (.blk id k)) True (GX P n X ms loc env B .normal k) := ⟨fun _ a => ⟨fun ρ h w s => by
  show Exit.inBlock id (run X.c.round P X.T k) (.exit id) _ w
  simp only [Exit.inBlock, if_true]; exact a.p ρ h w s⟩⟩
instance (priority := low) {id id' : Nat} [b : RflE (Nat.beq id' id) false] : Nx (GX P n X ms loc env B (.exit id') (.blk id k)) True (GX P n X ms loc env B (.exit id') k) := ⟨fun _ a => ⟨fun ρ h w s => by
  show Exit.inBlock id (run X.c.round P X.T k) (.exit id') _ w
  have hn : ¬ id' = id := fun e => by have := b.h; rw [e, beq_self] at this; cases this
  simp only [Exit.inBlock, if_neg hn]; exact a.p ρ h w s⟩⟩
instance : Nx (GX P n X ms loc env B .ret (.seq c k)) True (GX P n X ms loc env B .ret k) := ⟨fun _ a => ⟨fun ρ h w s => a.p ρ h w s⟩⟩
instance {id : Nat} : Nx (GX P n X ms loc env B .ret (.blk id k)) True (GX P n X ms loc env B .ret k) := ⟨fun _ a => ⟨fun ρ h w s => a.p ρ h w s⟩⟩
instance : Nx (GX P n X ms loc env B .ret (.scp k)) True (GX P n X ms loc env B .ret k) := ⟨fun _ a => ⟨fun ρ h w s => a.p ρ h w s⟩⟩
instance : Nx (GX P n X ms loc env B .ret (.cut I k)) True (GX P n X ms loc env B .ret k) := ⟨fun _ a => ⟨fun ρ h w s => a.p ρ h w s⟩⟩
theorem Sy.sb {h0 : PH} {w0 : World} {ρ : Env} {h : PH} {w : World} (s : Sy h0 w0 loc env B ρ h w) (p : Sb B B') : Sy h0 w0 loc env B' ρ h w := ⟨s.gr, s.lo, s.en, p.own s.ow⟩
instance {b : Nat} {o o' : Obj} [po : PO B b o B'] : Nx (GX P n X ms loc env B .normal (.asg b o o' c k)) True (GW P n X ms loc env (rO b o' :: B') c k) := ⟨fun _ a => ⟨fun ρ h w s => by
  have s' := s.sb po.h
  obtain ⟨e, f, d, g⟩ := s'.ow
  refine ⟨e, fun w' p _ => a.p ρ h w' ⟨s'.gr.put p (f b rfl).1 ((f b rfl).2.1 rfl), s'.lo, s'.en, p.at_, fun i hi => ⟨(f i hi).1, (f i hi).2.1, by rw [p.size]; exact (f i hi).2.2⟩, d, OwnB.after p g fun r hr q => d r hr b rfl q⟩⟩⟩⟩
instance {id : Nat} : Nx (GW P n X ms loc env B (.region id ol.toArray false) k) (Chk (okR ol [] (env.map (·.1)) && ol.all noDefer)) (GO P n X ms [] env B ol ol k) := ⟨fun ok a => ⟨fun ρ h w s => WT.region (Bool.and_eq_true_iff.1 ok.h).2 (a.p (Bool.and_eq_true_iff.1 ok.h).1 ρ h w ⟨s.gr, trivial, s.en, s.ow⟩)⟩⟩
instance {p : Nat × SV} [ow : OwL (p :: loc) env env'] : Nx (GO P n X ms (p :: loc) env B ol [] k) True (GX P n X ms [p] env' B .normal k) := ⟨fun _ a => ⟨fun _ ρ h w s => Ops.nil (a.p ρ h w ⟨s.gr, ⟨s.lo.1, trivial⟩, ow.h s.lo s.en, s.ow⟩)⟩⟩
instance (priority := high) {id : Nat} {y : Code} [ap : AppL loc env env'] : Nx (GO P n X ms loc env B ol [] (.seq (.seq (.block id (.loop c)) y) k)) True (GX P n X ms [] env' B .normal (.seq (.seq (.block id (.loop c)) y) k)) := ⟨fun _ a => ⟨fun _ ρ h w s => Ops.nil (a.p ρ h w ⟨s.gr, trivial, by rw [← ap.h]; exact s.lo.app s.en, s.ow⟩)⟩⟩
instance (priority := high) {id : Nat} [ap : AppL loc env env'] : Nx (GO P n X ms loc env B ol [] (.seq (.block id (.loop c)) k)) True (GX P n X ms [] env' B .normal (.seq (.block id (.loop c)) k)) := ⟨fun _ a => ⟨fun _ ρ h w s => Ops.nil (a.p ρ h w ⟨s.gr, trivial, by rw [← ap.h]; exact s.lo.app s.en, s.ow⟩)⟩⟩
instance : Nx (GO P n X ms [] env B ol [] k) True (GX P n X ms [] env B .normal k) := ⟨fun _ a => ⟨fun _ ρ h w s => Ops.nil (a.p ρ h w s)⟩⟩
theorem okR_some {o : Oper} {d : Nat} (hd : o.dst = some d) {L E : List Nat} (h : okR (o :: rest) L E = true) : memN d L = false ∧ (isAsg o.op = false → memN d E = false) ∧ okR rest (d :: L) E = true := by
  unfold okR at h
  rw [hd] at h
  simp only [Bool.and_eq_true, Bool.not_eq_true', Bool.or_eq_true] at h
  exact ⟨h.1.1, fun e => h.1.2.resolve_left (by rw [e]; exact Bool.noConfusion), h.2⟩
theorem okR_none {o : Oper} (hd : o.dst = none) {L E : List Nat} (h : okR (o :: rest) L E = true) : okR rest L E = true := by
  unfold okR at h
  rw [hd] at h; exact h
theorem okR_swap : ∀ {rest : List Oper} {L E L' E' : List Nat}, (∀ e, memN e L = false → memN e L' = false) → (∀ e, memN e L = false → memN e E = false → memN e E' = false) → okR rest L E = true → okR rest L' E' = true
  | [], _, _, _, _, _, _, _ => rfl
  | o :: rest, L, E, L', E', hL, hE, h => by
    unfold okR at h ⊢
    cases hd : o.dst with
    | none => simp only [hd] at h ⊢; exact okR_swap hL hE h
    | some d =>
      simp only [hd, Bool.and_eq_true, Bool.not_eq_true', Bool.or_eq_true] at h ⊢
      refine ⟨⟨hL d h.1.1, h.1.2.imp (fun x => x) (hE d h.1.1)⟩, okR_swap (fun e he => ?_) (fun e he => ?_) h.2⟩
      · simp only [memN, Bool.or_eq_false_iff] at he ⊢
        exact ⟨he.1, hL e he.2⟩
      · simp only [memN, Bool.or_eq_false_iff] at he
        exact hE e he.2
theorem Sy.put {h0 : PH} {w0 : World} {ρ : Env} {h h' : PH} {w w' : World} {v : Value} (s : Sy h0 w0 loc env B ρ h w) (g : Gr h w h' w') (u : den h' S v) (hl : memN d (loc.map (·.1)) = false) (he : memN d (env.map (·.1)) = false) : Sy h0 w0 ((d, S) :: loc) env B (upd ρ d v) h' w' :=
  ⟨s.gr.trans g, ⟨by rw [upd_at]; exact u, (s.lo.upd (nIn_of hl)).mono g.le⟩, (s.en.upd (nIn_of he)).mono g.le, s.ow.grow g⟩
instance (priority := low) {x : Operand} [st : St P n true loc env B ms d (.move x) sd S] : Nx (GO P n X ms loc env B ol (⟨some d, .move x, ty, pos, af, none⟩ :: rest) k) (memN d (env.map (·.1)) = false ∧ sd) (GO P n X ms ((d, S) :: loc) env B ol rest k) := ⟨fun hs a => ⟨fun ok ρ h w s => by
  obtain ⟨h1, h2, h3⟩ := okR_some rfl ok
  exact Ops.cons (st.h rfl hs.2 (s.x _) fun v h' w' g u => a.p h3 _ _ _ (s.put g u h1 hs.1))⟩⟩
instance (priority := low) [st : St P n true loc env B ms d op sd S] : Nx (GO P n X ms loc env B ol (⟨some d, op, ty, pos, af, none⟩ :: rest) k) ((isAsg op = false) ∧ sd) (GO P n X ms ((d, S) :: loc) env B ol rest k) := ⟨fun hs a => ⟨fun ok ρ h w s => by
  obtain ⟨h1, h2, h3⟩ := okR_some rfl ok
  exact Ops.cons (st.h rfl hs.2 (s.x _) fun v h' w' g u => a.p h3 _ _ _ (s.put g u h1 (h2 hs.1)))⟩⟩
end
end Go.E3
