/- K6: a part of the proof about training through the decoder: how the program's functions run, and what they compute, for every input. -/
import Derived.Test.YtdciabokggfpbaaGreatK5
set_option linter.all false
namespace Go.E3
open Go Go.Ear
class RflE {α : Sort _} (a : α) (b : outParam α) : Prop where h : a = b
instance {α : Sort _} {a : α} : RflE a a := ⟨rfl⟩
class TS (P : Program) (t : TypeId) (e : outParam TypeId) : Prop where h : IsUnd P t (.slice e)
class TZ (P : Program) (t : TypeId) (k : outParam Nat) : Prop where h : IsSize P t k
class TA (P : Program) (t : TypeId) (b : outParam Bool) : Prop where h : IsAgg P t b
class TI (P : Program) (t : TypeId) (k : outParam IntKind) : Prop where h : IsUnd P t (.int k)
class TD (P : Program) (t : TypeId) : Prop where h : ∃ d,IsUnd P t d
class TB (P : Program) (t : TypeId) : Prop where h : IsUnd P t .bool
class FA (P : Program) (t : TypeId) (i : Nat) (o : outParam Nat) : Prop where
 h : ∃ (fs : Array Field) (f : Field) (sz : Nat),IsUnd P t (.struct fs) /\ fs[i]? = some f /\ IsSize P f.type sz /\ sz ≠ 0 /\ f.offset = o
class ZC (P : Program) (t : TypeId) (l : outParam (List SV)) : Prop where h : ∃ z,IsZero P t z /\ ∀ {h},denL h l z.cells.toList
structure El (P : Program) (e : TypeId) (k b : Nat) (z : Value) (i : TypeInfo) : Prop where
 hi : P.info? e = some i
 hz : i.zero = some z
 hc : z.cells.size = i.size
 hk : i.size = k
 hb : i.bytes = b
class RT (P : Program) (e : TypeId) (α : outParam Type) (r : outParam (Rp α)) (bb : outParam Nat) (d : outParam α) : Prop where
 k : IsSize P e r.k
 e : ∃ z i,El P e r.k bb z i /\ ∀ h,r.R h z.cells.toList d
class BT (P : Program) (t : TypeId) (places : outParam (List (Nat × Nat))) (zl : outParam (List SV)) : Prop where
 h : ∃ fs z,IsUnd P t (.struct fs) /\ IsZero P t z /\ (∀ w,(fs.mapM fun (f : Field) => (do pure (f.offset, <- sizeOf f.type) : Sem (Nat × Nat))).run P w = .ok places.toArray w) /\ ∀ {h},denL h zl z.cells.toList
theorem blt_of {a b : Nat} (h : Nat.ble b a = false) : Nat.blt a b = true := by
 rw [blt_eq]; apply decide_eq_true
 rcases Nat.lt_or_ge a b with q | q
 · exact q
 · rw [Nat.ble_eq_true_of_le q] at h; cases h
class LkE (env : EL) (t : Nat) (S : outParam SV) : Prop where h : (t,S) ∈ env
instance LkE.hd {env : EL} {t : Nat} {S : SV} : LkE ((t,S) :: env) t S := ⟨List.mem_cons_self ..⟩
instance (priority := low) LkE.tl {env : EL} {t d : Nat} {S X : SV} [i : LkE env t S] : LkE ((d,X) :: env) t S := ⟨List.mem_cons_of_mem _ i.h⟩
class LkT (loc env : EL) (t : Nat) (S : outParam SV) : Prop where h : (t,S) ∈ loc \/ (t,S) ∈ env
instance {loc env : EL} {t : Nat} {S : SV} [i : LkE loc t S] : LkT loc env t S := ⟨.inl i.h⟩
instance (priority := low) {loc env : EL} {t : Nat} {S : SV} [i : LkE env t S] : LkT loc env t S := ⟨.inr i.h⟩
class Im (c d : Bool) : Prop where h : c = true -> d = true
instance {c : Bool} : Im c c := ⟨fun x => x⟩
instance {a b c : Bool} [i : Im b c] : Im (a && b) c := ⟨fun x => i.h (Bool.and_eq_true_iff.1 x).2⟩
instance {c : Bool} : Im c true := ⟨fun _ => rfl⟩
class Un (c : Bool) (S : SV) (T : outParam SV) : Prop where h : c = true -> ∀ {h v},den h S v -> den h T v
instance {c d : Bool} {S : SV} [i : Im c d] : Un c (.cn d S) S := ⟨fun x _ _ u => u.1 (i.h x)⟩
instance (priority := low) {c : Bool} {S : SV} : Un c S S := ⟨fun _ _ _ u => u⟩
class Lu (n : Nat) (c : Bool) (loc env : EL) (x : Operand) (S : outParam SV) : Prop where h : c = true -> ∀ {h ρ},Fx loc env h ρ x -> den h S (ev n ρ x)
section
variable {n : Nat} {c : Bool} {loc env : EL} {S T : SV} {t : Nat}
instance {v : Value} : Lu n c loc env (.const v) (.cv v) := ⟨fun _ _ _ _ => rfl⟩
instance {f : FuncId} : Lu n c loc env (.func f) (.cv (.func (.func f) #[] #[])) := ⟨fun _ _ _ _ => rfl⟩
instance [b : RflE (Nat.ble n t) false] [i : LkT loc env t S] [u : Un c S T] : Lu n c loc env (.tmp t) T := ⟨fun x h ρ a => by
 have : ev n ρ (.tmp t) = ρ t := by show (bif Nat.blt t n then ρ t else undef) = ρ t; rw [blt_of b.h]; rfl
 rw [this]; exact u.h x (a t _ rfl i.h)⟩
end
class Lus (n : Nat) (c : Bool) (loc env : EL) (xs : List Operand) (Ss : outParam (List SV)) : Prop where h : c = true -> ∀ {h ρ},(∀ x ∈ xs,Fx loc env h ρ x) -> denL h Ss (xs.map (ev n ρ))
instance {n : Nat} {c : Bool} {loc env : EL} : Lus n c loc env [] [] := ⟨fun _ _ _ _ => trivial⟩
instance {n : Nat} {c : Bool} {loc env : EL} {x : Operand} {xs : List Operand} {S : SV} {Ss : List SV} [i : Lu n c loc env x S] [j : Lus n c loc env xs Ss] : Lus n c loc env (x :: xs) (S :: Ss) := ⟨fun q _ _ a => ⟨i.h q (a x (List.mem_cons_self ..)),j.h q fun y hy => a y (List.mem_cons_of_mem _ hy)⟩⟩
class Nth {α : Type _} (l : List α) (o : Nat) (S : outParam α) : Prop where h : l[o]? = some S
instance {α : Type _} {l : List α} {S : α} : Nth (S :: l) 0 S := ⟨rfl⟩
instance {α : Type _} {l : List α} {S X : α} {o : Nat} [i : Nth l o S] : Nth (X :: l) (o + 1) S := ⟨by simpa using i.h⟩
class Prt (l : List SV) (o m : Nat) (l' : outParam (List SV)) : Prop where h : (l.drop o).take m = l' /\ o + m <= l.length
instance {l : List SV} : Prt l 0 0 [] := ⟨by simp,by simp⟩
instance {l l' : List SV} {x : SV} {m : Nat} [i : Prt l 0 m l'] : Prt (x :: l) 0 (m + 1) (x :: l') := ⟨by simp [<- i.h.1],by have := i.h.2; simp; omega⟩
instance {l l' : List SV} {x : SV} {o m : Nat} [i : Prt l o m l'] : Prt (x :: l) (o + 1) m l' := ⟨by simp [<- i.h.1],by have := i.h.2; simp; omega⟩
class Spl (l : List SV) (o : Nat) (cs : List SV) (l' : outParam (List SV)) : Prop where h : l.take o ++ cs ++ l.drop (o + cs.length) = l' /\ o + cs.length <= l.length
instance {l : List SV} : Spl l 0 [] l := ⟨by simp,by simp⟩
instance {l l' cs : List SV} {x c : SV} [i : Spl l 0 cs l'] : Spl (x :: l) 0 (c :: cs) (c :: l') := ⟨by have := i.h.1; simp at this; simp [this],by have := i.h.2; simp at this ⊢; omega⟩
instance {l l' cs : List SV} {x : SV} {o : Nat} [i : Spl l o cs l'] : Spl (x :: l) (o + 1) cs (x :: l') := ⟨by rw [<- i.h.1,show o + 1 + cs.length = (o + cs.length) + 1 by omega]; rfl,by have := i.h.2; simp; omega⟩
class AddN (a b : Nat) (c : outParam Nat) : Prop where h : a + b = c
instance (priority := high) {b : Nat} : AddN 0 b b := ⟨Nat.zero_add b⟩
instance {a : Nat} : AddN a 0 a := ⟨rfl⟩
instance (priority := low) {a b : Nat} : AddN a b (a + b) := ⟨rfl⟩
class Cl (S : SV) (l : outParam (List SV)) : Prop where h : ∀ {h v},den h S v -> denL h l v.cells.toList
class O1 (S : SV) : Prop where h : S.one = true
instance {l : List SV} {o : Nat} : O1 (.pk l o) := ⟨rfl⟩
instance {k : IntKind} {i : Int} : O1 (.cv (.int k i)) := ⟨rfl⟩
instance {b : Bool} : O1 (.cv (.bool b)) := ⟨rfl⟩
instance {b : Option Addr} {l c : Nat} : O1 (.cv (.slice b l c)) := ⟨rfl⟩
instance {f : Fn} {a b : Array Value} : O1 (.cv (.func f a b)) := ⟨rfl⟩
instance {α : Type} {r : Rp α} {l : List α} : O1 (lv r l) := ⟨rfl⟩
instance {v : Value} : O1 (ov v) := ⟨rfl⟩
class O1L (l : List SV) : Prop where h : l.all SV.one = true
instance : O1L [] := ⟨rfl⟩
instance {S : SV} {l : List SV} [o : O1 S] [i : O1L l] : O1L (S :: l) := ⟨by rw [List.all_cons,o.h,i.h]; rfl⟩
theorem cells_one {v : Value} (h : v.oneCell' = true) : v.cells = #[v] := by cases v <;> first | rfl | cases h
instance {l : List SV} : Cl (.ag l) l := ⟨fun ⟨vs,e,u⟩ => by subst e; exact u⟩
instance (priority := low) {S : SV} [o : O1 S] : Cl S [S] := ⟨fun u => by rw [cells_one (u.one o.h)]; exact ⟨u,trivial⟩⟩
class HV (B : List Res) (v : Value) (l : outParam (List SV)) (t : outParam TypeId) : Prop where h : ∀ {w0 h w},OwnB w0 B h w -> ∃ b arr,v = .pointer (some ⟨b,0,none⟩) /\ w.heap[b]? = some (.cells arr t (0,0)) /\ denL h l arr.toList
class HA (B : List Res) (v : Value) (α : outParam Type) (r : outParam (Rp α)) (e : outParam TypeId) (l : outParam (List α)) : Prop where h : ∀ {w0 h w},OwnB w0 B h w -> OwnL r 0 h w e v l
class MV (B : List Res) (v : Value) (l : outParam (List SV)) (t : outParam TypeId) : Prop where h : rV v l t ∈ B
class MA (B : List Res) (v : Value) (α : outParam Type) (r : outParam (Rp α)) (e : outParam TypeId) (l : outParam (List α)) : Prop where h : rA r e v l ∈ B
class MZ (B : List Res) (vs : List Value) (α : outParam Type) (r : outParam (Rp α)) (e : outParam TypeId) (ls : outParam (List (List α))) : Prop where h : rZ r e vs ls ∈ B
structure Sb (B B' : List Res) : Prop where
 own : ∀ {w0 h w},OwnB w0 B h w -> OwnB w0 B' h w
 fp : ∀ r' ∈ B', ∀ i,r'.fp i -> ∃ r ∈ B,r.fp i
theorem Sb.refl (B : List Res) : Sb B B := ⟨fun o => o,fun r h i x => ⟨r,h,x⟩⟩
theorem Sb.perm {A B : List Res} (p : A.Perm B) : Sb A B := ⟨fun o => o.perm p,fun r h i x => ⟨r,p.mem_iff.2 h,x⟩⟩
theorem Sb.trans {A B C : List Res} (x : Sb A B) (y : Sb B C) : Sb A C := ⟨fun o => y.own (x.own o),fun r h i q => by
 obtain ⟨r1,h1,f1⟩ := y.fp r h i q
 exact x.fp r1 h1 i f1⟩
theorem Sb.cons {A B : List Res} (x : Res) (s : Sb A B) : Sb (x :: A) (x :: B) := ⟨fun o => ⟨o.1,o.2.1,fun r' hr' i hi q => by
 obtain ⟨r,hr,f⟩ := s.fp r' hr' i q
 exact o.2.2.1 r hr i hi f,s.own o.2.2.2⟩,fun r hr i q => by
 rcases List.mem_cons.1 hr with rfl | hr
 · exact ⟨_,List.mem_cons_self ..,q⟩
 · obtain ⟨r',h',f⟩ := s.fp r hr i q
   exact ⟨r',List.mem_cons_of_mem _ h',f⟩⟩
theorem Sb.drop1 (x : Res) (B : List Res) : Sb (x :: B) B := ⟨fun o => o.2.2.2,fun r h i q => ⟨r,List.mem_cons_of_mem _ h,q⟩⟩
class PV (B : List Res) (v : Value) (l : outParam (List SV)) (t : outParam TypeId) (B' : outParam (List Res)) : Prop where h : Sb B (rV v l t :: B')
class PA (B : List Res) (v : Value) (α : outParam Type) (r : outParam (Rp α)) (e : outParam TypeId) (l : outParam (List α)) (B' : outParam (List Res)) : Prop where h : Sb B (rA r e v l :: B')
class PZ (B : List Res) (vs : List Value) (α : outParam Type) (r : outParam (Rp α)) (e : outParam TypeId) (ls : outParam (List (List α))) (B' : outParam (List Res)) : Prop where h : Sb B (rZ r e vs ls :: B')
class PO (B : List Res) (b : Nat) (o : outParam Obj) (B' : outParam (List Res)) : Prop where h : Sb B (rO b o :: B')
class UA (B : List Res) (v : Value) (α : outParam Type) (r : outParam (Rp α)) (e : outParam TypeId) (l : outParam (List α)) (mk : outParam (List α -> List Res)) : Prop where
 own : ∀ {w0 h w},OwnB w0 B h w -> OwnL r 0 h w e v l /\ ∀ b,Value.blk v = some b -> w0.heap.size <= b /\ h b = none
 fpm : ∃ x ∈ B, ∀ b,Value.blk v = some b -> x.fp b
 sub : ∀ l', ∀ r' ∈ mk l', ∃ x ∈ B, ∀ i,r'.fp i -> x.fp i
 put : ∀ {w0 h w w' l' b o},OwnB w0 B h w -> Put w w' b o -> Value.blk v = some b -> OwnL r 0 h w' e v l' -> l'.length = l.length -> OwnB w0 (mk l') h w'
section
variable {α : Type} {B B' : List Res} {v v' : Value} {l l' : List SV} {t e : TypeId} {x y : Res} {r : Rp α} {m m' : List α} {vs : List Value} {ls : List (List α)} {k : Nat} {mk : List α -> List Res}
instance : HV (rV v l t :: B) v l t := ⟨fun o => o.1⟩
instance (priority := low) [i : HV B v l t] : HV (x :: B) v l t := ⟨fun o => i.h o.2.2.2⟩
instance [i : HV B v l t] : HV (B.map bo) v l t := ⟨fun o => i.h o.unbo⟩
instance : HA (rA r e v m :: B) v α r e m := ⟨fun o => o.1⟩
instance : HA (rZ r e vs ls :: B) (vs.getD k vnil) α r e (ls.getD k []) := ⟨fun o => o.1.2.1 k⟩
instance (priority := low) [i : HA B v α r e m] : HA (x :: B) v α r e m := ⟨fun o => i.h o.2.2.2⟩
instance [i : HA B v α r e m] : HA (B.map bo) v α r e m := ⟨fun o => i.h o.unbo⟩
instance : MV (rV v l t :: B) v l t := ⟨List.mem_cons_self ..⟩
instance : MA (rA r e v m :: B) v α r e m := ⟨List.mem_cons_self ..⟩
instance (priority := low) [i : MA B v α r e m] : MA (x :: B) v α r e m := ⟨List.mem_cons_of_mem _ i.h⟩
instance : MZ (rZ r e vs ls :: B) vs α r e ls := ⟨List.mem_cons_self ..⟩
instance (priority := low) [i : MZ B vs α r e ls] : MZ (x :: B) vs α r e ls := ⟨List.mem_cons_of_mem _ i.h⟩
theorem Sb.next (i : Sb B (y :: B')) : Sb (x :: B) (y :: x :: B') := (i.cons x).trans (.perm (.swap ..))
instance : PV (rV v l t :: B) v l t B := ⟨.refl _⟩
instance (priority := low) [i : PV B v l t B'] : PV (x :: B) v l t (x :: B') := ⟨i.h.next⟩
instance : PA (rA r e v m :: B) v α r e m B := ⟨.refl _⟩
instance (priority := low) [i : PA B v α r e m B'] : PA (x :: B) v α r e m (x :: B') := ⟨i.h.next⟩
instance : PZ (rZ r e vs ls :: B) vs α r e ls B := ⟨.refl _⟩
instance (priority := low) [i : PZ B vs α r e ls B'] : PZ (x :: B) vs α r e ls (x :: B') := ⟨i.h.next⟩
instance {b : Nat} {o : Obj} : PO (rO b o :: B) b o B := ⟨.refl _⟩
instance (priority := low) {b : Nat} {o : Obj} [i : PO B b o B'] : PO (x :: B) b o (x :: B') := ⟨i.h.next⟩
theorem getD_set' {β : Type _} {l : List β} {k t : Nat} {a d : β} (h : k < l.length) : (l.set k a).getD t d = if t = k then a else l.getD t d := by
 rw [List.getD_eq_getElem?_getD,List.getD_eq_getElem?_getD,List.getElem?_set]
 by_cases e : t = k
 · subst e; simp [h]
 · rw [if_neg (fun q => e q.symm),if_neg e]
theorem blk_nil : Value.blk vnil = none := rfl
instance : PA (rZ r e vs ls :: B) (vs.getD k vnil) α r e (ls.getD k []) (rZ r e (vs.set k vnil) (ls.set k []) :: B) := ⟨by
 have hz : ∀ (t b : Nat),Value.blk ((vs.set k vnil).getD t vnil) = some b -> t ≠ k /\ Value.blk (vs.getD t vnil) = some b := fun t b hb => by
  rcases Nat.lt_or_ge k vs.length with hk | hk
  · rw [getD_set' hk] at hb
    by_cases e : t = k
    · rw [if_pos e,blk_nil] at hb; cases hb
    · rw [if_neg e] at hb; exact ⟨e,hb⟩
  · rw [List.set_eq_of_length_le hk] at hb
    refine ⟨fun e => ?_,hb⟩
    subst e; rw [getD_off hk,blk_nil] at hb; cases hb
 refine ⟨fun {w0 h w} o => ?_,fun r' hr' i hi => ?_⟩
 · obtain ⟨⟨a,b,c⟩,f,d,g⟩ := o
   refine ⟨b k,fun i hi => f i ⟨k,hi⟩,fun r' hr' i hi => ?_,⟨by rw [List.length_set,List.length_set]; exact a,fun t => ?_,fun t u b' h1 h2 => c t u b' (hz t b' h1).2 (hz u b' h2).2⟩,fun i ⟨t,ht⟩ => f i ⟨t,(hz t i ht).2⟩,fun r' hr' i ⟨t,ht⟩ => d r' hr' i ⟨t,(hz t i ht).2⟩,g⟩
   · rcases List.mem_cons.1 hr' with rfl | hr'
     · rintro ⟨t,ht⟩; exact (hz t i ht).1 (c t k i (hz t i ht).2 hi)
     · exact d r' hr' i ⟨k,hi⟩
   · rcases Nat.lt_or_ge k vs.length with hk | hk
     · rw [getD_set' hk,getD_set' (by omega)]
       by_cases e : t = k
       · rw [if_pos e,if_pos e]; exact OwnL.nil _ _ _ _ _
       · rw [if_neg e,if_neg e]; exact b t
     · rw [List.set_eq_of_length_le hk,List.set_eq_of_length_le (by omega)]; exact b t
 · rcases List.mem_cons.1 hr' with rfl | hr'
   · exact ⟨_,List.mem_cons_self ..,k,hi⟩
   · rcases List.mem_cons.1 hr' with rfl | hr'
     · obtain ⟨t,ht⟩ := hi
       exact ⟨_,List.mem_cons_self ..,t,(hz t i ht).2⟩
     · exact ⟨_,List.mem_cons_of_mem _ hr',hi⟩⟩
theorem OwnB.after {w0 : World} {h : PH} {w w' : World} {b : Nat} {o : Obj} (p : Put w w' b o) : ∀ {B : List Res},OwnB w0 B h w -> (∀ r ∈ B, ¬ r.fp b) -> OwnB w0 B h w' := fun {B} ob hn =>
 ob.keep (fun _ _ x => x) (by rw [p.size]; exact Nat.le_refl _) fun r hr i hi => ⟨p.other i fun e => hn r hr (e ▸ hi),(ob.foot r hr i hi).1⟩
instance : UA (rA r e v m :: B) v α r e m (fun m' => rA r e v m' :: B) where
 own := fun o => ⟨o.1,fun b hb => ⟨(o.2.1 b hb).2.1 rfl,(o.2.1 b hb).1⟩⟩
 fpm := ⟨_,List.mem_cons_self ..,fun _ q => q⟩
 sub := fun l' r' hr' => by
  rcases List.mem_cons.1 hr' with rfl | hr'
  · exact ⟨_,List.mem_cons_self ..,fun _ q => q⟩
  · exact ⟨_,List.mem_cons_of_mem _ hr',fun _ q => q⟩
 put := fun o p hb u _ => ⟨u,fun i hi => ⟨(o.2.1 i hi).1,(o.2.1 i hi).2.1,by rw [p.size]; exact (o.2.1 i hi).2.2⟩,o.2.2.1,OwnB.after p o.2.2.2 fun r hr q => o.2.2.1 r hr _ hb q⟩
instance : UA (rZ r e vs ls :: B) (vs.getD k vnil) α r e (ls.getD k []) (fun m' => rZ r e vs (ls.set k m') :: B) where
 own := fun o => ⟨o.1.2.1 k,fun b hb => ⟨(o.2.1 b ⟨k,hb⟩).2.1 rfl,(o.2.1 b ⟨k,hb⟩).1⟩⟩
 fpm := ⟨_,List.mem_cons_self ..,fun _ q => ⟨k,q⟩⟩
 sub := fun l' r' hr' => by
  rcases List.mem_cons.1 hr' with rfl | hr'
  · exact ⟨_,List.mem_cons_self ..,fun _ q => q⟩
  · exact ⟨_,List.mem_cons_of_mem _ hr',fun _ q => q⟩
 put := fun {w0 h w w' l' b o'} o p hb u hl => by
  obtain ⟨⟨a,q,c⟩,f,d,g⟩ := o
  have hk : k < vs.length := by
   rcases Nat.lt_or_ge k vs.length with hk | hk
   · exact hk
   · rw [getD_off hk,blk_nil] at hb; cases hb
  refine ⟨⟨by rw [List.length_set]; exact a,fun t => ?_,c⟩,fun i hi => ⟨(f i hi).1,(f i hi).2.1,by rw [p.size]; exact (f i hi).2.2⟩,d,OwnB.after p g fun r hr q => d r hr _ ⟨k,hb⟩ q⟩
  rw [getD_set' (by omega)]
  by_cases e : t = k
  · subst e; rw [if_pos rfl]; exact u
  · rw [if_neg e]
    exact (q t).put p fun hb' => e (c t k _ hb' hb)
instance (priority := low) [i : UA B v α r e m mk] : UA (x :: B) v α r e m (fun m' => x :: mk m') where
 own := fun o => i.own o.2.2.2
 fpm := by obtain ⟨y,hy,f⟩ := i.fpm; exact ⟨y,List.mem_cons_of_mem _ hy,f⟩
 sub := fun l' r' hr' => by
  rcases List.mem_cons.1 hr' with rfl | hr'
  · exact ⟨_,List.mem_cons_self ..,fun _ q => q⟩
  · obtain ⟨y,hy,f⟩ := i.sub l' r' hr'; exact ⟨y,List.mem_cons_of_mem _ hy,f⟩
 put := fun {w0 h w w' l' b o'} o p hb u hl => by
  obtain ⟨y,hy,f⟩ := i.fpm
  have hn : ¬ x.fp b := fun q => o.2.2.1 y hy b q (f b hb)
  refine ⟨x.st (fun _ _ q => q) (fun j hj => p.other j fun e => hn (e ▸ hj)) (fun j hj => (o.2.1 j hj).1) o.1,fun j hj => ⟨(o.2.1 j hj).1,(o.2.1 j hj).2.1,by rw [p.size]; exact (o.2.1 j hj).2.2⟩,fun r' hr' j hj q => ?_,i.put o.2.2.2 p hb u hl⟩
  obtain ⟨y2,hy2,f2⟩ := i.sub l' r' hr'
  exact o.2.2.1 y2 hy2 j hj (f2 j q)
end
theorem HV.own {B : List Res} {v : Value} {l : List SV} {t : TypeId} [i : HV B v l t] {w0 : World} {h : PH} {w : World} (o : OwnB w0 B h w) : ∃ b arr,v = .pointer (some ⟨b,0,none⟩) /\ w.heap[b]? = some (.cells arr t (0,0)) /\ denL h l arr.toList := i.h o
theorem HA.own {α : Type} {B : List Res} {v : Value} {r : Rp α} {e : TypeId} {m : List α} [i : HA B v α r e m] {w0 : World} {h : PH} {w : World} (o : OwnB w0 B h w) : OwnL r 0 h w e v m := i.h o
class IN (i : Int) (n : outParam Nat) : Prop where e : i = n
instance (n : Nat) : IN (n : Int) n := ⟨rfl⟩
instance (n : Nat) : IN (no_index (OfNat.ofNat n : Int)) (OfNat.ofNat n) := ⟨rfl⟩
class TN (i : Int) (n : outParam Nat) (sd : outParam Prop) : Prop where e : sd -> i = n
instance (priority := high) {i : Int} {n : Nat} [x : IN i n] : TN i n True := ⟨fun _ => x.e⟩
instance {i j : Int} {a b : Nat} {s : Prop} [x : TN i a s] [y : IN j b] : TN (i - j) (a - b) (s /\ b <= a) := ⟨fun h => by rw [x.e h.1,y.e]; omega⟩
instance {i j : Int} {a b : Nat} {s : Prop} [x : TN i a s] [y : IN j b] : TN (i + j) (a + b) s := ⟨fun h => by rw [x.e h,y.e]; omega⟩
instance (priority := low) {i : Int} : TN i i.toNat (0 <= i) := ⟨fun h => by omega⟩
class KM (k : IntKind) (m : outParam Nat) : Prop where h : ∀ {a : Nat},a <= m -> k.wrap (a : Int) = (a : Int)
instance : KM .i64 9223372036854775807 := ⟨conv_i64⟩
instance : KM .u64 18446744073709551615 := ⟨conv_u64⟩
instance : KM .u8 255 := ⟨fun h => conv_u8' (by omega)⟩
class KI (k : IntKind) (a b : outParam Int) : Prop where h : ∀ {x : Int},a <= x -> x <= b -> k.wrap x = x
instance : KI .i64 (-9223372036854775808) 9223372036854775807 := ⟨fun h1 h2 => in_i64 ⟨h1,h2⟩⟩
class KU (k : IntKind) : Prop where t : True
instance : KU .u64 := ⟨trivial⟩
class TP (b : Bool) (p : outParam Prop) : Prop where h : b = true ↔ p
instance {p : Prop} [Decidable p] : TP (decide p) p := ⟨decide_eq_true_iff⟩
instance {a b : Bool} {p q : Prop} [i : TP a p] [j : TP b q] : TP (a && b) (p /\ q) := ⟨by rw [Bool.and_eq_true,i.h,j.h]⟩
instance {a b : Bool} {p q : Prop} [i : TP a p] [j : TP b q] : TP (a || b) (p \/ q) := ⟨by rw [Bool.or_eq_true,i.h,j.h]⟩
instance {a : Bool} {p : Prop} [i : TP a p] : TP (!a) (¬ p) := ⟨by rw [<- i.h]; cases a <;> simp⟩
instance (priority := low) {b : Bool} : TP b (b = true) := ⟨Iff.rfl⟩
instance : TP true True := ⟨by simp⟩
instance : TP false False := ⟨by simp⟩
class St (P : Program) (n : Nat) (c : Bool) (loc env : EL) (B : List Res) (ms : List Nat) (d : Nat) (op : Op) (side : outParam Prop) (S : outParam SV) : Prop where
 h : c = true -> side -> ∀ {h0 w0 ρ h w},Sx h0 w0 loc env B op.operands.toList ρ h w -> ∀ {ty : TypeId} {pos : String} {af : Array Edge} {g : Option (Nat × Bool)} {K : Env -> World -> Prop},(∀ v h' w',Gr h w h' w' -> den h' S v -> K (upd ρ d v) w') -> OpW P n ⟨some d,op,ty,pos,af,g⟩ ρ w K
theorem St.p {P : Program} {n : Nat} {c : Bool} {loc env : EL} {B : List Res} {ms : List Nat} {d : Nat} {op : Op} {side : Prop} {S : SV}
 (f : c = true -> side -> ∀ {h0 w0 ρ h w},Sx h0 w0 loc env B op.operands.toList ρ h w -> ∀ {ty : TypeId} {pos : String} {af : Array Edge} {g : Option (Nat × Bool)} {K : Env -> World -> Prop},(∀ v,den h S v -> K (upd ρ d v) w) -> OpW P n ⟨some d,op,ty,pos,af,g⟩ ρ w K) : St P n c loc env B ms d op side S :=
 ⟨fun a b _ _ _ _ _ s _ _ _ _ _ k => f a b s fun v u => k v _ _ (Gr.refl s.gr.sat) u⟩
section
variable {P : Program} {n : Nat} {c : Bool} {loc env : EL} {B : List Res} {ms : List Nat} {d : Nat} {x y z : Operand} {S T : SV} {t u : TypeId} {k : IntKind} {i j : Int} {a b m : Nat}
instance [l : Lu n c loc env x S] : St P n c loc env B ms d (.move x) True S := .p fun q _ _ _ _ _ _ s _ _ _ _ _ k => OpW.move rfl (k _ (l.h q (s.f x)))
theorem cvE {h : PH} {x v : Value} (u : den h (.cv v) x) : x = v := u
instance {g r : Bool} [l : Lu n c loc env x (.cv (.bool g))] [ly : Lu n (c && g) loc env y (.cv (.bool r))] : St P n c loc env B ms d (.pick x y (.const (.bool false))) True (.cv (.bool (g && r))) := .p fun q _ _ _ _ _ _ s _ _ _ _ _ k => by
 have e := cvE (l.h q (s.f x))
 cases g with
 | false => exact OpW.pickF e rfl (k _ rfl)
 | true => exact OpW.pickT e (cvE (ly.h (by rw [q]; rfl) (s.f y))) (k _ rfl)
instance {g r : Bool} [l : Lu n c loc env x (.cv (.bool g))] [ly : Lu n (c && !g) loc env y (.cv (.bool r))] : St P n c loc env B ms d (.pick x (.const (.bool true)) y) True (.cv (.bool (g || r))) := .p fun q _ _ _ _ _ _ s _ _ _ _ _ k => by
 have e := cvE (l.h q (s.f x))
 cases g with
 | true => exact OpW.pickT e rfl (k _ rfl)
 | false => exact OpW.pickF e (cvE (ly.h (by rw [q]; rfl) (s.f y))) (k _ rfl)
instance (priority := high) [l : Lu n c loc env x (.cv (.bool true))] : St P n c loc env B ms d (.pick x (.const (.bool true)) y) True (.cv (.bool true)) := .p fun q _ _ _ _ _ _ s _ _ _ _ _ k => OpW.pickT (cvE (l.h q (s.f x))) rfl (k _ rfl)
instance (priority := high) [l : Lu n c loc env x (.cv (.bool false))] : St P n c loc env B ms d (.pick x y (.const (.bool false))) True (.cv (.bool false)) := .p fun q _ _ _ _ _ _ s _ _ _ _ _ k => OpW.pickF (cvE (l.h q (s.f x))) rfl (k _ rfl)
section
variable [lx : Lu n c loc env x (.cv (.int k i))] [ly : Lu n c loc env y (.cv (.int k j))]
instance (priority := high) [a1 : IN i a] [b1 : IN j b] : St P n c loc env B ms d (.binOp .lss t x y u) True (.cv (.bool (decide (a < b)))) := .p fun q _ _ _ _ _ _ s _ _ _ _ _ k => OpW.lss (cvE (lx.h q (s.f x))) (cvE (ly.h q (s.f y))) (by rw [a1.e,b1.e]; exact decide_eq_decide.2 (by omega)) (k _ rfl)
instance (priority := high) [a1 : IN i a] [b1 : IN j b] : St P n c loc env B ms d (.binOp .leq t x y u) True (.cv (.bool (decide (a <= b)))) := .p fun q _ _ _ _ _ _ s _ _ _ _ _ k => OpW.leq (cvE (lx.h q (s.f x))) (cvE (ly.h q (s.f y))) (by rw [a1.e,b1.e]; exact decide_eq_decide.2 (by omega)) (k _ rfl)
instance (priority := high) [a1 : IN i a] [b1 : IN j b] : St P n c loc env B ms d (.binOp .gtr t x y u) True (.cv (.bool (decide (b < a)))) := .p fun q _ _ _ _ _ _ s _ _ _ _ _ k => OpW.gtr (cvE (lx.h q (s.f x))) (cvE (ly.h q (s.f y))) (by rw [a1.e,b1.e]; exact decide_eq_decide.2 (by omega)) (k _ rfl)
instance (priority := high) [a1 : IN i a] [b1 : IN j b] : St P n c loc env B ms d (.binOp .geq t x y u) True (.cv (.bool (decide (b <= a)))) := .p fun q _ _ _ _ _ _ s _ _ _ _ _ k => OpW.geq (cvE (lx.h q (s.f x))) (cvE (ly.h q (s.f y))) (by rw [a1.e,b1.e]; exact decide_eq_decide.2 (by omega)) (k _ rfl)
instance (priority := high) [a1 : IN i a] [b1 : IN j b] : St P n c loc env B ms d (.binOp .eql t x y u) True (.cv (.bool (decide (a = b)))) := .p fun q _ _ _ _ _ _ s _ _ _ _ _ k => OpW.eqlI (cvE (lx.h q (s.f x))) (cvE (ly.h q (s.f y))) (by rw [a1.e,b1.e]; exact decide_eq_decide.2 (by omega)) (k _ rfl)
instance (priority := high) [a1 : IN i a] [b1 : IN j b] : St P n c loc env B ms d (.binOp .neq t x y u) True (.cv (.bool (decide (a ≠ b)))) := .p fun q _ _ _ _ _ _ s _ _ _ _ _ k => OpW.neqI (cvE (lx.h q (s.f x))) (cvE (ly.h q (s.f y))) (by rw [a1.e,b1.e]; exact decide_eq_decide.2 (by omega)) (k _ rfl)
instance : St P n c loc env B ms d (.binOp .lss t x y u) True (.cv (.bool (decide (i < j)))) := .p fun q _ _ _ _ _ _ s _ _ _ _ _ k => OpW.lss (cvE (lx.h q (s.f x))) (cvE (ly.h q (s.f y))) rfl (k _ rfl)
instance : St P n c loc env B ms d (.binOp .leq t x y u) True (.cv (.bool (decide (i <= j)))) := .p fun q _ _ _ _ _ _ s _ _ _ _ _ k => OpW.leq (cvE (lx.h q (s.f x))) (cvE (ly.h q (s.f y))) rfl (k _ rfl)
instance : St P n c loc env B ms d (.binOp .gtr t x y u) True (.cv (.bool (decide (j < i)))) := .p fun q _ _ _ _ _ _ s _ _ _ _ _ k => OpW.gtr (cvE (lx.h q (s.f x))) (cvE (ly.h q (s.f y))) rfl (k _ rfl)
instance : St P n c loc env B ms d (.binOp .geq t x y u) True (.cv (.bool (decide (j <= i)))) := .p fun q _ _ _ _ _ _ s _ _ _ _ _ k => OpW.geq (cvE (lx.h q (s.f x))) (cvE (ly.h q (s.f y))) rfl (k _ rfl)
instance : St P n c loc env B ms d (.binOp .eql t x y u) True (.cv (.bool (decide (i = j)))) := .p fun q _ _ _ _ _ _ s _ _ _ _ _ k => OpW.eqlI (cvE (lx.h q (s.f x))) (cvE (ly.h q (s.f y))) rfl (k _ rfl)
instance : St P n c loc env B ms d (.binOp .neq t x y u) True (.cv (.bool (decide (i ≠ j)))) := .p fun q _ _ _ _ _ _ s _ _ _ _ _ k => OpW.neqI (cvE (lx.h q (s.f x))) (cvE (ly.h q (s.f y))) rfl (k _ rfl)
instance (priority := high) [a1 : IN i a] [b1 : IN j b] [km : KM k m] : St P n c loc env B ms d (.binOp .add t x y u) (a + b <= m) (.cv (.int k ((a + b : Nat) : Int))) := .p fun q sd _ _ _ _ _ s _ _ _ _ _ k => OpW.add (cvE (lx.h q (s.f x))) (cvE (ly.h q (s.f y))) (by rw [a1.e,b1.e,show (a : Int) + b = ((a + b : Nat) : Int) from rfl]; exact km.h sd) (k _ rfl)
instance {lo hi : Int} [km : KI k lo hi] : St P n c loc env B ms d (.binOp .add t x y u) (lo <= i + j /\ i + j <= hi) (.cv (.int k (i + j))) := .p fun q sd _ _ _ _ _ s _ _ _ _ _ k => OpW.add (cvE (lx.h q (s.f x))) (cvE (ly.h q (s.f y))) (km.h sd.1 sd.2) (k _ rfl)
instance (priority := high) [a1 : IN i a] [b1 : IN j b] [KU k] [km : KM k m] : St P n c loc env B ms d (.binOp .sub t x y u) (b <= a /\ a <= m) (.cv (.int k ((a - b : Nat) : Int))) := .p fun q sd _ _ _ _ _ s _ _ _ _ _ k => OpW.sub (cvE (lx.h q (s.f x))) (cvE (ly.h q (s.f y))) (by rw [a1.e,b1.e,show (a : Int) - b = ((a - b : Nat) : Int) by omega]; exact km.h (by omega)) (k _ rfl)
instance {lo hi : Int} [km : KI k lo hi] : St P n c loc env B ms d (.binOp .sub t x y u) (lo <= i - j /\ i - j <= hi) (.cv (.int k (i - j))) := .p fun q sd _ _ _ _ _ s _ _ _ _ _ k => OpW.sub (cvE (lx.h q (s.f x))) (cvE (ly.h q (s.f y))) (km.h sd.1 sd.2) (k _ rfl)
instance (priority := high) [a1 : IN i a] [b1 : IN j b] [km : KM k m] : St P n c loc env B ms d (.binOp .mul t x y u) (a * b <= m) (.cv (.int k ((a * b : Nat) : Int))) := .p fun q sd _ _ _ _ _ s _ _ _ _ _ k => OpW.mul (cvE (lx.h q (s.f x))) (cvE (ly.h q (s.f y))) (by rw [a1.e,b1.e, <- Int.natCast_mul]; exact km.h sd) (k _ rfl)
instance [a1 : IN i a] [b1 : IN j b] [km : KM k m] : St P n c loc env B ms d (.binOp .quo t x y u) (b ≠ 0 /\ a <= m) (.cv (.int k ((a / b : Nat) : Int))) := .p fun q sd _ _ _ _ _ s _ _ _ _ _ k => OpW.quo (cvE (lx.h q (s.f x))) (cvE (ly.h q (s.f y))) (by rw [b1.e]; omega) (by rw [a1.e,b1.e,show (a : Int).tdiv (b : Int) = ((a / b : Nat) : Int) from rfl]; exact km.h (Nat.le_trans (Nat.div_le_self a b) sd.2)) (k _ rfl)
instance (priority := low) {s1 : Prop} [a1 : TN i a s1] [b1 : IN j b] [km : KM k m] : St P n c loc env B ms d (.binOp .quo t x y u) (s1 /\ b ≠ 0 /\ a <= m) (.cv (.int k ((a / b : Nat) : Int))) := .p fun q sd _ _ _ _ _ s _ _ _ _ _ k => OpW.quo (cvE (lx.h q (s.f x))) (cvE (ly.h q (s.f y))) (by rw [b1.e]; omega) (by rw [a1.e sd.1,b1.e,show (a : Int).tdiv (b : Int) = ((a / b : Nat) : Int) from rfl]; exact km.h (Nat.le_trans (Nat.div_le_self a b) sd.2.2)) (k _ rfl)
instance (priority := low) {s1 : Prop} [a1 : TN i a s1] [b1 : IN j b] : St P n c loc env B ms d (.binOp .rem t x y u) (s1 /\ b ≠ 0) (.cv (.int k ((a % b : Nat) : Int))) := .p fun q sd _ _ _ _ _ s _ _ _ _ _ k => OpW.rem (cvE (lx.h q (s.f x))) (cvE (ly.h q (s.f y))) (by rw [b1.e]; omega) (by rw [a1.e sd.1,b1.e]; rfl) (k _ rfl)
instance [a1 : IN i a] [b1 : IN j b] : St P n c loc env B ms d (.binOp .rem t x y u) (b ≠ 0) (.cv (.int k ((a % b : Nat) : Int))) := .p fun q sd _ _ _ _ _ s _ _ _ _ _ k => OpW.rem (cvE (lx.h q (s.f x))) (cvE (ly.h q (s.f y))) (by rw [b1.e]; omega) (by rw [a1.e,b1.e]; rfl) (k _ rfl)
end
class KB (k : IntKind) (m : outParam Nat) : Prop where
 o : ∀ {P : Program} {a b : Nat},a < m -> b < m -> ∀ w,(Op.intBits .or k (a : Int) (b : Int)).run P w = .ok (.int k ((a ||| b : Nat) : Int)) w
 a : ∀ {P : Program} {a b : Nat},a < m -> b < m -> ∀ w,(Op.intBits .and k (a : Int) (b : Int)).run P w = .ok (.int k ((a &&& b : Nat) : Int)) w
instance : KB .u64 18446744073709551616 := ⟨or_u64,and_u64⟩
instance : KB .u32 4294967296 := ⟨or_u32,and_u32⟩
section
variable [lx : Lu n c loc env x (.cv (.int k i))] [ly : Lu n c loc env y (.cv (.int k j))] [a1 : IN i a] [b1 : IN j b]
instance [kb : KB k m] : St P n c loc env B ms d (.binOp .or t x y u) (a < m /\ b < m) (.cv (.int k ((a ||| b : Nat) : Int))) := .p fun q sd _ _ _ _ _ s _ _ _ _ _ k => OpW.bits (.inr (.inl rfl)) (cvE (lx.h q (s.f x))) (cvE (ly.h q (s.f y))) (fun w => by rw [a1.e,b1.e]; exact kb.o sd.1 sd.2 w) (k _ rfl)
instance [kb : KB k m] : St P n c loc env B ms d (.binOp .and t x y u) (a < m /\ b < m) (.cv (.int k ((a &&& b : Nat) : Int))) := .p fun q sd _ _ _ _ _ s _ _ _ _ _ k => OpW.bits (.inl rfl) (cvE (lx.h q (s.f x))) (cvE (ly.h q (s.f y))) (fun w => by rw [a1.e,b1.e]; exact kb.a sd.1 sd.2 w) (k _ rfl)
end
class KBi (k : IntKind) (m : outParam Nat) : Prop where h : k.bits = m
instance : KBi .u64 64 := ⟨rfl⟩
instance : KBi .u32 32 := ⟨rfl⟩
section
variable {k2 : IntKind} {m2 : Nat} {sd2 : Prop} [lx : Lu n c loc env x (.cv (.int k i))] [ly : Lu n c loc env y (.cv (.int k2 j))] [a1 : IN i a] [b1 : TN j b sd2] [kb : KBi k m2]
instance : St P n c loc env B ms d (.binOp .shr t x y u) (sd2 /\ b <= m2) (.cv (.int k ((a / 2 ^ b : Nat) : Int))) := .p fun q sd _ _ _ _ _ s _ _ _ _ _ k => OpW.shift (.inr rfl) (cvE (lx.h q (s.f x))) (cvE (ly.h q (s.f y))) (fun w => by rw [a1.e,b1.e sd.1]; exact shr_nat (by rw [kb.h]; exact sd.2) w) (k _ rfl)
instance [km : KM k m] : St P n c loc env B ms d (.binOp .shl t x y u) (sd2 /\ b <= m2 /\ a * 2 ^ b <= m) (.cv (.int k ((a * 2 ^ b : Nat) : Int))) := .p fun q sd _ _ _ _ _ s _ _ _ _ _ k => OpW.shift (.inl rfl) (cvE (lx.h q (s.f x))) (cvE (ly.h q (s.f y))) (fun w => by rw [a1.e,b1.e sd.1]; exact shl_nat (by rw [kb.h]; exact sd.2.1) (km.h sd.2.2) w) (k _ rfl)
end
instance (priority := high) {k2 : IntKind} {sd2 : Prop} [lx : Lu n c loc env x (.cv (.int .u32 i))] [ly : Lu n c loc env y (.cv (.int k2 j))] [a1 : IN i a] [b1 : TN j b sd2] : St P n c loc env B ms d (.binOp .shl t x y u) (sd2 /\ b <= 32) (.cv (.int .u32 ((a * 2 ^ b % 4294967296 : Nat) : Int))) := .p fun q sd _ _ _ _ _ s _ _ _ _ _ k => OpW.shift (.inl rfl) (cvE (lx.h q (s.f x))) (cvE (ly.h q (s.f y))) (fun w => by rw [a1.e,b1.e sd.1]; exact shl_nat (show b <= 32 from sd.2) conv_u32 w) (k _ rfl)
section
variable {g r : Bool} [lx : Lu n c loc env x (.cv (.bool g))]
instance : St P n c loc env B ms d (.unOp .not t x) True (.cv (.bool (!g))) := .p fun q _ _ _ _ _ _ s _ _ _ _ _ k => OpW.notB (cvE (lx.h q (s.f x))) rfl (k _ rfl)
instance [tb : TB P t] [ly : Lu n c loc env y (.cv (.bool r))] : St P n c loc env B ms d (.binOp .eql t x y u) True (.cv (.bool (g == r))) := .p fun q _ _ _ _ _ _ s _ _ _ _ _ k => OpW.eqlB tb.h (cvE (lx.h q (s.f x))) (cvE (ly.h q (s.f y))) rfl (k _ rfl)
instance [tb : TB P t] [ly : Lu n c loc env y (.cv (.bool r))] : St P n c loc env B ms d (.binOp .neq t x y u) True (.cv (.bool (g != r))) := .p fun q _ _ _ _ _ _ s _ _ _ _ _ k => OpW.neqB tb.h (cvE (lx.h q (s.f x))) (cvE (ly.h q (s.f y))) rfl (k _ rfl)
end
section
variable {k2 : IntKind} [lx : Lu n c loc env x (.cv (.int k i))] [td : TD P t] [ti : TI P u k2]
instance (priority := high) [a1 : IN i a] [td : TD P t] [ti : TI P u .u32] : St P n c loc env B ms d (.convert t u x) True (.cv (.int .u32 ((a % 4294967296 : Nat) : Int))) := .p fun q sd _ _ _ _ _ s _ _ _ _ _ k => by
 obtain ⟨_,hd⟩ := td.h
 exact OpW.convI hd ti.h (cvE (lx.h q (s.f x))) (by rw [a1.e]; exact conv_u32) (k _ rfl)
instance [a1 : IN i a] [km : KM k2 m] : St P n c loc env B ms d (.convert t u x) (a <= m) (.cv (.int k2 (a : Int))) := .p fun q sd _ _ _ _ _ s _ _ _ _ _ k => by
 obtain ⟨_,hd⟩ := td.h
 exact OpW.convI hd ti.h (cvE (lx.h q (s.f x))) (by rw [a1.e]; exact km.h sd) (k _ rfl)
instance (priority := 200) {sd1 : Prop} [KU k2] [a1 : TN i a sd1] [km : KM k2 m] : St P n c loc env B ms d (.convert t u x) (sd1 /\ a <= m) (.cv (.int k2 (a : Int))) := .p fun q sd _ _ _ _ _ s _ _ _ _ _ k => by
 obtain ⟨_,hd⟩ := td.h
 exact OpW.convI hd ti.h (cvE (lx.h q (s.f x))) (by rw [a1.e sd.1]; exact km.h sd.2) (k _ rfl)
end
instance {lo hi : Int} [lx : Lu n c loc env x (.cv (.int k i))] [km : KI k lo hi] : St P n c loc env B ms d (.unOp .neg t x) (lo <= -i /\ -i <= hi) (.cv (.int k (-i))) := .p fun q sd _ _ _ _ _ s _ _ _ _ _ k => OpW.negI (cvE (lx.h q (s.f x))) (by rw [Int.zero_sub]; exact km.h sd.1 sd.2) (k _ rfl)
end
end Go.E3
