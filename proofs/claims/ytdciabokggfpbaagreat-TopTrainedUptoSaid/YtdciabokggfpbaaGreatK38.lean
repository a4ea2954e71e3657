/- K38: a part of the proof about training through the decoder: how the program's functions run, and what they compute, for every input. -/
import Derived.Lib.SlBytesConst
import Derived.Laws.IdiomRangeMap
import Derived.Laws.StructEq
import Derived.Maps.Keyed
import Derived.Test.YtdciabokggfpbaaGreatK37
set_option linter.all false
namespace Go.Ear
open Go
section
variable {P : Program} {w : World}
theorem run_appendF {lo : Nat} {h : PH} {t ty e : TypeId} {i : TypeInfo} {z : Value} {x : Value} {len m : Nat} {xs ys : List Value} {base0 : Option Addr}
 (ht : P.underlying t = some (.slice e)) (hi : P.info? e = some i) (hz : i.zero = some z) (hzs : z.cells.size = i.size)
 (hs : Sat h w) (hlo : lo <= w.heap.size) (r0 : Reads w (.slice base0 len len) len i.size xs) (r : Reads w x m i.size ys) (hm : 1 <= m)
 (h63 : len + m <= 9223372036854775807) (hb : (len + m) * i.bytes <= 140737488355328) :
 ∃ v' w',(Builtin.append_ #[t,t] ty #[.slice base0 len len,x]).run P w = .ok v' w' /\ Own lo h w' e i.size v' (len + m) (xs ++ ys) /\ Ow w w' none /\
   (∀ b,Value.blk v' = some b -> w.heap.size <= b) := by
 have hrl := r.1
 have hr0 := r0.1
 obtain ⟨base,c,rfl,hrx⟩ := r.2
 have hlen : (xs ++ ys).length = (len + m) * i.size := by rw [List.length_append,hr0,hrl,Nat.add_mul]
 have hold : (Builtin.firstCells i.size len (.slice base0 len len)).run P w.drew = .ok xs.toArray w.drew := run_firstCells (P := P) (r0.drew _)
 have hgt : len + m > len := by omega
 have hn : ¬ (len + m <= len) := by omega
 have h63' : ¬ (9223372036854775807 < ((len : Int) + (m : Int))) := by omega
 have hfit := growslice_fits (need := len + m) (old := len) (bytes := i.bytes) hgt hb
 have h48 : ¬ (281474976710656 < Builtin.nextslicecap (len + m) len * i.bytes) := by omega
 have hfc' : (Builtin.firstCells i.size m (.slice base m c)).run P w.drew = .ok ys.toArray w.drew := run_firstCells (P := P) (r.drew _)
 have hge := grownCap_ge w (len + m) len e
 refine ⟨.slice (some ⟨w.heap.size,0,none⟩) (len + m) (grownCap w (len + m) len e),w.drew.alloc (.cells (xs.toArray ++ ys.toArray ++ Builtin.zeroCells z.cells (grownCap w (len + m) len e - (len + m))) e), ?_,⟨hlen,.inr ⟨w.heap.size,_,_,rfl,hlo,hs.fresh,heap_alloc_new w.drew _,hge, ?_, ?_⟩⟩,⟨rfl,rfl,rfl,by simp,fun k hk _ => heap_alloc_old w.drew _ hk,Nat.le_succ _⟩,fun b hb' => by simp [Value.blk] at hb'; omega⟩
 · simp [Builtin.append_,run_underlying ht,sizeOf,typeInfo,zeroValue,hi,hz,Builtin.lenOf,hn,h63',h48,Question.forced,newRow,grownCap,hold,hfc',Array.append_assoc]
   try (rw [<- List.append_toArray,Array.append_assoc])
 · simp only [Array.size_append,List.size_toArray,size_zeroCells,hzs,hr0,hrl, <- Nat.add_mul]
   congr 1; omega
 · simp only [Array.toList_append]
   rw [<- hlen]
   exact List.take_left
end
end Go.Ear
namespace Go.E3
open Go Go.Ear
def flv {α : Type} (r : Rp α) (l : List α) : SV := .kv ⟨fun h v => LR r h v l /\ ∃ a,v = .slice a l.length l.length,fun {h v} u => by obtain ⟨b,c,rfl,_⟩ := u.1.shape; rfl,fun e u => ⟨u.1.mono e,u.2⟩⟩
section
variable {P : Program} {n : Nat} {X : Fix} {ms : List Nat} {loc env : EL} {B : List Res} {k : Kt} {ol rest : List Oper} {d d1 d2 : Nat} {ty ty1 ty2 : TypeId} {pos pos1 pos2 : String} {af af1 af2 : Array Edge} {α : Type} {r : Rp α} {bb : Nat} {d0 : α} {q q' : List α} {t e : TypeId} {o1 o2 : Operand}
instance [ts : TS P t e] [rt : RT P e α r bb d0] [lx : Lu n true loc env o1 (flv r q)] [ly : Lu n true loc env o2 (lv r q')] : Nx (GO P n X ms loc env B ol (⟨some d,.call ⟨.builtin .append,[o1,o2].toArray,[t,t].toArray⟩,ty,pos,af,none⟩ :: rest) k) (1 <= q'.length /\ q.length + q'.length <= 9223372036854775807 /\ (q.length + q'.length) * bb <= 140737488355328) (∀ v',GO P n X ms ((d,ov v') :: loc) env (rA r e v' (q ++ q') :: B) ol rest k) := ⟨fun hs f => ⟨fun ok ρ h w s => by
 obtain ⟨h1,h2,h3⟩ := okR_some rfl ok
 obtain ⟨z,ti,el,hz⟩ := rt.e
 obtain ⟨hx,a,hxa⟩ := lx.h rfl ((s.x [o1]).fx o1 (by simp))
 have hy := ly.h rfl ((s.x [o2]).fx o2 (by simp))
 obtain ⟨css,s1,rr1⟩ := hx
 obtain ⟨css2,s2,rr2⟩ := hy
 rw [<- el.hk] at s1 s2
 have rd1 := s1.reads s.gr.sat
 have rd2 := s2.reads s.gr.sat
 rw [rr1.length] at rd1
 rw [rr2.length] at rd2
 rw [hxa] at rd1
 obtain ⟨v',w',hr,o,ow,hbl⟩ := run_appendF (P := P) (ty := ty) (lo := 0) ts.h el.hi el.hz el.hc s.gr.sat (Nat.zero_le _) rd1 rd2 hs.1 hs.2.1 (by rw [el.hb]; exact hs.2.2)
 refine Ops.cons (OpW.valD (v := v') (w' := w') ?_ ?_)
 · simp only [execOp,resolve,invoke,builtin,Sem.run_bind,Sem.run_pure,Result.andThen,List.map_toArray,List.map_cons,List.map_nil,hxa,hr]
 · have own : OwnL r 0 h w' e v' (q ++ q') := ⟨css ++ css2,by rw [List.flatten_append,List.length_append, <- el.hk]; exact o,rr1.append rr2⟩
   have s' : Sy X.h0 X.w0 loc env (rA r e (.slice none 0 0) [] :: B) ρ h w := ⟨s.gr,s.lo,s.en,OwnL.nil r 0 h w e,(fun i hi => by cases hi),(fun r' hr' i hi => by cases hi),s.ow⟩
   exact (f v').p h3 _ _ _ ((own_app s' own ow fun b hb => .inr (hbl b hb)).set ⟨rfl,own_one own⟩ h1 (h2 rfl))⟩⟩
end
set_option maxHeartbeats 4000000
structure KK (κ : Type) where
 enc : κ -> Value
 gd : κ -> Prop
 inj : ∀ x y,enc x = enc y -> x = y
 sv : κ -> SV
 svh : ∀ h k,den h (sv k) (enc k)
class KyP (P : Program) (kt : TypeId) {κ : Type} (K : KK κ) : Prop where
 law : Go.Maps.Keyed P kt
 lit : ∀ x,K.gd x -> ∃ l,keyOf P kt (K.enc x) = some l
class KV {κ : Type} (K : KK κ) (S : SV) (k : outParam κ) (sd : outParam Prop) : Prop where
 h : sd -> K.gd k /\ ∀ {h v},den h S v -> v = K.enc k
section
variable {κ α : Type} {K : KK κ}
def MRows (K : KK κ) (f : α -> SV) (h : PH) : List MapEntry -> List (κ × α) -> Prop
 | [],[] => True
 | e :: es,x :: l => ((e.key = K.enc x.1 /\ K.gd x.1) /\ den h (f x.2) e.val) /\ MRows K f h es l
 | _,_ => False
theorem MRows.mono {f : α -> SV} {h h' : PH} (le : h.le h') : ∀ {es : List MapEntry} {l : List (κ × α)},MRows K f h es l -> MRows K f h' es l
 | [],[],_ => trivial
 | _ :: _,_ :: _,u => ⟨⟨u.1.1,u.1.2.mono le⟩,MRows.mono le u.2⟩
theorem MRows.length {f : α -> SV} {h : PH} : ∀ {es : List MapEntry} {l : List (κ × α)},MRows K f h es l -> es.length = l.length
 | [],[],_ => rfl
 | _ :: _,_ :: _,u => by simp [MRows.length u.2]
theorem MRows.app {f : α -> SV} {h : PH} : ∀ {es es2 : List MapEntry} {l l2 : List (κ × α)},MRows K f h es l -> MRows K f h es2 l2 -> MRows K f h (es ++ es2) (l ++ l2)
 | [],_,[],_,_,v => v
 | _ :: _,_,_ :: _,_,u,v => ⟨u.1,MRows.app u.2 v⟩
theorem MRows.at {f : α -> SV} {h : PH} : ∀ {es : List MapEntry} {l : List (κ × α)} {j : Nat} {e : MapEntry},MRows K f h es l -> es[j]? = some e -> ∃ y,l[j]? = some y /\ (e.key = K.enc y.1 /\ K.gd y.1) /\ den h (f y.2) e.val
 | [],[],j,e,_,he => by simp at he
 | e0 :: es,y0 :: l,0,e,u,he => by simp at he; subst he; exact ⟨y0,rfl,u.1⟩
 | e0 :: es,y0 :: l,j + 1,e,u,he => by
   obtain ⟨y,a,b⟩ := MRows.at (j := j) u.2 (by simpa using he)
   exact ⟨y,by simpa using a,b⟩
theorem MRows.lit {P : Program} {kt : TypeId} [ky : KyP P kt K] {f : α -> SV} {h : PH} : ∀ {es : List MapEntry} {l : List (κ × α)},MRows K f h es l -> ∀ e ∈ es, ∃ l,keyOf P kt e.key = some l
 | [],[],_,e,he => by simp at he
 | e0 :: es,y0 :: l,u,e,he => by
   rcases List.mem_cons.1 he with rfl | he
   · rw [u.1.1.1]; exact ky.lit _ u.1.1.2
   · exact MRows.lit u.2 e he
open Classical in
noncomputable def mget (l : List (κ × α)) (k : κ) : Option α := (l.find? fun x => decide (x.1 = k)).map (·.2)
open Classical in
noncomputable def mset : List (κ × α) -> κ -> α -> List (κ × α)
 | [],k,x => [(k,x)]
 | y :: l,k,x => if y.1 = k then (k,x) :: l else y :: mset l k x
theorem mget_at : ∀ {l : List (κ × α)} {j : Nat} {y : κ × α},(l.map (·.1)).Nodup -> l[j]? = some y -> mget l y.1 = some y.2
 | [],j,y,_,h => by simp at h
 | z :: l,0,y,_,h => by
   simp at h; subst h
   unfold mget
   rw [List.find?_cons_of_pos (by simp)]; rfl
 | z :: l,j + 1,y,nd,h => by
   rw [List.map_cons,List.nodup_cons] at nd
   have h : l[j]? = some y := by simpa using h
   have ne : ¬ z.1 = y.1 := fun e => nd.1 (by rw [e]; exact List.mem_map_of_mem (List.mem_of_getElem? h))
   have ih := mget_at nd.2 h
   unfold mget at ih ⊢
   rw [List.find?_cons_of_neg (by simpa using ne)]; exact ih
theorem mget_none {l : List (κ × α)} {k : κ} (h : ∀ y ∈ l,y.1 ≠ k) : mget l k = none := by
 unfold mget
 rw [List.find?_eq_none.2 fun y hy => by simpa using h y hy]; rfl
theorem mset_key {l : List (κ × α)} {k : κ} {x : α} {z : κ} : z ∈ (mset l k x).map (·.1) ↔ z = k \/ z ∈ l.map (·.1) := by
 induction l with
 | nil => simp [mset]
 | cons y l ih =>
   unfold mset
   split
   · rename_i e
     rw [List.map_cons,List.map_cons,List.mem_cons,List.mem_cons,e]
     constructor
     · rintro (h | h)
       · exact .inl h
       · exact .inr (.inr h)
     · rintro (h | h | h)
       · exact .inl h
       · exact .inl h
       · exact .inr h
   · rw [List.map_cons,List.map_cons,List.mem_cons,List.mem_cons,ih]
     constructor
     · rintro (h | h | h)
       · exact .inr (.inl h)
       · exact .inl h
       · exact .inr (.inr h)
     · rintro (h | h | h)
       · exact .inr (.inl h)
       · exact .inl h
       · exact .inr (.inr h)
theorem mset_nd {l : List (κ × α)} {k : κ} {x : α} (h : (l.map (·.1)).Nodup) : ((mset l k x).map (·.1)).Nodup := by
 induction l with
 | nil => simp [mset]
 | cons y l ih =>
   rw [List.map_cons,List.nodup_cons] at h
   unfold mset
   split
   · rename_i e
     rw [List.map_cons,List.nodup_cons]
     exact ⟨by rw [<- e]; exact h.1,h.2⟩
   · rename_i e
     rw [List.map_cons,List.nodup_cons,mset_key]
     exact ⟨fun hh => hh.elim (fun h2 => e h2) h.1,ih h.2⟩
theorem mset_new {l : List (κ × α)} {k : κ} {x : α} (h : ∀ y ∈ l,y.1 ≠ k) : mset l k x = l ++ [(k,x)] := by
 induction l with
 | nil => rfl
 | cons y l ih =>
   unfold mset
   rw [if_neg (h y (List.mem_cons_self ..)),ih fun z hz => h z (List.mem_cons_of_mem _ hz)]; rfl
def MpOk (K : KK κ) (f : α -> SV) (h : PH) (w : World) (b : Nat) (l : List (κ × α)) : Prop := ∃ es clock,w.heap[b]? = some (.map es clock) /\ (MRows K f h es.toList l /\ (l.map (·.1)).Nodup) /\ (es.toList.map (·.born)).Nodup /\ ∀ e ∈ es.toList,e.born < clock
def KpOk (K : KK κ) (f : α -> SV) (h : PH) (b : Nat) (l : List (κ × α)) : Prop := ∃ es clock,h b = some (.map es clock) /\ (MRows K f h es.toList l /\ (l.map (·.1)).Nodup) /\ (es.toList.map (·.born)).Nodup /\ ∀ e ∈ es.toList,e.born < clock
theorem KpOk.mono {f : α -> SV} {h h' : PH} (le : h.le h') {b : Nat} {l : List (κ × α)} : KpOk K f h b l -> KpOk K f h' b l
 | ⟨es,clock,h1,h2,h3⟩ => ⟨es,clock,le _ _ h1,⟨h2.1.mono le,h2.2⟩,h3⟩
def kmp (K : KK κ) (f : α -> SV) (R : List (κ × α) -> Prop) : SV := .kv ⟨fun h v => ∃ b l,v = .map (some b) /\ R l /\ KpOk K f h b l,fun {h v} ⟨b,l,e,_⟩ => by subst e; rfl,fun e ⟨b,l,a,r,k⟩ => ⟨b,l,a,r,k.mono e⟩⟩
def rM' (K : KK κ) (f : α -> SV) (v : Value) (l : List (κ × α)) : Res where
 fp := fun i => v = .map (some i)
 pr := fun h w => ∃ b,v = .map (some b) /\ MpOk K f h w b l
 st := fun {h w h' w'} le hw hn ⟨b,e,es,clock,h1,h2,h3⟩ => ⟨b,e,es,clock,by rw [hw b e]; exact h1,⟨h2.1.mono le,h2.2⟩,h3⟩
 fz := fun h => den h (kmp K f (· = l)) v
 fzm := fun le u => u.mono le
 frz := fun {h0 w0 h w} g ⟨b,e,es,clock,h1,h2,h3⟩ hf => by
  obtain ⟨h',g',le,hb,fr⟩ := Go.E3.freeze_ex g h1 (hf b e).1 ((hf b e).2 rfl)
  exact ⟨h',g',le,fun i hi hn => fr i (fun q => hn (q ▸ e)) hi,b,l,e,rfl,es,clock,hb,⟨h2.1.mono le,h2.2⟩,h3⟩
theorem upd_rows {f : α -> SV} {h : PH} {k : κ} (gk : K.gd k) {x : α} {v : Value} (hv : den h (f x) v) : ∀ {es : List MapEntry} {l : List (κ × α)},MRows K f h es l -> (l.map (·.1)).Nodup ->
 (∀ (j : Nat) (e : MapEntry),es[j]? = some e -> e.key = K.enc k -> MRows K f h (es.modify j fun e => { e with key := K.enc k,val := v }) (mset l k x)) /\
 ((∀ e ∈ es,e.key ≠ K.enc k) -> ∀ c,MRows K f h (es ++ [⟨K.enc k,v,c⟩]) (mset l k x))
 | [],[],_,_ => ⟨fun j e he => by simp at he,fun _ c => ⟨⟨⟨rfl,gk⟩,hv⟩,trivial⟩⟩
 | e :: es,y :: l,u,nd => by
   rw [List.map_cons,List.nodup_cons] at nd
   have ih := upd_rows gk hv u.2 nd.2
   refine ⟨fun j e' he hk => ?_,fun hk c => ?_⟩
   · cases j with
     | zero =>
       simp at he; subst he
       have : y.1 = k := K.inj _ _ (u.1.1.1.symm.trans hk)
       unfold mset
       rw [if_pos this]
       exact ⟨⟨⟨rfl,gk⟩,hv⟩,u.2⟩
     | succ j =>
       have he : es[j]? = some e' := by simpa using he
       have hne : ¬ y.1 = k := fun e2 => by
        obtain ⟨z,hz,hz2,_⟩ := u.2.at he
        have : z.1 = k := K.inj _ _ (hz2.1.symm.trans hk)
        exact nd.1 (by rw [e2, <- this]; exact List.mem_map_of_mem (List.mem_of_getElem? hz))
       unfold mset
       rw [if_neg hne]
       exact ⟨u.1,ih.1 j e' he hk⟩
   · have hne : ¬ y.1 = k := fun e2 => hk e (List.mem_cons_self ..) (by rw [u.1.1.1,e2])
     unfold mset
     rw [if_neg hne]
     exact ⟨u.1,ih.2 (fun e' he => hk e' (List.mem_cons_of_mem _ he)) c⟩
end
class MpT (P : Program) (t : TypeId) (κ : outParam Type) (K : outParam (KK κ)) (α : outParam Type) (f : outParam (α -> SV)) (x0 : outParam α) : Prop where
 h : ∃ kt et z,IsUnd P t (.map kt et) /\ KyP P kt K /\ IsZero P et z /\ ∀ h,den h (f x0) z
class HM (B : List Res) (v : Value) (κ : outParam Type) (K : outParam (KK κ)) (α : outParam Type) (f : outParam (α -> SV)) (l : outParam (List (κ × α))) : Prop where h : ∀ {w0 h w},OwnB w0 B h w -> ∃ b,v = .map (some b) /\ MpOk K f h w b l
class PM (B : List Res) (v : Value) (κ : outParam Type) (K : outParam (KK κ)) (α : outParam Type) (f : outParam (α -> SV)) (l : outParam (List (κ × α))) (B' : outParam (List Res)) : Prop where h : Sb B (rM' K f v l :: B')
section
variable {κ α : Type} {K : KK κ} {f : α -> SV} {v : Value} {l : List (κ × α)} {B B' : List Res}
instance : HM (rM' K f v l :: B) v κ K α f l := ⟨fun o => o.1⟩
instance (priority := 50) {x : Res} [i : HM B v κ K α f l] : HM (x :: B) v κ K α f l := ⟨fun o => i.h o.2.2.2⟩
instance : PM (rM' K f v l :: B) v κ K α f l B := ⟨.refl _⟩
instance (priority := 50) {x : Res} [i : PM B v κ K α f l B'] : PM (x :: B) v κ K α f l (x :: B') := ⟨(i.h.cons x).trans (.perm (List.Perm.swap ..))⟩
end
section
variable {P : Program} {n : Nat} {ρ : Env} {w : World} {Q : Env -> World -> Prop} {d : Nat} {ty : TypeId} {pos : String} {af : Array Edge} {g : Option (Nat × Bool)} {κ α : Type} {K : KK κ} {f : α -> SV} {h : PH} {l : List (κ × α)} {t kt et : TypeId} {x y z : Operand} {b : Nat} {k : κ} {zv : Value} {es : Array MapEntry} {clock : Nat}
theorem OpW.makeM (hk : Q (upd ρ d (.map (some w.heap.size))) (newW w (.map #[] 0))) : OpW P n ⟨some d,.makeMap t none,ty,pos,af,g⟩ ρ w Q := by
 refine OpW.valD (v := .map (some w.heap.size)) (w' := newW w (.map #[] 0)) ?_ hk
 simp only [execOp,Option.map_none,Instr.makeMap,Sem.run_bind]
 rfl
theorem find_rows [ky : KyP P kt K] (gk : K.gd k) (rows : MRows K f h es.toList l) (nd : (l.map (·.1)).Nodup) (w : World) :
 ((Instr.findKey kt (K.enc k) es.toList).run P w = .ok none w /\ (∀ e ∈ es.toList,e.key ≠ K.enc k) /\ mget l k = none) \/ ∃ j e a,(Instr.findKey kt (K.enc k) es.toList).run P w = .ok (some (j,e.val)) w /\ es.toList[j]? = some e /\ e.key = K.enc k /\ mget l k = some a /\ l[j]? = some (k,a) /\ den h (f a) e.val := by
 obtain ⟨lx,hlx⟩ := ky.lit k gk
 rcases ky.law.find w hlx es.toList (rows.lit (P := P) (kt := kt)) with ⟨h1,h2⟩ | ⟨j,e,h1,h2,h3⟩
 · refine .inl ⟨h1,h2,mget_none fun y hy e => ?_⟩
   obtain ⟨j,hj,rfl⟩ := List.mem_iff_getElem.1 hy
   have hl := rows.length
   have he : es.toList[j]? = some (es.toList[j]'(by omega)) := List.getElem?_eq_getElem _
   obtain ⟨y,hy1,hy2,_⟩ := rows.at he
   rw [List.getElem?_eq_getElem hj] at hy1
   cases hy1
   exact h2 _ (List.mem_of_getElem? he) (by rw [hy2.1,e])
 · obtain ⟨y,hy1,hy2,hy3⟩ := rows.at h2
   have e1 : y.1 = k := K.inj _ _ (hy2.1.symm.trans h3)
   have := mget_at nd hy1
   rw [e1] at this
   exact .inr ⟨j,e,y.2,h1,h2,h3,this,by rw [hy1, <- e1],hy3⟩
theorem OpW.lookupM {ok : Bool} [ky : KyP P kt K] (gk : K.gd k) (ht : IsUnd P t (.map kt et)) (hz : IsZero P et zv) (hx : ev n ρ x = .map (some b)) (hy : ev n ρ y = K.enc k) (hb : w.heap[b]? = some (.map es clock)) (rows : MRows K f h es.toList l) (nd : (l.map (·.1)).Nodup)
 (h1 : ∀ v a,mget l k = some a -> den h (f a) v -> Q (upd ρ d (bif ok then .tuple #[v,.bool true] else v)) w) (h2 : mget l k = none -> Q (upd ρ d (bif ok then .tuple #[zv,.bool false] else zv)) w) : OpW P n ⟨some d,.lookup t x y ok,ty,pos,af,g⟩ ρ w Q := by
 have hg : (getObj b).run P w = .ok (.map es clock) w := by simp [getObj,Sem.run,hb]
 obtain ⟨lx,hlx⟩ := ky.lit k gk
 have hc : ∀ em : Bool,(Instr.checkKey em 10000 kt (K.enc k)).run P w = .ok () w := fun em => ky.law.check w em hlx
 rcases find_rows (P := P) (kt := kt) gk rows nd w with ⟨hf,_,hm⟩ | ⟨j,e,a,hf,_,_,hm,_,hd⟩
 · refine OpW.valD ?_ (h2 hm)
   simp only [execOp,Instr.lookup,hx,hy,Sem.run_bind,ht.run w,hg,hc,hf,Result.andThen,Sem.run_pure,hz w]
   cases ok <;> rfl
 · refine OpW.valD ?_ (h1 e.val a hm hd)
   simp only [execOp,Instr.lookup,hx,hy,Sem.run_bind,ht.run w,hg,hc,hf,Result.andThen,Sem.run_pure]
   cases ok <;> rfl
theorem born_modify (g : MapEntry -> MapEntry) (hg : ∀ e,(g e).born = e.born) : ∀ (l : List MapEntry) (j : Nat),(l.modify j g).map (·.born) = l.map (·.born)
 | [],j => by cases j <;> rfl
 | e :: l,0 => by rw [List.modify_zero_cons,List.map_cons,List.map_cons,hg]
 | e :: l,j + 1 => by rw [List.modify_succ_cons,List.map_cons,List.map_cons,born_modify g hg l j]
theorem old_modify {c : Nat} (g : MapEntry -> MapEntry) (hg : ∀ e,(g e).born = e.born) {l : List MapEntry} (h : ∀ e ∈ l,e.born < c) (j : Nat) : ∀ e ∈ l.modify j g,e.born < c := fun e he => by
 have : e.born ∈ (l.modify j g).map (·.born) := List.mem_map_of_mem he
 rw [born_modify g hg] at this
 obtain ⟨e2,he2,e3⟩ := List.mem_map.1 this
 rw [<- e3]; exact h e2 he2
theorem OpW.setM {dd : Option Tmp} {v : Value} {a : α} [ky : KyP P kt K] (gk : K.gd k) (ht : IsUnd P t (.map kt et)) (hx : ev n ρ x = .map (some b)) (hy : ev n ρ y = K.enc k) (hz : ev n ρ z = v) (hv : den h (f a) v) (ok : MpOk K f h w b l)
 (hk : ∀ w' o,Put w w' b o -> MpOk K f h w' b (mset l k a) -> Q (updO ρ dd undef) w') : OpW P n ⟨dd,.mapUpdate t x y z,ty,pos,af,g⟩ ρ w Q := by
 obtain ⟨es,clock,hb,⟨rows,nd⟩,hn,hcl⟩ := ok
 have hg : (getObj b).run P w = .ok (.map es clock) w := by simp [getObj,Sem.run,hb]
 obtain ⟨lx,hlx⟩ := ky.lit k gk
 have hc : (Instr.checkKey false 10000 kt (K.enc k)).run P w = .ok () w := ky.law.check w false hlx
 have hlt : b < w.heap.size := (Array.getElem?_eq_some_iff.1 hb).1
 have hset : ∀ o : Obj,(setObj b o).run P w = .ok () (w.putObj b o) := fun o => by
  simp only [setObj,Sem.run,hb]; rfl
 obtain ⟨u1,u2⟩ := upd_rows gk hv rows nd
 rcases find_rows (P := P) (kt := kt) gk rows nd w with ⟨hf,hne,hm⟩ | ⟨j,e,a',hf,he,hke,_⟩
 · refine OpW.skip (w' := w.putObj b (.map (es.push ⟨K.enc k,v,clock⟩) (clock + 1))) ?_ (hk _ _ (Put.obj hlt) ⟨_,_,(Put.obj hlt).at_,⟨?_,mset_nd nd⟩, ?_, ?_⟩)
   · simp only [execOp,Instr.mapUpdate,hx,hy,hz,Sem.run_bind,ht.run w,hg,hc,hf,Result.andThen,Sem.run_pure,hset]
   · rw [Array.toList_push]; exact u2 hne clock
   · rw [Array.toList_push,List.map_append,List.nodup_append]
     refine ⟨hn,by simp,fun a ha b hb => ?_⟩
     obtain ⟨e,he,rfl⟩ := List.mem_map.1 ha
     have hb : b = clock := by simpa using hb
     have := hcl e he
     omega
   · intro e he
     rw [Array.toList_push] at he
     rcases List.mem_append.1 he with he | he
     · have := hcl e he; omega
     · rcases List.mem_singleton.1 he with rfl; exact Nat.lt_succ_self _
 · have hks : (Instr.keyThatStays (((es[j]?).map (·.key)).getD (K.enc k)) (K.enc k)).run P w = .ok (K.enc k) w := by
    have : ((es[j]?).map (·.key)).getD (K.enc k) = K.enc k := by
     rw [<- Array.getElem?_toList,he]; exact hke
    rw [this]
    exact ky.law.stays w hlx
   refine OpW.skip (w' := w.putObj b (.map (es.modify j fun e => { e with key := K.enc k,val := v }) clock)) ?_ (hk _ _ (Put.obj hlt) ⟨_,_,(Put.obj hlt).at_,⟨?_,mset_nd nd⟩, ?_, ?_⟩)
   · simp only [execOp,Instr.mapUpdate,hx,hy,hz,Sem.run_bind,ht.run w,hg,hc,hf,hks,Result.andThen,Sem.run_pure,hset]
   · rw [Array.toList_modify]; exact u1 j e he hke
   · rw [Array.toList_modify,born_modify (fun e => { e with key := K.enc k,val := v }) fun _ => rfl]; exact hn
   · rw [Array.toList_modify]; exact old_modify (fun e => { e with key := K.enc k,val := v }) (fun _ => rfl) hcl j
end
section
variable {κ α : Type} {K : KK κ}
def MIOk (K : KK κ) (f : α -> SV) (h : PH) (w : World) (it b : Nat) (l vis : List (κ × α)) : Prop := ∃ (es : Array MapEntry) (clock : Nat) (seen : Array Nat) (zv zr : List (MapEntry × κ × α)),w.heap[b]? = some (.map es clock) /\ w.heap[it]? = some (.mapIter (some b) clock seen clock) /\ (MRows K f h es.toList l /\ (l.map (·.1)).Nodup) /\ (es.toList.map (·.born)).Nodup /\ (∀ e ∈ es.toList,e.born < clock) /\
 (zv ++ zr).Perm (es.toList.zip l) /\ zv.map (·.1.born) = seen.toList /\ zv.map (·.2) = vis
def rMI (K : KK κ) (f : α -> SV) (p v : Value) (l vis : List (κ × α)) : Res where
 fp := fun i => p = .pointer (some ⟨i,0,none⟩) \/ v = .map (some i)
 pr := fun h w => ∃ it b,p = .pointer (some ⟨it,0,none⟩) /\ v = .map (some b) /\ MIOk K f h w it b l vis
 st := fun {h w h' w'} le hw hn ⟨it,b,e1,e2,es,clock,seen,zv,zr,h1,h2,h3,h4⟩ => ⟨it,b,e1,e2,es,clock,seen,zv,zr,by rw [hw b (.inr e2)]; exact h1,by rw [hw it (.inl e1)]; exact h2,⟨h3.1.mono le,h3.2⟩,h4⟩
 fz := fun _ => True
 fzm := fun _ _ => trivial
 frz := fun {h0 w0 h w} g _ _ => ⟨h,g,PH.le.refl h,fun _ x _ => x,trivial⟩
theorem zip_fst {f : α -> SV} {h : PH} {es : List MapEntry} {l : List (κ × α)} (u : MRows K f h es l) : (es.zip l).map (·.1) = es := by
 rw [List.map_fst_zip]; exact Nat.le_of_eq u.length
theorem zip_snd {f : α -> SV} {h : PH} {es : List MapEntry} {l : List (κ × α)} (u : MRows K f h es l) : (es.zip l).map (·.2) = l := by
 rw [List.map_snd_zip]; exact Nat.le_of_eq u.length.symm
theorem MRows.zip {f : α -> SV} {h : PH} : ∀ {es : List MapEntry} {l : List (κ × α)},MRows K f h es l -> ∀ p ∈ es.zip l,(p.1.key = K.enc p.2.1 /\ K.gd p.2.1) /\ den h (f p.2.2) p.1.val
 | [],[],_,p,hp => by simp at hp
 | e :: es,y :: l,u,p,hp => by
   rw [List.zip_cons_cons] at hp
   rcases List.mem_cons.1 hp with rfl | hp
   · exact u.1
   · exact MRows.zip u.2 p hp
theorem mi_next {f : α -> SV} {h : PH} {es : Array MapEntry} {l vis : List (κ × α)} {seen : Array Nat} {zv zr : List (MapEntry × κ × α)} (rows : MRows K f h es.toList l) (nd : (es.toList.map (·.born)).Nodup) (pz : (zv ++ zr).Perm (es.toList.zip l)) (hs : zv.map (·.1.born) = seen.toList) (hv : zv.map (·.2) = vis) :
 ((leftOf es seen).size = 0 -> vis.Perm l) /\ ∀ e ∈ (leftOf es seen).toList, ∃ k a zr',(e.key = K.enc k /\ K.gd k) /\ den h (f a) e.val /\ ((zv ++ [(e,k,a)]) ++ zr').Perm (es.toList.zip l) /\ ∃ rest,(vis ++ (k,a) :: rest).Perm l := by
 have hz1 : ((zv ++ zr).map (·.1)).Perm es.toList := by have := pz.map (·.1); rwa [zip_fst rows] at this
 have hz2 : ((zv ++ zr).map (·.2)).Perm l := by have := pz.map (·.2); rwa [zip_snd rows] at this
 refine ⟨fun h0 => ?_,fun e he => ?_⟩
 · have hall := all_seen es seen h0
   have : zr = [] := by
    cases zr with
    | nil => rfl
    | cons p zr =>
      exfalso
      have hp : p.1 ∈ es.toList := hz1.mem_iff.1 (by simp)
      have hc := hall p.1 hp
      have hm : p.1.born ∈ seen.toList := by simpa using hc
      rw [<- hs] at hm
      obtain ⟨q,hq,hqe⟩ := List.mem_map.1 hm
      have hnd : (((zv ++ p :: zr).map (·.1)).map (·.born)).Nodup := (hz1.map _).nodup_iff.2 nd
      rw [List.map_map,List.map_append,List.nodup_append] at hnd
      exact hnd.2.2 _ (List.mem_map.2 ⟨q,hq,rfl⟩) _ (List.mem_map.2 ⟨p,by simp,rfl⟩) hqe
   rw [this,List.append_nil,hv] at hz2
   exact hz2
 · obtain ⟨hm,hns⟩ := mem_left he
   have hm' : e ∈ (zv ++ zr).map (·.1) := hz1.mem_iff.2 hm
   obtain ⟨p,hp,rfl⟩ := List.mem_map.1 hm'
   have hpr : p ∈ zr := by
    rcases List.mem_append.1 hp with x | x
    · exfalso
      have : p.1.born ∈ seen.toList := by rw [<- hs]; exact List.mem_map.2 ⟨p,x,rfl⟩
      have hc : seen.contains p.1.born = true := by simpa using this
      rw [hc] at hns; cases hns
    · exact x
   obtain ⟨s,t,rfl⟩ := List.append_of_mem hpr
   have hk := MRows.zip rows p (pz.mem_iff.1 hp)
   refine ⟨p.2.1,p.2.2,s ++ t,hk.1,hk.2, ?_,s.map (·.2) ++ t.map (·.2), ?_⟩
   · refine List.Perm.trans ?_ pz
     rw [List.append_assoc]
     refine List.Perm.append_left _ ?_
     show (p :: (s ++ t)).Perm (s ++ p :: t)
     exact List.perm_middle.symm
   · refine List.Perm.trans ?_ hz2
     rw [List.map_append,hv,List.map_append,List.map_cons]
     refine List.Perm.append_left _ ?_
     exact List.perm_middle.symm
end
section
variable {P : Program} {n : Nat} {ρ : Env} {w : World} {Q : Env -> World -> Prop} {d : Nat} {ty : TypeId} {pos : String} {af : Array Edge} {g : Option (Nat × Bool)} {t kt et : TypeId} {x : Operand} {it b : Nat} {es : Array MapEntry} {clock : Nat} {seen : Array Nat}
theorem OpW.rangeM (ht : IsUnd P t (.map kt et)) (hx : ev n ρ x = .map (some b)) (hb : w.heap[b]? = some (.map es clock)) (hk : Q (upd ρ d (.pointer (some ⟨w.heap.size,0,none⟩))) (newW w (.mapIter (some b) clock #[] clock))) : OpW P n ⟨some d,.range t x,ty,pos,af,g⟩ ρ w Q := by
 have hg : (getObj b).run P w = .ok (.map es clock) w := by simp [getObj,Sem.run,hb]
 refine OpW.valD (v := .pointer (some ⟨w.heap.size,0,none⟩)) (w' := newW w (.mapIter (some b) clock #[] clock)) ?_ hk
 simp only [execOp,Instr.range,hx,Sem.run_bind,ht.run w,hg,Result.andThen,Sem.run_pure]
 rfl
theorem OpW.nextM (hx : ev n ρ x = .pointer (some ⟨it,0,none⟩)) (hb : w.heap[b]? = some (.map es clock)) (hi : w.heap[it]? = some (.mapIter (some b) clock seen clock)) (hold : ∀ e ∈ es.toList,e.born < clock)
 (h0 : (leftOf es seen).size = 0 -> Q (upd ρ d (.tuple #[.bool false])) w) (h1 : ∀ e ∈ (leftOf es seen).toList, ∀ w',Put w w' it (.mapIter (some b) clock (seen.push e.born) clock) -> Q (upd ρ d (.tuple #[.bool true,e.key,e.val])) w') : OpW P n ⟨some d,.next x false,ty,pos,af,g⟩ ρ w Q := by
 have hgi : (getObj it).run P w = .ok (.mapIter (some b) clock seen clock) w := by simp [getObj,Sem.run,hi]
 have hgb : (getObj b).run P w = .ok (.map es clock) w := by simp [getObj,Sem.run,hb]
 have hlt : it < w.heap.size := (Array.getElem?_eq_some_iff.1 hi).1
 have ht := next_test_false seen es clock clock hold (Nat.le_refl _)
 have hmem : ∀ x ∈ (leftOf es seen).toList,x.born < clock := fun x hx => hold x (mem_left hx).1
 have e1 : (leftOf es seen).filter (fun x => decide (x.born < clock)) = leftOf es seen := Array.filter_eq_self.2 (fun x hx => by simpa using hmem x (by simpa using hx))
 have e2 : (leftOf es seen).filter (fun x => decide (x.born ≥ clock)) = #[] := by
  rw [Array.filter_eq_empty_iff]
  intro x hx
  have := hmem x (by simpa using hx)
  simp
  omega
 by_cases hz : (leftOf es seen).size = 0
 · have hL : leftOf es seen = #[] := Array.eq_empty_of_size_eq_zero hz
   refine OpW.valD ?_ (h0 hz)
   simp only [execOp,hx,Instr.next,Sem.run_bind,hgi,hgb,Result.andThen,ht,Bool.false_eq_true,if_false]
   unfold leftOf at e1 e2 hL
   simp only [e1,e2,hL]
   simp [choose,Sem.run,Question.forced]
 · have hne : (leftOf es seen).isEmpty = false := by simp [Array.isEmpty,hz]
   have hch : ∃ (j : Nat) (w1 : World),j < (leftOf es seen).size /\ (w1 = w \/ w1 = w.drew) /\ (choose (Question.mapNext (leftOf es seen).size)).run P w = .ok j w1 := by
    by_cases hf : (leftOf es seen).size <= 1
    · exact ⟨0,w,by omega,.inl rfl,by simp [choose,Sem.run,Question.forced,hf]⟩
    · exact ⟨_,w.drew,Nat.mod_lt _ (by omega),.inr rfl,by
       simp only [choose,Sem.run,Question.forced,decide_eq_true_eq,hf,if_false,Question.cut]
       rfl⟩
   obtain ⟨j,w1,hj,hal,hrun⟩ := hch
   have hh : w1.heap = w.heap := by rcases hal with rfl | rfl <;> rfl
   have hset : ∀ o : Obj,(setObj it o).run P w1 = .ok () (w1.putObj it o) := fun o => by
    have hi1 : w1.heap[it]? = some (.mapIter (some b) clock seen clock) := by rw [hh]; exact hi
    simp only [setObj,Sem.run,hi1]; rfl
   have hput : ∀ o,Put w (w1.putObj it o) it o := fun o => by
    have p := Put.obj (w := w1) (o := o) (l := it) (by rw [hh]; exact hlt)
    refine ⟨?_, ?_, ?_,by rw [p.size,hh],p.at_,fun i hi => by rw [p.other i hi,hh],Nat.le_trans (by rcases hal with rfl | rfl; exact Nat.le_refl _; exact Nat.le_succ _) p.drawn⟩
    · rw [p.os]; rcases hal with rfl | rfl <;> rfl
    · rw [p.tape]; rcases hal with rfl | rfl <;> rfl
    · rw [p.output]; rcases hal with rfl | rfl <;> rfl
   refine OpW.valD (v := .tuple #[.bool true,(leftOf es seen)[j].key,(leftOf es seen)[j].val]) ?_ (h1 (leftOf es seen)[j] (by simp) _ (hput _))
   simp only [execOp,hx,Instr.next,Sem.run_bind,hgi,hgb,Result.andThen,ht,Bool.false_eq_true,if_false]
   unfold leftOf at e1 e2 hne hrun hj ⊢
   simp only [e1,e2,hne,Bool.false_eq_true,if_false,Array.empty_append,Array.append_empty,Array.size_map,hrun,Array.getElem?_map,Array.getElem?_eq_getElem hj,Option.map_some,Sem.run_bind,hset,Result.andThen]
   rfl
end
end Go.E3
