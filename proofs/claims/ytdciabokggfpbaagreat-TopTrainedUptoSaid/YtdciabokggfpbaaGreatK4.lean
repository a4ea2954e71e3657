/- K4: a part of the proof about training through the decoder: how the program's functions run, and what they compute, for every input. -/
import Derived.RangeFuncNested
import Derived.RangeFuncLeaves
import Derived.Sort.LoopGhostIn
import Derived.TacticsIn
import Derived.Test.YtdciabokggfpbaaGreatK3
set_option linter.all false
namespace Go.Ear
theorem cut_cell {arr : Array Value} {off k : Nat} {cs : List Value} (h : cut arr off k = cs) (i : Nat) (hi : i < k) {c : Value} (hc : cs[i]? = some c) : arr[off + i]? = some c := by
 subst h
 unfold cut at hc
 simpa [List.getElem?_take,List.getElem?_drop,hi] using hc
structure Rp (α : Type) where
 k : Nat
 R : PH -> List Value -> α -> Prop
 len : ∀ {h cs x},R h cs x -> cs.length = k
 one : ∀ {h cs x},R h cs x -> ∀ c ∈ cs,c.oneCell' = true
 mono : ∀ {h h' cs x},R h cs x -> h.le h' -> R h' cs x
section
variable {α : Type} {r : Rp α} {h h' : PH}
def Rows (r : Rp α) (h : PH) : List (List Value) -> List α -> Prop
 | [],[] => True
 | cs :: css,x :: l => r.R h cs x /\ Rows r h css l
 | _,_ => False
theorem Rows.mono : ∀ {css : List (List Value)} {l : List α},Rows r h css l -> h.le h' -> Rows r h' css l
 | [],[],_,_ => trivial
 | _ :: _,_ :: _,u,e => ⟨r.mono u.1 e,Rows.mono u.2 e⟩
theorem Rows.length : ∀ {css : List (List Value)} {l : List α},Rows r h css l -> css.length = l.length
 | [],[],_ => rfl
 | _ :: _,_ :: _,u => by simp [Rows.length u.2]
theorem Rows.lens : ∀ {css : List (List Value)} {l : List α},Rows r h css l -> ∀ cs ∈ css,cs.length = r.k
 | [],[],_,cs,hc => by cases hc
 | c :: _,_ :: _,u,cs,hc => by
   rcases List.mem_cons.1 hc with rfl | hc
   · exact r.len u.1
   · exact Rows.lens u.2 cs hc
theorem Rows.ones : ∀ {css : List (List Value)} {l : List α},Rows r h css l -> ∀ c ∈ css.flatten,c.oneCell' = true
 | [],[],_,c,hc => by simp at hc
 | cs :: _,_ :: _,u,c,hc => by
   rw [List.flatten_cons] at hc
   rcases List.mem_append.1 hc with hc | hc
   · exact r.one u.1 c hc
   · exact Rows.ones u.2 c hc
theorem Rows.at : ∀ {css : List (List Value)} {l : List α},Rows r h css l -> ∀ {i : Nat} {cs : List Value},css[i]? = some cs -> ∀ d,r.R h cs (l.getD i d)
 | [],[],_,i,cs,hi,d => by simp at hi
 | c :: _,x :: _,u,0,cs,hi,d => by simp at hi; subst hi; exact u.1
 | c :: _,x :: _,u,i + 1,cs,hi,d => by simpa using Rows.at u.2 (by simpa using hi) d
theorem Rows.append : ∀ {css : List (List Value)} {l : List α} {css2 : List (List Value)} {l2 : List α},Rows r h css l -> Rows r h css2 l2 -> Rows r h (css ++ css2) (l ++ l2)
 | [],[],_,_,_,v => v
 | _ :: _,_ :: _,_,_,u,v => ⟨u.1,Rows.append u.2 v⟩
theorem Rows.set : ∀ {css : List (List Value)} {l : List α},Rows r h css l -> ∀ (i : Nat) {cs : List Value} {x : α},r.R h cs x -> Rows r h (css.set i cs) (l.set i x)
 | [],[],_,_,_,_,_ => trivial
 | _ :: _,_ :: _,u,0,_,_,v => ⟨v,u.2⟩
 | _ :: _,_ :: _,u,i + 1,_,_,v => ⟨u.1,Rows.set u.2 i v⟩
theorem Rows.take : ∀ {css : List (List Value)} {l : List α},Rows r h css l -> ∀ m : Nat,Rows r h (css.take m) (l.take m)
 | [],[],_,m => by simp [Rows]
 | _ :: _,_ :: _,u,0 => trivial
 | _ :: _,_ :: _,u,m + 1 => ⟨u.1,Rows.take u.2 m⟩
theorem Rows.drop : ∀ {css : List (List Value)} {l : List α},Rows r h css l -> ∀ m : Nat,Rows r h (css.drop m) (l.drop m)
 | [],[],_,m => by simp [Rows]
 | _ :: _,_ :: _,u,0 => u
 | _ :: _,_ :: _,u,m + 1 => Rows.drop u.2 m
theorem Rows.replicate {cs : List Value} {x : α} (u : r.R h cs x) : ∀ n,Rows r h (List.replicate n cs) (List.replicate n x)
 | 0 => trivial
 | n + 1 => ⟨u,Rows.replicate u n⟩
def LR (r : Rp α) (h : PH) (v : Value) (l : List α) : Prop := ∃ css,Sl h r.k v css /\ Rows r h css l
theorem LR.mono {v : Value} {l : List α} (u : LR r h v l) (e : h.le h') : LR r h' v l := by
 obtain ⟨css,a,b⟩ := u; exact ⟨css,a.mono e,b.mono e⟩
theorem LR.nil (r : Rp α) (h : PH) (b : Option Addr) (c : Nat) : LR r h (.slice b 0 c) [] := ⟨[],Sl.nil h r.k b c,trivial⟩
theorem LR.shape {v : Value} {l : List α} (u : LR r h v l) : ∃ base cap,v = .slice base l.length cap /\ l.length <= cap := by
 obtain ⟨css,a,b⟩ := u
 have := a.shape
 rwa [b.length] at this
theorem LR.at {base : Option Addr} {len cap : Nat} {l : List α} (u : LR r h (.slice base len cap) l) (d0 : α) {i : Nat} (hi : i < l.length) :
 ∃ b off arr e fz cs,base = some ⟨b,off,none⟩ /\ h b = some (.cells arr e fz) /\ cut arr (off + i * r.k) r.k = cs /\ off + i * r.k + r.k <= arr.size /\ r.R h cs (l.getD i d0) := by
 obtain ⟨css,a,b⟩ := u
 have hl : i < css.length := by rw [b.length]; exact hi
 have hc : css[i]? = some css[i] := List.getElem?_eq_getElem hl
 obtain ⟨bb,off,cap',arr,e,fz,ev,hb,_,hcut,_,hf⟩ := a.at hc
 cases ev
 exact ⟨bb,off,arr,e,fz,_,rfl,hb,hcut,hf,b.at hc d0⟩
theorem LR.take {base : Option Addr} {len cap : Nat} {l : List α} (u : LR r h (.slice base len cap) l) (m : Nat) (hm : m <= l.length) : LR r h (.slice base m cap) (l.take m) := by
 obtain ⟨css,a,b⟩ := u
 exact ⟨css.take m,a.take m (by rw [b.length]; exact hm),b.take m⟩
theorem LR.isNone {base : Option Addr} {len cap : Nat} {l : List α} (u : LR r h (.slice base len cap) l) (hb : base.isNone = true) : l = [] := by
 cases l with
 | nil => rfl
 | cons x l =>
   obtain ⟨b,off,_,_,_,_,e,_⟩ := u.at x (i := 0) (by simp)
   subst e; cases hb
def RelA (r : Rp α) (h : PH) (arr : Array Value) (l : List α) : Prop := ∃ css z,arr.toList = css.flatten ++ z /\ Rows r h css l
theorem RelA.size {arr : Array Value} {l : List α} (u : RelA r h arr l) : l.length * r.k <= arr.size := by
 obtain ⟨css,z,a,b⟩ := u
 have := congrArg List.length a
 rw [List.length_append,flatten_length b.lens,b.length] at this
 simp at this; omega
theorem cut_flat {k : Nat} : ∀ (css : List (List Value)) (z : List Value),(∀ cs ∈ css,cs.length = k) -> ∀ i cs,css[i]? = some cs -> ((css.flatten ++ z).drop (i * k)).take k = cs
 | [],z,_,i,cs,hi => by simp at hi
 | c :: css,z,hk,0,cs,hi => by
   simp at hi; subst hi
   have hc := hk c (List.mem_cons_self ..)
   simp [List.append_assoc,List.take_left' hc]
 | c :: css,z,hk,i + 1,cs,hi => by
   have hc := hk c (List.mem_cons_self ..)
   rw [List.flatten_cons,List.append_assoc,Nat.add_mul,Nat.one_mul,Nat.add_comm, <- List.drop_drop,List.drop_left' hc]
   exact cut_flat css z (fun x hx => hk x (List.mem_cons_of_mem _ hx)) i cs (by simpa using hi)
theorem RelA.at {arr : Array Value} {l : List α} (u : RelA r h arr l) (d0 : α) {i : Nat} (hi : i < l.length) :
 ∃ cs,cut arr (i * r.k) r.k = cs /\ i * r.k + r.k <= arr.size /\ r.R h cs (l.getD i d0) := by
 have hs := u.size
 obtain ⟨css,z,a,b⟩ := u
 have hl : i < css.length := by rw [b.length]; exact hi
 have hc : css[i]? = some css[i] := List.getElem?_eq_getElem hl
 refine ⟨css[i], ?_, ?_,b.at hc d0⟩
 · unfold cut; rw [a]; exact cut_flat css z b.lens i _ hc
 · have : (i + 1) * r.k <= l.length * r.k := Nat.mul_le_mul_right _ hi
   rw [Nat.add_mul,Nat.one_mul] at this; omega
theorem LR.own {b cap len : Nat} {arr : Array Value} {l : List α} {e : TypeId} {fz : Nat × Nat} (hb : h b = some (.cells arr e fz)) (u : RelA r h arr l) (hl : l.length = len) (hc : len <= cap) : LR r h (.slice (some ⟨b,0,none⟩) len cap) l := by
 subst hl
 have hs := u.size
 obtain ⟨css,z,a,bb⟩ := u
 refine ⟨css,⟨some ⟨b,0,none⟩,cap,by rw [bb.length],by rw [bb.length]; exact hc,bb.lens,.inr ⟨b,0,arr,e,fz,rfl,hb,by rw [bb.length]; omega, ?_⟩⟩,bb⟩
 intro i cs hi
 unfold cut
 rw [a,Nat.zero_add]
 exact cut_flat css z bb.lens i cs hi
theorem RelA.lit {css : List (List Value)} {l : List α} (u : Rows r h css l) : RelA r h css.flatten.toArray l := ⟨css,[],by simp,u⟩
theorem putIn_toList : ∀ (cs : List Value) (arr : Array Value) (off : Nat),off + cs.length <= arr.size -> (putIn arr off cs).toList = arr.toList.take off ++ cs ++ arr.toList.drop (off + cs.length)
 | [],arr,off,_ => by simp [putIn]
 | c :: cs,arr,off,hf => by
   simp only [List.length_cons] at hf
   have hlt : off < arr.toList.length := by simp; omega
   rw [putIn,putIn_toList cs _ _ (by simp; omega),Array.toList_setIfInBounds]
   rw [List.take_succ_eq_append_getElem (by simpa using hlt),List.take_set_of_le (Nat.le_refl _),List.drop_set_of_lt (by omega)]
   simp [Nat.add_comm,Nat.add_left_comm]
theorem flat_set {k : Nat} : ∀ (css : List (List Value)) (z : List Value),(∀ cs ∈ css,cs.length = k) -> ∀ i cs,i < css.length -> cs.length = k ->
 (css.set i cs).flatten ++ z = (css.flatten ++ z).take (i * k) ++ cs ++ (css.flatten ++ z).drop (i * k + k)
 | [],z,_,i,cs,hi,_ => by simp at hi
 | c :: css,z,hk,0,cs,hi,hl => by
   have hc := hk c (List.mem_cons_self ..)
   simp only [List.set_cons_zero,List.flatten_cons,Nat.zero_mul,List.take_zero,List.nil_append,Nat.zero_add,List.append_assoc]
   rw [List.drop_left' hc]
 | c :: css,z,hk,i + 1,cs,hi,hl => by
   have hc := hk c (List.mem_cons_self ..)
   have ih := flat_set css z (fun x hx => hk x (List.mem_cons_of_mem _ hx)) i cs (by simpa using hi) hl
   simp only [List.set_cons_succ,List.flatten_cons,List.append_assoc] at ih ⊢
   rw [ih,Nat.add_mul,Nat.one_mul]
   rw [show i * k + k = c.length + i * k by omega,List.take_length_add_append,show c.length + i * k + k = c.length + (i * k + k) by omega,List.drop_length_add_append]
   rw [show i * k + k = c.length + i * k by omega]
   simp [List.append_assoc]
theorem RelA.set {arr : Array Value} {l : List α} (u : RelA r h arr l) {i : Nat} (hi : i < l.length) {cs : List Value} {x : α} (v : r.R h cs x) : RelA r h (putIn arr (i * r.k) cs) (l.set i x) := by
 have hs := u.size
 obtain ⟨css,z,a,b⟩ := u
 have hc := r.len v
 have : (i + 1) * r.k <= l.length * r.k := Nat.mul_le_mul_right _ hi
 rw [Nat.add_mul,Nat.one_mul] at this
 refine ⟨css.set i cs,z, ?_,b.set i v⟩
 rw [putIn_toList cs arr _ (by omega),a,flat_set css z b.lens i cs (by rw [b.length]; exact hi) hc,hc]
def OwnL (r : Rp α) (lo : Nat) (h : PH) (w : World) (e : TypeId) (v : Value) (l : List α) : Prop := ∃ css,Own lo h w e r.k v l.length css.flatten /\ Rows r h css l
theorem OwnL.nil (r : Rp α) (lo : Nat) (h : PH) (w : World) (e : TypeId) : OwnL r lo h w e (.slice none 0 0) [] := ⟨[],Own.nil lo h w e r.k,trivial⟩
theorem OwnL.put {lo : Nat} {w w' : World} {e : TypeId} {v : Value} {l : List α} {b : Nat} {o : Obj} (u : OwnL r lo h w e v l) (p : Put w w' b o) (hn : Value.blk v ≠ some b) : OwnL r lo h w' e v l := by
 obtain ⟨css,a,bb⟩ := u
 exact ⟨css,a.keep fun i hi _ => ⟨p.other i (fun e => hn (by rw [hi,e])),fun x => x⟩,bb⟩
theorem OwnL.lt {lo : Nat} {w : World} {e : TypeId} {v : Value} {l : List α} (u : OwnL r lo h w e v l) {b : Nat} (hb : Value.blk v = some b) : b < w.heap.size /\ h b = none /\ lo <= b := by
 obtain ⟨css,a,_⟩ := u
 rcases a.2 with ⟨rfl,_⟩ | ⟨b',cap,arr,rfl,h1,h2,h3,_⟩
 · cases hb
 · simp [Value.blk] at hb; subst hb
   exact ⟨(Array.getElem?_eq_some_iff.1 h3).1,h2,h1⟩
theorem OwnL.shape {lo : Nat} {w : World} {e : TypeId} {v : Value} {l : List α} (u : OwnL r lo h w e v l) : ∃ base cap,v = .slice base l.length cap /\ l.length <= cap := by
 obtain ⟨css,a,_⟩ := u
 rcases a.2 with ⟨rfl,hl⟩ | ⟨b',cap,arr,rfl,_,_,_,h4,_⟩
 · exact ⟨none,0,by rw [hl],by omega⟩
 · exact ⟨_,cap,rfl,h4⟩
theorem OwnL.freeze {lo : Nat} {h0 : PH} {w0 w : World} {e : TypeId} {v : Value} {l : List α} (g : Gr h0 w0 h w) (hlo : w0.heap.size <= lo) (u : OwnL r lo h w e v l) :
 ∃ h',Gr h0 w0 h' w /\ h.le h' /\ (∀ i,h i = none -> Value.blk v ≠ some i -> h' i = none) /\ LR r h' v l := by
 obtain ⟨css,a,b⟩ := u
 obtain ⟨h',g',le,fr,sl⟩ := Own.freeze g hlo b.lens b.length a
 exact ⟨h',g',le,fun i hi hn => fr i hi (fun e => hn e.symm),css,sl,b.mono le⟩
theorem OwnL.block {lo : Nat} {w : World} {e : TypeId} {v : Value} {l : List α} (u : OwnL r lo h w e v l) (hne : l ≠ []) :
 ∃ b cap arr,v = .slice (some ⟨b,0,none⟩) l.length cap /\ lo <= b /\ h b = none /\ w.heap[b]? = some (.cells arr e (0,0)) /\ l.length <= cap /\ RelA r h arr l := by
 obtain ⟨css,a,b⟩ := u
 rcases a.2 with ⟨rfl,hl⟩ | ⟨bb,cap,arr,rfl,h1,h2,h3,h4,h5,h6⟩
 · exact absurd (List.eq_nil_of_length_eq_zero hl) hne
 · exact ⟨bb,cap,arr,rfl,h1,h2,h3,h4,css,arr.toList.drop (l.length * r.k),by rw [<- h6,List.take_append_drop],b⟩
end
section ops
variable {P : Program} {n : Nat} {ρ : Env} {w : World} {K : Env -> World -> Prop} {d : Tmp} {ty : TypeId} {pos : String} {af : Array Edge} {g : Option (Nat × Bool)} {α : Type} {r : Rp α}
theorem OpW.indexL {h : PH} {t e : TypeId} {x y : Operand} {k : IntKind} {base : Option Addr} {len cap j : Nat} {l : List α} {i : Int} (d0 : α) {s : Nat} (hsk : s = r.k) (ht : IsUnd P t (.slice e)) (hs : IsSize P e s) (hx : ev n ρ x = .slice base len cap)
 (u : LR r h (.slice base len cap) l) (hy : ev n ρ y = .int k i) (hj : j < l.length) (hi : i = (j : Int))
 (hk : ∀ b o arr e' fz cs,h b = some (.cells arr e' fz) -> cut arr o s = cs -> o + s <= arr.size -> r.R h cs (l.getD j d0) -> K (upd ρ d (.pointer (some ⟨b,o,none⟩))) w) :
 OpW P n ⟨some d,.indexAddr t x y,ty,pos,af,g⟩ ρ w K := by
 subst hsk
 obtain ⟨b,off,arr,e',fz,cs,rfl,hb,hv,hf,hr⟩ := u.at d0 hj
 obtain ⟨_,_,he,_⟩ := u.shape
 cases he
 exact OpW.indexAddr ht hs hx hy (by omega) (by rw [hi]; simp) (hk b (off + j * r.k) arr e' fz cs hb hv hf hr)
theorem OpW.appendL {lo : Nat} {h : PH} {t e : TypeId} {i : TypeInfo} {z : Value} {a b : Operand} {v x : Value} {l m : List α}
 (ht : P.underlying t = some (.slice e)) (hi : P.info? e = some i) (hz : i.zero = some z) (hzs : z.cells.size = i.size) (hik : i.size = r.k)
 (hs : Sat h w) (hlo : lo <= w.heap.size) (ha : ev n ρ a = v) (hb : ev n ρ b = x) (own : OwnL r lo h w e v l) (u : LR r h x m)
 (h63 : l.length + m.length <= 9223372036854775807) (hbb : (l.length + m.length) * i.bytes <= 140737488355328)
 (hk : ∀ v' w',OwnL r lo h w' e v' (l ++ m) -> Ow w w' (Value.blk v) -> (∀ b,Value.blk v' = some b -> Value.blk v = some b \/ w.heap.size <= b) -> K (upd ρ d v') w') :
 OpW P n ⟨some d,.call ⟨.builtin .append, #[a,b], #[t,t]⟩,ty,pos,af,g⟩ ρ w K := by
 obtain ⟨css,o,rr⟩ := own
 obtain ⟨css2,s2,rr2⟩ := u
 rw [<- hik] at o s2
 have rd := s2.reads hs
 rw [rr2.length] at rd
 refine OpW.append (P := P) (ty := ty) ht hi hz hzs hs hlo ha hb o rd rr2.ones h63 hbb ?_
 intro v' w' o' ow hbl
 refine hk v' w' ⟨css ++ css2, ?_,rr.append rr2⟩ ow hbl
 rw [List.flatten_append,List.length_append, <- hik]; exact o'
end ops
section
variable {α β : Type} {r : Rp α} {r2 : Rp β} {h h' : PH}
theorem RelA.at' {arr : Array Value} {l : List α} (u : RelA r h arr l) (d0 : α) {s : Nat} (hsk : s = r.k) {i : Nat} (hi : i < l.length) :
 ∃ cs,cut arr (i * s) s = cs /\ i * s + s <= arr.size /\ r.R h cs (l.getD i d0) := by
 subst hsk; exact u.at d0 hi
theorem RelA.fit {arr : Array Value} {l : List α} (u : RelA r h arr l) {s : Nat} (hsk : s = r.k) {i : Nat} (hi : i < l.length) : i * s + s <= arr.size := by
 obtain ⟨_,_,h2,_⟩ := u.at' (l.getD 0 (l[i])) hsk hi; exact h2
theorem LR.own' {b cap len : Nat} {arr : Array Value} {l : List α} {e : TypeId} {fz : Nat × Nat} (hb : h b = some (.cells arr e fz)) {css : List (List Value)} (ha : arr = css.flatten.toArray) (u : Rows r h css l) (hl : l.length = len) (hc : len <= cap) : LR r h (.slice (some ⟨b,0,none⟩) len cap) l := by
 subst ha; exact LR.own hb (RelA.lit u) hl hc
end
end Go.Ear
namespace Go.Ear
end Go.Ear
namespace Go.Ear
structure Ctx where
 round : Option Nat
 defers : List Deferred
def mkX (X : Ctx) (n : Nat) (ρ : Env) : Act := ⟨Array.ofFn (n := n) fun i => ρ i.val,X.defers⟩
def FX (X : Ctx) : Fence := { Fence.wide with round := X.round }
def toQX (X : Ctx) (n : Nat) (Q : Exit -> Env -> World -> Prop) : Exit -> Act -> World -> Prop := fun e a w => ∃ ρ,a = mkX X n ρ /\ Q e ρ w
theorem mkX_tmps {X : Ctx} {n : Nat} {ρ : Env} : (mkX X n ρ).tmps = (mk n ρ).tmps := rfl
theorem eval_tmps {a a' : Act} (h : a.tmps = a'.tmps) : a.eval = a'.eval := by
 funext x; cases x <;> simp [Act.eval,h]
theorem eval_mkX {X : Ctx} {n : Nat} {ρ : Env} : (mkX X n ρ).eval = ev n ρ := (eval_tmps mkX_tmps).trans eval_mk'
theorem put_act {t : Array Value} {ds : List Deferred} {d : Option Tmp} {v : Value} : (⟨t,ds⟩ : Act).put d v = ⟨((⟨t,[]⟩ : Act).put d v).tmps,ds⟩ := by
 cases d <;> rfl
theorem put_defers {a : Act} {d : Option Tmp} {v : Value} : (a.put d v).defers = a.defers := by cases d <;> rfl
theorem put_mkX {X : Ctx} {n : Nat} {ρ : Env} {d : Option Nat} {v : Value} : (mkX X n ρ).put d v = mkX X n (updO ρ d v) := by
 have h := put_mk (n := n) (ρ := ρ) (d := d) (v := v)
 unfold mkX mk at *
 rw [put_act,h]
def WpX (X : Ctx) (P : Program) (n : Nat) (c : Code) (Q : Exit -> Env -> World -> Prop) (ρ : Env) (w : World) : Prop := c.wpIn (FX X) 0 P (toQX X n Q) (mkX X n ρ) w
def noDefer (o : Oper) : Bool := match o.op with | .defer _ => false | _ => true
theorem semAt_plain {X : Ctx} {ρ : Operand -> Value} {o : Oper} (h : noDefer o = true) : Oper.semAt (FX X).round ρ o = execOp ρ o := by
 show Oper.semAt X.round ρ o = _
 cases hr : X.round with
 | none => rfl
 | some l => exact Oper.semAt_some l ρ o (fun c e => by unfold noDefer at h; rw [e] at h; cases h)
theorem calls_in {X : Ctx} {k : Nat} {P : Program} {f : FuncId} {args : Array Value} {w : World} {R : Ending -> World -> Prop} (h : Calls P f args w R) : CallsIn (FX X) k P f args w R :=
 (callsIn_wide (n := k)).2 h
theorem rows_in {X : Ctx} {k : Nat} {P : Program} {row : String} {args : Array Value} {w : World} {R : Value -> World -> Prop} (h : Go.Rows P row args w R) : RowsIn (FX X) k P row args w R := by
 intro c cs _
 obtain ⟨v,w',r,s⟩ := h c cs
 exact ⟨v,w',r,stepsIn_wide.2 s⟩
theorem opX_of {X : Ctx} {P : Program} {n : Nat} {o : Oper} {ρ : Env} {w : World} {K : Env -> World -> Prop} {Q : Exit -> Act -> World -> Prop} (hp : noDefer o = true) (h : OpW P n o ρ w K) :
 o.wpIn (FX X) 0 P (mkX X n ρ) w (fun a w' => ∃ ρ',a = mkX X n ρ' /\ K ρ' w') Q := by
 refine ⟨fun _ _ => trivial, ?_⟩
 rw [eval_mkX,semAt_plain hp]
 unfold OpW Oper.wp at h
 rw [eval_mk'] at h
 have key : ∀ (v : Value) (w' : World),(∃ ρ',(mk n ρ).put o.dst v = mk n ρ' /\ K ρ' w') -> ∃ ρ',(mkX X n ρ).put o.dst v = mkX X n ρ' /\ K ρ' w' := by
  rintro v w' ⟨ρ',e,k⟩
  refine ⟨ρ', ?_,k⟩
  unfold mkX mk at *
  rw [put_act,e]
 revert h
 generalize (execOp (ev n ρ) o).run P w = r
 intro h
 cases r with
 | halt hh w' => cases hh <;> exact h.elim
 | ok nx w' =>
   cases nx with
   | value v => exact key _ _ h
   | skip => exact key _ _ h
   | defer d =>
     obtain ⟨ρ',e,_⟩ := h
     have := congrArg Act.defers e
     rw [put_defers] at this
     cases this
   | enter f args =>
     refine ⟨(fun hx => by cases hx),calls_in (Calls.mono h ?_)⟩
     intro e w' he
     cases e with
     | returned v => exact key _ _ he
     | panicked c => exact he.elim
     | outgrown => obtain ⟨_,_,h⟩ := he; exact h.elim
   | row rw args => exact ⟨(fun hx => by cases hx),rows_in (Go.Rows.mono h fun v w'' hh => key _ _ hh)⟩
   | _ => exact h.elim
theorem wpListX_of_Ops {X : Ctx} {P : Program} {n : Nat} {ops : Array Oper} {K : Env -> World -> Prop} {Q : Exit -> Env -> World -> Prop} (hKQ : ∀ ρ w,K ρ w -> Q .normal ρ w)
 (l : List Oper) (hl : l.all noDefer = true) : ∀ ρ w,Ops P n ops K l ρ w -> wpListIn (FX X) 0 P ops (toQX X n Q) l (mkX X n ρ) w := by
 induction l with
 | nil => intro ρ w h; unfold Ops at h; exact ⟨ρ,rfl,hKQ _ _ h⟩
 | cons o rest ih =>
   intro ρ w h
   rw [List.all_cons,Bool.and_eq_true] at hl
   unfold wpListIn
   unfold Ops at h
   rw [mkX_tmps]
   split
   · rename_i hw
     rw [if_pos hw] at h
     have := opX_of (X := X) (Q := toQX X n Q) hl.1 h
     refine ⟨this.1, ?_⟩
     have h2 := this.2
     clear this
     revert h2
     generalize (Oper.semAt (FX X).round (mkX X n ρ).eval o).run P w = r
     intro h2
     cases r with
     | halt hh w' => cases hh <;> exact h2
     | ok nx w' =>
       cases nx with
       | value v => obtain ⟨ρ',e,k⟩ := h2; exact (by rw [e]; exact ih hl.2 _ _ k : wpListIn (FX X) 0 P ops (toQX X n Q) rest ((mkX X n ρ).put o.dst v) w')
       | skip => obtain ⟨ρ',e,k⟩ := h2; exact (by rw [e]; exact ih hl.2 _ _ k : wpListIn (FX X) 0 P ops (toQX X n Q) rest ((mkX X n ρ).put o.dst undef) w')
       | defer d =>
         obtain ⟨ρ',e,k⟩ := h2
         exact (by rw [e]; exact ih hl.2 _ _ k : wpListIn (FX X) 0 P ops (toQX X n Q) rest (({ mkX X n ρ with defers := d :: (mkX X n ρ).defers } : Act).put o.dst undef) w')
       | enter f args =>
         obtain ⟨h1,h2⟩ := h2
         refine ⟨h1,CallsIn.mono h2 ?_⟩
         intro e w' he
         cases e with
         | returned v => obtain ⟨ρ',e,k⟩ := he; exact (by rw [e]; exact ih hl.2 _ _ k : wpListIn (FX X) 0 P ops (toQX X n Q) rest ((mkX X n ρ).put o.dst v) w')
         | panicked c => exact he
         | outgrown => exact he
       | row rw args =>
         obtain ⟨h1,h2⟩ := h2
         refine ⟨h1,Go.RowsIn.mono h2 ?_⟩
         rintro v w' ⟨ρ',e,k⟩
         rw [e]; exact ih hl.2 _ _ k
       | round l f tmps assign body =>
         obtain ⟨h1,h2⟩ := h2
         refine ⟨h1,RoundIn.mono h2 ?_⟩
         intro e w' he
         cases e with
         | returned v => obtain ⟨ρ',e,k⟩ := he; exact (by rw [e]; exact ih hl.2 _ _ k : wpListIn (FX X) 0 P ops (toQX X n Q) rest ((mkX X n ρ).put o.dst v) w')
         | panicked c => exact he
         | outgrown => exact he
       | _ => exact h2
   · rename_i hw
     rw [if_neg hw] at h
     rw [put_mkX]
     exact ⟨fun _ _ => trivial,ih hl.2 _ _ h⟩
def onlyN (K : Env -> World -> Prop) : Exit -> Env -> World -> Prop
 | .normal, ρ,w => K ρ w
 | _,_,_ => False
theorem opsIn_defers {P : Program} {n : Nat} {ops : Array Oper} {K : Env -> World -> Prop} : ∀ (ls : List Nat) (a : Act) (w : World),wpOps P ops (toQ n (onlyN K)) ls a w -> a.defers = []
 | [],a,w,h => by obtain ⟨ρ,rfl,_⟩ := h; rfl
 | i :: ls,a,w,h => by
   simp only [wpOps] at h
   cases ho : ops[i]? with
   | none => rw [ho] at h; exact opsIn_defers ls a w h
   | some o =>
     rw [ho] at h
     simp only at h
     split at h
     · rcases h with h | ⟨_,_,_,h⟩
       · unfold Oper.wp at h
         revert h
         generalize (execOp a.eval o).run P w = r
         intro h
         cases r with
         | halt hh w' => cases hh <;> first | (obtain ⟨_,_,h⟩ := h; exact h.elim) | exact h.elim
         | ok nx w' =>
           cases nx with
           | value v => have := opsIn_defers ls _ _ h; rwa [put_defers] at this
           | skip => have := opsIn_defers ls _ _ h; rwa [put_defers] at this
           | defer d => have := opsIn_defers ls _ _ h; rw [put_defers] at this; cases this
           | enter f args =>
             obtain ⟨e,w',fr,hR,_⟩ := h []
             cases e with
             | returned v => have := opsIn_defers ls _ _ hR; rwa [put_defers] at this
             | panicked c => obtain ⟨_,_,h⟩ := hR; exact h.elim
             | outgrown => obtain ⟨_,_,_,_,h⟩ := hR; exact h.elim
           | row rr args =>
             obtain ⟨v,w',hR,_⟩ := h default []
             have := opsIn_defers ls _ _ hR; rwa [put_defers] at this
           | _ => exact h.elim
       · obtain ⟨_,_,h⟩ := h; exact h.elim
     · have := opsIn_defers ls _ _ h; rwa [put_defers] at this
theorem opsIn_of {X : Ctx} {P : Program} {n : Nat} {ops : Array Oper} {K : Env -> World -> Prop} (hp : ops.toList.all noDefer = true) : ∀ (ls : List Nat) (t : Array Value) (w : World),
 wpOps P ops (toQ n (onlyN K)) ls ⟨t,[]⟩ w -> wpOpsIn (FX X) 0 P ops (toQX X n (onlyN K)) ls ⟨t,X.defers⟩ w
 | [],t,w,h => by
   obtain ⟨ρ,e,k⟩ := h
   refine ⟨ρ, ?_,k⟩
   unfold mkX; unfold mk at e; cases e; rfl
 | i :: ls,t,w,h => by
   simp only [wpOps] at h
   simp only [wpOpsIn]
   cases ho : ops[i]? with
   | none => rw [ho] at h; exact opsIn_of hp ls t w h
   | some o =>
     have hno : noDefer o = true := List.all_eq_true.1 hp o (List.mem_of_getElem? (i := i) (by simpa using ho))
     have go : ∀ (v : Value) (w' : World),wpOps P ops (toQ n (onlyN K)) ls ((⟨t,[]⟩ : Act).put o.dst v) w' -> wpOpsIn (FX X) 0 P ops (toQX X n (onlyN K)) ls ((⟨t,X.defers⟩ : Act).put o.dst v) w' := by
      intro v w' hh
      rw [put_act] at hh ⊢
      exact opsIn_of hp ls _ w' hh
     rw [ho] at h
     simp only at h ⊢
     split at h
     · rename_i hw
       rw [if_pos hw]
       refine ⟨fun _ _ => trivial, ?_⟩
       rw [semAt_plain hno,eval_tmps (a := ⟨t,X.defers⟩) (a' := ⟨t,[]⟩) rfl]
       rcases h with h | ⟨_,_,_,h⟩
       · unfold Oper.wp at h
         revert h
         generalize (execOp (⟨t,[]⟩ : Act).eval o).run P w = r
         intro h
         cases r with
         | halt hh w' => cases hh <;> first | (obtain ⟨_,_,h⟩ := h; exact h.elim) | exact h.elim
         | ok nx w' =>
           cases nx with
           | value v => exact go _ _ h
           | skip => exact go _ _ h
           | defer d => have := opsIn_defers ls _ _ h; rw [put_defers] at this; cases this
           | enter f args =>
             refine ⟨(fun hx => by cases hx),calls_in (Calls.mono h ?_)⟩
             intro e w' he
             cases e with
             | returned v => exact go _ _ he
             | panicked c => obtain ⟨_,_,h⟩ := he; exact h.elim
             | outgrown => obtain ⟨_,_,_,_,h⟩ := he; exact h.elim
           | row rr args => exact ⟨(fun hx => by cases hx),rows_in (Go.Rows.mono h fun v w'' hh => go _ _ hh)⟩
           | _ => exact h.elim
       · obtain ⟨_,_,h⟩ := h; exact h.elim
     · rename_i hw
       rw [if_neg hw]
       exact ⟨fun _ _ => trivial,go _ _ h⟩
section rules
variable {X : Ctx} {P : Program} {n : Nat} {Q : Exit -> Env -> World -> Prop} {ρ : Env} {w : World}
theorem WpX.mono {c : Code} {Q' : Exit -> Env -> World -> Prop} (h : WpX X P n c Q ρ w) (hq : ∀ e ρ w,Q e ρ w -> Q' e ρ w) : WpX X P n c Q' ρ w :=
 wpIn_mono h fun e _ w ⟨ρ,ea,q⟩ => ⟨ρ,ea,hq e ρ w q⟩
theorem WpX.skip (h : Q .normal ρ w) : WpX X P n .skip Q ρ w := wpIn_skip ⟨ρ,rfl,h⟩
theorem WpX.exit {id : Nat} (h : Q (.exit id) ρ w) : WpX X P n (.exit id) Q ρ w := wpIn_exit ⟨ρ,rfl,h⟩
theorem WpX.seq {x y : Code} (h : WpX X P n x (thenQ (WpX X P n y Q) Q) ρ w) : WpX X P n (.seq x y) Q ρ w := by
 refine wpIn_seq (wpIn_mono h ?_)
 rintro e a w ⟨ρ',rfl,hq⟩
 cases e <;> first | exact hq | exact ⟨_,rfl,hq⟩
theorem WpX.cond {c : Operand} {x y : Code} {t : Bool} (hc : ev n ρ c = .bool t) (ht : t = true -> WpX X P n x Q ρ w) (hf : t = false -> WpX X P n y Q ρ w) :
 WpX X P n (.cond c x y) Q ρ w := wpIn_cond_split (by rw [eval_mkX,hc]) ht hf
theorem WpX.cond_f {c : Operand} {x y : Code} (hc : ev n ρ c = .bool false) (h : WpX X P n y Q ρ w) : WpX X P n (.cond c x y) Q ρ w :=
 wpIn_cond_false (by rw [eval_mkX,hc]) h
theorem WpX.block {id : Nat} {c : Code} (h : WpX X P n c (blockQ id Q) ρ w) : WpX X P n (.block id c) Q ρ w := by
 refine wpIn_block (wpIn_mono h ?_)
 rintro e a w ⟨ρ',rfl,hq⟩
 cases e with
 | exit id' =>
   simp only [Exit.inBlock,blockQ] at hq ⊢
   by_cases hid : id' = id
   · subst hid; simp at hq; simp; exact ⟨_,rfl,hq⟩
   · have : Nat.beq id' id = false := beq_ne hid
     rw [this] at hq
     rw [if_neg hid]; exact ⟨_,rfl,hq⟩
 | _ => exact ⟨_,rfl,hq⟩
theorem WpX.region {id : Nat} {l : List Oper} (hd : l.all noDefer = true) (h : Ops P n l.toArray (Q .normal) l ρ w) : WpX X P n (.region id l.toArray false) Q ρ w :=
 wpIn_region_lit (wpListX_of_Ops (fun _ _ h => h) l hd ρ w h)
theorem WpX.loop {σ : Type} {c : Code} (I : σ -> Env -> World -> Prop) (μ : σ -> Nat) (s₀ : σ) (h₀ : I s₀ ρ w)
 (round : ∀ s ρ w,I s ρ w -> WpX X P n c (thenQ (fun ρ' w' => ∃ s',I s' ρ' w' /\ μ s' < μ s) Q) ρ w) : WpX X P n (.loop c) Q ρ w := by
 refine wpIn_loop_ghost (fun k a w => ∃ s ρ,a = mkX X n ρ /\ I s ρ w /\ μ s = k) (μ s₀) ⟨s₀, ρ,rfl,h₀,rfl⟩ ?_
 rintro k a w ⟨s, ρ,rfl,hI,rfl⟩
 refine wpIn_mono (round s ρ w hI) ?_
 rintro e a w ⟨ρ',rfl,hq⟩
 cases e with
 | normal => obtain ⟨s',hI',hlt⟩ := hq; exact ⟨μ s',hlt,s', ρ',rfl,hI',rfl⟩
 | _ => exact ⟨_,rfl,hq⟩
theorem WpX.cut {c : Code} {N : Env -> World -> Prop} (R : Env -> World -> Prop) (h : WpX X P n c (thenQ R Q) ρ w) (k : ∀ ρ w,R ρ w -> N ρ w) : WpX X P n c (thenQ N Q) ρ w := by
 refine h.mono ?_
 intro e ρ w hq
 cases e <;> first | exact k _ _ hq | exact hq
theorem WpX.draw {id : Nat} {l : List Oper} {K : Env -> World -> Prop} (hd : l.all noDefer = true)
 (h : ∀ t,wpOps P l.toArray (toQ n (onlyN K)) (Region.schedule (P.follows .mixedOrders) l.toArray t) (mk n ρ) { w with drawn := w.drawn + 1 }) (hk : ∀ ρ w,K ρ w -> Q .normal ρ w) : WpX X P n (.region id l.toArray true) Q ρ w := by
 have h2 : WpX X P n (.region id l.toArray true) (onlyN K) ρ w := wpIn_region_draw fun t => opsIn_of (by simpa using hd) _ _ _ (h t)
 exact h2.mono fun e ρ w h => by cases e <;> first | exact hk _ _ h | exact h.elim
end rules
def IterK (P : Program) (gf : Nat) (lb : Array Value) (idx : Nat -> Value) (len : Nat) (B : World -> Prop) : Prop :=
 ∀ (l : Nat) (J : Nat -> World -> Prop) (W : World),(∀ k W,J k W -> B W) ->
   (∀ k W,k < len -> J k W -> YieldAt Fence.wide 0 P l #[idx k] W fun e W' => e = .returned (.bool true) /\ J (k + 1) W') -> J 0 W ->
   CallsIn Fence.wide 0 P gf (#[.func (.yield l) #[] #[]] ++ lb) W fun e W' => (∃ v,e = .returned v) /\ J len W'
theorem Put.obj {w : World} {l : Nat} {o : Obj} (h : l < w.heap.size) : Put w (w.putObj l o) l o :=
 ⟨rfl,rfl,rfl,World.putObj_size,World.putObj_heap_same h,fun _ hi => World.putObj_heap_other hi,Nat.le_refl _⟩
abbrev X0 : Ctx := ⟨none,[]⟩
theorem WpX.yield {P : Program} {n : Nat} {Q : Exit -> Env -> World -> Prop} {ρ : Env} {w : World} {l : Nat} {x : Value} {d1 d2 d3 : Tmp} {o1 o2 f2 : Operand} {ty1 ty2 ty3 : TypeId} {p1 p2 p3 : String} {a1 a2 a3 : Array Edge} {ts : Array TypeId} {id : Nat} {rest : List Oper}
 {R : Ending -> World -> Prop} (hr : rest.all noDefer = true) (e1 : ev n ρ o1 = .func (.yield l) #[] #[]) (e2 : ev n (upd ρ d1 (.func (.yield l) #[] #[])) o2 = x) 
 (hf : ev n (upd (upd ρ d1 (.func (.yield l) #[] #[])) d2 x) f2 = .func (.yield l) #[] #[]) (hx : ev n (upd (upd ρ d1 (.func (.yield l) #[] #[])) d2 x) (.tmp d2) = x)
 (hy : YieldAt Fence.wide 0 P l #[x] w R)
 (hk : ∀ e w',R e w' -> ∃ v,e = .returned v /\ Ops P n (⟨some d1,.move o1,ty1,p1,a1,none⟩ :: ⟨some d2,.move o2,ty2,p2,a2,none⟩ :: ⟨some d3,.call ⟨.value f2, #[.tmp d2],ts⟩,ty3,p3,a3,none⟩ :: rest).toArray (Q .normal) rest (upd (upd (upd ρ d1 (.func (.yield l) #[] #[])) d2 x) d3 v) w') :
 WpX X0 P n (.region id (⟨some d1,.move o1,ty1,p1,a1,none⟩ :: ⟨some d2,.move o2,ty2,p2,a2,none⟩ :: ⟨some d3,.call ⟨.value f2, #[.tmp d2],ts⟩,ty3,p3,a3,none⟩ :: rest).toArray false) Q ρ w := by
 refine wpIn_region_lit ?_
 generalize hops : (⟨some d1,.move o1,ty1,p1,a1,none⟩ :: ⟨some d2,.move o2,ty2,p2,a2,none⟩ :: ⟨some d3,.call ⟨.value f2, #[.tmp d2],ts⟩,ty3,p3,a3,none⟩ :: rest : List Oper).toArray = ops at hk ⊢
 unfold wpListIn
 rw [if_pos (show Region.wanted ⟨some d1,.move o1,ty1,p1,a1,none⟩ _ = true from rfl)]
 refine ⟨fun _ _ => trivial, ?_⟩
 rw [eval_mkX,show Oper.semAt (FX X0).round (ev n ρ) ⟨some d1,.move o1,ty1,p1,a1,none⟩ = execOp (ev n ρ) ⟨some d1,.move o1,ty1,p1,a1,none⟩ from rfl,
  show (execOp (ev n ρ) ⟨some d1,.move o1,ty1,p1,a1,none⟩).run P w = .ok (.value (.func (.yield l) #[] #[])) w from by simp [execOp,e1]]
 show wpListIn _ _ _ _ _ _ ((mkX X0 n ρ).put (some d1) _) w
 rw [put_mkX]
 unfold wpListIn
 rw [if_pos (show Region.wanted ⟨some d2,.move o2,ty2,p2,a2,none⟩ _ = true from rfl)]
 refine ⟨fun _ _ => trivial, ?_⟩
 rw [eval_mkX]
 rw [show (Oper.semAt (FX X0).round (ev n (updO ρ (some d1) (.func (.yield l) #[] #[]))) ⟨some d2,.move o2,ty2,p2,a2,none⟩).run P w = .ok (.value x) w from by
  rw [semAt_plain rfl]
  simp only [updO]
  simp [execOp,e2]]
 show wpListIn _ _ _ _ _ _ ((mkX X0 n _).put (some d2) _) w
 rw [put_mkX]
 unfold wpListIn
 rw [if_pos (show Region.wanted ⟨some d3,.call ⟨.value f2, #[.tmp d2],ts⟩,ty3,p3,a3,none⟩ _ = true from rfl)]
 refine ⟨fun _ _ => trivial, ?_⟩
 obtain ⟨fn,tmps,assign,body,hyr,hround⟩ := hy
 rw [eval_mkX]
 rw [show (Oper.semAt (FX X0).round (ev n (updO (updO ρ (some d1) (.func (.yield l) #[] #[])) (some d2) x)) ⟨some d3,.call ⟨.value f2, #[.tmp d2],ts⟩,ty3,p3,a3,none⟩).run P w = .ok (.round l fn tmps assign body) w from by
  rw [semAt_plain rfl]
  simp only [updO]
  simp [execOp,resolve,hf,hx,invoke,hyr,go_sem]]
 refine ⟨(fun h => by cases h),RoundIn.mono (F := FX X0) hround ?_⟩
 intro e w' he
 obtain ⟨v,rfl,hkk⟩ := hk e w' he
 show wpListIn _ _ _ _ _ _ ((mkX X0 n _).put (some d3) v) w'
 rw [put_mkX]
 exact wpListX_of_Ops (fun _ _ h => h) rest hr _ _ hkk
end Go.Ear
