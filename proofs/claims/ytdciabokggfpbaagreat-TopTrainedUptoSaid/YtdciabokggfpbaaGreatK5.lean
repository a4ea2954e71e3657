/- K5: a part of the proof about training through the decoder: how the program's functions run, and what they compute, for every input. -/
import Derived.Test.YtdciabokggfpbaaGreatK4
import Derived.Test.YtdciabokggfpbaaGreatK3
set_option linter.all false
namespace Go.E3
open Go Go.Ear
structure KR where
 R : PH -> Value -> Prop
 one : ∀ {h v},R h v -> v.oneCell' = true
 mono : ∀ {h h' v},h.le h' -> R h v -> R h' v
inductive SV where
 | cv (v : Value)
 | kv (r : KR)
 | ag (l : List SV)
 | tp (l : List SV)
 | pk (l : List SV) (o : Nat)
 | cn (c : Bool) (s : SV)
mutual
def den (h : PH) : SV -> Value -> Prop
 | .cv v,x => x = v
 | .kv r,x => r.R h x
 | .ag l,x => ∃ vs,x = .agg vs.toArray /\ denL h l vs
 | .tp l,x => ∃ vs,x = .tuple vs.toArray /\ denL h l vs
 | .pk l o,x => ∃ b off arr t fz,h b = some (.cells arr t fz) /\ x = .pointer (some ⟨b,off + o,none⟩) /\ off + l.length <= arr.size /\ denL h l (cut arr off l.length)
 | .cn c s,x => (c = true -> den h s x) /\ (c = false -> x = undef)
def denL (h : PH) : List SV -> List Value -> Prop
 | [],[] => True
 | s :: l,v :: vs => den h s v /\ denL h l vs
 | _,_ => False
end
mutual
theorem den.mono {h h' : PH} (e : h.le h') : ∀ {s : SV} {x : Value},den h s x -> den h' s x
 | .cv v,x,u => u
 | .kv r,x,u => r.mono e u
 | .ag l,x,⟨vs,a,b⟩ => ⟨vs,a,denL.mono e b⟩
 | .tp l,x,⟨vs,a,b⟩ => ⟨vs,a,denL.mono e b⟩
 | .pk l o,x,⟨b,off,arr,t,fz,a1,a2,a3,a4⟩ => ⟨b,off,arr,t,fz,e _ _ a1,a2,a3,denL.mono e a4⟩
 | .cn c s,x,⟨a,b⟩ => ⟨fun q => den.mono e (a q),b⟩
theorem denL.mono {h h' : PH} (e : h.le h') : ∀ {l : List SV} {vs : List Value},denL h l vs -> denL h' l vs
 | [],[],_ => trivial
 | _ :: _,_ :: _,u => ⟨den.mono e u.1,denL.mono e u.2⟩
end
theorem denL.length {h : PH} : ∀ {l : List SV} {vs : List Value},denL h l vs -> vs.length = l.length
 | [],[],_ => rfl
 | _ :: _,_ :: _,u => by simp [denL.length u.2]
theorem denL.at {h : PH} : ∀ {l : List SV} {vs : List Value},denL h l vs -> ∀ {i : Nat} {s : SV},l[i]? = some s -> ∃ v,vs[i]? = some v /\ den h s v
 | [],[],_,i,s,e => by simp at e
 | _ :: _,v :: _,u,0,s,e => by simp at e; subst e; exact ⟨v,rfl,u.1⟩
 | _ :: _,_ :: _,u,i + 1,s,e => by simpa using denL.at u.2 (by simpa using e)
theorem denL.take {h : PH} : ∀ {l : List SV} {vs : List Value},denL h l vs -> ∀ m,denL h (l.take m) (vs.take m)
 | [],[],_,m => by simp [denL]
 | _ :: _,_ :: _,u,0 => trivial
 | _ :: _,_ :: _,u,m + 1 => ⟨u.1,denL.take u.2 m⟩
theorem denL.drop {h : PH} : ∀ {l : List SV} {vs : List Value},denL h l vs -> ∀ m,denL h (l.drop m) (vs.drop m)
 | [],[],_,m => by simp [denL]
 | _ :: _,_ :: _,u,0 => u
 | _ :: _,_ :: _,u,m + 1 => denL.drop u.2 m
theorem denL.app {h : PH} : ∀ {l : List SV} {vs : List Value} {l2 : List SV} {vs2 : List Value},denL h l vs -> denL h l2 vs2 -> denL h (l ++ l2) (vs ++ vs2)
 | [],[],_,_,_,v => v
 | _ :: _,_ :: _,_,_,u,v => ⟨u.1,denL.app u.2 v⟩
def SV.one : SV -> Bool
 | .cv v => v.oneCell'
 | .kv _ => true
 | .pk .. => true
 | _ => false
theorem den.one {h : PH} {s : SV} {x : Value} (u : den h s x) (o : s.one = true) : x.oneCell' = true := by
 cases s with
 | cv v => cases u; exact o
 | kv r => exact r.one u
 | pk l o => obtain ⟨b,off,arr,t,fz,_,rfl,_⟩ := u; rfl
 | _ => cases o
theorem denL.one {h : PH} : ∀ {l : List SV} {vs : List Value},denL h l vs -> l.all SV.one = true -> ∀ c ∈ vs,c.oneCell' = true
 | [],[],_,_,c,hc => by cases hc
 | s :: l,v :: vs,u,o,c,hc => by
   simp only [List.all_cons,Bool.and_eq_true] at o
   rcases List.mem_cons.1 hc with rfl | hc
   · exact den.one u.1 o.1
   · exact denL.one u.2 o.2 c hc
abbrev EL := List (Nat × SV)
def EnvOk (h : PH) (ρ : Env) : EL -> Prop
 | [] => True
 | (s,S) :: l => den h S (ρ s) /\ EnvOk h ρ l
theorem EnvOk.mono {h h' : PH} {ρ : Env} (e : h.le h') : ∀ {l : EL},EnvOk h ρ l -> EnvOk h' ρ l
 | [],_ => trivial
 | _ :: _,u => ⟨u.1.mono e,EnvOk.mono e u.2⟩
theorem EnvOk.ext {h : PH} {ρ ρ' : Env} : ∀ {l : EL},(∀ p ∈ l, ρ p.1 = ρ' p.1) -> EnvOk h ρ l -> EnvOk h ρ' l
 | [],_,_ => trivial
 | p :: _,e,u => ⟨by rw [<- e p (List.mem_cons_self ..)]; exact u.1,EnvOk.ext (fun q hq => e q (List.mem_cons_of_mem _ hq)) u.2⟩
def nIn (d : Nat) : EL -> Bool
 | [] => true
 | (s,_) :: l => !Nat.beq s d && nIn d l
theorem EnvOk.upd {h : PH} {ρ : Env} {d : Nat} {v : Value} : ∀ {l : EL},nIn d l = true -> EnvOk h ρ l -> EnvOk h (upd ρ d v) l
 | [],_,_ => trivial
 | (s,S) :: l,n,u => by
   unfold nIn at n
   rw [Bool.and_eq_true,Bool.not_eq_true'] at n
   refine ⟨?_,EnvOk.upd n.2 u.2⟩
   rw [upd_ne _ _ (fun e => by subst e; rw [beq_self] at n; exact Bool.noConfusion n.1)]
   exact u.1
structure Res where
 bor : Bool := false
 fp : Nat -> Prop
 pr : PH -> World -> Prop
 st : ∀ {h w h' w'},h.le h' -> (∀ i,fp i -> w'.heap[i]? = w.heap[i]?) -> (∀ i,fp i -> h' i = none) -> pr h w -> pr h' w'
 fz : PH -> Prop
 fzm : ∀ {h h'},h.le h' -> fz h -> fz h'
 frz : ∀ {h0 : PH} {w0 : World} {h : PH} {w : World},Gr h0 w0 h w -> pr h w -> (∀ i,fp i -> h i = none /\ (bor = false -> w0.heap.size <= i)) -> ∃ h',Gr h0 w0 h' w /\ h.le h' /\ (∀ i,h i = none -> ¬ fp i -> h' i = none) /\ fz h'
def OwnB (w0 : World) : List Res -> PH -> World -> Prop
 | [],_,_ => True
 | r :: B,h,w => r.pr h w /\ (∀ i,r.fp i -> h i = none /\ (r.bor = false -> w0.heap.size <= i) /\ i < w.heap.size) /\ (∀ r' ∈ B, ∀ i,r.fp i -> ¬ r'.fp i) /\ OwnB w0 B h w
section
variable {w0 : World} {h h' : PH} {w w' : World} {B : List Res} {r r' : Res} {j : Nat}
theorem OwnB.foot : ∀ {B : List Res},OwnB w0 B h w -> ∀ r ∈ B, ∀ i,r.fp i -> h i = none /\ (r.bor = false -> w0.heap.size <= i) /\ i < w.heap.size
 | _ :: _,o,r,hr,i,hi => by
   rcases List.mem_cons.1 hr with rfl | hr
   · exact o.2.1 i hi
   · exact OwnB.foot o.2.2.2 r hr i hi
theorem OwnB.keep (l : h.le h') (hs : w.heap.size <= w'.heap.size) : ∀ {B : List Res},OwnB w0 B h w -> (∀ r ∈ B, ∀ i,r.fp i -> w'.heap[i]? = w.heap[i]? /\ h' i = none) -> OwnB w0 B h' w'
 | [],_,_ => trivial
 | r :: _,o,hk => ⟨r.st l (fun i hi => (hk r (List.mem_cons_self ..) i hi).1) (fun i hi => (hk r (List.mem_cons_self ..) i hi).2) o.1,fun i hi => ⟨(hk r (List.mem_cons_self ..) i hi).2,(o.2.1 i hi).2.1,Nat.lt_of_lt_of_le (o.2.1 i hi).2.2 hs⟩,o.2.2.1,
     OwnB.keep l hs o.2.2.2 fun r' hr' => hk r' (List.mem_cons_of_mem _ hr')⟩
theorem OwnB.grow (o : OwnB w0 B h w) (g : Gr h w h' w') : OwnB w0 B h' w' :=
 o.keep g.le g.ext.size fun r hr i hi => by
  have := o.foot r hr i hi
  exact ⟨g.ext.block i this.2.2,g.noneAt this.2.2 this.1⟩
theorem OwnB.at : ∀ {B : List Res},OwnB w0 B h w -> ∀ (j : Nat) {r : Res},B[j]? = some r -> r.pr h w /\ ∀ i,r.fp i -> h i = none /\ (r.bor = false -> w0.heap.size <= i) /\ i < w.heap.size
 | [],_,j,_,e => by simp at e
 | _ :: _,o,0,_,e => by simp at e; exact e ▸ ⟨o.1,o.2.1⟩
 | _ :: _,o,j + 1,_,e => OwnB.at o.2.2.2 j (by simpa using e)
theorem OwnB.apart : ∀ {B : List Res},OwnB w0 B h w -> ∀ (j : Nat) {r : Res},B[j]? = some r -> ∀ r' ∈ B.eraseIdx j, ∀ i,r.fp i -> ¬ r'.fp i
 | [],_,j,_,e => by simp at e
 | _ :: _,o,0,_,e => by simp at e; subst e; exact fun r' hr' => o.2.2.1 r' (by simpa using hr')
 | x :: B,o,j + 1,r,e => by
   intro r' hr' i hi
   have e' : B[j]? = some r := by simpa using e
   rw [List.eraseIdx_cons_succ] at hr'
   rcases List.mem_cons.1 hr' with rfl | hr'
   · exact fun q => o.2.2.1 r (List.mem_of_getElem? e') i q hi
   · exact OwnB.apart o.2.2.2 j e' r' hr' i hi
theorem OwnB.erase : ∀ {B : List Res},OwnB w0 B h w -> ∀ (j : Nat),OwnB w0 (B.eraseIdx j) h w
 | [],o,_ => by simpa using o
 | _ :: _,o,0 => by simpa using o.2.2.2
 | x :: B,o,j + 1 => by
   rw [List.eraseIdx_cons_succ]
   exact ⟨o.1,o.2.1,fun r' hr' => o.2.2.1 r' (List.mem_of_mem_eraseIdx hr'),o.2.2.2.erase j⟩
theorem OwnB.set (nb : r.bor = false) (l : h.le h') (hs : w.heap.size <= w'.heap.size) (hn : ∀ r ∈ B.eraseIdx j, ∀ i,r.fp i -> w'.heap[i]? = w.heap[i]? /\ h' i = none) {r' : Res} (hp : r'.pr h' w') (hf : ∀ i,r'.fp i -> r.fp i /\ h' i = none \/ (w.heap.size <= i /\ i < w'.heap.size /\ h' i = none))
 (o : OwnB w0 B h w) (hw : w0.heap.size <= w.heap.size) (e : B[j]? = some r) : OwnB w0 (B.set j r') h' w' := by
 induction B generalizing j with
 | nil => simp at e
 | cons x B ih =>
   cases j with
   | zero =>
     simp at e; subst e
     simp only [List.eraseIdx_cons_zero] at hn
     refine ⟨hp,fun i hi => ?_,fun r2 hr2 i hi q => ?_,OwnB.keep l hs o.2.2.2 hn⟩
     · rcases hf i hi with ⟨a,b⟩ | ⟨a,b,c⟩
       · exact ⟨b,fun _ => (o.2.1 i a).2.1 nb,Nat.lt_of_lt_of_le (o.2.1 i a).2.2 hs⟩
       · exact ⟨c,fun _ => by omega,b⟩
     · rcases hf i hi with ⟨a,_⟩ | ⟨a,_,_⟩
       · exact o.2.2.1 r2 hr2 i a q
       · have := (o.2.2.2.foot r2 hr2 i q).2.2; omega
   | succ j =>
     have e' : B[j]? = some r := by simpa using e
     rw [List.eraseIdx_cons_succ] at hn
     have hx := hn x (List.mem_cons_self ..)
     refine ⟨x.st l (fun i hi => (hx i hi).1) (fun i hi => (hx i hi).2) o.1,fun i hi => ⟨(hx i hi).2,(o.2.1 i hi).2.1,Nat.lt_of_lt_of_le (o.2.1 i hi).2.2 hs⟩,fun r2 hr2 i hi q => ?_,ih (fun r hr => hn r (List.mem_cons_of_mem _ hr)) o.2.2.2 e'⟩
     rcases List.mem_or_eq_of_mem_set hr2 with hr2 | rfl
     · exact o.2.2.1 r2 hr2 i hi q
     · rcases hf i q with ⟨a,_⟩ | ⟨a,_,_⟩
       · exact o.2.2.1 r (List.mem_of_getElem? e') i hi a
       · have := (o.2.1 i hi).2.2; omega
theorem OwnB.perm {A B : List Res} (p : A.Perm B) : OwnB w0 A h w -> OwnB w0 B h w := by
 induction p with
 | nil => exact fun x => x
 | cons x p ih => exact fun o => ⟨o.1,o.2.1,fun r' hr' => o.2.2.1 r' (p.mem_iff.2 hr'),ih o.2.2.2⟩
 | swap x y l => exact fun o => ⟨o.2.2.2.1,o.2.2.2.2.1,fun r' hr' i hi q => by
  rcases List.mem_cons.1 hr' with rfl | hr'
  · exact o.2.2.1 x (List.mem_cons_self ..) i q hi
  · exact o.2.2.2.2.2.1 r' hr' i hi q,o.1,o.2.1,fun r' hr' => o.2.2.1 r' (List.mem_cons_of_mem _ hr'),o.2.2.2.2.2.2⟩
 | trans _ _ a b => exact fun o => b (a o)
theorem OwnB.left : ∀ {A B : List Res},OwnB w0 (A ++ B) h w -> OwnB w0 A h w
 | [],_,_ => trivial
 | _ :: _,_,o => ⟨o.1,o.2.1,fun r' hr' => o.2.2.1 r' (List.mem_append_left _ hr'),OwnB.left o.2.2.2⟩
theorem OwnB.freeze {h0 : PH} (g : Gr h0 w0 h w) (o : OwnB w0 B h w) (e : B[j]? = some r) : ∃ h',Gr h0 w0 h' w /\ h.le h' /\ r.fz h' /\ OwnB w0 (B.eraseIdx j) h' w := by
 have a := o.at j e
 obtain ⟨h',g',le,fr,z⟩ := r.frz g a.1 fun i hi => ⟨(a.2 i hi).1,(a.2 i hi).2.1⟩
 refine ⟨h',g',le,z,(o.erase j).keep le (Nat.le_refl _) fun r' hr' i hi => ⟨rfl,fr i ?_ fun q => o.apart j e r' hr' i q hi⟩⟩
 exact (o.foot r' (List.mem_of_mem_eraseIdx hr') i hi).1
theorem OwnB.all {h0 : PH} : ∀ {B : List Res} {h : PH},Gr h0 w0 h w -> OwnB w0 B h w -> ∃ h',Gr h0 w0 h' w /\ h.le h' /\ ∀ r ∈ B,r.fz h'
 | [],h,g,_ => ⟨h,g,fun _ _ x => x,fun _ hr => by cases hr⟩
 | r :: B,h,g,o => by
   obtain ⟨h1,g1,l1,z1,o1⟩ := OwnB.freeze (j := 0) (r := r) g o rfl
   obtain ⟨h2,g2,l2,z2⟩ := OwnB.all g1 o1
   exact ⟨h2,g2,l1.trans l2,fun r' hr' => by
    rcases List.mem_cons.1 hr' with rfl | hr'
    · exact r'.fzm l2 z1
    · exact z2 r' hr'⟩
end
def bo (r : Res) : Res where
 bor := true
 fp := r.fp
 pr := r.pr
 st := r.st
 fz := fun _ => True
 fzm := fun _ _ => trivial
 frz := fun {h0 w0 h w} g _ _ => ⟨h,g,PH.le.refl h,fun _ x _ => x,trivial⟩
def noW (w : World) : World := { w with heap := #[] }
theorem OwnB.bo (w1 : World) {w0 : World} {h : PH} {w : World} : ∀ {B : List Res},OwnB w0 B h w -> OwnB w1 (B.map bo) h w
 | [],_ => trivial
 | _ :: _,o => ⟨o.1,fun i hi => ⟨(o.2.1 i hi).1,fun e => (by cases e),(o.2.1 i hi).2.2⟩,fun r' hr' i hi q => by
     obtain ⟨r,hr,rfl⟩ := List.mem_map.1 hr'
     exact o.2.2.1 r hr i hi q,OwnB.bo w1 o.2.2.2⟩
theorem OwnB.unbo {w0 : World} {h : PH} {w : World} : ∀ {B : List Res},OwnB w0 (B.map E3.bo) h w -> OwnB (noW w) B h w
 | [],_ => trivial
 | _ :: _,o => ⟨o.1,fun i hi => ⟨(o.2.1 i hi).1,fun _ => Nat.zero_le _,(o.2.1 i hi).2.2⟩,fun r' hr' i hi q => o.2.2.1 (E3.bo r') (List.mem_map.2 ⟨r',hr',rfl⟩) i hi q,OwnB.unbo o.2.2.2⟩
def Fx (loc env : EL) (h : PH) (ρ : Env) (x : Operand) : Prop := ∀ t S,x = .tmp t -> ((t,S) ∈ loc \/ (t,S) ∈ env) -> den h S (ρ t)
theorem EnvOk.mem {h : PH} {ρ : Env} : ∀ {l : EL},EnvOk h ρ l -> ∀ {t : Nat} {S : SV},(t,S) ∈ l -> den h S (ρ t)
 | _ :: _,u,t,S,m => by
   rcases List.mem_cons.1 m with e | m
   · cases e; exact u.1
   · exact EnvOk.mem u.2 m
structure Sx (h0 : PH) (w0 : World) (loc env : EL) (B : List Res) (os : List Operand) (ρ : Env) (h : PH) (w : World) : Prop where
 gr : Gr h0 w0 h w
 fx : ∀ x ∈ os,Fx loc env h ρ x
 ow : OwnB w0 B h w
structure Sy (h0 : PH) (w0 : World) (loc env : EL) (B : List Res) (ρ : Env) (h : PH) (w : World) : Prop where
 gr : Gr h0 w0 h w
 lo : EnvOk h ρ loc
 en : EnvOk h ρ env
 ow : OwnB w0 B h w
theorem Sy.grow {h0 : PH} {w0 : World} {loc env : EL} {B : List Res} {ρ : Env} {h h' : PH} {w w' : World} (s : Sy h0 w0 loc env B ρ h w) (g : Gr h w h' w') : Sy h0 w0 loc env B ρ h' w' := ⟨s.gr.trans g,s.lo.mono g.le,s.en.mono g.le,s.ow.grow g⟩
theorem Sy.x {h0 : PH} {w0 : World} {loc env : EL} {B : List Res} {ρ : Env} {h : PH} {w : World} (s : Sy h0 w0 loc env B ρ h w) (os : List Operand) : Sx h0 w0 loc env B os ρ h w :=
 ⟨s.gr,fun x _ t S _ m => m.elim s.lo.mem s.en.mem,s.ow⟩
theorem Sx.f {h0 : PH} {w0 : World} {loc env : EL} {B : List Res} {op : Op} {ρ : Env} {h : PH} {w : World} (s : Sx h0 w0 loc env B op.operands.toList ρ h w) (x : Operand) (hx : x ∈ op.operands.toList := by simp [Op.operands,Call.operands]) : Fx loc env h ρ x := s.fx x hx
theorem freeze_ex {h0 h : PH} {w0 w : World} (a : Gr h0 w0 h w) {b : Nat} {o : Obj} (hb : w.heap[b]? = some o) (hn : h b = none) (h0b : w0.heap.size <= b) : ∃ h',Gr h0 w0 h' w /\ h.le h' /\ h' b = some o /\ ∀ i,i ≠ b -> h i = none -> h' i = none :=
 ⟨h.put b o,a.freeze hb hn h0b,PH.le_put o hn,PH.put_at ..,fun i hi e => by rw [PH.put_ne o hi]; exact e⟩
def rV (v : Value) (l : List SV) (t : TypeId) : Res where
 fp := fun i => v = .pointer (some ⟨i,0,none⟩)
 pr := fun h w => ∃ b arr,v = .pointer (some ⟨b,0,none⟩) /\ w.heap[b]? = some (.cells arr t (0,0)) /\ denL h l arr.toList
 st := fun le hw _ ⟨b,arr,e,a,d⟩ => ⟨b,arr,e,(hw b e).trans a,d.mono le⟩
 fz := fun h => den h (.pk l 0) v
 fzm := fun le u => u.mono le
 frz := fun {h0 w0 h w} g ⟨b,arr,e,a,d⟩ hf => by
  obtain ⟨h',g',le,hb,fr⟩ := freeze_ex g a (hf b e).1 ((hf b e).2 rfl)
  refine ⟨h',g',le,fun i hi hn => fr i (fun q => hn (q ▸ e)) hi,b,0,arr,t,(0,0),hb,by simp [e], ?_, ?_⟩
  · have := d.length; simp at this; omega
  · have hl := d.length
    have : cut arr 0 l.length = arr.toList := by unfold cut; rw [<- hl,List.drop_zero]; exact List.take_of_length_le (Nat.le_refl _)
    rw [this]; exact d.mono le
def lv {α : Type} (r : Rp α) (l : List α) : SV := .kv ⟨fun h v => LR r h v l,fun {h v} u => by obtain ⟨b,c,rfl,_⟩ := u.shape; rfl,fun e u => u.mono e⟩
def rA {α : Type} (r : Rp α) (e : TypeId) (v : Value) (l : List α) : Res where
 fp := fun i => Value.blk v = some i
 pr := fun h w => OwnL r 0 h w e v l
 st := fun le hw hn u => by
  obtain ⟨css,a,b⟩ := u
  exact ⟨css,a.keep fun i hi hlt => ⟨hw i hi,fun _ => hn i hi⟩,b.mono le⟩
 fz := fun h => LR r h v l
 fzm := fun le u => u.mono le
 frz := fun {h0 w0 h w} g u hf => by
  obtain ⟨css,a,b⟩ := u
  have a2 : Go.Ear.Own w0.heap.size h w e r.k v l.length css.flatten := by
   refine ⟨a.1, ?_⟩
   rcases a.2 with hn | ⟨bb,cap,arr,rfl,h1,h2⟩
   · exact .inl hn
   · exact .inr ⟨bb,cap,arr,rfl,(hf bb rfl).2 rfl,h2⟩
  obtain ⟨h',g',le,fr,z⟩ := OwnL.freeze g (Nat.le_refl _) ⟨css,a2,b⟩
  exact ⟨h',g',le,fr,z⟩
def rK (v : Value) (l : List SV) : Res where
 fp := fun _ => False
 pr := fun h _ => den h (.pk l 0) v
 st := fun le _ _ a => a.mono le
 fz := fun _ => True
 fzm := fun _ _ => trivial
 frz := fun {h0 w0 h w} g _ _ => ⟨h,g,PH.le.refl h,fun _ x _ => x,trivial⟩
def rO (b : Nat) (o : Obj) : Res where
 fp := fun i => i = b
 pr := fun _ w => w.heap[b]? = some o
 st := fun _ hw _ a => (hw b rfl).trans a
 fz := fun _ => True
 fzm := fun _ _ => trivial
 frz := fun {h0 w0 h w} g _ _ => ⟨h,g,PH.le.refl h,fun _ x _ => x,trivial⟩
theorem getD_off {α : Type _} {l : List α} {i : Nat} {d : α} (h : l.length <= i) : l.getD i d = d := by rw [List.getD_eq_getElem?_getD,List.getElem?_eq_none h]; rfl
def vnil : Value := .slice none 0 0
def rZ {α : Type} (r : Rp α) (e : TypeId) (vs : List Value) (ls : List (List α)) : Res where
 fp := fun i => ∃ t,Value.blk (vs.getD t vnil) = some i
 pr := fun h w => vs.length = ls.length /\ (∀ t,OwnL r 0 h w e (vs.getD t vnil) (ls.getD t [])) /\ ∀ t u b,Value.blk (vs.getD t vnil) = some b -> Value.blk (vs.getD u vnil) = some b -> t = u
 st := fun le hw hn ⟨a,b,c⟩ => ⟨a,fun t => by
  obtain ⟨css,x,y⟩ := b t
  exact ⟨css,x.keep fun i hi hlt => ⟨hw i ⟨t,hi⟩,fun _ => hn i ⟨t,hi⟩⟩,y.mono le⟩,c⟩
 fz := fun h => vs.length = ls.length /\ ∀ t,LR r h (vs.getD t vnil) (ls.getD t [])
 fzm := fun le u => ⟨u.1,fun t => (u.2 t).mono le⟩
 frz := fun {h0 w0 h w} g ⟨a,b,c⟩ hf => by
  have key : ∀ k : Nat, ∃ h',Gr h0 w0 h' w /\ h.le h' /\ (∀ i,h i = none -> (¬ ∃ t,t < k /\ Value.blk (vs.getD t vnil) = some i) -> h' i = none) /\ ∀ t,t < k -> LR r h' (vs.getD t vnil) (ls.getD t []) := by
   intro k
   induction k with
   | zero => exact ⟨h,g,PH.le.refl h,fun _ x _ => x,fun t ht => by omega⟩
   | succ k ih =>
     obtain ⟨h1,g1,l1,f1,z1⟩ := ih
     obtain ⟨css,x,y⟩ := b k
     have x2 : Go.Ear.Own w0.heap.size h1 w e r.k (vs.getD k vnil) (ls.getD k []).length css.flatten := by
      have x' := x.keep (h' := h1) (w' := w) fun i hi hlt => ⟨rfl,fun hn => f1 i hn (by rintro ⟨t,ht,e⟩; have := c t k i e hi; omega)⟩
      refine ⟨x'.1, ?_⟩
      rcases x'.2 with hn | ⟨bb,cap,arr,h1,h2,h3⟩
      · exact .inl hn
      · exact .inr ⟨bb,cap,arr,h1,(hf bb ⟨k,by rw [h1]; rfl⟩).2 rfl,h3⟩
     obtain ⟨h2,g2,l2,f2,z2⟩ := OwnL.freeze g1 (Nat.le_refl _) ⟨css,x2,y.mono l1⟩
     refine ⟨h2,g2,l1.trans l2,fun i hi hn => f2 i (f1 i hi fun ⟨t,ht,e⟩ => hn ⟨t,by omega,e⟩) fun e => hn ⟨k,by omega,e⟩,fun t ht => ?_⟩
     by_cases htk : t = k
     · subst htk; exact z2
     · exact (z1 t (by omega)).mono l2
  obtain ⟨h',g',l',f',z'⟩ := key vs.length
  refine ⟨h',g',l',fun i hi hn => f' i hi fun ⟨t,_,e⟩ => hn ⟨t,e⟩,a,fun t => ?_⟩
  by_cases ht : t < vs.length
  · exact z' t ht
  · rw [getD_off (by omega),getD_off (by omega)]
    exact LR.nil r h' none 0
def ov (v : Value) : SV := .kv ⟨fun _ x => x = v /\ v.oneCell' = true,fun u => u.1 ▸ u.2,fun _ u => u⟩
def fo (v : Value) (o : Nat) : SV := .kv ⟨fun _ x => ∃ b off,v = .pointer (some ⟨b,off,none⟩) /\ x = .pointer (some ⟨b,off + o,none⟩),fun ⟨b,_,_,e⟩ => e ▸ rfl,fun _ u => u⟩
def pa (v : Value) (k j o : Nat) : SV := .kv ⟨fun _ x => ∃ b l c,v = .slice (some ⟨b,0,none⟩) l c /\ x = .pointer (some ⟨b,j * k + o,none⟩),fun ⟨b,_,_,_,e⟩ => e ▸ rfl,fun _ u => u⟩
class RpC {α : Type} (r : Rp α) (c : outParam (α -> List SV)) : Prop where h : ∀ {h cs x},r.R h cs x ↔ denL h (c x) cs
end Go.E3
namespace Go.Ear
variable {P : Program}
theorem in_i64 {a : Int} (h : -9223372036854775808 <= a /\ a <= 9223372036854775807) : IntKind.i64.wrap a = a := IntWalk.i64_in _ h
theorem in_u64 {a : Int} (h : 0 <= a /\ a <= 18446744073709551615) : IntKind.u64.wrap a = a := IntWalk.u64_in _ h
theorem in_u32 {a : Int} (h : 0 <= a /\ a <= 4294967295) : IntKind.u32.wrap a = a := IntWalk.u32_in _ h
theorem in_u8 {a : Int} (h : 0 <= a /\ a <= 255) : IntKind.u8.wrap a = a := IntWalk.u8_in _ h
theorem conv_u32 {a : Nat} : IntKind.u32.wrap (a : Int) = ((a % 4294967296 : Nat) : Int) := by rw [IntKind.wrap_u32]; omega
theorem conv_u32' {a : Nat} (h : a < 4294967296) : IntKind.u32.wrap (a : Int) = (a : Int) := in_u32 (by omega)
theorem conv_u8' {a : Nat} (h : a < 256) : IntKind.u8.wrap (a : Int) = (a : Int) := in_u8 (by omega)
theorem conv_u64 {a : Nat} (h : a <= 18446744073709551615) : IntKind.u64.wrap (a : Int) = (a : Int) := in_u64 (by omega)
theorem conv_i64 {a : Nat} (h : a <= 9223372036854775807) : IntKind.i64.wrap (a : Int) = (a : Int) := in_i64 (by omega)
theorem shr_nat {k yk : IntKind} {a s : Nat} (hs : s <= k.bits) (w : World) : (Op.shift .shr k (a : Int) yk (s : Int)).run P w = .ok (.int k ((a / 2 ^ s : Nat) : Int)) w := by
 unfold Op.shift
 rw [if_neg (by omega)]
 simp only [Int.toNat_natCast,Nat.min_eq_left hs]
 have : ((a : Int).fdiv (2 ^ s)) = ((a / 2 ^ s : Nat) : Int) := by
  rw [show ((2 : Int) ^ s) = ((2 ^ s : Nat) : Int) by simp,Int.fdiv_eq_ediv_of_nonneg _ (Int.natCast_nonneg _)]
  exact (Int.natCast_ediv a (2 ^ s)).symm
 rw [this]; rfl
theorem shl_nat {k yk : IntKind} {a s : Nat} {r : Int} (hs : s <= k.bits) (hr : k.wrap ((a * 2 ^ s : Nat) : Int) = r) (w : World) : (Op.shift .shl k (a : Int) yk (s : Int)).run P w = .ok (.int k r) w := by
 unfold Op.shift
 rw [if_neg (by omega)]
 simp only [Int.toNat_natCast,Nat.min_eq_left hs]
 have : ((a : Int) * (2 ^ s)) = ((a * 2 ^ s : Nat) : Int) := by simp
 rw [this,hr]; rfl
theorem or_u64 {a b : Nat} (ha : a < 18446744073709551616) (hb : b < 18446744073709551616) (w : World) : (Op.intBits .or .u64 (a : Int) (b : Int)).run P w = .ok (.int .u64 ((a ||| b : Nat) : Int)) w := by
 have h := Nat.or_lt_two_pow (x := a) (y := b) (n := 64) ha hb
 have e : IntKind.u64.wrap ((BitVec.ofInt 64 (a : Int) ||| BitVec.ofInt 64 (b : Int)).toNat : Int) = ((a ||| b : Nat) : Int) := by
  have ea : (BitVec.ofInt 64 (a : Int)).toNat = a := by simp; omega
  have eb : (BitVec.ofInt 64 (b : Int)).toNat = b := by simp; omega
  rw [BitVec.toNat_or,ea,eb]
  exact conv_u64 (by omega)
 show Result.ok (Value.int .u64 (IntKind.u64.wrap ((BitVec.ofInt 64 (a : Int) ||| BitVec.ofInt 64 (b : Int)).toNat : Int))) w = _
 rw [e]
theorem and_u64 {a b : Nat} (ha : a < 18446744073709551616) (hb : b < 18446744073709551616) (w : World) : (Op.intBits .and .u64 (a : Int) (b : Int)).run P w = .ok (.int .u64 ((a &&& b : Nat) : Int)) w := by
 have h := Nat.and_lt_two_pow (n := 64) a (y := b) hb
 have e : IntKind.u64.wrap ((BitVec.ofInt 64 (a : Int) &&& BitVec.ofInt 64 (b : Int)).toNat : Int) = ((a &&& b : Nat) : Int) := by
  have ea : (BitVec.ofInt 64 (a : Int)).toNat = a := by simp; omega
  have eb : (BitVec.ofInt 64 (b : Int)).toNat = b := by simp; omega
  rw [BitVec.toNat_and,ea,eb]
  exact conv_u64 (by omega)
 show Result.ok (Value.int .u64 (IntKind.u64.wrap ((BitVec.ofInt 64 (a : Int) &&& BitVec.ofInt 64 (b : Int)).toNat : Int))) w = _
 rw [e]
theorem or_u32 {a b : Nat} (ha : a < 4294967296) (hb : b < 4294967296) (w : World) : (Op.intBits .or .u32 (a : Int) (b : Int)).run P w = .ok (.int .u32 ((a ||| b : Nat) : Int)) w := by
 have h := Nat.or_lt_two_pow (x := a) (y := b) (n := 32) ha hb
 have e : IntKind.u32.wrap ((BitVec.ofInt 32 (a : Int) ||| BitVec.ofInt 32 (b : Int)).toNat : Int) = ((a ||| b : Nat) : Int) := by
  have ea : (BitVec.ofInt 32 (a : Int)).toNat = a := by simp; omega
  have eb : (BitVec.ofInt 32 (b : Int)).toNat = b := by simp; omega
  rw [BitVec.toNat_or,ea,eb]
  exact conv_u32' (by omega)
 show Result.ok (Value.int .u32 (IntKind.u32.wrap ((BitVec.ofInt 32 (a : Int) ||| BitVec.ofInt 32 (b : Int)).toNat : Int))) w = _
 rw [e]
theorem and_u32 {a b : Nat} (ha : a < 4294967296) (hb : b < 4294967296) (w : World) : (Op.intBits .and .u32 (a : Int) (b : Int)).run P w = .ok (.int .u32 ((a &&& b : Nat) : Int)) w := by
 have h := Nat.and_lt_two_pow (n := 32) a (y := b) hb
 have e : IntKind.u32.wrap ((BitVec.ofInt 32 (a : Int) &&& BitVec.ofInt 32 (b : Int)).toNat : Int) = ((a &&& b : Nat) : Int) := by
  have ea : (BitVec.ofInt 32 (a : Int)).toNat = a := by simp; omega
  have eb : (BitVec.ofInt 32 (b : Int)).toNat = b := by simp; omega
  rw [BitVec.toNat_and,ea,eb]
  exact conv_u32' (by omega)
 show Result.ok (Value.int .u32 (IntKind.u32.wrap ((BitVec.ofInt 32 (a : Int) &&& BitVec.ofInt 32 (b : Int)).toNat : Int))) w = _
 rw [e]
theorem max_nat {k : IntKind} {t u ty : TypeId} {a b : Nat} (w : World) : (Builtin.max_ #[t,u] ty #[.int k (a : Int),.int k (b : Int)]).run P w = .ok (.int k ((max a b : Nat) : Int)) w := by
 have h : (if (b : Int) > (a : Int) then (b : Int) else (a : Int)) = ((max a b : Nat) : Int) := by split <;> omega
 show Result.ok (Value.int k (if (b : Int) > (a : Int) then (b : Int) else (a : Int))) w = _
 rw [h]
theorem min_nat {k : IntKind} {t u ty : TypeId} {a b : Nat} (w : World) : (Builtin.min_ #[t,u] ty #[.int k (a : Int),.int k (b : Int)]).run P w = .ok (.int k ((min a b : Nat) : Int)) w := by
 have h : (if (b : Int) < (a : Int) then (b : Int) else (a : Int)) = ((min a b : Nat) : Int) := by split <;> omega
 show Result.ok (Value.int k (if (b : Int) < (a : Int) then (b : Int) else (a : Int))) w = _
 rw [h]
end Go.Ear
