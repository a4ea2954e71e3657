/- K7: a part of the proof about training through the decoder: how the program's functions run, and what they compute, for every input. -/
import Derived.Test.YtdciabokggfpbaaGreatK6
set_option linter.all false
namespace Go.E3
open Go Go.Ear
class D0 (α : Type) (d : outParam α) : Prop where t : True
instance : D0 Int 0 := ⟨trivial⟩
instance : D0 Nat 0 := ⟨trivial⟩
instance {α : Type} : D0 (List α) [] := ⟨trivial⟩
class Rk {α : Type} (r : Rp α) (k : outParam Nat) : Prop where h : r.k = k
def mkRp {α : Type} (k : Nat) (c : α -> List SV) (hl : ∀ x,(c x).length = k) (ho : ∀ x,(c x).all SV.one = true) : Rp α where
 k := k
 R := fun h cs x => denL h (c x) cs
 len := fun {h cs x} u => by rw [<- hl x]; exact u.length
 one := fun {h cs x} u => u.one (ho x)
 mono := fun u e => u.mono e
def rW : Rp Value := mkRp 1 (fun x => [ov x]) (fun _ => rfl) (fun _ => rfl)
instance : RpC rW (fun x => [ov x]) := ⟨Iff.rfl⟩
instance : Rk rW 1 := ⟨rfl⟩
instance : D0 Value vnil := ⟨trivial⟩
class TStr (P : Program) (t : TypeId) : Prop where h : IsUnd P t .string
theorem cut_part {arr : Array Value} {off n o m : Nat} {vs : List Value} (h : cut arr off n = vs) (ho : o + m <= n) : cut arr (off + o) m = (vs.drop o).take m := by
 subst h
 unfold cut
 rw [List.drop_take,List.take_take,List.drop_drop,Nat.min_eq_left (by omega)]
theorem cut_all {arr : Array Value} {h : PH} {l : List SV} (u : denL h l arr.toList) : denL h l (cut arr 0 l.length) := by
 have : cut arr 0 l.length = arr.toList := by unfold cut; rw [<- u.length,List.drop_zero]; exact List.take_of_length_le (Nat.le_refl _)
 rw [this]; exact u
structure At (w : World) (b off : Nat) (vs : List Value) : Prop where
 h : ∃ arr t fz,w.heap[b]? = some (.cells arr t fz) /\ off + vs.length <= arr.size /\ cut arr off vs.length = vs
section
variable {P : Program} {n : Nat} {ρ : Env} {w : World} {K : Env -> World -> Prop} {d : Tmp} {ty : TypeId} {pos : String} {af : Array Edge} {g : Option (Nat × Bool)} {t : TypeId} {x : Operand} {b off o m : Nat} {vs : List Value} {l l' : List SV} {S : SV} {h : PH}
theorem At.load1 (a : At w b off vs) (u : denL h l vs) [nt : Nth l o S] (ta : IsAgg P t false) (hx : ev n ρ x = .pointer (some ⟨b,off + o,none⟩)) (k : ∀ v,den h S v -> K (upd ρ d v) w) : OpW P n ⟨some d,.load t x,ty,pos,af,g⟩ ρ w K := by
 obtain ⟨arr,tt,fz,hb,hs,hc⟩ := a.h
 obtain ⟨v,hv,hd⟩ := u.at nt.h
 have hlt : o < vs.length := by
  rcases Nat.lt_or_ge o vs.length with q | q
  · exact q
  · rw [List.getElem?_eq_none q] at hv; cases hv
 exact OpW.load1 ta hx hb (cut_cell hc o hlt hv) (k v hd)
theorem At.loadA (a : At w b off vs) (u : denL h l vs) [pr : Prt l o m l'] (ta : IsAgg P t true) (tz : IsSize P t m) (hx : ev n ρ x = .pointer (some ⟨b,off + o,none⟩)) (k : ∀ v,den h (.ag l') v -> K (upd ρ d v) w) : OpW P n ⟨some d,.load t x,ty,pos,af,g⟩ ρ w K := by
 obtain ⟨arr,tt,fz,hb,hs,hc⟩ := a.h
 have hl := u.length
 have h2 := pr.h.2
 refine OpW.loadA ta tz hx hb (by omega) (cut_part hc (by omega)) (k _ ⟨_,rfl, ?_⟩)
 rw [<- pr.h.1]
 exact (u.drop o).take m
end
section
variable {α : Type} {P : Program} {n : Nat} {c : Bool} {loc env : EL} {B : List Res} {ms : List Nat} {d : Nat} {x y z : Operand} {S T : SV} {t u e : TypeId} {k : IntKind} {i j : Int} {a b m o o2 : Nat} {l l' : List SV} {v : Value} {r : Rp α} {q q' : List α} {d0 : α} {f : α -> List SV}
theorem pkE {h : PH} {h0 : PH} {w0 w : World} {x : Value} (g : Gr h0 w0 h w) (u : den h (.pk l o) x) : ∃ b off vs,x = .pointer (some ⟨b,off + o,none⟩) /\ At w b off vs /\ denL h l vs := by
 obtain ⟨b,off,arr,t,fz,a1,a2,a3,a4⟩ := u
 refine ⟨b,off,_,a2,⟨arr,t,fz,g.sat _ _ a1, ?_, ?_⟩,a4⟩
 · rw [a4.length]; exact a3
 · rw [a4.length]
class HC (B : List Res) (v : Value) (l : outParam (List SV)) : Prop where h : ∀ {w0 h w},Sat h w -> OwnB w0 B h w -> ∃ b off vs,v = .pointer (some ⟨b,off,none⟩) /\ At w b off vs /\ denL h l vs
instance [i : HV B v l t] : HC B v l := ⟨fun _ o => by
 obtain ⟨b,arr,e,a,u⟩ := i.h o
 refine ⟨b,0,arr.toList,e,⟨arr,t,_,a,by simp, ?_⟩,u⟩
 unfold cut; rw [List.drop_zero]; exact List.take_of_length_le (Nat.le_refl _)⟩
instance : HC (rK v l :: B) v l := ⟨fun s o => by
 obtain ⟨b,off,arr,t,fz,a1,a2,a3,a4⟩ := o.1
 exact ⟨b,off,_,by simpa using a2,⟨arr,t,fz,s _ _ a1,by rw [a4.length]; exact a3,by rw [a4.length]⟩,a4⟩⟩
instance (priority := 50) {x : Res} [i : HC B v l] : HC (x :: B) v l := ⟨fun s o => i.h s o.2.2.2⟩
instance (priority := 60) [i : HC B v l] : HC (B.map bo) v l := ⟨fun s o => i.h s o.unbo⟩
theorem hvE [i : HC B v l] {h0 : PH} {w0 : World} {ρ : Env} {h : PH} {w : World} {os : List Operand} (s : Sx h0 w0 loc env B os ρ h w) : ∃ b off vs,v = .pointer (some ⟨b,off,none⟩) /\ At w b off vs /\ denL h l vs := i.h s.gr.sat s.ow
theorem haE [i : HA B v α r e q] [rc : RpC r f] [D0 α d0] {h0 : PH} {w0 : World} {ρ : Env} {h : PH} {w : World} {os : List Operand} (s : Sx h0 w0 loc env B os ρ h w) {j : Nat} (hj : j < q.length) : ∃ b l c vs,v = .slice (some ⟨b,0,none⟩) l c /\ At w b (j * r.k) vs /\ denL h (f (q.getD j d0)) vs := by
 have o := i.own s.ow
 obtain ⟨b,cap,arr,e,_,_,hb,_,u⟩ := o.block (by intro e; rw [e] at hj; cases hj)
 obtain ⟨cs,hc,hs,hr⟩ := u.at d0 hj
 have hl := r.len hr
 exact ⟨b,_,_,cs,e,⟨arr,_,_,hb,by rw [hl]; exact hs,by rw [hl]; exact hc⟩,rc.h.1 hr⟩
instance [fa : FA P t a o2] [lx : Lu n c loc env x (.pk l o)] [ad : AddN o o2 b] : St P n c loc env B ms d (.fieldAddr t x a) True (.pk l b) := .p fun q _ _ _ _ _ _ s _ _ _ _ _ k => by
 obtain ⟨fs,f,sz,h1,h2,h3,h4,h5⟩ := fa.h
 have u := lx.h q (s.f x)
 have ⟨b,off,arr,t,fz,a1,a2,a3,a4⟩ := u
 exact OpW.fieldAddr h1 h2 h3 h4 a2 (by rw [h5]) (k _ ⟨b,off,arr,t,fz,a1,by rw [<- ad.h,Nat.add_assoc],a3,a4⟩)
instance [fa : FA P t a o2] [lx : Lu n c loc env x (ov v)] [hv : HC B v l] : St P n c loc env B ms d (.fieldAddr t x a) True (fo v o2) := .p fun q _ _ _ _ _ _ s _ _ _ _ _ k => by
 obtain ⟨fs,f,sz,h1,h2,h3,h4,h5⟩ := fa.h
 have u := lx.h q (s.f x)
 obtain ⟨b,off,vs,e,_⟩ := hvE (v := v) s
 exact OpW.fieldAddr h1 h2 h3 h4 (u.1.trans e) (by rw [h5]) (k _ ⟨b,off,e,rfl⟩)
instance [fa : FA P t a o2] [lx : Lu n c loc env x (fo v o)] [ad : AddN o o2 b] : St P n c loc env B ms d (.fieldAddr t x a) True (fo v b) := .p fun q _ _ _ _ _ _ s _ _ _ _ _ k => by
 obtain ⟨fs,f,sz,h1,h2,h3,h4,h5⟩ := fa.h
 obtain ⟨b,off,e1,e2⟩ := lx.h q (s.f x)
 exact OpW.fieldAddr h1 h2 h3 h4 e2 (by rw [h5]) (k _ ⟨b,off,e1,by rw [<- ad.h,Nat.add_assoc]⟩)
instance {sd : Prop} [ts : TS P t e] [tz : TZ P e m] [lx : Lu n c loc env x (lv r q)] [ly : Lu n c loc env y (.cv (.int k i))] [tn : TN i a sd] [rk : Rk r m] [rc : RpC r f] [D0 α d0] : St P n c loc env B ms d (.indexAddr t x y) (sd /\ a < q.length) (.pk (f (q.getD a d0)) 0) := .p fun qc hsd _ _ _ _ _ s _ _ _ _ _ k => by
 have u : LR r _ _ q := lx.h qc (s.f x)
 obtain ⟨base,cp,e,hc⟩ := u.shape
 rw [e] at u
 refine OpW.indexL d0 rk.h.symm ts.h tz.h e u (cvE (ly.h qc (s.f y))) hsd.2 (tn.e hsd.1) fun b o arr e' fz cs hb hcu hsz hR => k _ ?_
 have hl := r.len hR
 rw [rk.h] at hl
 have dl := rc.h.1 hR
 have dll := dl.length
 refine ⟨b,o,arr,e',fz,hb,by simp,by omega, ?_⟩
 rw [<- dll,hl,hcu]; exact dl
instance {sd : Prop} [ts : TS P t e] [tz : TZ P e m] [lx : Lu n c loc env x (ov v)] [ha : HA B v α r u q] [ly : Lu n c loc env y (.cv (.int k i))] [tn : TN i a sd] [rk : Rk r m] : St P n c loc env B ms d (.indexAddr t x y) (sd /\ a < q.length) (pa v m a 0) := .p fun qc hsd _ _ _ _ _ s _ _ _ _ _ k => by
 have u := lx.h qc (s.f x)
 obtain ⟨b,cap,arr,e,_,_,hb,hcp,_⟩ := (ha.own s.ow).block (by intro e; rw [e] at hsd; exact absurd hsd.2 (by simp))
 have hi := tn.e hsd.1
 have := hsd.2
 exact OpW.indexAddr ts.h tz.h (u.1.trans e) (cvE (ly.h qc (s.f y))) (by omega) rfl (k _ ⟨b,_,_,e,by rw [hi]; simp⟩)
instance [ta : TA P t false] [lx : Lu n c loc env x (.pk l o)] [nt : Nth l o S] : St P n c loc env B ms d (.load t x) True S := .p fun q _ _ _ _ _ _ s _ _ _ _ _ k => by
 obtain ⟨b,off,vs,e,a,u⟩ := pkE s.gr (lx.h q (s.f x))
 exact a.load1 u ta.h e k
instance [ta : TA P t true] [tz : TZ P t m] [lx : Lu n c loc env x (.pk l o)] [pr : Prt l o m l'] : St P n c loc env B ms d (.load t x) True (.ag l') := .p fun q _ _ _ _ _ _ s _ _ _ _ _ k => by
 obtain ⟨b,off,vs,e,a,u⟩ := pkE s.gr (lx.h q (s.f x))
 exact a.loadA u ta.h tz.h e k
instance [ta : TA P t false] [lx : Lu n c loc env x (fo v o)] [hv : HC B v l] [nt : Nth l o S] : St P n c loc env B ms d (.load t x) True S := .p fun q _ _ _ _ _ _ s _ _ _ _ _ k => by
 obtain ⟨b,off,vs,e,a,u⟩ := hvE (v := v) s
 obtain ⟨b',off',e1,e2⟩ := lx.h q (s.f x)
 rw [e] at e1; cases e1
 exact a.load1 (o := o) u ta.h e2 k
instance [ta : TA P t true] [tz : TZ P t m] [lx : Lu n c loc env x (fo v o)] [hv : HC B v l] [pr : Prt l o m l'] : St P n c loc env B ms d (.load t x) True (.ag l') := .p fun q _ _ _ _ _ _ s _ _ _ _ _ k => by
 obtain ⟨b,off,vs,e,a,u⟩ := hvE (v := v) s
 obtain ⟨b',off',e1,e2⟩ := lx.h q (s.f x)
 rw [e] at e1; cases e1
 exact a.loadA (o := o) u ta.h tz.h e2 k
instance [ta : TA P t false] [lx : Lu n c loc env x (ov v)] [hv : HC B v l] [nt : Nth l 0 S] : St P n c loc env B ms d (.load t x) True S := .p fun q _ _ _ _ _ _ s _ _ _ _ _ k => by
 obtain ⟨b,off,vs,e,a,u⟩ := hvE (v := v) s
 exact a.load1 (o := 0) u ta.h ((lx.h q (s.f x)).1.trans e) k
instance [ta : TA P t true] [tz : TZ P t m] [lx : Lu n c loc env x (ov v)] [hv : HC B v l] [pr : Prt l 0 m l'] : St P n c loc env B ms d (.load t x) True (.ag l') := .p fun q _ _ _ _ _ _ s _ _ _ _ _ k => by
 obtain ⟨b,off,vs,e,a,u⟩ := hvE (v := v) s
 exact a.loadA (o := 0) u ta.h tz.h ((lx.h q (s.f x)).1.trans e) k
instance [ta : TA P t false] [lx : Lu n c loc env x (pa v m a o)] [ha : HA B v α r e q] [rk : Rk r m] [rc : RpC r f] [D0 α d0] [nt : Nth (f (q.getD a d0)) o S] : St P n c loc env B ms d (.load t x) (a < q.length) S := .p fun qc hsd _ _ _ _ _ s _ _ _ _ _ k => by
 obtain ⟨b,_,_,vs,e,at_,u⟩ := haE (v := v) (d0 := d0) (f := f) s hsd
 obtain ⟨b',_,_,e1,e2⟩ := lx.h qc (s.f x)
 rw [e] at e1; cases e1
 exact at_.load1 (o := o) u ta.h (by rw [e2,rk.h]) k
instance [ta : TA P t true] [tz : TZ P t b] [lx : Lu n c loc env x (pa v m a o)] [ha : HA B v α r e q] [rk : Rk r m] [rc : RpC r f] [D0 α d0] [pr : Prt (f (q.getD a d0)) o b l'] : St P n c loc env B ms d (.load t x) (a < q.length) (.ag l') := .p fun qc hsd _ _ _ _ _ s _ _ _ _ _ k => by
 obtain ⟨b,_,_,vs,e,at_,u⟩ := haE (v := v) (d0 := d0) (f := f) s hsd
 obtain ⟨b',_,_,e1,e2⟩ := lx.h qc (s.f x)
 rw [e] at e1; cases e1
 exact at_.loadA (o := o) u ta.h tz.h (by rw [e2,rk.h]) k
instance [ts : TS P t e] [lx : Lu n c loc env x (lv r q)] : St P n c loc env B ms d (.call ⟨.builtin .len,[x].toArray,[t].toArray⟩) True (.cv (.int .i64 (q.length : Int))) := .p fun qc _ _ _ _ _ _ s _ _ _ _ _ k => by
 have u : LR r _ _ q := lx.h qc (s.f x)
 obtain ⟨base,cp,e,hc⟩ := u.shape
 exact OpW.lenS ts.h e (k _ rfl)
instance [ts : TS P t e] [lx : Lu n c loc env x (ov v)] [ha : HA B v α r u q] : St P n c loc env B ms d (.call ⟨.builtin .len,[x].toArray,[t].toArray⟩) True (.cv (.int .i64 (q.length : Int))) := .p fun qc _ _ _ _ _ _ s _ _ _ _ _ k => by
 obtain ⟨base,cp,e,hc⟩ := (ha.own s.ow).shape
 exact OpW.lenS ts.h ((lx.h qc (s.f x)).1.trans e) (k _ rfl)
section
variable [lx : Lu n c loc env x (.cv (.int k i))] [ly : Lu n c loc env y (.cv (.int k j))] [a1 : IN i a] [b1 : IN j b]
instance : St P n c loc env B ms d (.call ⟨.builtin .max,[x,y].toArray,[t,u].toArray⟩) True (.cv (.int k ((max a b : Nat) : Int))) := .p fun q _ _ _ _ _ _ s _ _ _ _ _ k => OpW.maxI (cvE (lx.h q (s.f x))) (cvE (ly.h q (s.f y))) (fun w => by rw [a1.e,b1.e]; exact max_nat w) (k _ rfl)
instance : St P n c loc env B ms d (.call ⟨.builtin .min,[x,y].toArray,[t,u].toArray⟩) True (.cv (.int k ((min a b : Nat) : Int))) := .p fun q _ _ _ _ _ _ s _ _ _ _ _ k => OpW.minI (cvE (lx.h q (s.f x))) (cvE (ly.h q (s.f y))) (fun w => by rw [a1.e,b1.e]; exact min_nat w) (k _ rfl)
end
instance [lx : Lu n c loc env x (.tp l)] [nt : Nth l a S] : St P n c loc env B ms d (.extract x a) True S := .p fun q _ _ _ _ _ _ s _ _ _ _ _ k => by
 obtain ⟨vs,e,u⟩ := lx.h q (s.f x)
 obtain ⟨v,hv,hd⟩ := u.at nt.h
 exact OpW.extract e (by simpa using hv) (k _ hd)
instance [lx : Lu n c loc env x (.pk l o)] : St P n c loc env B ms d (.nilCheck x) True (.pk l o) := .p fun q _ _ _ _ _ _ s _ _ _ _ _ k => by
 have u := lx.h q (s.f x)
 have ⟨_,_,_,_,_,_,a2,_⟩ := u
 rw [a2] at u
 exact OpW.nilCheck a2 (k _ u)
instance [lx : Lu n c loc env x (ov v)] [hv : HC B v l] : St P n c loc env B ms d (.nilCheck x) True (ov v) := .p fun q _ _ _ _ _ _ s _ _ _ _ _ k => by
 have u := lx.h q (s.f x)
 obtain ⟨b,off,vs,e,_⟩ := hvE (v := v) s
 exact OpW.nilCheck (u.1.trans e) (k _ ⟨e.symm,u.2⟩)
theorem LR.drop {h : PH} {base : Option Addr} {len cap m sz : Nat} {l : List α} (u : LR r h (.slice base len cap) l) (hs : sz = r.k) (hm : m <= l.length) : LR r h (.slice (if cap = m then base else base.map (·.add (m * sz))) (len - m) (cap - m)) (l.drop m) := by
 obtain ⟨css,s,rr⟩ := u
 refine ⟨css.drop m, ?_,rr.drop m⟩
 subst hs
 have hl := rr.length
 obtain ⟨base',cap',e,h1,h2,h3⟩ := s
 cases e
 refine ⟨_,_,by rw [List.length_drop],by rw [List.length_drop]; omega,fun cs hc => h2 cs (List.mem_of_mem_drop hc), ?_⟩
 rcases h3 with e | ⟨b,off,arr,e',fz,rfl,hb,hsz,hcu⟩
 · exact .inl (by rw [e]; simp)
 · rcases Nat.lt_or_ge m css.length with hlt | hge
   · have hne : ¬ cap = m := by omega
     rw [if_neg hne]
     refine .inr ⟨b,off + m * r.k,arr,e',fz,by simp [addr_add],hb, ?_,fun i cs hi => ?_⟩
     · rw [List.length_drop]
       have : m * r.k + (css.length - m) * r.k = css.length * r.k := by rw [<- Nat.add_mul]; congr 1; omega
       omega
     · rw [List.getElem?_drop] at hi
       have := hcu (m + i) cs hi
       rwa [Nat.add_assoc, <- Nat.add_mul]
   · exact .inl (List.drop_eq_nil_of_le hge)
instance [ts : TS P t e] [tz : TZ P e m] [lx : Lu n c loc env x (lv r q)] [ly : Lu n c loc env y (.cv (.int k i))] {sd : Prop} [tn : TN i a sd] : St P n c loc env B ms d (.slice t x none (some y) none) (sd /\ a <= q.length) (lv r (q.take a)) := .p fun qc hsd _ _ _ _ _ s _ _ _ _ _ k => by
 have u : LR r _ _ q := lx.h qc (s.f x)
 obtain ⟨base,cp,e,hc⟩ := u.shape
 rw [e] at u
 exact OpW.sliceTo ts.h tz.h e ((cvE (ly.h qc (s.f y))).trans (by rw [tn.e hsd.1])) (Nat.le_trans hsd.2 hc) (k _ (u.take a hsd.2))
instance [ts : TS P t e] [tz : TZ P e m] [rk : Rk r m] [lx : Lu n c loc env x (lv r q)] [ly : Lu n c loc env y (.cv (.int k i))] {sd : Prop} [tn : TN i a sd] : St P n c loc env B ms d (.slice t x (some y) none none) (sd /\ a <= q.length) (lv r (q.drop a)) := .p fun qc hsd _ _ _ _ _ s _ _ _ _ _ k => by
 have u : LR r _ _ q := lx.h qc (s.f x)
 obtain ⟨base,cp,e,hc⟩ := u.shape
 rw [e] at u
 exact OpW.sliceFrom ts.h tz.h e ((cvE (ly.h qc (s.f y))).trans (by rw [tn.e hsd.1])) hsd.2 (k _ (LR.drop u rk.h.symm hsd.2))
class NotIn (d : Nat) (ms : List Nat) : Prop where t : True
instance : NotIn d [] := ⟨trivial⟩
instance {ms : List Nat} [RflE (Nat.beq d a) false] [NotIn d ms] : NotIn d (a :: ms) := ⟨trivial⟩
instance [NotIn d ms] [lx : Lu n c loc env x S] [cl : Cl S l] : St P n c loc env B ms d (.box t x) True (.pk l 0) := ⟨fun q _ _ _ _ _ _ s _ _ _ _ _ k =>
 OpW.boxK s.gr.sat rfl rfl fun b h' w' gr hb => k _ _ _ gr (by
  have u := (cl.h (lx.h q (s.f x))).mono gr.le
  have hl := u.length
  exact ⟨b,0,_,t,_,hb,rfl,by simp at hl; omega,cut_all u⟩)⟩
def fnv (f : Fn) (az cs : List SV) : SV := .kv ⟨fun h x => ∃ us vs,x = .func f us.toArray vs.toArray /\ denL h az us /\ denL h cs vs,fun ⟨_,_,e,_⟩ => e ▸ rfl,fun le ⟨us,vs,e,a,b⟩ => ⟨us,vs,e,a.mono le,b.mono le⟩⟩
instance {f : Fn} {xs ys : List Operand} {az cs : List SV} [lx : Lus n c loc env xs az] [ly : Lus n c loc env ys cs] : St P n c loc env B ms d (.makeFunc f xs.toArray ys.toArray) True (fnv f az cs) := .p fun q _ _ _ _ _ _ s _ _ _ _ _ k =>
 OpW.makeFunc rfl (k _ ⟨_,_,rfl,lx.h q fun x hx => s.f x (by simp [Op.operands,hx]),ly.h q fun x hx => s.f x (by simp [Op.operands,hx])⟩)
end
theorem foldl_put : ∀ (cs : List Value) (k off : Nat) (arr : Array Value),(cs.zipIdx k).foldl (fun (a : Array Value) (p : Value × Nat) => a.setIfInBounds (off + p.2) p.1) arr = putIn arr (off + k) cs
 | [],k,off,arr => rfl
 | c :: cs,k,off,arr => by rw [List.zipIdx_cons,List.foldl_cons,foldl_put cs (k + 1) off]; rfl
theorem foldl_set (cs : List Value) (off : Nat) (arr : Array Value) (h : off + cs.length <= arr.size) :
 (cs.zipIdx.foldl (fun (a : Array Value) (p : Value × Nat) => a.setIfInBounds (off + p.2) p.1) arr).toList = arr.toList.take off ++ cs ++ arr.toList.drop (off + cs.length) := by
 rw [foldl_put cs 0 off arr]; exact putIn_toList cs arr off h
class Fil (places : List (Nat × Nat)) (l : List SV) (ps : List (Nat × SV)) (l' : outParam (List SV)) : Prop where
 h : ∀ {h : PH} {arr : Array Value} {vs : List (Nat × Value)},denL h l arr.toList -> vs.map (·.1) = ps.map (·.1) -> denL h (ps.map (·.2)) (vs.map (·.2)) -> ∃ arr',Instr.fill (places[·]?) arr vs = some arr' /\ denL h l' arr'.toList
instance {places : List (Nat × Nat)} {l : List SV} : Fil places l [] l := ⟨fun {h arr vs} u e _ => by
 cases vs with
 | nil => exact ⟨arr,rfl,u⟩
 | cons v vs => cases e⟩
instance {places : List (Nat × Nat)} {l l1 l2 cs : List SV} {i off sz : Nat} {S : SV} {ps : List (Nat × SV)} [np : Nth places i (off,sz)] [cl : Cl S cs] [hl : RflE cs.length sz] [sp : Spl l off cs l1] [f : Fil places l1 ps l2] : Fil places l ((i,S) :: ps) l2 := ⟨fun {h arr vs} u e d => by
 cases vs with
 | nil => cases e
 | cons v vs =>
   obtain ⟨j,v⟩ := v
   simp only [List.map_cons,List.cons.injEq] at e d
   obtain ⟨rfl,e⟩ := e
   have uc := cl.h d.1
   have hlc := uc.length
   simp only [Array.length_toList] at hlc
   have hla := u.length
   simp only [Array.length_toList] at hla
   have hfit := sp.h.2
   have hs := hl.h
   unfold Instr.fill
   have hp : places[j]? = some (off,sz) := np.h
   simp only [hp]
   rw [if_neg (by simp; omega)]
   refine f.h ?_ e d.2
   rw [<- Array.foldl_toList,Array.toList_zipIdx,foldl_set _ off arr (by simp; omega), <- sp.h.1]
   simp only [Array.length_toList,hlc]
   exact ((u.take off).app uc).app (u.drop (off + cs.length))⟩
class Lup (n : Nat) (c : Bool) (loc env : EL) (xs : List (Nat × Operand)) (Ss : outParam (List (Nat × SV))) : Prop where h : c = true -> Ss.map (·.1) = xs.map (·.1) /\ ∀ {h ρ},(∀ p ∈ xs,Fx loc env h ρ p.2) -> denL h (Ss.map (·.2)) (xs.map fun p => ev n ρ p.2)
instance {n : Nat} {c : Bool} {loc env : EL} : Lup n c loc env [] [] := ⟨fun _ => ⟨rfl,fun _ => trivial⟩⟩
instance {n i : Nat} {c : Bool} {loc env : EL} {x : Operand} {xs : List (Nat × Operand)} {S : SV} {Ss : List (Nat × SV)} [a : Lu n c loc env x S] [j : Lup n c loc env xs Ss] : Lup n c loc env ((i,x) :: xs) ((i,S) :: Ss) := ⟨fun q => ⟨by simp [(j.h q).1],fun u => ⟨a.h q (u _ (List.mem_cons_self ..)),(j.h q).2 fun p hp => u p (List.mem_cons_of_mem _ hp)⟩⟩⟩
section
variable {α : Type} {P : Program} {n : Nat} {c : Bool} {loc env : EL} {B : List Res} {ms : List Nat} {d : Nat} {t e : TypeId} {xs : List (Nat × Operand)} {ps : List (Nat × SV)} {places : List (Nat × Nat)} {zl l : List SV}
instance [lx : Lup n c loc env xs ps] [bt : BT P t places zl] [f : Fil places zl ps l] : St P n c loc env B ms d (.build t xs.toArray) True (.ag l) := .p fun q _ _ _ ρ _ _ s _ _ _ _ _ k => by
 obtain ⟨fs,z,h1,h2,h3,h4⟩ := bt.h
 obtain ⟨e1,e2⟩ := lx.h q
 obtain ⟨arr,hf,u⟩ := f.h (arr := z.cells) (vs := xs.map fun p => (p.1,ev n ρ p.2)) h4 (by rw [List.map_map]; exact e1.symm) (by rw [List.map_map]; exact e2 fun p hp => s.f p.2 (by simp [Op.operands]; exact ⟨_,hp⟩))
 exact OpW.build h1 h2 h3 (cs := arr.toList) (by rw [hf]) (k _ ⟨arr.toList,by simp,u⟩)
theorem isZero_of {e : TypeId} {k b : Nat} {z : Value} {i : TypeInfo} (el : El P e k b z i) : IsZero P e z := fun w => by
 simp [zeroValue,typeInfo,el.hi,el.hz]
class Rd {α : Type} (r : Rp α) (S : SV) (x : outParam α) : Prop where h : ∀ {h v},den h S v -> r.R h v.cells.toList x
class Els {α : Type} (r : Rp α) (i : Nat) (ps : List (Nat × SV)) (l : outParam (List α)) : Prop where
 h : ∀ {h : PH} {xs : List (Nat × Value)},xs.map (·.1) = ps.map (·.1) -> denL h (ps.map (·.2)) (xs.map (·.2)) -> Go.Ear.Rows r h (xs.map fun p => p.2.cells.toList) l /\ ∀ {sz : Nat} {arr : Array Value},sz = r.k -> (i + l.length) * sz <= arr.size ->
   ∃ arr',Instr.fill (fun i => some (i * sz,sz)) arr xs = some arr' /\ arr'.toList = arr.toList.take (i * sz) ++ (xs.map fun p => p.2.cells.toList).flatten ++ arr.toList.drop ((i + l.length) * sz)
instance {r : Rp α} {i : Nat} : Els r i [] [] := ⟨fun {h xs} e _ => by
 cases xs with
 | nil => exact ⟨trivial,fun {sz arr} _ _ => ⟨arr,rfl,by simp⟩⟩
 | cons x xs => cases e⟩
instance {r : Rp α} {i : Nat} {S : SV} {ps : List (Nat × SV)} {x : α} {l : List α} [rd : Rd r S x] [f : Els r (i + 1) ps l] : Els r i ((i,S) :: ps) (x :: l) := ⟨fun {h xs} e u => by
 cases xs with
 | nil => cases e
 | cons v xs =>
   obtain ⟨j,v⟩ := v
   simp only [List.map_cons,List.cons.injEq] at e u
   obtain ⟨rfl,e⟩ := e
   obtain ⟨a1,a2⟩ := f.h e u.2
   refine ⟨⟨rd.h u.1,a1⟩,fun {sz arr} hk hfit => ?_⟩
   have hv := r.len (rd.h u.1)
   rw [<- hk] at hv
   simp only [Array.length_toList] at hv
   simp only [List.length_cons] at hfit ⊢
   have m1 : (j + 1) * sz = j * sz + sz := by rw [Nat.add_mul,Nat.one_mul]
   have m2 : (j + (l.length + 1)) * sz = (j + 1 + l.length) * sz := by congr 1; omega
   have m3 : (j + 1 + l.length) * sz = j * sz + sz + l.length * sz := by rw [Nat.add_mul,m1]
   rw [m2] at hfit ⊢
   have hle : j * sz + v.cells.toList.length <= arr.size := by simp only [Array.length_toList]; omega
   have hput := putIn_toList v.cells.toList arr (j * sz) hle
   obtain ⟨arr',h1,h2⟩ := a2 (arr := putIn arr (j * sz) v.cells.toList) hk (by rw [putIn_size]; exact hfit)
   refine ⟨arr', ?_, ?_⟩
   · unfold Instr.fill
     simp only
     rw [if_neg (by simp; omega), <- Array.foldl_toList,Array.toList_zipIdx,foldl_put _ 0 (j * sz) arr]
     exact h1
   · rw [h2,hput]
     simp only [List.map_cons,List.flatten_cons,Array.length_toList] at *
     have e1 : (arr.toList.take (j * sz) ++ v.cells.toList ++ arr.toList.drop (j * sz + v.cells.size)).take ((j + 1) * sz) = arr.toList.take (j * sz) ++ v.cells.toList := by
      rw [List.take_append_of_le_length (by simp; omega)]
      exact List.take_of_length_le (by simp; omega)
     have e2 : (arr.toList.take (j * sz) ++ v.cells.toList ++ arr.toList.drop (j * sz + v.cells.size)).drop ((j + 1 + l.length) * sz) = arr.toList.drop ((j + 1 + l.length) * sz) := by
      have hl1 : (arr.toList.take (j * sz) ++ v.cells.toList).length = j * sz + sz := by simp; omega
      rw [List.drop_append,List.drop_eq_nil_of_le (by omega),hl1,List.drop_drop,List.nil_append]
      congr 1; omega
     rw [e1,e2]; simp⟩
instance {len : Nat} {r : Rp α} {bb : Nat} {d0 : α} {q : List α} [nn : NotIn d ms] [lx : Lup n c loc env xs ps] [ts : TS P t e] [rt : RT P e α r bb d0] [f : Els r 0 ps q] : St P n c loc env B ms d (.buildSlice t len xs.toArray) (q.length = len /\ Nat.ble (len * r.k) 16777216 = true) (lv r q) := ⟨fun qc sd _ _ ρ _ _ s _ _ _ _ _ k => by
 obtain ⟨e1,e2⟩ := lx.h qc
 obtain ⟨z,i,el,hz⟩ := rt.e
 have hzk : z.cells.size = r.k := el.hc.trans el.hk
 obtain ⟨rr,hf⟩ := f.h (xs := xs.map fun p => (p.1,ev n ρ p.2)) (by rw [List.map_map]; exact e1.symm) (by rw [List.map_map]; exact e2 fun p hp => s.f p.2 (by simp [Op.operands]; exact ⟨_,hp⟩))
 obtain ⟨arr,h1,h2⟩ := hf (sz := z.cells.size) (arr := ((List.replicate len z.cells.toList).flatten).toArray) hzk (by simp [sd.1])
 refine OpW.buildSliceO s.gr.sat ts.h (isZero_of el) (by rw [hzk]; exact rt.k) (by rw [hzk]; exact sd.2) h1 fun b w' gr hn hlo hb => ?_
 obtain ⟨h',g',le,hb',_⟩ := freeze_ex gr hb hn hlo
 refine k _ _ _ g' ?_
 refine LR.own' hb' (css := xs.map fun p => (ev n ρ p.2).cells.toList) ?_ ?_ sd.1 (Nat.le_refl _)
 · apply Array.toList_inj.1
   rw [h2,Nat.zero_mul,Nat.zero_add,sd.1,List.drop_eq_nil_of_le (by simp)]
   simp only [List.take_zero,List.nil_append,List.append_nil,List.map_map]
   rfl
 · have := rr.mono le
   rwa [List.map_map] at this⟩
end
class Ct (P : Program) (f : FuncId) (args : List SV) (side : outParam Prop) (S : outParam SV) : Prop where
 fn : IsFn P f
 h : side -> ∀ {h w vs},Sat h w -> denL h args vs -> Calls P f vs.toArray w (Ret h w fun h' v => den h' S v)
class CtB (P : Program) (f : FuncId) (args : List SV) (B : List Res) (side : outParam Prop) (S : outParam SV) : Prop where
 fn : IsFn P f
 h : side -> ∀ {w0 h w vs},Sat h w -> OwnB w0 B h w -> denL h args vs -> Calls P f vs.toArray w (Ret h w fun h' v => den h' S v)
instance (priority := 200) {P : Program} {f : FuncId} {args : List SV} {B : List Res} {sd : Prop} {S : SV} [c : Ct P f args sd S] : CtB P f args B sd S := ⟨c.fn,fun a _ _ _ _ s _ u => c.h a s u⟩
theorem ctK {P : Program} {f : FuncId} {az : List SV} {sd : Prop} {S : SV} {l : List SV} (c : ∀ v,CtB P f (ov v :: az) [rK v l] sd S) : Ct P f (.pk l 0 :: az) sd S := ⟨(c vnil).fn,fun a h w vs s u => by
 match vs,u with
 | v :: vs,u =>
   have ho : v.oneCell' = true := by obtain ⟨b,off,arr,t,fz,_,e,_⟩ := u.1; rw [e]; rfl
   exact (c v).h (w0 := w) a s ⟨u.1,fun i hi => hi.elim,(fun r' hr' => by cases hr'),trivial⟩ ⟨⟨rfl,ho⟩,u.2⟩⟩
class App3 (a b c : List SV) (l : outParam (List SV)) : Prop where h : a ++ b ++ c = l
instance {c : List SV} : App3 [] [] c c := ⟨rfl⟩
instance {x : SV} {b c l : List SV} [i : App3 [] b c l] : App3 [] (x :: b) c (x :: l) := ⟨by simp [<- i.h]⟩
section
variable {P : Program} {n : Nat} {c : Bool} {loc env : EL} {B : List Res} {ms : List Nat} {d : Nat} {x : Operand} {S : SV} {f : FuncId} {xs : List Operand} {ts : Array TypeId} {az cs as1 l : List SV} {sd : Prop}
instance [lx : Lus n c loc env xs az] [ct : CtB P f az B sd S] : St P n c loc env B ms d (.call ⟨.value (.func f),xs.toArray,ts⟩) sd S := ⟨fun q hs _ _ _ _ _ s _ _ _ _ _ k =>
 OpW.callF ct.fn rfl (ct.h hs s.gr.sat s.ow (lx.h q fun x hx => s.f x (by simp [Op.operands,Call.operands,hx]))) fun v h' w' gr u => k v h' w' gr u⟩
class Fv (P : Program) (F : SV) (az : List SV) (B : List Res) (side : outParam Prop) (S : outParam SV) : Prop where
 h : side -> ∀ {w0 h w x vs},Sat h w -> OwnB w0 B h w -> den h F x -> denL h az vs -> ∃ (f : FuncId) (us cs : List Value),x = .func (.func f) us.toArray cs.toArray /\ IsFn P f /\ Calls P f (us ++ vs ++ cs).toArray w (Ret h w fun h' v => den h' S v)
instance [ap : App3 as1 az cs l] [ct : CtB P f l B sd S] : Fv P (fnv (.func f) as1 cs) az B sd S := ⟨fun hs w0 h w x vs sat ow u a => by
 obtain ⟨us,ws,e,a1,a2⟩ := u
 exact ⟨f,us,ws,e,ct.fn,ct.h hs sat ow (by rw [<- ap.h]; exact (a1.app a).app a2)⟩⟩
instance [ct : CtB P f az B sd S] : Fv P (.cv (.func (.func f) #[] #[])) az B sd S := ⟨fun hs w0 h w x vs sat ow u a => ⟨f,[],[],u,ct.fn,by simpa using ct.h hs sat ow a⟩⟩
instance (priority := 10) {F : SV} {r : Res} [c : Fv P F az B sd S] : Fv P F az (r :: B) sd S := ⟨fun a _ _ _ _ _ s o u v => c.h a s o.2.2.2 u v⟩
instance (priority := 20) {F : SV} [c : Fv P F az B sd S] : Fv P F az (B.map bo) sd S := ⟨fun a _ _ _ _ _ s o u v => c.h a s o.unbo u v⟩
instance {t : Nat} {F : SV} [lf : Lu n c loc env (.tmp t) F] [lx : Lus n c loc env xs az] [fv : Fv P F az B sd S] : St P n c loc env B ms d (.call ⟨.value (.tmp t),xs.toArray,ts⟩) sd S := ⟨fun q hs _ _ _ _ _ s _ _ _ _ _ k => by
 obtain ⟨g,us,cs,e,hf,hc⟩ := fv.h hs s.gr.sat s.ow (lf.h q (s.f (.tmp t))) (lx.h q fun x hx => s.f x (by simp [Op.operands,Call.operands,hx]))
 exact OpW.callV e hf rfl hc fun v h' w' gr u => k v h' w' gr u⟩
end
end Go.E3
