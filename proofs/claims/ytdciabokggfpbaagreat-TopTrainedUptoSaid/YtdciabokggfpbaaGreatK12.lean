/- K12: a part of the proof about training through the decoder: how the program's functions run, and what they compute, for every input. -/
import Derived.Test.YtdciabokggfpbaaGreatK11
import Derived.Test.YtdciabokggfpbaaGreatK3
import Derived.Test.YtdciabokggfpbaaGreatK5
set_option linter.all false
namespace Go.E3
open Go Go.Ear
class FB (l : List Oper) (m : outParam Nat) : Prop where t : True
class MixO (P : Program) : Prop where h : P.follows .mixedOrders = true
def rJ (l : List Res) : Res where
 fp := fun i => ∃ r ∈ l,r.fp i
 pr := fun h w => OwnB (noW w) l h w
 st := fun {h w h' w'} le hw hn o => by
  have key : ∀ {B : List Res} {u : World},OwnB u B h w -> (∀ r ∈ B, ∀ i,r.fp i -> ∃ r ∈ l,r.fp i) -> OwnB (noW w') B h' w' := by
   intro B u o hf
   induction B with
   | nil => trivial
   | cons r B ih =>
     refine ⟨r.st le (fun i hi => hw i (hf r (List.mem_cons_self ..) i hi)) (fun i hi => hn i (hf r (List.mem_cons_self ..) i hi)) o.1,fun i hi => ⟨hn i (hf r (List.mem_cons_self ..) i hi),fun _ => Nat.zero_le _, ?_⟩,o.2.2.1,ih o.2.2.2 fun r hr => hf r (List.mem_cons_of_mem _ hr)⟩
     have e := hw i (hf r (List.mem_cons_self ..) i hi)
     rw [Array.getElem?_eq_getElem (o.2.1 i hi).2.2] at e
     exact (Array.getElem?_eq_some_iff.1 e).1
  exact key o fun r hr i hi => ⟨r,hr,hi⟩
 fz := fun _ => True
 fzm := fun _ _ => trivial
 frz := fun {h0 w0 h w} g _ _ => ⟨h,g,PH.le.refl h,fun _ x _ => x,trivial⟩
theorem Sb.join (l B : List Res) : Sb (rJ l :: B) (l ++ B) := ⟨fun {w0 h w} o => by
 obtain ⟨a,f,d,g⟩ := o
 have key : ∀ {A : List Res} {u : World},OwnB u A h w -> (∀ r ∈ A, ∀ i,r.fp i -> ∃ r ∈ l,r.fp i) -> OwnB w0 (A ++ B) h w := by
  intro A u o hf
  induction A with
  | nil => exact g
  | cons r A ih =>
    refine ⟨o.1,fun i hi => ⟨(o.2.1 i hi).1,fun _ => (f i (hf r (List.mem_cons_self ..) i hi)).2.1 rfl,(o.2.1 i hi).2.2⟩,fun r' hr' i hi => ?_,ih o.2.2.2 fun r hr => hf r (List.mem_cons_of_mem _ hr)⟩
    rcases List.mem_append.1 hr' with m | m
    · exact o.2.2.1 r' m i hi
    · exact d r' m i (hf r (List.mem_cons_self ..) i hi)
 exact key a fun r hr i hi => ⟨r,hr,hi⟩,fun r hr i hi => by
 rcases List.mem_append.1 hr with m | m
 · exact ⟨_,List.mem_cons_self ..,r,m,hi⟩
 · exact ⟨r,List.mem_cons_of_mem _ m,hi⟩⟩
class FlB (B : List Res) (B' : outParam (List Res)) : Prop where h : Sb B B'
instance (priority := low) {B : List Res} : FlB B B := ⟨.refl _⟩
instance {v : Value} {q : List SV} {t : TypeId} {B B' : List Res} [i : FlB B B'] : FlB (rV v q t :: B) (rV v q t :: B') := ⟨i.h.cons _⟩
instance {α : Type} {r : Rp α} {v : Value} {q : List α} {t : TypeId} {B B' : List Res} [i : FlB B B'] : FlB (rA r t v q :: B) (rA r t v q :: B') := ⟨i.h.cons _⟩
instance {l B B' B2 : List Res} [i : FlB B B'] [ap : AppL l B' B2] : FlB (rJ l :: B) B2 := ⟨by rw [<- ap.h]; exact ((i.h.cons _).trans (.join l B'))⟩
class RL (B : List Res) (R : List (Nat × (Gh -> Res))) (ν : Nat -> Gh) (R' : outParam (List Res)) : Prop where h : rv B R ν = R'
instance {B : List Res} {ν : Nat -> Gh} : RL B [] ν B := ⟨rfl⟩
instance {B R' : List Res} {R : List (Nat × (Gh -> Res))} {ν : Nat -> Gh} {d : Nat} {T : Gh -> Res} [i : RL B R ν R'] : RL B ((d,T) :: R) ν (T (ν d) :: R') := ⟨by rw [<- i.h]; rfl⟩
instance {B : List Res} {ν : Nat -> Gh} {a : Nat} {T' : Gh -> Res} : RL B (List.map (eR (.own a T')) []) ν B := ⟨rfl⟩
instance {B R' : List Res} {R : List (Nat × (Gh -> Res))} {ν : Nat -> Gh} {a : Nat} {T T' : Gh -> Res} [i : RL B (R.map (eR (.own a T'))) ν R'] : RL B (((a,T) :: R).map (eR (.own a T'))) ν (T' (ν a) :: R') := ⟨by rw [<- i.h]; simp only [rv,List.map_cons,eR,tt,beq_self,cond_true]; rfl⟩
instance (priority := low) {B R' : List Res} {R : List (Nat × (Gh -> Res))} {ν : Nat -> Gh} {a d : Nat} {T T' : Gh -> Res} [ne : RflE (Nat.beq d a) false] [i : RL B (R.map (eR (.own a T'))) ν R'] : RL B (((d,T) :: R).map (eR (.own a T'))) ν (T (ν d) :: R') := ⟨by rw [<- i.h]; simp only [rv,List.map_cons,eR,tt,ne.h,cond_false]; rfl⟩
class InR (R : List (Nat × (Gh -> Res))) (a : Nat) (T : outParam (Gh -> Res)) : Prop where h : (a,T) ∈ R
instance {R : List (Nat × (Gh -> Res))} {a : Nat} {T : Gh -> Res} : InR ((a,T) :: R) a T := ⟨List.mem_cons_self ..⟩
instance (priority := low) {R : List (Nat × (Gh -> Res))} {a : Nat} {T : Gh -> Res} {p : Nat × (Gh -> Res)} [i : InR R a T] : InR (p :: R) a T := ⟨List.mem_cons_of_mem _ i.h⟩
class VR1 (T : Gh -> Res) (l : outParam (List SV)) (e : outParam TypeId) : Prop where h : T = fun g => rV g.v l e
instance {l : List SV} {e : TypeId} : VR1 (fun g => rV g.v l e) l e := ⟨rfl⟩
section
variable {P : Program} {n : Nat} {X : Fix} {ms : List Nat} {loc env : EL} {B : List Res} {k : Kt} {ol rest l : List Oper} {d m i : Nat} {op : Op} {ty : TypeId} {pos : String} {af : Array Edge} {sd : Prop} {S : SV} {t e : TypeId} {L : (Nat -> Gh) -> EL} {R : List (Nat × (Gh -> Res))}
instance : FB [] 0 := ⟨trivial⟩
instance {g : Option (Nat × Bool)} : FB (⟨none,op,ty,pos,af,g⟩ :: l) 0 := ⟨trivial⟩
instance {g : Option (Nat × Bool)} {x : Operand} : FB (⟨some d,.assign x,ty,pos,af,g⟩ :: l) 0 := ⟨trivial⟩
instance {g : Option (Nat × Bool)} {xs : Array Operand} {ts : Array TypeId} : FB (⟨some d,.call ⟨.builtin .append,xs,ts⟩,ty,pos,af,g⟩ :: l) 0 := ⟨trivial⟩
instance (priority := low) {o : Oper} [f : FB l m] : FB (o :: l) (m + 1) := ⟨trivial⟩
structure GE (P : Program) (n : Nat) (X : Fix) (ms : List Nat) (Ls env : EL) (B : List Res) (ol rest : List Oper) (k : Kt) (lt : Nat -> Bool) (m i : Nat) (L : (Nat -> Gh) -> EL) (R : List (Nat × (Gh -> Res))) : Prop where
 p : (∀ ν e,e ∈ Ls -> e ∈ L ν) -> GD P n X ms env B ol k lt L R i rest m
variable {Ls : EL} {lt : Nat -> Bool}
instance {id : Nat} [f : FB ol m] [mx : MixO P] : Nx (GW P n X ms loc env B (.region id ol.toArray true) k) (Chk (dagC ol m (env.map (·.1)) && ol.all noDefer)) (GE P n X ms [] env B ol ol k (fun _ => false) m 0 (fun _ => []) []) := ⟨fun c g => dag_sound mx.h (Bool.and_eq_true_iff.1 c.h).1 (Bool.and_eq_true_iff.1 c.h).2 (g.p fun _ _ h => h)⟩
instance {R1 R' : (Nat -> Gh) -> List Res} [rl : ∀ ν,RL B R ν (R1 ν)] [fl : ∀ ν,FlB (R1 ν) (R' ν)] : Nx (GE P n X ms Ls env B ol rest k lt 0 i L R) True (∀ ν,GO P n X ms (L ν) env (R' ν) ol rest k) := ⟨fun _ g => ⟨fun _ => .nil fun ν => ⟨fun ok ρ h w s => (g ν).p ok ρ h w (s.sb (by rw [(rl ν).h]; exact (fl ν).h))⟩⟩⟩
theorem Sx.sub {h0 : PH} {w0 : World} {os os' : List Operand} {ρ : Env} {h : PH} {w : World} (s : Sx h0 w0 loc env B os ρ h w) (q : ∀ x ∈ os',x ∈ os) (ql : ∀ e ∈ Ls,e ∈ loc) : Sx h0 w0 Ls env B os' ρ h w := ⟨s.gr,fun x hx t S e m => s.fx x (q x hx) t S e (m.imp (ql _) id),s.ow⟩
theorem lfT {lt : Nat -> Bool} {i : Nat} {Q : Prop} (lf : RflE (lt i) false) : lt i = true -> Q := fun h => by rw [lf.h] at h; cases h
theorem triP [st : St P n true Ls env B ms d op sd S] (hs : sd) (ql : ∀ e ∈ Ls,e ∈ loc) : TriP P n X env B ol loc ⟨some d,op,ty,pos,af,none⟩ d S := fun ρ h w s =>
 OpG.plain (st.h rfl hs (s.sub (fun x hx => List.mem_append_left _ hx) ql) fun v h' w' g u => ⟨v,h',rfl,g,u⟩)
theorem subL {e0 : Nat × SV} (q : ∀ ν e,e ∈ Ls -> e ∈ L ν) : ∀ (ν : Nat -> Gh) e,e ∈ e0 :: Ls -> e ∈ e0 :: L ν := fun ν e h => by
 rcases List.mem_cons.1 h with rfl | h
 · exact List.mem_cons_self ..
 · exact List.mem_cons_of_mem _ (q ν e h)
instance (priority := low) [lf : RflE (lt i) false] [st : St P n true Ls env B ms d op sd S] : Nx (GE P n X ms Ls env B ol (⟨some d,op,ty,pos,af,none⟩ :: rest) k lt (m + 1) i L R) sd (GE P n X ms ((d,S) :: Ls) env B ol rest k lt m (i + 1) (fun ν => (d,S) :: L ν) R) := ⟨fun hs g => ⟨fun q => .st d (fun _ => S) [] rfl (fun _ _ _ => rfl) rfl (fun ν => triP (st := st) hs (q ν)) (lfT lf) (g.p (subL q))⟩⟩
instance {j g : Nat} {b q : Bool} {Sg : SV} {p : Prop} [lf : RflE (lt i) false] [gd : GDst ol j g] [bl : RflE (Nat.ble n g) false] [lg : LkT Ls env g Sg] [gc : Gd Sg b q] [st : St P n q Ls env B ms d op sd S] [tp : TP q p] : Nx (GE P n X ms Ls env B ol (⟨some d,op,ty,pos,af,some (j,b)⟩ :: rest) k lt (m + 1) i L R) (p -> sd) (GE P n X ms ((d,.cn q S) :: Ls) env B ol rest k lt m (i + 1) (fun ν => (d,.cn q S) :: L ν) R) := ⟨fun hs f => ⟨fun ql => .st d (fun _ => .cn q S) [] rfl (fun _ _ _ => rfl) rfl (fun ν ρ h w s => by
 have hg : Operand.tmp g ∈ looks ol ⟨some d,op,ty,pos,af,some (j,b)⟩ := by
  unfold looks; simp only [gd.h]; exact List.mem_append_right _ (List.mem_singleton.2 rfl)
 exact guard_step (gc := gc) (st := st) (s.fx _ hg g Sg rfl (lg.h.imp (ql ν _) id)) (s.sub (fun x hx => List.mem_append_left _ hx) (ql ν)) (fun hq => hs (tp.h.1 hq)) fun v h' w' g u => ⟨v,h',rfl,g,u⟩) (lfT lf) (f.p (subL ql))⟩⟩
instance {l : List SV} [lf : RflE (lt i) false] [zc : ZC P t l] : Nx (GE P n X ms Ls env B ol (⟨some d,.alloc t,ty,pos,af,none⟩ :: rest) k lt (m + 1) i L R) True (GE P n X ms Ls env B ol rest k lt m (i + 1) (fun ν => (d,ov (ν d).v) :: L ν) ((d,fun g => rV g.v l t) :: R)) := ⟨fun _ f => ⟨fun ql => .own d (fun g => rV g.v l t) rfl (fun ν ρ h w s => by
 obtain ⟨z,hz,hu⟩ := zc.h
 exact OpG.plain (OpW.allocO s.gr.sat hz rfl fun b w' g hn hlo hb => ⟨_,[],h,rfl,g,rfl,⟨b,_,rfl,hb,hu⟩,fun i hi => by cases hi; exact ⟨hlo,blk_lt hb,hn⟩⟩)) lf.h (f.p fun ν e h => List.mem_cons_of_mem _ (ql ν e h))⟩⟩
instance {α : Type} {r : Rp α} {bb : Nat} {d0 : α} {kx ky : IntKind} {x y : Int} {a b : Nat} {o1 o2 : Operand} [lf : RflE (lt i) false] [ts : TS P t e] [rt : RT P e α r bb d0] [lx : Lu n true Ls env o1 (.cv (.int kx x))] [ly : Lu n true Ls env o2 (.cv (.int ky y))] [a1 : IN x a] [b1 : IN y b] : Nx (GE P n X ms Ls env B ol (⟨some d,.makeSlice t o1 o2,ty,pos,af,none⟩ :: rest) k lt (m + 1) i L R) (a = b /\ bb * a <= 281474976710656 /\ a <= 9223372036854775807) (GE P n X ms Ls env B ol rest k lt m (i + 1) (fun ν => (d,ov (ν d).v) :: L ν) ((d,fun g => rA r e g.v (List.replicate a d0)) :: R)) := ⟨fun hs f => ⟨fun ql => .own d (fun g => rA r e g.v (List.replicate a d0)) rfl (fun ν ρ h w s => by
 obtain ⟨z,ti,el,hz⟩ := rt.e
 obtain ⟨rfl,s2,s3⟩ := hs
 have s' : Sx X.h0 X.w0 Ls env B [o1,o2] ρ h w := s.sub (fun x hx => by simp [looks,Op.operands] at hx ⊢; exact hx) (ql ν)
 have hx := cvE (lx.h rfl (s'.fx o1 (by simp)))
 have hy := cvE (ly.h rfl (s'.fx o2 (by simp)))
 rw [a1.e] at hx; rw [b1.e] at hy
 exact OpG.plain (OpW.makeO s.gr.sat ts.h el.hi el.hz hx hy (Nat.le_refl _) (by rw [el.hb]; exact s2) s3 rfl fun b w' g hn hlo hb => ⟨_,[],h,rfl,g,rfl,own_made el (hz _) hn hb,fun i hi => by cases hi; exact ⟨hlo,blk_lt hb,hn⟩⟩)) lf.h (f.p fun ν e h => List.mem_cons_of_mem _ (ql ν e h))⟩⟩
instance {x : Operand} [lf : RflE (lt i) false] [lx : Lu n true Ls env x S] : Nx (GE P n X ms Ls env B ol (⟨some d,.assign x,ty,pos,af,none⟩ :: rest) k lt (m + 1) i L R) True (GE P n X ms ((d,.cn true S) :: Ls) env B ol rest k lt m (i + 1) (fun ν => (d,.cn true S) :: L ν) R) := ⟨fun _ g => ⟨fun q => .st d (fun _ => .cn true S) [] rfl (fun _ _ _ => rfl) rfl (fun ν ρ h w s => OpG.plain (OpW.assign rfl ⟨_,h,rfl,Gr.refl s.gr.sat,fun _ => lx.h rfl ((s.sub (fun x hx => List.mem_append_left _ hx) (q ν)).fx x (by simp [Op.operands])),fun e => by cases e⟩)) (lfT lf) (g.p (subL q))⟩⟩
instance (priority := high) {f : FuncId} {xs : List Operand} {ts : Array TypeId} {Ss : List SV} {T : Gh -> List Res} [lf : RflE (lt i) false] [nn : IsIn d ms] [lx : Lus n true Ls env xs Ss] [ct : CtO P f Ss sd T] [nb : ∀ g,NB (T g)] : Nx (GE P n X ms Ls env B ol (⟨some d,.call ⟨.value (.func f),xs.toArray,ts⟩,ty,pos,af,none⟩ :: rest) k lt (m + 1) i L R) sd (GE P n X ms Ls env B ol rest k lt m (i + 1) (fun ν => (d,ov (ν d).v) :: L ν) ((d,fun g => rJ (T g)) :: R)) := ⟨fun hs g => ⟨fun ql => .own d (fun g => rJ (T g)) rfl (fun ν ρ h w s => by
 have s' : Sx X.h0 X.w0 Ls env B xs ρ h w := s.sub (fun x hx => by simp [looks,Op.operands,Call.operands,hx]) (ql ν)
 have hx : denL h Ss (xs.map (ev n ρ)) := lx.h rfl fun x hx => s'.fx x hx
 refine OpG.plain (OpW.enter (f := f) (args := (xs.map (ev n ρ)).toArray) (w' := w) ?_ (ct.h hs s.gr.sat hx) ?_)
 · simp only [execOp,resolve,ev,Deferred.ofValue,Sem.run_bind,Sem.run_pure,Result.andThen,invoke,List.map_toArray]
   have := ct.fn (#[] ++ (xs.map (ev n ρ)).toArray ++ #[]) w
   simpa using this
 · rintro e w'' ⟨q,rfl,h',gr,o1,ow⟩
   refine ⟨q.v,rfl,q.v,q.l,h',rfl,gr,o1,OwnB.any ow,fun i ⟨r,hr,hi⟩ => ?_⟩
   have := ow.foot r hr i hi
   exact ⟨this.2.1 ((nb q).h r hr),this.2.2,this.1⟩) lf.h (g.p fun ν e h => List.mem_cons_of_mem _ (ql ν e h))⟩⟩
instance {a : Nat} {o2 : Operand} {T : Gh -> Res} {cl l' : List SV} {et : TypeId} {R1 R' : (Nat -> Gh) -> List Res} [ir : InR R a T] [vr : VR1 T cl et] [lk : ∀ ν,LkT (L ν) [] a (ov (ν a).v)] [bl : RflE (Nat.ble n a) false] [ly : Lu n true Ls env o2 S] [os : O1 S] [sp : Spl cl 0 [S] l'] [tz : TZ P t 1] [rl : ∀ ν,RL B (R.map (eR (.own a fun g => rV g.v l' et))) ν (R1 ν)] [fl : ∀ ν,FlB (R1 ν) (R' ν)] :
 Nx (GE P n X ms Ls env B ol (⟨none,.store t (.tmp a) o2,ty,pos,af,none⟩ :: rest) k lt 1 i L R) (Chk (depOk ol i a)) (∀ ν,GO P n X ms (L ν) env (R' ν) ol rest k) := ⟨fun hs g => ⟨fun q => .sto a T (fun g => rV g.v l' et) rfl ir.h hs.h (fun γ => by rw [vr.h]; rfl) (fun ν ρ h w s pr => by
 have hlk := (lk ν).h
 have hx : (ρ a) = (ν a).v := (s.fx (.tmp a) (by simp [looks,Op.operands]) a _ rfl (hlk.imp_right fun h => by cases h)).1
 have hy := ly.h rfl ((s.sub (os' := [o2]) (fun x hx => by simp [looks,Op.operands] at hx ⊢; exact .inr hx) (q ν)).fx o2 (by simp))
 rw [vr.h] at pr
 obtain ⟨b,arr,ev_,hb,ud⟩ := pr
 have hsz := ud.length
 simp only [Array.length_toList] at hsz
 have hfit := sp.h.2
 simp only [List.length_cons,List.length_nil] at hfit
 refine OpG.plain (OpW.store1 tz.h (b := b) (off := 0) ?_ rfl (hy.one os.h) hb (by omega) fun w' p => ⟨rfl,b,_,p,by rw [vr.h]; exact ev_,⟨b,_,ev_,p.at_, ?_⟩,fun i hi => by rw [vr.h]; exact hi⟩)
 · show ev n ρ (.tmp a) = _
   rw [<- ev_, <- hx]; show (bif Nat.blt a n then ρ a else undef) = ρ a; rw [blt_of bl.h]; rfl
 · exact splice_den (cs := [S]) (vs := [_]) ud (show den _ _ _ /\ True from ⟨hy,trivial⟩) sp.h.1 sp.h.2) fun ν => ⟨fun ok ρ h w s => (g ν).p ok ρ h w (s.sb (by rw [(rl ν).h]; exact (fl ν).h))⟩⟩⟩
instance {a sz : Nat} {o2 : Operand} {T : Gh -> Res} {cl cs l' : List SV} {et : TypeId} {R1 R' : (Nat -> Gh) -> List Res} [ir : InR R a T] [vr : VR1 T cl et] [lk : ∀ ν,LkT (L ν) [] a (ov (ν a).v)] [bl : RflE (Nat.ble n a) false] [ly : Lu n true Ls env o2 (.ag cs)] [oc : O1L cs] [sp : Spl cl 0 cs l'] [tz : TZ P t sz] [ml : RflE cs.length sz] [rl : ∀ ν,RL B (R.map (eR (.own a fun g => rV g.v l' et))) ν (R1 ν)] [fl : ∀ ν,FlB (R1 ν) (R' ν)] :
 Nx (GE P n X ms Ls env B ol (⟨none,.store t (.tmp a) o2,ty,pos,af,none⟩ :: rest) k lt 1 i L R) (Chk (depOk ol i a)) (∀ ν,GO P n X ms (L ν) env (R' ν) ol rest k) := ⟨fun hs g => ⟨fun q => .sto a T (fun g => rV g.v l' et) rfl ir.h hs.h (fun γ => by rw [vr.h]; rfl) (fun ν ρ h w s pr => by
 have hlk := (lk ν).h
 have hx : (ρ a) = (ν a).v := (s.fx (.tmp a) (by simp [looks,Op.operands]) a _ rfl (hlk.imp_right fun h => by cases h)).1
 obtain ⟨vs,hy,uc⟩ := ly.h rfl ((s.sub (os' := [o2]) (fun x hx => by simp [looks,Op.operands] at hx ⊢; exact .inr hx) (q ν)).fx o2 (by simp))
 rw [vr.h] at pr
 obtain ⟨b,arr,ev_,hb,ud⟩ := pr
 have hsz := ud.length
 simp only [Array.length_toList] at hsz
 have hfit := sp.h.2
 have hc := uc.length
 have hm := ml.h
 refine OpG.plain (OpW.storeA tz.h (b := b) (off := 0) (by omega) ?_ hy (uc.one oc.h) hb (by omega) fun w' p => ⟨rfl,b,_,p,by rw [vr.h]; exact ev_,⟨b,_,ev_,p.at_,splice_den ud uc sp.h.1 sp.h.2⟩,fun i hi => by rw [vr.h]; exact hi⟩)
 show ev n ρ (.tmp a) = _
 rw [<- ev_, <- hx]; show (bif Nat.blt a n then ρ a else undef) = ρ a; rw [blt_of bl.h]; rfl) fun ν => ⟨fun ok ρ h w s => (g ν).p ok ρ h w (s.sb (by rw [(rl ν).h]; exact (fl ν).h))⟩⟩⟩
instance (priority := high) {x : Operand} {j : Nat} [lf : RflE (lt i) true] [st : ∀ B',St P n true Ls env B' ms d (.extract x j) sd S] : Nx (GE P n X ms Ls env B ol (⟨some d,.extract x j,ty,pos,af,none⟩ :: rest) k lt (m + 1) i L R) sd (GE P n X ms ((d,S) :: Ls) env B ol rest k lt m (i + 1) (fun ν => (d,S) :: L ν) R) := ⟨fun hs g => ⟨fun q => .st d (fun _ => S) [] rfl (fun _ _ _ => rfl) rfl (fun ν => triP (st := st B) hs (q ν)) (fun _ B' ν => triP (st := st B') hs (q ν)) (g.p (subL q))⟩⟩
instance (priority := high) {x : Operand} [lf : RflE (lt i) true] [st : ∀ B',St P n true Ls env B' ms d (.move x) sd S] : Nx (GE P n X ms Ls env B ol (⟨some d,.move x,ty,pos,af,none⟩ :: rest) k lt (m + 1) i L R) sd (GE P n X ms ((d,S) :: Ls) env B ol rest k lt m (i + 1) (fun ν => (d,S) :: L ν) R) := ⟨fun hs g => ⟨fun q => .st d (fun _ => S) [] rfl (fun _ _ _ => rfl) rfl (fun ν => triP (st := st B) hs (q ν)) (fun _ B' ν => triP (st := st B') hs (q ν)) (g.p (subL q))⟩⟩
theorem triM_put {B2 : List Res} {os : List Operand} {ρ : Env} {h : PH} {w w' : World} {b : Nat} {ob : Obj} (s : Sx X.h0 X.w0 loc env B os ρ h w) (p : Put w w' b ob) (hn : h b = none) (h0 : X.w0.heap.size <= b) (hb : ∃ r ∈ B,r.fp b) (o : OwnB X.w0 B2 h w') : ∃ h', ρ = ρ /\ Gr X.h0 X.w0 h' w' /\ h.le h' /\ ((none : Option (Nat × SV)) = none -> w.heap.size <= w'.heap.size) /\ ((none : Option (Nat × SV)) = none -> ∀ b,b < w.heap.size -> (∀ r ∈ B, ¬ r.fp b) -> w'.heap[b]? = w.heap[b]? /\ (h b = none -> h' b = none)) /\ OwnB X.w0 B2 h' w' :=
 ⟨h,rfl,s.gr.put p hn h0,PH.le.refl h,fun _ => by rw [p.size]; exact Nat.le_refl _,fun _ b' _ hb' => ⟨p.other b' fun e => by obtain ⟨r,hr,hrb⟩ := hb; exact hb' r hr (e ▸ hrb),fun x => x⟩,o⟩
theorem gDb (SS : (Nat -> Gh) -> SV) (dd : List Nat) (f : GE P n X ms Ls env B ol rest k lt m (i + 1) (fun ν => (d,SS ν) :: L ν) R) (st : ∀ ν,St P n true (L ν) env B ms d op True (SS ν) := by intro ν; infer_instance) (lf : lt i = false := by rfl) (hdd : dd.all (depOk ol i) = true := by kernel_rfl) (hs : ∀ ν ν' : Nat -> Gh,(∀ e ∈ dd, ν e = ν' e) -> SS ν = SS ν' := by intro ν ν' h; simp only [List.mem_cons,List.not_mem_nil,or_false,forall_eq_or_imp,forall_eq] at h; simp only [h]) : GE P n X ms Ls env B ol (⟨some d,op,ty,pos,af,none⟩ :: rest) k lt (m + 1) i L R :=
 ⟨fun ql => .st d SS dd rfl hs hdd (fun ν => triP (st := st ν) trivial fun _ h => h) (lfT ⟨lf⟩) (f.p fun ν e h => List.mem_cons_of_mem _ (ql ν e h))⟩
end
end Go.E3
namespace Go.Ear
def B32 : Nat := 4294967296
theorem B32_eq : B32 = 4294967296 := rfl
def val : List Nat -> Nat
 | [] => 0
 | x :: l => x + B32 * val l
def digs (n : Nat) : List Nat := if _h : n = 0 then [] else (n % B32) :: digs (n / B32)
 termination_by n
 decreasing_by exact Nat.div_lt_self (Nat.pos_of_ne_zero _h) (by decide)
def trim : List Nat -> List Nat
 | [] => []
 | x :: l => if trim l = [] /\ x = 0 then [] else x :: trim l
def Fit (l : List Nat) : Prop := ∀ x ∈ l,x < 4294967296
def cellsU (l : List Nat) : List (List Value) := l.map fun (x : Nat) => [Value.int .u32 (x : Int)]
def U (h : PH) (v : Value) (l : List Nat) : Prop := Fit l /\ Sl h 1 v (cellsU l)
def N (h : PH) (v : Value) (n : Nat) : Prop := U h v (digs n)
theorem Fit.getD {l : List Nat} (f : Fit l) (i : Nat) : l.getD i 0 < 4294967296 := by
 rw [List.getD_eq_getElem?_getD]
 cases h : l[i]? with
 | none => simp
 | some x => simpa using f x (List.mem_of_getElem? h)
theorem trim_snoc_zero (l : List Nat) : trim (l ++ [0]) = trim l := by
 induction l with
 | nil => rfl
 | cons x l ih => simp only [List.cons_append,trim,ih]
theorem trim_take_zero {l : List Nat} {k : Nat} (hk : k < l.length) (h0 : l.getD k 0 = 0) : trim (l.take (k + 1)) = trim (l.take k) := by
 rw [List.take_succ_eq_append_getElem hk]
 have : l[k] = 0 := by simpa [List.getD_eq_getElem?_getD,List.getElem?_eq_getElem hk] using h0
 rw [this,trim_snoc_zero]
theorem trim_of_last {l : List Nat} (h : l = [] \/ l.getD (l.length - 1) 0 ≠ 0) : trim l = l := by
 induction l with
 | nil => rfl
 | cons x l ih =>
   simp only [trim]
   cases l with
   | nil =>
     have : x ≠ 0 := by rcases h with h | h; · cases h
                        · simpa using h
     simp [trim,this]
   | cons y l =>
     have h2 : (y :: l).getD ((y :: l).length - 1) 0 ≠ 0 := by
      rcases h with h | h
      · cases h
      · simpa [List.getD_eq_getElem?_getD] using h
     have := ih (.inr h2)
     rw [this]
     simp
end Go.Ear
namespace Go.Ear
def ua (k : IntKind) (l : List Nat) : Array Value := (l.map fun (x : Nat) => Value.int k (x : Int)).toArray
theorem Fit.set {l : List Nat} (f : Fit l) (i x : Nat) (hx : x < 4294967296) : Fit (l.set i x) := by
 intro y hy
 rcases List.mem_or_eq_of_mem_set hy with h | h
 · exact f y h
 · omega
theorem Fit.replicate (n : Nat) : Fit (List.replicate n 0) := by
 intro y hy; rw [(List.mem_replicate.1 hy).2]; omega
section ops
variable {P : Program} {n : Nat} {ρ : Env} {w : World} {K : Env -> World -> Prop} {d : Tmp} {ty : TypeId} {pos : String} {af : Array Edge} {g : Option (Nat × Bool)}
end ops
end Go.Ear
