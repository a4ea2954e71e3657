/- K8: a part of the proof about training through the decoder: how the program's functions run, and what they compute, for every input. -/
import Derived.Test.YtdciabokggfpbaaGreatK7
set_option linter.all false
namespace Go.E3
open Go Go.Ear
inductive Kt where
 | fin
 | seq (c : Code) (k : Kt)
 | blk (id : Nat) (k : Kt)
 | scp (k : Kt)
 | cut (I : Act -> World -> Prop) (k : Kt)
 | asg (b : Nat) (o o' : Obj) (c : Code) (k : Kt)
def WT (C : Ctx) (P : Program) (n : Nat) (c : Code) (T : Exit -> Act -> World -> Prop) (ρ : Env) (w : World) : Prop := c.wpIn (FX C) 0 P T (mkX C n ρ) w
def thenT (N : Act -> World -> Prop) (T : Exit -> Act -> World -> Prop) : Exit -> Act -> World -> Prop
 | .normal,a,w => N a w
 | e,a,w => T e a w
def scopeT (T : Exit -> Act -> World -> Prop) : Exit -> Act -> World -> Prop
 | .goto _,_,_ => False
 | e,a,w => T e a w
def run (r : Option Nat) (P : Program) (T : Exit -> Act -> World -> Prop) : Kt -> Exit -> Act -> World -> Prop
 | .fin => T
 | .seq c k => thenT (c.wpIn { Fence.wide with round := r } 0 P (run r P T k)) (run r P T k)
 | .blk id k => Exit.inBlock id (run r P T k)
 | .scp k => scopeT (run r P T k)
 | .cut I k => thenT I (run r P T k)
 | .asg b o o' c k => thenT (fun a w => w.heap[b]? = some o /\ ∀ w',Put w w' b o' -> w' = w.putObj b o' -> c.wpIn { Fence.wide with round := r } 0 P (run r P T k) a w') fun _ _ _ => False
section
variable {C : Ctx} {P : Program} {n : Nat} {T : Exit -> Act -> World -> Prop} {ρ : Env} {w : World}
theorem WT.mono {c : Code} {T' : Exit -> Act -> World -> Prop} (h : WT C P n c T ρ w) (hq : ∀ e a w,T e a w -> T' e a w) : WT C P n c T' ρ w := wpIn_mono h hq
theorem WT.cond {c : Operand} {x y : Code} {t : Bool} (hc : ev n ρ c = .bool t) (ht : t = true -> WT C P n x T ρ w) (hf : t = false -> WT C P n y T ρ w) : WT C P n (.cond c x y) T ρ w := wpIn_cond_split (by rw [eval_mkX,hc]) ht hf
theorem WT.region {id : Nat} {l : List Oper} (hd : l.all noDefer = true) (h : Ops P n l.toArray (fun ρ w => T .normal (mkX C n ρ) w) l ρ w) : WT C P n (.region id l.toArray false) T ρ w := by
 refine wpIn_mono (WpX.region (X := C) (Q := onlyN fun ρ w => T .normal (mkX C n ρ) w) hd h) ?_
 rintro e a w ⟨ρ',rfl,q⟩
 cases e <;> first | exact q | exact q.elim
theorem WT.draw {id : Nat} {l : List Oper} {K : Env -> World -> Prop} (hd : l.all noDefer = true)
 (h : ∀ t,wpOps P l.toArray (toQ n (onlyN K)) (Region.schedule (P.follows .mixedOrders) l.toArray t) (mk n ρ) { w with drawn := w.drawn + 1 }) (hk : ∀ ρ w,K ρ w -> T .normal (mkX C n ρ) w) : WT C P n (.region id l.toArray true) T ρ w := by
 refine wpIn_mono (WpX.draw (X := C) (K := K) (Q := onlyN K) hd h fun _ _ x => x) ?_
 rintro e a w ⟨ρ',rfl,q⟩
 cases e <;> first | exact hk _ _ q | exact q.elim
theorem WT.scope0 {c : Code} (h : WT X0 P n c (scopeT T) ρ w) : WT X0 P n (.scope c) T ρ w := wpIn_wide.2 (wp_scope_straight (wp_mono (wpIn_wide.1 h) fun e a w q => by cases e <;> first | exact q | exact q.elim))
theorem WT.loop {σ : Type} {c : Code} (I : σ -> Env -> World -> Prop) (μ : σ -> Nat) (s₀ : σ) (h₀ : I s₀ ρ w)
 (round : ∀ s ρ w,I s ρ w -> WT C P n c (thenT (fun a w' => ∃ ρ',a = mkX C n ρ' /\ ∃ s',I s' ρ' w' /\ μ s' < μ s) T) ρ w) : WT C P n (.loop c) T ρ w := by
 refine wpIn_loop_ghost (fun k a w => ∃ s ρ,a = mkX C n ρ /\ I s ρ w /\ μ s = k) (μ s₀) ⟨s₀, ρ,rfl,h₀,rfl⟩ ?_
 rintro k a w ⟨s, ρ,rfl,hI,rfl⟩
 refine wpIn_mono (round s ρ w hI) ?_
 rintro e a w hq
 cases e with
 | normal => obtain ⟨ρ',rfl,s',hI',hlt⟩ := hq; exact ⟨μ s',hlt,s', ρ',rfl,hI',rfl⟩
 | _ => exact hq
end
structure Fix where
 T : Exit -> Act -> World -> Prop
 h0 : PH
 w0 : World
 c : Ctx
class C0 (X : Fix) : Prop where h : X.c = X0
instance {T : Exit -> Act -> World -> Prop} {h0 : PH} {w0 : World} : C0 ⟨T,h0,w0,X0⟩ := ⟨rfl⟩
structure GW (P : Program) (n : Nat) (X : Fix) (ms : List Nat) (loc env : EL) (B : List Res) (c : Code) (k : Kt) : Prop where p : ∀ ρ h w,Sy X.h0 X.w0 loc env B ρ h w -> WT X.c P n c (run X.c.round P X.T k) ρ w
structure GX (P : Program) (n : Nat) (X : Fix) (ms : List Nat) (loc env : EL) (B : List Res) (e : Exit) (k : Kt) : Prop where p : ∀ ρ h w,Sy X.h0 X.w0 loc env B ρ h w -> run X.c.round P X.T k e (mkX X.c n ρ) w
def isAsg : Op -> Bool
 | .assign _ => true
 | .move _ => true
 | _ => false
def memN (d : Nat) : List Nat -> Bool
 | [] => false
 | x :: l => Nat.beq x d || memN d l
def okR : List Oper -> List Nat -> List Nat -> Bool
 | [],_,_ => true
 | o :: rest,L,E => (match o.dst with | none => okR rest L E | some d => !memN d L && (isAsg o.op || !memN d E) && okR rest (d :: L) E)
structure GO (P : Program) (n : Nat) (X : Fix) (ms : List Nat) (loc env : EL) (B : List Res) (ol rest : List Oper) (k : Kt) : Prop where
 p : okR rest (loc.map (·.1)) (env.map (·.1)) = true -> ∀ ρ h w,Sy X.h0 X.w0 loc env B ρ h w -> Ops P n ol.toArray (fun ρ w => run X.c.round P X.T k .normal (mkX X.c n ρ) w) rest ρ w
class Nx (g : Prop) (side g' : outParam Prop) : Prop where h : side -> g' -> g
structure Chk (b : Bool) : Prop where h : b = true
theorem nx {g side g' : Prop} [i : Nx g side g'] (k : g') (hs : side := by
 first
 | trivial
 | exact ⟨by kernel_rfl⟩
 | ((repeat' first | trivial | refine And.intro ?_ ?_ | intro _) <;> first | omega | rfl | (simp only [List.length_take,List.length_drop,List.length_append,List.length_cons,List.length_nil,List.length_set,List.length_replicate] at *; omega))) : g := i.h hs k
theorem nIn_of {d : Nat} : ∀ {l : EL},memN d (l.map (·.1)) = false -> nIn d l = true
 | [],_ => rfl
 | (s,S) :: l,h => by
   simp only [List.map_cons,memN,Bool.or_eq_false_iff] at h
   simp only [nIn,h.1,Bool.not_false,Bool.true_and]
   exact nIn_of h.2
class AppL {α : Type _} (a b : List α) (c : outParam (List α)) : Prop where h : a ++ b = c
instance {α : Type _} {b : List α} : AppL [] b b := ⟨rfl⟩
instance {α : Type _} {x : α} {a b c : List α} [i : AppL a b c] : AppL (x :: a) b (x :: c) := ⟨by rw [<- i.h]; rfl⟩
theorem EnvOk.app {h : PH} {ρ : Env} : ∀ {a b : EL},EnvOk h ρ a -> EnvOk h ρ b -> EnvOk h ρ (a ++ b)
 | [],_,_,v => v
 | _ :: _,_,u,v => ⟨u.1,EnvOk.app u.2 v⟩
class InE (env : EL) (d : Nat) : Prop where t : True
instance {env : EL} {d : Nat} {S : SV} : InE ((d,S) :: env) d := ⟨trivial⟩
instance (priority := low) {env : EL} {d s : Nat} {S : SV} [InE env d] : InE ((s,S) :: env) d := ⟨trivial⟩
class Dl (env : EL) (d : Nat) (env' : outParam EL) : Prop where h : nIn d env' = true /\ (∀ {h ρ},EnvOk h ρ env -> EnvOk h ρ env') /\ ∀ e,memN e (env.map (·.1)) = false -> memN e (env'.map (·.1)) = false
instance {d : Nat} : Dl [] d [] := ⟨rfl,fun u => u,fun _ h => h⟩
instance {d : Nat} {S : SV} {env env' : EL} [i : Dl env d env'] : Dl ((d,S) :: env) d env' := ⟨i.h.1,fun u => i.h.2.1 u.2,fun e h => i.h.2.2 e (by simp only [List.map_cons,memN,Bool.or_eq_false_iff] at h; exact h.2)⟩
instance (priority := low) {d s : Nat} {S : SV} {env env' : EL} [b : RflE (Nat.beq s d) false] [i : Dl env d env'] : Dl ((s,S) :: env) d ((s,S) :: env') := ⟨by simp [nIn,b.h,i.h.1],fun u => ⟨u.1,i.h.2.1 u.2⟩,fun e h => by
 simp only [List.map_cons,memN,Bool.or_eq_false_iff] at h ⊢; exact ⟨h.1,i.h.2.2 e h.2⟩⟩
structure Gh where
 v : Value
 l : List Value
class OwL (l env : EL) (env' : outParam EL) : Prop where h : ∀ {h ρ},EnvOk h ρ l -> EnvOk h ρ env -> EnvOk h ρ env'
instance {env : EL} : OwL [] env env := ⟨fun _ u => u⟩
instance (priority := low) {l env env' : EL} {p : Nat × SV} [i : OwL l env env'] : OwL (p :: l) env env' := ⟨fun a u => i.h a.2 u⟩
instance {l env env' : EL} {ν : Nat -> Gh} {d : Nat} [i : OwL l env env'] : OwL ((d,ov (ν d).v) :: l) env ((d,ov (ν d).v) :: env') := ⟨fun a u => ⟨a.1,i.h a.2 u⟩⟩
instance {l env env' : EL} {S : SV} {d : Nat} [i : OwL l env env'] : OwL ((d,.cn true S) :: l) env ((d,S) :: env') := ⟨fun a u => ⟨a.1.1 rfl,i.h a.2 u⟩⟩
section
variable {P : Program} {n : Nat} {X : Fix} {ms : List Nat} {loc env env' : EL} {B B' : List Res} {c x y : Code} {I : Act -> World -> Prop} {k : Kt} {ol rest : List Oper} {d : Nat} {op : Op} {ty : TypeId} {pos : String} {af : Array Edge} {sd : Prop} {S : SV}
instance : Nx (GW P n X ms loc env B (.seq x y) k) True (GW P n X ms loc env B x (.seq y k)) := ⟨fun _ a => ⟨fun ρ h w s => wpIn_seq (a.p ρ h w s)⟩⟩
instance : Nx (GW P n X ms loc env B .skip k) True (GX P n X ms loc env B .normal k) := ⟨fun _ a => ⟨fun ρ h w s => wpIn_skip (a.p ρ h w s)⟩⟩
instance {l : Nat} : Nx (GW P n X ms loc env B (.label l) k) True (GX P n X ms loc env B .normal k) := ⟨fun _ a => ⟨fun ρ h w s => wpIn_label (a.p ρ h w s)⟩⟩
instance {id : Nat} : Nx (GW P n X ms loc env B (.exit id) k) True (GX P n X ms loc env B (.exit id) k) := ⟨fun _ a => ⟨fun ρ h w s => wpIn_exit (a.p ρ h w s)⟩⟩
instance : Nx (GW P n X ms loc env B .ret k) True (GX P n X ms loc env B .ret k) := ⟨fun _ a => ⟨fun ρ h w s => wpIn_ret (a.p ρ h w s)⟩⟩
instance {id : Nat} : Nx (GW P n X ms loc env B (.block id x) k) True (GW P n X ms loc env B x (.blk id k)) := ⟨fun _ a => ⟨fun ρ h w s => wpIn_block (a.p ρ h w s)⟩⟩
instance [hx : C0 X] : Nx (GW P n X ms loc env B (.scope x) k) True (GW P n X ms loc env B x (.scp k)) := ⟨fun _ a => ⟨fun ρ h w s => by
 have h1 := a.p ρ h w s
 rw [hx.h] at h1 ⊢
 exact WT.scope0 h1⟩⟩
instance : Nx (GX P n X ms loc env B .normal (.seq c k)) True (GW P n X ms loc env B c k) := ⟨fun _ a => ⟨fun ρ h w s => a.p ρ h w s⟩⟩
instance {id : Nat} : Nx (GX P n X ms loc env B .normal (.blk id k)) True (GX P n X ms loc env B .normal k) := ⟨fun _ a => ⟨fun ρ h w s => a.p ρ h w s⟩⟩
instance {id : Nat} : Nx (GX P n X ms loc env B (.exit id) (.seq c k)) True (GX P n X ms loc env B (.exit id) k) := ⟨fun _ a => ⟨fun ρ h w s => a.p ρ h w s⟩⟩
instance {id : Nat} : Nx (GX P n X ms loc env B (.exit id) (.cut I k)) True (GX P n X ms loc env B (.exit id) k) := ⟨fun _ a => ⟨fun ρ h w s => a.p ρ h w s⟩⟩
instance {id : Nat} : Nx (GX P n X ms loc env B (.exit id) (.blk id k)) True (GX P n X ms loc env B .normal k) := ⟨fun _ a => ⟨fun ρ h w s => by
 show Exit.inBlock id (run X.c.round P X.T k) (.exit id) _ w
 simp only [Exit.inBlock,if_true]; exact a.p ρ h w s⟩⟩
instance (priority := low) {id id' : Nat} [b : RflE (Nat.beq id' id) false] : Nx (GX P n X ms loc env B (.exit id') (.blk id k)) True (GX P n X ms loc env B (.exit id') k) := ⟨fun _ a => ⟨fun ρ h w s => by
 show Exit.inBlock id (run X.c.round P X.T k) (.exit id') _ w
 have hn : ¬ id' = id := fun e => by have := b.h; rw [e,beq_self] at this; cases this
 simp only [Exit.inBlock,if_neg hn]; exact a.p ρ h w s⟩⟩
instance : Nx (GX P n X ms loc env B .ret (.seq c k)) True (GX P n X ms loc env B .ret k) := ⟨fun _ a => ⟨fun ρ h w s => a.p ρ h w s⟩⟩
instance {id : Nat} : Nx (GX P n X ms loc env B .ret (.blk id k)) True (GX P n X ms loc env B .ret k) := ⟨fun _ a => ⟨fun ρ h w s => a.p ρ h w s⟩⟩
instance : Nx (GX P n X ms loc env B .ret (.scp k)) True (GX P n X ms loc env B .ret k) := ⟨fun _ a => ⟨fun ρ h w s => a.p ρ h w s⟩⟩
instance : Nx (GX P n X ms loc env B .ret (.cut I k)) True (GX P n X ms loc env B .ret k) := ⟨fun _ a => ⟨fun ρ h w s => a.p ρ h w s⟩⟩
theorem Sy.sb {h0 : PH} {w0 : World} {ρ : Env} {h : PH} {w : World} (s : Sy h0 w0 loc env B ρ h w) (p : Sb B B') : Sy h0 w0 loc env B' ρ h w := ⟨s.gr,s.lo,s.en,p.own s.ow⟩
instance {b : Nat} {o o' : Obj} [po : PO B b o B'] : Nx (GX P n X ms loc env B .normal (.asg b o o' c k)) True (GW P n X ms loc env (rO b o' :: B') c k) := ⟨fun _ a => ⟨fun ρ h w s => by
 have s' := s.sb po.h
 obtain ⟨e,f,d,g⟩ := s'.ow
 refine ⟨e,fun w' p _ => a.p ρ h w' ⟨s'.gr.put p (f b rfl).1 ((f b rfl).2.1 rfl),s'.lo,s'.en,p.at_,fun i hi => ⟨(f i hi).1,(f i hi).2.1,by rw [p.size]; exact (f i hi).2.2⟩,d,OwnB.after p g fun r hr q => d r hr b rfl q⟩⟩⟩⟩
instance {id : Nat} : Nx (GW P n X ms loc env B (.region id ol.toArray false) k) (Chk (okR ol [] (env.map (·.1)) && ol.all noDefer)) (GO P n X ms [] env B ol ol k) := ⟨fun ok a => ⟨fun ρ h w s => WT.region (Bool.and_eq_true_iff.1 ok.h).2 (a.p (Bool.and_eq_true_iff.1 ok.h).1 ρ h w ⟨s.gr,trivial,s.en,s.ow⟩)⟩⟩
instance {p : Nat × SV} [ow : OwL (p :: loc) env env'] : Nx (GO P n X ms (p :: loc) env B ol [] k) True (GX P n X ms [p] env' B .normal k) := ⟨fun _ a => ⟨fun _ ρ h w s => Ops.nil (a.p ρ h w ⟨s.gr,⟨s.lo.1,trivial⟩,ow.h s.lo s.en,s.ow⟩)⟩⟩
instance (priority := high) {id : Nat} {y : Code} [ap : AppL loc env env'] : Nx (GO P n X ms loc env B ol [] (.seq (.seq (.block id (.loop c)) y) k)) True (GX P n X ms [] env' B .normal (.seq (.seq (.block id (.loop c)) y) k)) := ⟨fun _ a => ⟨fun _ ρ h w s => Ops.nil (a.p ρ h w ⟨s.gr,trivial,by rw [<- ap.h]; exact s.lo.app s.en,s.ow⟩)⟩⟩
instance (priority := high) {id : Nat} [ap : AppL loc env env'] : Nx (GO P n X ms loc env B ol [] (.seq (.block id (.loop c)) k)) True (GX P n X ms [] env' B .normal (.seq (.block id (.loop c)) k)) := ⟨fun _ a => ⟨fun _ ρ h w s => Ops.nil (a.p ρ h w ⟨s.gr,trivial,by rw [<- ap.h]; exact s.lo.app s.en,s.ow⟩)⟩⟩
instance : Nx (GO P n X ms [] env B ol [] k) True (GX P n X ms [] env B .normal k) := ⟨fun _ a => ⟨fun _ ρ h w s => Ops.nil (a.p ρ h w s)⟩⟩
theorem okR_some {o : Oper} {d : Nat} (hd : o.dst = some d) {L E : List Nat} (h : okR (o :: rest) L E = true) : memN d L = false /\ (isAsg o.op = false -> memN d E = false) /\ okR rest (d :: L) E = true := by
 unfold okR at h
 rw [hd] at h
 simp only [Bool.and_eq_true,Bool.not_eq_true',Bool.or_eq_true] at h
 exact ⟨h.1.1,fun e => h.1.2.resolve_left (by rw [e]; exact Bool.noConfusion),h.2⟩
theorem okR_none {o : Oper} (hd : o.dst = none) {L E : List Nat} (h : okR (o :: rest) L E = true) : okR rest L E = true := by
 unfold okR at h
 rw [hd] at h; exact h
theorem okR_swap : ∀ {rest : List Oper} {L E L' E' : List Nat},(∀ e,memN e L = false -> memN e L' = false) -> (∀ e,memN e L = false -> memN e E = false -> memN e E' = false) -> okR rest L E = true -> okR rest L' E' = true
 | [],_,_,_,_,_,_,_ => rfl
 | o :: rest,L,E,L',E',hL,hE,h => by
   unfold okR at h ⊢
   cases hd : o.dst with
   | none => simp only [hd] at h ⊢; exact okR_swap hL hE h
   | some d =>
     simp only [hd,Bool.and_eq_true,Bool.not_eq_true',Bool.or_eq_true] at h ⊢
     refine ⟨⟨hL d h.1.1,h.1.2.imp (fun x => x) (hE d h.1.1)⟩,okR_swap (fun e he => ?_) (fun e he => ?_) h.2⟩
     · simp only [memN,Bool.or_eq_false_iff] at he ⊢
       exact ⟨he.1,hL e he.2⟩
     · simp only [memN,Bool.or_eq_false_iff] at he
       exact hE e he.2
theorem Sy.put {h0 : PH} {w0 : World} {ρ : Env} {h h' : PH} {w w' : World} {v : Value} (s : Sy h0 w0 loc env B ρ h w) (g : Gr h w h' w') (u : den h' S v) (hl : memN d (loc.map (·.1)) = false) (he : memN d (env.map (·.1)) = false) : Sy h0 w0 ((d,S) :: loc) env B (upd ρ d v) h' w' :=
 ⟨s.gr.trans g,⟨by rw [upd_at]; exact u,(s.lo.upd (nIn_of hl)).mono g.le⟩,(s.en.upd (nIn_of he)).mono g.le,s.ow.grow g⟩
instance (priority := low) {x : Operand} [st : St P n true loc env B ms d (.move x) sd S] : Nx (GO P n X ms loc env B ol (⟨some d,.move x,ty,pos,af,none⟩ :: rest) k) (memN d (env.map (·.1)) = false /\ sd) (GO P n X ms ((d,S) :: loc) env B ol rest k) := ⟨fun hs a => ⟨fun ok ρ h w s => by
 obtain ⟨h1,h2,h3⟩ := okR_some rfl ok
 exact Ops.cons (st.h rfl hs.2 (s.x _) fun v h' w' g u => a.p h3 _ _ _ (s.put g u h1 hs.1))⟩⟩
instance (priority := low) [st : St P n true loc env B ms d op sd S] : Nx (GO P n X ms loc env B ol (⟨some d,op,ty,pos,af,none⟩ :: rest) k) ((isAsg op = false) /\ sd) (GO P n X ms ((d,S) :: loc) env B ol rest k) := ⟨fun hs a => ⟨fun ok ρ h w s => by
 obtain ⟨h1,h2,h3⟩ := okR_some rfl ok
 exact Ops.cons (st.h rfl hs.2 (s.x _) fun v h' w' g u => a.p h3 _ _ _ (s.put g u h1 (h2 hs.1)))⟩⟩
end
end Go.E3
