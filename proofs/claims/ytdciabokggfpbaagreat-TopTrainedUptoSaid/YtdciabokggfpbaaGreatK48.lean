/- K48: a part of the proof about training through the decoder: how the program's functions run, and what they compute, for every input. -/
import Derived.Test.YtdciabokggfpbaaGreatK47
set_option linter.all false
set_option maxHeartbeats 4000000
namespace Go.E3
open Go Go.Ear
section
variable {P : Program} {n : Nat}
theorem uponIn_mono {F : Fence} {m : Nat} {o : Oper} {a : Act} {N1 N2 : Act -> World -> Prop} {Q : Exit -> Act -> World -> Prop} (hN : ∀ a w,N1 a w -> N2 a w) {r : Result Next} (h : o.uponIn F m P a N1 Q r) : o.uponIn F m P a N2 Q r := by
 cases r with
 | halt hh w' => cases hh <;> exact h
 | ok nx w' =>
   cases nx with
   | value v => exact hN _ _ h
   | skip => exact hN _ _ h
   | defer d => exact hN _ _ h
   | enter f args =>
     refine ⟨h.1,CallsIn.mono h.2 fun e w' he => ?_⟩
     cases e with
     | returned v => exact hN _ _ he
     | _ => exact he
   | row rw args => exact ⟨h.1,Go.RowsIn.mono h.2 fun v w' he => hN _ _ he⟩
   | round l f tmps assign body =>
     refine ⟨h.1,RoundIn.mono h.2 fun e w' he => ?_⟩
     cases e with
     | returned v => exact hN _ _ he
     | _ => exact he
   | _ => exact h
theorem wl_ops {X : Ctx} {ops : Array Oper} {K : Env -> World -> Prop} {Q : Exit -> Act -> World -> Prop} {l2 : List Oper} (hk : ∀ ρ w,K ρ w -> wpListIn (FX X) 0 P ops Q l2 (mkX X n ρ) w) : ∀ (l : List Oper),l.all noDefer = true -> ∀ ρ w,Ops P n ops K l ρ w -> wpListIn (FX X) 0 P ops Q (l ++ l2) (mkX X n ρ) w
 | [],_, ρ,w,h => by unfold Ops at h; exact hk _ _ h
 | o :: rest,hl, ρ,w,h => by
   rw [List.all_cons,Bool.and_eq_true] at hl
   rw [List.cons_append]
   unfold wpListIn
   unfold Ops at h
   rw [mkX_tmps]
   split
   · rename_i hw
     rw [if_pos hw] at h
     have := opX_of (X := X) (Q := Q) hl.1 h
     exact ⟨this.1,uponIn_mono (fun a w' ⟨ρ',e,k⟩ => by rw [e]; exact wl_ops hk rest hl.2 _ _ k) this.2⟩
   · rename_i hw
     rw [if_neg hw] at h
     rw [put_mkX]
     exact ⟨fun _ _ => trivial,wl_ops hk rest hl.2 _ _ h⟩
theorem wl_yieldG {X : Ctx} {ops : Array Oper} {Q : Exit -> Act -> World -> Prop} {rest : List Oper} {ρ : Env} {w : World} {l : Nat} {x : Value} {d3 : Tmp} {f2 a2 : Operand} {ty : TypeId} {pos : String} {af : Array Edge} {ts : Array TypeId} {gd : Option (Nat × Bool)} {R : Ending -> World -> Prop} (hw : Region.wanted ⟨some d3,.call ⟨.value f2, #[a2],ts⟩,ty,pos,af,gd⟩ (yielded ops (mk n ρ).tmps) = true) (hf : ev n ρ f2 = .func (.yield l) #[] #[]) (hx : ev n ρ a2 = x)
 (hy : YieldAt Fence.wide 0 P l #[x] w R) (hk : ∀ e w',R e w' -> ∃ v,e = .returned v /\ wpListIn (FX X) 0 P ops Q rest (mkX X n (upd ρ d3 v)) w') : wpListIn (FX X) 0 P ops Q (⟨some d3,.call ⟨.value f2, #[a2],ts⟩,ty,pos,af,gd⟩ :: rest) (mkX X n ρ) w := by
 unfold wpListIn
 rw [mkX_tmps,if_pos hw]
 refine ⟨fun _ _ => trivial, ?_⟩
 obtain ⟨fn,tmps,assign,body,hyr,hround⟩ := hy
 rw [eval_mkX]
 rw [show (Oper.semAt (FX X).round (ev n ρ) ⟨some d3,.call ⟨.value f2, #[a2],ts⟩,ty,pos,af,gd⟩).run P w = .ok (.round l fn tmps assign body) w from by
  rw [semAt_plain rfl]
  simp [execOp,resolve,hf,hx,invoke,hyr,go_sem]]
 refine ⟨(fun h => by cases h),RoundIn.mono (F := FX X) hround ?_⟩
 intro e w' he
 obtain ⟨v,rfl,hkk⟩ := hk e w' he
 show wpListIn _ _ _ _ _ _ ((mkX X n _).put (some d3) v) w'
 rw [put_mkX]
 exact hkk
end
class SpN {α : Type _} (l : List α) (p : Nat) (l1 l2 : outParam (List α)) : Prop where h : l = l1 ++ l2
instance {α : Type _} {l : List α} : SpN l 0 [] l := ⟨rfl⟩
instance {α : Type _} {x : α} {l l1 l2 : List α} {p : Nat} [i : SpN l p l1 l2] : SpN (x :: l) (p + 1) (x :: l1) l2 := ⟨by rw [i.h]; rfl⟩
class StE (l : EL) (l' : outParam EL) : Prop where h : ∀ {h ρ},EnvOk h ρ l -> EnvOk h ρ l'
instance : StE [] [] := ⟨fun u => u⟩
instance {d : Nat} {S : SV} {l l' : EL} [i : StE l l'] : StE ((d,.cn true S) :: l) ((d,S) :: l') := ⟨fun u => ⟨u.1.1 rfl,i.h u.2⟩⟩
instance (priority := low) {d : Nat} {S : SV} {l l' : EL} [i : StE l l'] : StE ((d,S) :: l) ((d,S) :: l') := ⟨fun u => ⟨u.1,i.h u.2⟩⟩
structure GL (P : Program) (n : Nat) (X : Fix) (ms : List Nat) (env : EL) (B : List Res) (ol rest : List Oper) (k : Kt) : Prop where p : ∀ ρ h w,Sy X.h0 X.w0 [] env B ρ h w -> wpListIn (FX X.c) 0 P ol.toArray (run X.c.round P X.T k) rest (mkX X.c n ρ) w
section
variable {P : Program} {n : Nat} {X : Fix} {ms : List Nat} {loc env E loc' : EL} {B B' : List Res} {k : Kt} {ol l1 l2 rest : List Oper}
theorem gYs (p : Nat) {id : Nat} [sp : SpN ol p l1 l2] (c : (okR l1 [] (env.map (·.1)) && l1.all noDefer) = true) (g1 : GO P n X ms [] env B ol l1 (.cut (Mt X.c n X.h0 X.w0 E B') .fin)) (g2 : GL P n X ms E B' ol l2 k) : GW P n X ms loc env B (.region id ol.toArray false) k := ⟨fun ρ h w s => by
 rw [Bool.and_eq_true] at c
 have h1 := g1.p c.1 ρ h w ⟨s.gr,trivial,s.en,s.ow⟩
 refine wpIn_region_lit ?_
 have e := sp.h
 have h2 := wl_ops (X := X.c) (Q := run X.c.round P X.T k) (l2 := l2) (fun ρ w hm => ?_) l1 c.2 ρ w h1
 · rw [<- e] at h2; exact h2
 · obtain ⟨ρ2,e2,h',s'⟩ := Mt.p hm
   rw [e2]
   exact g2.p ρ2 h' w s'⟩
theorem gYe [st : StE loc loc'] [ap : AppL loc' env E] : GO P n X ms loc env B ol [] (.cut (Mt X.c n X.h0 X.w0 E B) k) := ⟨fun _ ρ h w s => Ops.nil ⟨ρ,rfl,h,s.gr,trivial,by rw [<- ap.h]; exact (st.h s.lo).app s.en,s.ow⟩⟩
theorem gYf (c : (okR rest [] (env.map (·.1)) && rest.all noDefer) = true) (g : GO P n X ms [] env B ol rest k) : GL P n X ms env B ol rest k := ⟨fun ρ h w s => by
 rw [Bool.and_eq_true] at c
 have h1 := g.p c.1 ρ h w s
 have h2 := wl_ops (X := X.c) (Q := run X.c.round P X.T k) (l2 := []) (fun ρ w hm => hm) rest c.2 ρ w h1
 rwa [List.append_nil] at h2⟩
theorem gYl {T : Exit -> Act -> World -> Prop} {hE : PH} {w0 : World} {σ : Type} {bb : σ -> Bool} {B2 : σ -> List Res} {l d t a gi gs : Nat} {ts : Array TypeId} {ty : TypeId} {pos : String} {af : Array Edge} {S : SV} [lt : LkE env t (.cv (.func (.yield l) #[] #[]))] [la : LkE env a S] [gd : GDst ol gi gs] [lg : LkE env gs (.cv (.bool true))]
 (hb : (Nat.blt t n && Nat.blt a n && Nat.blt gs n && nIn d env) = true)
 (hY : ∀ h w v,Gr hE w0 h w -> OwnB w0 B h w -> den h S v -> YieldAt Fence.wide 0 P l #[v] w fun e W' => ∃ (s : σ) (h' : PH),e = .returned (.bool (bb s)) /\ Gr hE w0 h' W' /\ h.le h' /\ OwnB w0 (B2 s) h' W')
 (g : ∀ s,GL P n ⟨T,hE,w0,X0⟩ ms ((d,.cv (.bool (bb s))) :: env) (B2 s) ol rest k) :
 GL P n ⟨T,hE,w0,X0⟩ ms env B ol (⟨some d,.call ⟨.value (.tmp t), #[.tmp a],ts⟩,ty,pos,af,some (gi,true)⟩ :: rest) k := ⟨fun ρ h w s => by
 simp only [Bool.and_eq_true] at hb
 obtain ⟨⟨⟨b1,b2⟩,b3⟩,b4⟩ := hb
 have ht : ρ t = .func (.yield l) #[] #[] := s.en.mem lt.h
 have ha := s.en.mem la.h
 have hg : ρ gs = .bool true := s.en.mem lg.h
 have hd : (ol.toArray[gi]?).bind (·.dst) = some gs := by simpa using gd.h
 refine wl_yieldG (l := l) (x := ρ a) (by simp [Region.wanted,yielded_of hd b3 hg]) (by simp only [ev,b1,cond_true]; exact ht) (by simp only [ev,b2,cond_true]) (hY h w _ s.gr s.ow ha) ?_
 rintro e w' ⟨s2,h',rfl,gr,le,ob⟩
 exact ⟨_,rfl,(g s2).p _ h' _ ⟨gr,trivial,⟨by rw [upd_at]; rfl,(s.en.mono le).upd b4⟩,ob⟩⟩⟩
end
def IterW (P : Program) (gf : Nat) (lb : Array Value) (V : Nat -> PH -> Value -> Prop) (len : Nat) (hi : PH) (M : Res) : Prop :=
 ∀ (l : Nat) (σ : Type) (h0 : PH) (w0 : World) (Z : Nat -> σ -> List Res) (I : Nat -> σ -> Prop),
   (∀ Fr k s h W v,k < len -> I k s -> Gr h0 w0 h W -> OwnB w0 (Fr ++ Z k s) h W -> hi.le h -> V k h v -> YieldAt Fence.wide 0 P l #[v] W fun e W' => e = .returned (.bool true) /\ ∃ h',Gr h0 w0 h' W' /\ h.le h' /\ ∃ s',I (k + 1) s' /\ OwnB w0 (Fr ++ Z (k + 1) s') h' W') ->
   ∀ s h W,I 0 s -> Gr h0 w0 h W -> OwnB w0 (M :: Z 0 s) h W -> hi.le h -> CallsIn Fence.wide 0 P gf (#[.func (.yield l) #[] #[]] ++ lb) W fun e W' => (∃ v,e = .returned v) /\ ∃ h',Gr h0 w0 h' W' /\ h.le h' /\ ∃ s',I len s' /\ OwnB w0 (M :: Z len s') h' W'
class ItW (P : Program) (F : SV) (M : Res) (S : outParam (Nat -> SV)) (len : outParam Nat) (sd : outParam Prop) : Prop where
 h : sd -> ∀ {h x},den h F x -> ∃ (gf : FuncId) (lb : Array Value),x = .func (.func gf) #[] lb /\ IsFn P gf /\ IterW P gf lb (fun k h v => den h (S k) v) len h M
class PrR (B : List Res) (M : Res) (B' : outParam (List Res)) : Prop where h : B.Perm (M :: B')
instance {B : List Res} {M : Res} : PrR (M :: B) M B := ⟨.refl _⟩
instance (priority := 50) {B B' : List Res} {M x : Res} [i : PrR B M B'] : PrR (x :: B) M (x :: B') := ⟨(i.h.cons x).trans (.swap ..)⟩
section
variable {P : Program} {n : Nat} {X : Fix} {ms : List Nat} {loc env kept : EL} {B B1 kb : List Res} {x y : Code} {k : Kt} {σ : Type} {s1 s2 : Prop}
theorem gRgW {g : Operand} {p : Tmp} {assign body : Code} {F : SV} {S : Nat -> SV} {len : Nat} {sdI : Prop} {T : Exit -> Act -> World -> Prop} {h0 : PH} {w0 : World} (M : Res) (I : Nat -> σ -> Prop) (rs : Nat -> σ -> List Res) (s0 : σ) [lg : Lu n true loc env g F] [it : ItW P F M S len sdI] [pm : PrR B M B1]
 [mb : MtB B1 (rs 0 s0) s2 kb] {Bs : List Res -> Nat -> σ -> List Res} [ab : ∀ T k s,AppL (rs k s) T (Bs T k s)] (hI : I 0 s0) (hp : nIn p env = true)
 (round : ∀ T hr k s l o o' D,k < len -> I k s -> GW P n ⟨fun _ _ _ => False,hr,w0,⟨some l,[]⟩⟩ ms [] ((p,S k) :: env) (rO l o :: rO D (.deferred (some [])) :: Bs T k s) assign (.asg l o o' body (.cut (Me ⟨some l,[]⟩ n hr w0 (fun _ => []) (fun s => rO l o' :: rO D (.deferred (some [])) :: Bs T (k + 1) s) (I (k + 1))) .fin)))
 (after : ∀ D s,I len s -> GX P n ⟨T,h0,w0,⟨none,[{ target := .collected D,args := #[] }]⟩⟩ ms [] env (rO D (.deferred (some [])) :: M :: Bs kb len s) .normal k)
 (hs : sdI := by first | trivial | (repeat' (first | refine And.intro ?_ ?_ | rfl | trivial | omega))) (h2 : s2 := by first | trivial | ((try dsimp only); (try simp only [List.length_replicate,List.length_set]); repeat' (first | refine And.intro ?_ ?_ | rfl | trivial | omega))) :
 GW P n ⟨T,h0,w0,X0⟩ ms loc env B (.rangeFunc g #[p] assign body) k := ⟨fun ρ hi w sy => by
 obtain ⟨gf,lb,hg,eg,hit⟩ := it.h hs (lg.h rfl ((sy.x [g]).fx g (by simp)))
 have ow0 : OwnB w0 (M :: Bs kb 0 s0) hi w := by rw [<- (ab kb 0 s0).h]; exact ((mb.h h2).cons M).own (sy.ow.perm pm.h)
 refine wpIn_rangeFunc ?_
 intro fn hfn
 obtain ⟨rec,hrec⟩ : ∃ rec : LoopState -> Option Code -> Loop,rec = fun st pe => { state := st,pending := pe,fn,tmps := (mkX X0 n ρ).tmps,params := #[p],assign,body,defers := w.heap.size } := ⟨_,rfl⟩
 obtain ⟨W1,hW1⟩ : ∃ W1,newW (newW w (.deferred (some []))) (.loop (rec .ready none)) = W1 := ⟨_,rfl⟩
 have s1 := Gr.new sy.gr.sat (.deferred (some []))
 have s2 := Gr.new s1.sat (.loop (rec .ready none))
 have gr1 : Gr hi w hi W1 := by rw [<- hW1]; exact s1.trans s2
 have hsz : (newW w (.deferred (some []))).heap.size = w.heap.size + 1 := by unfold newW; simp
 have hsz2 : W1.heap.size = w.heap.size + 2 := by rw [<- hW1]; unfold newW; simp
 have hK1 : W1.heap[w.heap.size]? = some (.deferred (some [])) := by rw [<- hW1]; exact s2.ext.keep (newW_at w _)
 have hL1 : W1.heap[w.heap.size + 1]? = some (.loop (rec .ready none)) := by
  have := newW_at (newW w (.deferred (some []))) (.loop (rec .ready none))
  rw [hsz] at this
  rw [<- hW1]; exact this
 have hw0 : w0.heap.size <= w.heap.size := sy.gr.ext.size
 have n1 : hi w.heap.size = none := sy.gr.sat.fresh
 have n2 : hi (w.heap.size + 1) = none := by have := s1.sat.fresh; rwa [hsz] at this
 have hJ1 : OwnB w0 (rO (w.heap.size + 1) (.loop (rec .ready none)) :: rO w.heap.size (.deferred (some [])) :: M :: Bs kb 0 s0) hi W1 := by
  refine ⟨hL1,fun i e => by cases e; exact ⟨n2,fun _ => by omega,by omega⟩,fun r hr i e => ?_,hK1,fun i e => by cases e; exact ⟨n1,fun _ => sy.gr.ext.size,by omega⟩,fun r hr i e q => ?_,ow0.grow gr1⟩
  · cases e
    rcases List.mem_cons.1 hr with rfl | hr
    · intro e; have : w.heap.size + 1 = w.heap.size := e; omega
    · intro q; have := (ow0.foot r hr _ q).2.2; omega
  · cases e; have := (ow0.foot r hr _ q).2.2; omega
 have pr3 : ∀ {a b c : Res} {l : List Res},(a :: b :: c :: l).Perm (c :: a :: b :: l) := fun {a b c l} => (List.Perm.cons a (.swap ..)).trans (.swap ..)
 have hJ0 : OwnB w0 (M :: rO (w.heap.size + 1) (.loop (rec .ready none)) :: rO w.heap.size (.deferred (some [])) :: Bs kb 0 s0) hi W1 := hJ1.perm pr3
 refine ⟨w.heap.size + 1,[{ target := .collected w.heap.size,args := #[] }],W1,{ target := .fn (.func gf) lb,args := #[.func (.yield (w.heap.size + 1)) #[] #[]] },W1,gf,
  #[.func (.yield (w.heap.size + 1)) #[] #[]] ++ lb,W1, ?_, ?_,fun _ _ => trivial, ?_,(fun h => by cases h), ?_⟩
 · rw [<- hW1,hrec]; exact run_enterLoop_outer _ _ _ _ _
 · simp only [resolve,eval_mkX,hg]
   simp [go_sem,ev]
 · simp [invoke,go_sem]
   exact eg _ _
 · have hc := hit (w.heap.size + 1) σ h0 w0 (fun k s => rO (w.heap.size + 1) (.loop (rec .ready none)) :: rO w.heap.size (.deferred (some [])) :: Bs kb k s) I ?_ s0 hi W1 hI (sy.gr.trans gr1) hJ0 (PH.le.refl hi)
   · refine CallsIn.mono (F := FX X0) hc ?_
     rintro e W2 ⟨⟨v,rfl⟩,h2,gr,le,s,hi2,ob0⟩
     have ob := ob0.perm pr3.symm
     have hend := run_endLoop (P := P) ob.1 (by rw [hrec]; simp)
     refine ⟨_,_,hend, ?_⟩
     have hlt := (ob.2.1 _ rfl).2.2
     have hpt : Put W2 (W2.putObj (w.heap.size + 1) (.loop { rec .ready none with state := .exhausted })) _ _ := Put.obj hlt
     have ob2 := ob.obj hpt
     have hf := ob.2.1 (w.heap.size + 1) rfl
     subst hrec
     exact (after w.heap.size s hi2).p ρ h2 _ ⟨gr.put hpt hf.1 (hf.2.1 rfl),trivial,sy.en.mono le,ob2.2.2.2⟩
   · rintro Fr k s h W v hk hI gr ob0 le hv
     have pf : ∀ (k : Nat) (s : σ) (o : Obj),(Fr ++ (rO (w.heap.size + 1) o :: rO w.heap.size (.deferred (some [])) :: Bs kb k s)).Perm (rO (w.heap.size + 1) o :: rO w.heap.size (.deferred (some [])) :: Bs (kb ++ Fr) k s) := fun k s o => by
      rw [<- (ab kb k s).h, <- (ab (kb ++ Fr) k s).h, <- List.append_assoc]
      exact List.perm_append_comm
     have ob := ob0.perm (pf k s _)
     have hy := run_yield (P := P) (args := #[v]) ob.1 (by rw [hrec]; rfl)
     refine ⟨_,_,_,_,hy, ?_⟩
     rw [hrec]
     refine roundIn_of_wpIn (F := Fence.wide) trivial ?_
     have hact : ((#[p].zip #[v]).foldl (fun tmps (x : Tmp × Value) => tmps.setIfInBounds x.1 x.2) (mkX X0 n ρ).tmps) = (mkX ⟨some (w.heap.size + 1),[]⟩ n (upd ρ p v)).tmps := by
      have := put_mkX (X := X0) (n := n) (ρ := ρ) (d := some p) (v := v)
      have := congrArg Act.tmps this
      refine Eq.trans ?_ this
      simp [Act.put]
     have hr := (round (kb ++ Fr) h k s (w.heap.size + 1) (.loop (rec .ready none)) (.loop { rec .ready none with state := .busy }) w.heap.size hk hI).p (upd ρ p v) h W ⟨Gr.base gr gr (PH.le.refl h),trivial,⟨by rw [upd_at]; exact hv,(sy.en.mono le).upd hp⟩,ob⟩
     have e : (⟨_,[]⟩ : Act) = mkX ⟨some (w.heap.size + 1),[]⟩ n (upd ρ p v) := congrArg (fun t => (⟨t,[]⟩ : Act)) hact
     refine wpIn_mono (F := FX ⟨some (w.heap.size + 1),[]⟩) (by rw [e]; exact hr) ?_
     rintro e a Wa hq
     cases e with
     | normal =>
       obtain ⟨hla,hq⟩ := hq
       have hlt := blk_lt hla
       refine ⟨_,run_beginRound hla (by rw [hrec]), ?_⟩
       have hp2 := Put.obj (o := .loop { rec .ready none with state := .busy }) hlt
       refine wpIn_mono (hq _ hp2 rfl) ?_
       rintro e a3 W3 hq
       cases e with
       | normal =>
         obtain ⟨ρ3,rfl,s3,hI3,h3,sy3⟩ := Me.p hq
         have ob3 := sy3.ow
         have hlt3 := blk_lt ob3.1
         refine ⟨_,_,run_endRound none ob3.1, ?_⟩
         have hp3 := Put.obj (o := .loop (rec .ready none)) hlt3
         have he2 : ({ { rec .ready none with state := .busy } with state := if (none : Option Code).isNone then .ready else .done,pending := none } : Loop) = rec .ready none := by rw [hrec]; rfl
         rw [he2]
         have hf := ob3.2.1 (w.heap.size + 1) rfl
         subst hrec
         exact ⟨rfl,h3,(Gr.unbase gr sy3.gr).put hp3 hf.1 (hf.2.1 rfl),sy3.gr.le,s3,hI3,(ob3.obj hp3).perm (pf (k + 1) s3 _).symm⟩
       | _ => exact hq.elim
     | _ => exact hq.elim⟩
end
section
variable {P : Program} {n : Nat} {ms : List Nat} {loc env env' : EL} {B B1 : List Res} {k : Kt} {c : Code}
theorem gLpB {X : Fix} {σ : Type} {kept : EL} {s1 : Prop} {x : Code} (es : σ -> EL) (Bs : σ -> List Res) (I : σ -> Prop) (μ : σ -> Nat) (s0 : σ) [kp : KpE (es s0) env kept] [me : MtE env (es s0) s1] {E : σ -> EL} [ae : ∀ s,AppL (es s) kept (E s)] (hB : Sb B (Bs s0))
 (hI : I s0) (round : ∀ s,I s -> GW P n X ms [] (E s) (Bs s) x (.cut (Bk X.c n X.h0 X.w0 E Bs I μ s) k)) (h1 : s1 := by first | trivial | ((try dsimp only); repeat' (first | refine And.intro ?_ ?_ | rfl | trivial | omega))) : GW P n X ms loc env B (.loop x) k := ⟨fun ρ h w s => by
 refine WT.loop (fun s ρ w => I s /\ ∃ h,Sy X.h0 X.w0 [] (E s) (Bs s) ρ h w) μ s0 ⟨hI,h,s.gr,trivial, ?_, ?_⟩ ?_
 · rw [<- (ae s0).h]; exact (me.h h1 s.en).app (kp.h s.en)
 · exact hB.own s.ow
 · rintro s' ρ' w' ⟨hi,h',sy⟩
   refine ((round s' hi).p ρ' h' w' sy).mono fun e a2 w2 hq => ?_
   cases e with
   | normal =>
     obtain ⟨ρ2,rfl,s2,a1,a2,a3⟩ := Bk.p hq
     exact ⟨ρ2,rfl,s2,⟨a1,a3⟩,a2⟩
   | _ => exact hq⟩
theorem gBkB {X : Fix} {σ : Type} {s1 : Prop} {E : σ -> EL} {Bs : σ -> List Res} {I : σ -> Prop} {μ : σ -> Nat} {s : σ} (s' : σ) [me : MtE env (E s') s1] (hB : Sb B (Bs s')) (hI : I s') (hm : μ s' < μ s) (h1 : s1 := by first | trivial | ((try dsimp only); repeat' (first | refine And.intro ?_ ?_ | rfl | trivial | omega))) :
 GX P n X ms loc env B .normal (.cut (Bk X.c n X.h0 X.w0 E Bs I μ s) k) := ⟨fun ρ h w sy => ⟨⟨ρ,rfl,s',hI,hm,h,sy.gr,trivial,me.h h1 sy.en,hB.own sy.ow⟩⟩⟩
end
theorem gAl {P : Program} {n : Nat} {X : Fix} {ms : List Nat} {loc env : EL} {B : List Res} {k : Kt} {ol : List Oper} (sz a m d : Nat) (t : TypeId) {l : List SV} {idn : Nat} [zc : ZC P t l] [mx : MixO P] (hs : Nat.beq ol.length sz = true) (c : (dagC ol m (env.map (·.1)) && ol.all noDefer && Nat.blt a m) = true) (g : GI P n X ms env ol B k (some ⟨d,fun γ => ov γ.v,fun γ => rV γ.v l t :: B⟩) a m (fun _ => []) 0 ol) : GW P n X ms loc env B (.region idn ol.toArray true) k := gIa sz a m _ hs c g
instance (priority := 1) {v : Value} {T : SV} {B : List Res} : SbB v T B B := ⟨fun _ o => ⟨o,fun r h => ⟨r,h,fun _ x => x⟩⟩⟩
section
variable {P : Program} {n : Nat} {X : Fix} {ms : List Nat} {loc env kept : EL} {B B' : List Res} {x y : Code} {k : Kt} {ol rest : List Oper}
theorem gKl (ss : List Nat) {env' : EL} [ke : KE ss env env'] (g : GL P n X ms env' B ol rest k) : GL P n X ms env B ol rest k := ⟨fun ρ h w s => g.p ρ h w ⟨s.gr,trivial,ke.h s.en,s.ow⟩⟩
theorem gJb (es : EL) (B' : List Res) {o : Operand} {b : Bool} {p : Prop} {E : EL} [l : Lu n true loc env o (.cv (.bool b))] [tp : TP b p] [kp : KpE es env kept] [ae : AppL es kept E] (ht : p -> GW P n X ms [] env B x (.cut (Mt X.c n X.h0 X.w0 E B') k)) (hf : ¬ p -> GW P n X ms [] env B y (.cut (Mt X.c n X.h0 X.w0 E B') k)) (g : GX P n X ms [] E B' .normal k) : GW P n X ms loc env B (.cond o x y) k := ⟨fun ρ h w s => by
 have key : ∀ c,GW P n X ms [] env B c (.cut (Mt X.c n X.h0 X.w0 E B') k) -> WT X.c P n c (run X.c.round P X.T k) ρ w := fun c gc => by
  refine (gc.p ρ h w ⟨s.gr,trivial,s.en,s.ow⟩).mono fun e a2 w2 hq => ?_
  cases e with
  | normal => obtain ⟨ρ2,rfl,h2,s2⟩ := Mt.p hq; exact g.p _ _ _ s2
  | _ => exact hq
 exact WT.cond (cvE (l.h rfl ((s.x [o]).fx o (by simp)))) (fun e => key _ (ht (tp.h.1 e))) fun e => key _ (hf (fun q => by rw [tp.h.2 q] at e; cases e))⟩
end
end Go.E3
