/- K23: a part of the proof about training through the decoder: how the program's functions run, and what they compute, for every input. -/
import Derived.Test.YtdciabokggfpbaaGreatK17
set_option linter.all false
namespace Go.E3
open Go Go.Ear
class It (P : Program) (F : SV) (idx : outParam (Nat -> Int)) (len : outParam Nat) (sd : outParam Prop) : Prop where
 h : sd -> ∀ {h x},den h F x -> ∃ (gf : FuncId) (lb : Array Value),x = .func (.func gf) #[] lb /\ IsFn P gf /\ IterK P gf lb (fun k => .int .i64 (idx k)) len (Sat h)
section
variable {P : Program} {n : Nat} {X : Fix} {ms : List Nat} {loc env kept : EL} {B kb : List Res} {x y : Code} {k : Kt} {σ : Type} {s1 s2 : Prop}
theorem gMe {E : σ -> EL} {Bs : σ -> List Res} {I : σ -> Prop} (s' : σ) [me : MtE env (E s') s1] [mb : MtB B (Bs s') s2 kb] (hI : I s') (h1 : s1 := by first | trivial | ((try dsimp only); (try simp only [List.length_replicate,List.length_set]); repeat' (first | refine And.intro ?_ ?_ | rfl | trivial | omega))) (h2 : s2 := by first | trivial | ((try dsimp only); (try simp only [List.length_replicate,List.length_set]); repeat' (first | refine And.intro ?_ ?_ | rfl | trivial | omega))) :
 GX P n X ms loc env B .normal (.cut (Me X.c n X.h0 X.w0 E Bs I) k) := ⟨fun ρ h w sy => ⟨⟨ρ,rfl,s',hI,h,sy.gr,trivial,me.h h1 sy.en,((mb.h h2).own sy.ow).left⟩⟩⟩
theorem OwnB.obj {w0 : World} {h : PH} {w w' : World} {b : Nat} {o o' : Obj} {B : List Res} (ob : OwnB w0 (rO b o :: B) h w) (p : Put w w' b o') : OwnB w0 (rO b o' :: B) h w' :=
 ⟨p.at_,fun i hi => ⟨(ob.2.1 i hi).1,(ob.2.1 i hi).2.1,by rw [p.size]; exact (ob.2.1 i hi).2.2⟩,ob.2.2.1,OwnB.after p ob.2.2.2 fun r hr q => ob.2.2.1 r hr b rfl q⟩
theorem Gr.base {h0 hi h : PH} {w0 w w' : World} (a : Gr h0 w0 hi w) (b : Gr h0 w0 h w') (l : hi.le h) : Gr hi w0 h w' := ⟨b.sat,b.ext,l,fun i e => (b.fresh i e).imp (fun q e2 => q (by
 cases x : h0 i with
 | none => rfl
 | some o => rw [a.le i o x] at e2; cases e2)) id,fun e1 e2 => b.drawn (by
 cases x : h0 1 with
 | none => rfl
 | some o => rw [a.le 1 o x] at e1; cases e1) e2⟩
theorem Gr.unbase {h0 hi h : PH} {w0 w w' : World} (a : Gr h0 w0 hi w) (b : Gr hi w0 h w') : Gr h0 w0 h w' := ⟨b.sat,b.ext,a.le.trans b.le,fun i e => (b.fresh i e).elim (a.fresh i) .inr,fun e1 e2 => b.drawn (by
 cases x : hi 1 with
 | none => rfl
 | some o =>
   rcases a.fresh 1 (by rw [x]; exact fun h => nomatch h) with h1 | h1
   · exact absurd e1 h1
   · omega) e2⟩
theorem gRg {g : Operand} {p : Tmp} {assign body : Code} {F : SV} {idx : Nat -> Int} {len : Nat} {sdI : Prop} {T : Exit -> Act -> World -> Prop} {h0 : PH} {w0 : World} (I : Nat -> σ -> Prop) (rs : Nat -> σ -> List Res) (s0 : σ) [lg : Lu n true loc env g F] [it : It P F idx len sdI]
 [mb : MtB B (rs 0 s0) s2 kb] {Bs : Nat -> σ -> List Res} [ab : ∀ k s,AppL (rs k s) kb (Bs k s)] (hI : I 0 s0) (hp : nIn p env = true)
 (round : ∀ hr k s l o o' D,k < len -> I k s -> GW P n ⟨fun _ _ _ => False,hr,w0,⟨some l,[]⟩⟩ ms [] ((p,.cv (.int .i64 (idx k))) :: env) (rO l o :: rO D (.deferred (some [])) :: Bs k s) assign (.asg l o o' body (.cut (Me ⟨some l,[]⟩ n hr w0 (fun _ => []) (fun s => rO l o' :: rO D (.deferred (some [])) :: Bs (k + 1) s) (I (k + 1))) .fin)))
 (after : ∀ D s,I len s -> GX P n ⟨T,h0,w0,⟨none,[{ target := .collected D,args := #[] }]⟩⟩ ms [] env (rO D (.deferred (some [])) :: Bs len s) .normal k)
 (hs : sdI := by first | trivial | (repeat' (first | refine And.intro ?_ ?_ | rfl | trivial | omega))) (h2 : s2 := by first | trivial | ((try dsimp only); (try simp only [List.length_replicate,List.length_set]); repeat' (first | refine And.intro ?_ ?_ | rfl | trivial | omega))) :
 GW P n ⟨T,h0,w0,X0⟩ ms loc env B (.rangeFunc g #[p] assign body) k := ⟨fun ρ hi w sy => by
 obtain ⟨gf,lb,hg,eg,hit⟩ := it.h hs (lg.h rfl ((sy.x [g]).fx g (by simp)))
 have ow0 : OwnB w0 (Bs 0 s0) hi w := by rw [<- (ab 0 s0).h]; exact (mb.h h2).own sy.ow
 refine wpIn_rangeFunc ?_
 intro fn hfn
 obtain ⟨rec,hrec⟩ : ∃ rec : LoopState -> Option Code -> Loop,rec = fun st pe => { state := st,pending := pe,fn,tmps := (mkX X0 n ρ).tmps,params := #[p],assign,body,defers := w.heap.size } := ⟨_,rfl⟩
 obtain ⟨W1,hW1⟩ : ∃ W1,newW (newW w (.deferred (some []))) (.loop (rec .ready none)) = W1 := ⟨_,rfl⟩
 have s1 := Gr.new sy.gr.sat (.deferred (some []))
 have s2 := Gr.new s1.sat (.loop (rec .ready none))
 have gr1 : Gr hi w hi W1 := by rw [<- hW1]; exact s1.trans s2
 have hsz : (newW w (.deferred (some []))).heap.size = w.heap.size + 1 := by unfold newW; simp
 have hsz2 : W1.heap.size = w.heap.size + 2 := by rw [<- hW1]; unfold newW; simp
 have hK1 : W1.heap[w.heap.size]? = some (.deferred (some [])) := by rw [<- hW1]; exact s2.ext.keep (newW_at w _)
 have hL1 : W1.heap[w.heap.size + 1]? = some (.loop (rec .ready none)) := by
  have := newW_at (newW w (.deferred (some []))) (.loop (rec .ready none))
  rw [hsz] at this
  rw [<- hW1]; exact this
 have hw0 : w0.heap.size <= w.heap.size := sy.gr.ext.size
 have n1 : hi w.heap.size = none := sy.gr.sat.fresh
 have n2 : hi (w.heap.size + 1) = none := by have := s1.sat.fresh; rwa [hsz] at this
 let J : Nat -> World -> Prop := fun k W => ∃ s h,I k s /\ hi.le h /\ Gr h0 w0 h W /\ OwnB w0 (rO (w.heap.size + 1) (.loop (rec .ready none)) :: rO w.heap.size (.deferred (some [])) :: Bs k s) h W
 have hJ0 : J 0 W1 := by
  refine ⟨s0,hi,hI,PH.le.refl hi,sy.gr.trans gr1,hL1,fun i e => by cases e; exact ⟨n2,fun _ => by omega,by omega⟩,fun r hr i e => ?_,hK1,fun i e => by cases e; exact ⟨n1,fun _ => sy.gr.ext.size,by omega⟩,fun r hr i e q => ?_,ow0.grow gr1⟩
  · cases e
    rcases List.mem_cons.1 hr with rfl | hr
    · intro e; have : w.heap.size + 1 = w.heap.size := e; omega
    · intro q; have := (ow0.foot r hr _ q).2.2; omega
  · cases e; have := (ow0.foot r hr _ q).2.2; omega
 refine ⟨w.heap.size + 1,[{ target := .collected w.heap.size,args := #[] }],W1,{ target := .fn (.func gf) lb,args := #[.func (.yield (w.heap.size + 1)) #[] #[]] },W1,gf,
  #[.func (.yield (w.heap.size + 1)) #[] #[]] ++ lb,W1, ?_, ?_,fun _ _ => trivial, ?_,(fun h => by cases h), ?_⟩
 · rw [<- hW1,hrec]; exact run_enterLoop_outer _ _ _ _ _
 · simp only [resolve,eval_mkX,hg]
   simp [go_sem,ev]
 · simp [invoke,go_sem]
   exact eg _ _
 · have hc := hit (w.heap.size + 1) J W1 (fun k W ⟨s,h,_,le,gr,_⟩ => fun b o e => gr.sat b o (le b o e)) ?_ hJ0
   · refine CallsIn.mono (F := FX X0) hc ?_
     rintro e W2 ⟨⟨v,rfl⟩,s,h2,hi2,le,gr,ob⟩
     have hend := run_endLoop (P := P) ob.1 (by rw [hrec]; simp)
     refine ⟨_,_,hend, ?_⟩
     have hlt := (ob.2.1 _ rfl).2.2
     have hpt : Put W2 (W2.putObj (w.heap.size + 1) (.loop { rec .ready none with state := .exhausted })) _ _ := Put.obj hlt
     have ob2 := ob.obj hpt
     have hf := ob.2.1 (w.heap.size + 1) rfl
     subst hrec
     exact (after w.heap.size s hi2).p ρ h2 _ ⟨gr.put hpt hf.1 (hf.2.1 rfl),trivial,sy.en.mono le,ob2.2.2.2⟩
   · rintro k W hk ⟨s,h,hI,le,gr,ob⟩
     have hy := run_yield (P := P) (args := #[.int .i64 (idx k)]) ob.1 (by rw [hrec]; rfl)
     refine ⟨_,_,_,_,hy, ?_⟩
     rw [hrec]
     refine roundIn_of_wpIn (F := Fence.wide) trivial ?_
     have hact : ((#[p].zip #[Value.int .i64 (idx k)]).foldl (fun tmps (x : Tmp × Value) => tmps.setIfInBounds x.1 x.2) (mkX X0 n ρ).tmps) = (mkX ⟨some (w.heap.size + 1),[]⟩ n (upd ρ p (.int .i64 (idx k)))).tmps := by
      have := put_mkX (X := X0) (n := n) (ρ := ρ) (d := some p) (v := .int .i64 (idx k))
      have := congrArg Act.tmps this
      refine Eq.trans ?_ this
      simp [Act.put]
     have hr := (round hi k s (w.heap.size + 1) (.loop (rec .ready none)) (.loop { rec .ready none with state := .busy }) w.heap.size hk hI).p (upd ρ p (.int .i64 (idx k))) h W ⟨Gr.base sy.gr gr le,trivial,⟨by rw [upd_at]; rfl,(sy.en.mono le).upd hp⟩,ob⟩
     have e : (⟨_,[]⟩ : Act) = mkX ⟨some (w.heap.size + 1),[]⟩ n (upd ρ p (.int .i64 (idx k))) := congrArg (fun t => (⟨t,[]⟩ : Act)) hact
     refine wpIn_mono (F := FX ⟨some (w.heap.size + 1),[]⟩) (by rw [e]; exact hr) ?_
     rintro e a Wa hq
     cases e with
     | normal =>
       obtain ⟨hla,hq⟩ := hq
       have hlt := blk_lt hla
       refine ⟨_,run_beginRound hla (by rw [hrec]), ?_⟩
       have hp2 := Put.obj (o := .loop { rec .ready none with state := .busy }) hlt
       refine wpIn_mono (hq _ hp2 rfl) ?_
       rintro e a3 W3 hq
       cases e with
       | normal =>
         obtain ⟨ρ3,rfl,s3,hI3,h3,sy3⟩ := Me.p hq
         have ob3 := sy3.ow
         have hlt3 := blk_lt ob3.1
         refine ⟨_,_,run_endRound none ob3.1,rfl, ?_⟩
         have hp3 := Put.obj (o := .loop (rec .ready none)) hlt3
         have he2 : ({ { rec .ready none with state := .busy } with state := if (none : Option Code).isNone then .ready else .done,pending := none } : Loop) = rec .ready none := by rw [hrec]; rfl
         rw [he2]
         have hf := ob3.2.1 (w.heap.size + 1) rfl
         exact ⟨s3,h3,hI3,sy3.gr.le,(Gr.unbase sy.gr sy3.gr).put hp3 hf.1 (hf.2.1 rfl),ob3.obj hp3⟩
       | _ => exact hq.elim
     | _ => exact hq.elim⟩
end
section
variable {α : Type} {r : Rp α} {e : TypeId} {x : Value} {q : List α} {us us2 : List Value} {ls ls2 : List (List α)} {B : List Res} {a : Nat}
theorem Sb.zset (ha : a < us.length) : Sb (rA r e x q :: rZ r e us ls :: B) (rZ r e (us.set a x) (ls.set a q) :: B) := by
 have hz : ∀ (t b : Nat),Value.blk ((us.set a x).getD t vnil) = some b -> (t = a /\ Value.blk x = some b) \/ (t ≠ a /\ Value.blk (us.getD t vnil) = some b) := fun t b hb => by
  rw [getD_set' ha] at hb
  by_cases e : t = a
  · rw [if_pos e] at hb; exact .inl ⟨e,hb⟩
  · rw [if_neg e] at hb; exact .inr ⟨e,hb⟩
 refine ⟨fun {w0 h w} o => ?_,fun r' hr' i hi => ?_⟩
 · obtain ⟨o1,f1,d1,⟨l1,g1,c1⟩,f2,d2,g2⟩ := o
   have hd : ∀ b t,Value.blk x = some b -> Value.blk (us.getD t vnil) ≠ some b := fun b t h1 h2 => d1 _ (List.mem_cons_self ..) b h1 ⟨t,h2⟩
   refine ⟨⟨by rw [List.length_set,List.length_set]; exact l1,fun t => ?_,fun t u b h1 h2 => ?_⟩,fun i ⟨t,ht⟩ => ?_,fun r' hr' i ⟨t,ht⟩ => ?_,g2⟩
   · rw [getD_set' ha,getD_set' (by omega)]
     by_cases e : t = a
     · rw [if_pos e,if_pos e]; exact o1
     · rw [if_neg e,if_neg e]; exact g1 t
   · rcases hz t b h1 with ⟨e1,e2⟩ | ⟨e1,e2⟩ <;> rcases hz u b h2 with ⟨e3,e4⟩ | ⟨e3,e4⟩
     · omega
     · exact (hd b u e2 e4).elim
     · exact (hd b t e4 e2).elim
     · exact c1 t u b e2 e4
   · rcases hz t i ht with ⟨_,e2⟩ | ⟨_,e2⟩
     · exact f1 i e2
     · exact f2 i ⟨t,e2⟩
   · rcases hz t i ht with ⟨_,e2⟩ | ⟨_,e2⟩
     · exact d1 r' (List.mem_cons_of_mem _ hr') i e2
     · exact d2 r' hr' i ⟨t,e2⟩
 · rcases List.mem_cons.1 hr' with rfl | hr'
   · obtain ⟨t,ht⟩ := hi
     rcases hz t i ht with ⟨_,e2⟩ | ⟨_,e2⟩
     · exact ⟨_,List.mem_cons_self ..,e2⟩
     · exact ⟨_,List.mem_cons_of_mem _ (List.mem_cons_self ..),t,e2⟩
   · exact ⟨r',List.mem_cons_of_mem _ (List.mem_cons_of_mem _ hr'),hi⟩
theorem Rows.rL {h : PH} : ∀ {css : List (List Value)} {us : List Value} {ls : List (List α)},Go.Ear.Rows rW h css us -> us.length = ls.length -> (∀ t,LR r h (us.getD t vnil) (ls.getD t [])) -> Go.Ear.Rows (rL r) h css ls
 | [],[],[],_,_,_ => trivial
 | [_] :: css,x :: us,l :: ls,u,e,z => ⟨⟨by have := z 0; rw [u.1.1.1]; exact this,trivial⟩,Rows.rL u.2 (by simpa using e) fun t => z (t + 1)⟩
 | [] :: _,_ :: _,_ :: _,u,_,_ => u.1.elim
 | (_ :: _ :: _) :: _,_ :: _,_ :: _,u,_,_ => u.1.2.elim
theorem LR.rL {h : PH} {v : Value} (u : LR rW h v us) (hl : us.length = ls.length) (z : ∀ t,LR r h (us.getD t vnil) (ls.getD t [])) : LR (rL r) h v ls := by
 obtain ⟨css,a,b⟩ := u
 exact ⟨css,a,Rows.rL b hl z⟩
end
section
variable {P : Program} {n : Nat} {X : Fix} {ms : List Nat} {loc env env' : EL} {B B' : List Res} {c x y : Code} {k : Kt} {ol rest : List Oper} {d : Nat} {op : Op} {ty : TypeId} {pos : String} {af : Array Edge} {sd : Prop} {S : SV} {a b m : Nat} {t e : TypeId} {o1 o2 : Operand}
section
variable {α : Type} {r : Rp α} {bb bb2 : Nat} {d0 : α} {q : List α} {v z : Value} {vs us : List Value} {ls : List (List α)} {e2 ew : TypeId} {kx ky : IntKind} {i j : Int} {B1 B2 B3 : List Res}
instance (priority := high) [ts : TS P t e] [ts2 : TS P e e2] [mr : MR P e bb2] [rt : RT P e2 α r bb d0] [lx : Lu n true loc env o1 (.cv (.int kx i))] [ly : Lu n true loc env o2 (.cv (.int ky j))] [a1 : IN i a] [b1 : IN j b] : Nx (GO P n X ms loc env B ol (⟨some d,.makeSlice t o1 o2,ty,pos,af,none⟩ :: rest) k) (a = b /\ bb2 * a <= 281474976710656 /\ a <= 9223372036854775807) (∀ v,GO P n X ms ((d,ov v) :: loc) env (rA rW e v (List.replicate a vnil) :: rZ r e2 (List.replicate a vnil) (List.replicate a []) :: B) ol rest k) := ⟨fun hs f => ⟨fun ok ρ h w s => by
 obtain ⟨h1,h2,h3⟩ := okR_some rfl ok
 obtain ⟨ti,el⟩ := mr.h
 obtain ⟨rfl,s2,s3⟩ := hs
 have hx := cvE (lx.h rfl ((s.x [o1]).fx o1 (by simp)))
 have hy := cvE (ly.h rfl ((s.x [o2]).fx o2 (by simp)))
 rw [a1.e] at hx; rw [b1.e] at hy
 refine Ops.cons (OpW.makeO s.gr.sat ts.h el.hi el.hz hx hy (Nat.le_refl _) (by rw [el.hb]; exact s2) s3 rfl fun b w' g hn hlo hb => ?_)
 have sv := s.put (v := .slice (some ⟨b,0,none⟩) a a) (S := ov (.slice (some ⟨b,0,none⟩) a a)) g ⟨rfl,rfl⟩ h1 (h2 rfl)
 exact (f _).p h3 _ _ _ ⟨sv.gr,sv.lo,sv.en,OwnB.join (own_rows (w0 := w) el hn hb hlo r e2) s.gr.ext.size s.ow g (NB.h)⟩⟩⟩
theorem store_z (hB : Sb B (rA rW ew v (vs.set a z) :: B')) (f : GO P n X ms loc env (rA rW ew v (vs.set a z) :: B') ol rest k) : GO P n X ms loc env B ol rest k := ⟨fun ok ρ h w s => f.p ok ρ h w (s.sb hB)⟩
instance (priority := high) [lx : Lu n true loc env o1 (pa v 1 a 0)] [ly : Lu n true loc env o2 (ov z)] [p1 : PA B z α r e2 q B1] [p2 : PA B1 v Value rW ew vs B2] [p3 : PZ B2 vs α r e2 ls B3] [tz : TZ P t 1] : Nx (GO P n X ms loc env B ol (⟨none,.store t o1 o2,ty,pos,af,none⟩ :: rest) k) (a < vs.length) (GO P n X ms loc env (rA rW ew v (vs.set a z) :: rZ r e2 (vs.set a z) (ls.set a q) :: B3) ol rest k) := ⟨fun hj f => by
 have sb : Sb B (rA rW ew v vs :: rA r e2 z q :: rZ r e2 vs ls :: B3) := (p1.h.trans ((p2.h.cons _).trans (.perm (.swap ..)))).trans (((p3.h.cons _)).cons _)
 refine ⟨fun ok ρ h w s => ?_⟩
 have g : GO P n X ms loc env (rA rW ew v vs :: rA r e2 z q :: rZ r e2 vs ls :: B3) ol (⟨none,.store t o1 o2,ty,pos,af,none⟩ :: rest) k :=
  Nx.h (self := inferInstance) hj (store_z ((Sb.zset hj).cons _) f)
 exact g.p ok ρ h w (s.sb sb)⟩
instance (priority := high) [lx : Lu n true loc env o1 (pa v 1 a 0)] [ly : Lu n true loc env o2 (ov z)] [p1 : PA B z α r e2 q B1] [p2 : PA B1 v Value rW ew vs B2] [p3 : PZ B2 (vs.set a vnil) α r e2 ls B3] [tz : TZ P t 1] : Nx (GO P n X ms loc env B ol (⟨none,.store t o1 o2,ty,pos,af,none⟩ :: rest) k) (a < vs.length) (GO P n X ms loc env (rA rW ew v (vs.set a z) :: rZ r e2 (vs.set a z) (ls.set a q) :: B3) ol rest k) := ⟨fun hj f => by
 have sb : Sb B (rA rW ew v vs :: rA r e2 z q :: rZ r e2 (vs.set a vnil) ls :: B3) := (p1.h.trans ((p2.h.cons _).trans (.perm (.swap ..)))).trans (((p3.h.cons _)).cons _)
 refine ⟨fun ok ρ h w s => ?_⟩
 have hz : Sb (rA r e2 z q :: rZ r e2 (vs.set a vnil) ls :: B3) (rZ r e2 (vs.set a z) (ls.set a q) :: B3) := by
  have := Sb.zset (r := r) (e := e2) (x := z) (q := q) (us := vs.set a vnil) (ls := ls) (B := B3) (a := a) (by rw [List.length_set]; exact hj)
  rwa [List.set_set] at this
 have g : GO P n X ms loc env (rA rW ew v vs :: rA r e2 z q :: rZ r e2 (vs.set a vnil) ls :: B3) ol (⟨none,.store t o1 o2,ty,pos,af,none⟩ :: rest) k :=
  Nx.h (self := inferInstance) hj (store_z (hz.cons _) f)
 exact g.p ok ρ h w (s.sb sb)⟩
instance (priority := high) [ma : MA B v Value rW ew vs] [mz : MZ B vs α r e2 ls] : Fz B (ov v) (lv (rL r) ls) := ⟨fun {h h'} le z x u => by
 have z1 : LR rW h' v vs := z _ ma.h
 have z2 : vs.length = ls.length /\ ∀ t,LR r h' (vs.getD t vnil) (ls.getD t []) := z _ mz.h
 rw [u.1]; exact LR.rL z1 z2.1 z2.2⟩
theorem Sy.fzM {loc' : EL} {h0 : PH} {w0 : World} {ρ : Env} {h : PH} {w : World} [p1 : PA B v Value rW ew vs B1] [p2 : PZ B1 vs α r e2 ls B2] [sl : SbE v (lv (rL r) ls) loc loc'] [se : SbE v (lv (rL r) ls) env env'] [sb : SbB v (lv (rL r) ls) B2 B3] (s : Sy h0 w0 loc env B ρ h w) : ∃ h',Sy h0 w0 loc' env' B3 ρ h' w := by
 have s' := s.sb (p1.h.trans (p2.h.cons _))
 obtain ⟨h1,g1,le1,z1,o1⟩ := OwnB.freeze (j := 0) s'.gr s'.ow rfl
 obtain ⟨h2,g2,le2,z2,o2⟩ := OwnB.freeze (j := 0) g1 o1 rfl
 have z1' : LR rW h2 v vs := (show LR rW h1 v vs from z1).mono le2
 have z2' : vs.length = ls.length /\ ∀ t,LR r h2 (vs.getD t vnil) (ls.getD t []) := z2
 have zz := LR.rL z1' z2'.1 z2'.2
 have key : ∀ x,x = v -> den h2 (lv (rL r) ls) x := fun x e => by subst e; exact zz
 exact ⟨h2,g2,sl.h key (s.lo.mono (le1.trans le2)),se.h key (s.en.mono (le1.trans le2)),(sb.h (fun h3 l3 x e => by subst e; exact zz.mono l3) o2).1⟩
theorem gFzM (v : Value) {vs : List Value} {r : Rp α} {ls : List (List α)} {loc' : EL} [p1 : PA B v Value rW ew vs B1] [p2 : PZ B1 vs α r e2 ls B2] [sl : SbE v (lv (rL r) ls) loc loc'] [se : SbE v (lv (rL r) ls) env env'] [sb : SbB v (lv (rL r) ls) B2 B3] (g : GW P n X ms loc' env' B3 c k) : GW P n X ms loc env B c k := ⟨fun ρ h w s => by
 obtain ⟨h',s'⟩ := s.fzM (v := v) (p1 := p1) (p2 := p2) (sl := sl) (se := se) (sb := sb)
 exact g.p ρ h' w s'⟩
end
instance (priority := 5) {x : Res} {l rest : List Res} [i : MtB B l sd rest] : MtB (x :: B) l sd (x :: rest) := ⟨fun q => ((i.h q).cons x).trans (.perm (List.perm_middle.symm))⟩
class CtR (P : Program) (f : FuncId) (args : List SV) (B : List Res) (side : outParam Prop) (σ : outParam Type) (S : outParam (σ -> SV)) (B' : outParam (σ -> List Res)) : Prop where
 fn : IsFn P f
 h : side -> ∀ {h0 w0 h w vs},Gr h0 w0 h w -> OwnB w0 B h w -> denL h args vs -> Calls P f vs.toArray w fun e w' => ∃ v,e = .returned v /\ ∃ (h' : PH) (s : σ),Gr h0 w0 h' w' /\ h.le h' /\ OwnB w0 (B' s) h' w' /\ den h' (S s) v
def fR {σ : Type} (P : Program) (n : Nat) (rs : List ResultVar) (h0 : PH) (w0 : World) (S : σ -> SV) (B' : σ -> List Res) (ρ : Env) (w : World) : Prop := ∃ vs h' s,resL P n ρ w rs vs /\ Gr h0 w0 h' w /\ OwnB w0 (B' s) h' w /\ den h' (S s) (res1 vs)
theorem ctR {σ : Type} {S : σ -> SV} {B' : σ -> List Res} {f : FuncId} {fn : Func} {args : List SV} {rs : List ResultVar} (call : IsFn P f) (hf : P.funcs[f]? = some fn) (hn : fn.ntmps = n) (hb : fn.body = some c) (hr : fn.results = rs.toArray) (hl : Nat.ble args.length n = true) [ae : ArgE 0 args env] (ms : List Nat) (body : ∀ h0 w0,sd -> GW P n ⟨fE n (fR P n rs h0 w0 S B'),h0,w0,X0⟩ ms [] env B c .fin) : CtR P f args B sd σ S B' := ⟨call,fun hs h0 w0 h w vs gr ow u => by
 subst hn
 refine (callsE hf hb (by rw [u.length]; exact hl) ((body h w0 hs).p (env0 0 vs) h w ⟨Gr.base gr gr (PH.le.refl h),trivial,ae.h u,ow⟩) (R' := fun v w' => ∃ h' s,Gr h w0 h' w' /\ OwnB w0 (B' s) h' w' /\ den h' (S s) v) ?_).mono ?_
 · rintro ρ w' ⟨vs,h',s,hres,x⟩
   exact ⟨_,res_run hr hres,h',s,x⟩
 · rintro e w' ⟨v,rfl,h',s,g,o,d⟩
   exact ⟨v,rfl,h',s,Gr.unbase gr g,g.le,o,d⟩⟩
theorem gEr {σ : Type} {S : σ -> SV} {B1 : σ -> List Res} {rs : List ResultVar} {h0 : PH} {w0 : World} {R0 : Exit -> Act -> World -> Prop} {C : Ctx} {kb : List Res} {Ss : List SV} {T : SV} {s1 s2 : Prop} (s : σ) [fi : Fin ⟨R0,h0,w0,C⟩ n (fR P n rs h0 w0 S B1) P loc env B B'] [r : Rs P n loc env B' rs Ss] [oo : OneOf Ss T] [eq : EqS T (S s) s1] [mb : MtB B' (B1 s) s2 kb] {e : Exit} (h1 : s1 := by first | trivial | ((try dsimp only); repeat' (first | refine And.intro ?_ ?_ | rfl | trivial | omega))) (h2 : s2 := by first | trivial | ((try dsimp only); repeat' (first | refine And.intro ?_ ?_ | rfl | trivial | omega))) (he : e = .normal \/ e = .ret := by first | exact .inl rfl | exact .inr rfl) : GX P n ⟨R0,h0,w0,C⟩ ms loc env B e .fin := ⟨fun ρ h w sy => fi.h (fun ρ h w sy => by
 obtain ⟨vs,a,b⟩ := r.h sy
 refine ⟨vs,h,s,a,sy.gr,((mb.h h2).own sy.ow).left,eq.h h1 ?_⟩
 rw [<- oo.h]
 match Ss,vs,b with
 | [],[],_ => exact ⟨[],rfl,trivial⟩
 | [S],[v],d => exact d.1
 | S :: T :: Ss,v :: u :: vs,d => exact ⟨v :: u :: vs,rfl,d⟩) e he ρ h w sy⟩
theorem callR {σ : Type} {S : σ -> SV} {B' : σ -> List Res} {h0 : PH} {w0 : World} {ρ : Env} {h : PH} {w : World} {K : Env -> World -> Prop} {dd : Option Tmp} {f : FuncId} {xs : List Operand} {ts : Array TypeId} {Ss : List SV} (ct : CtR P f Ss B sd σ S B') (hs : sd) (s : Sy h0 w0 loc env B ρ h w) (hx : denL h Ss (xs.map (ev n ρ))) (hk : ∀ v h' s w',Gr h0 w0 h' w' -> h.le h' -> OwnB w0 (B' s) h' w' -> den h' (S s) v -> K (updO ρ dd v) w') : OpW P n ⟨dd,.call ⟨.value (.func f),xs.toArray,ts⟩,ty,pos,af,none⟩ ρ w K := by
 refine OpW.enter (f := f) (args := (xs.map (ev n ρ)).toArray) (w' := w) ?_ (ct.h hs s.gr s.ow hx) ?_
 · simp only [execOp,resolve,ev,Deferred.ofValue,Sem.run_bind,Sem.run_pure,Result.andThen,invoke,List.map_toArray]
   have := ct.fn (#[] ++ (xs.map (ev n ρ)).toArray ++ #[]) w
   simpa using this
 · rintro e w'' ⟨v,rfl,h',s,g,le,o,d⟩
   exact ⟨v,rfl,hk v h' s w'' g le o d⟩
instance {σ : Type} {S : σ -> SV} {B' : σ -> List Res} {f : FuncId} {xs : List Operand} {ts : Array TypeId} {Ss : List SV} [lx : Lus n true loc env xs Ss] [ct : CtR P f Ss B sd σ S B'] : Nx (GO P n X ms loc env B ol (⟨some d,.call ⟨.value (.func f),xs.toArray,ts⟩,ty,pos,af,none⟩ :: rest) k) sd (∀ s : σ,GO P n X ms ((d,S s) :: loc) env (B' s) ol rest k) := ⟨fun hs g => ⟨fun ok ρ h w sy => by
 obtain ⟨h1,h2,h3⟩ := okR_some rfl ok
 exact Ops.cons (callR ct hs sy (lx.h rfl fun x hx => (sy.x [x]).fx x (by simp)) fun v h' s w' gr le o u => (g s).p h3 _ _ _ ⟨gr,⟨by show den h' (S s) (upd ρ d v d); rw [upd_at]; exact u,(sy.lo.upd (nIn_of h1)).mono le⟩,(sy.en.upd (nIn_of (h2 rfl))).mono le,o⟩)⟩⟩
class FpS (B' B : List Res) : Prop where h : ∀ r ∈ B', ∀ i,r.fp i -> ∃ r ∈ B,r.fp i
instance {α : Type} {r : Rp α} {e : TypeId} {v : Value} {q q' : List α} {B1 : List Res} [pa : PA B v α r e q B1] : FpS (rA r e v q' :: B1) B := ⟨fun r' hr' i hi => by
 rcases List.mem_cons.1 hr' with rfl | hr'
 · exact pa.h.fp _ (List.mem_cons_self ..) i hi
 · exact pa.h.fp _ (List.mem_cons_of_mem _ hr') i hi⟩
instance {i t d : Nat} {Ls : EL} {lt : Nat -> Bool} {L : (Nat -> Gh) -> EL} {S : Unit -> SV} {B' : Unit -> List Res} {f : FuncId} {xs : List Operand} {ts : Array TypeId} {Ss : List SV} [lf : Lu n true Ls env (.tmp t) (.cv (.func (.func f) #[] #[]))] [lx : Lus n true Ls env xs Ss] [ct : CtR P f Ss B sd Unit S B'] [fs : FpS (B' ()) B] :
 Nx (GE P n X ms Ls env B ol (⟨some d,.call ⟨.value (.tmp t),xs.toArray,ts⟩,ty,pos,af,none⟩ :: rest) k lt 1 i L []) (((List.range i).all fun j => reach ol 9 i j || lt j) = true /\ sd) (∀ ν,GO P n X ms ((d,S ()) :: L ν) env (B' ()) ol rest k) := ⟨fun hs g => ⟨fun ql => .stm (some (d,S ())) (B' ()) rfl (.inr rfl) (fun ν ρ h w s => by
 have hfv := cvE (lf.h rfl ((s.sub (os' := [.tmp t]) (fun x hx => by simp [looks,Op.operands,Call.operands] at hx ⊢; exact .inl hx) (ql ν)).fx (.tmp t) (by simp)))
 have s' : Sx X.h0 X.w0 Ls env B xs ρ h w := s.sub (fun x hx => by simp [looks,Op.operands,Call.operands,hx]) (ql ν)
 have hx : denL h Ss (xs.map (ev n ρ)) := lx.h rfl fun x hx => s'.fx x hx
 refine OpG.plain (OpW.enter (f := f) (args := (xs.map (ev n ρ)).toArray) (w' := w) ?_ (ct.h hs.2 s.gr s.ow hx) ?_)
 · have := ct.fn (#[] ++ (xs.map (ev n ρ)).toArray ++ #[]) w
   simp only [execOp,resolve,hfv,Deferred.ofValue,Sem.run_bind,Sem.run_pure,Result.andThen,invoke,List.map_toArray]
   simpa using this
 · rintro e w'' ⟨v,rfl,h',s1,g',le,o,dd⟩
   exact ⟨v,rfl,h',⟨v,rfl,dd⟩,g',le,(fun e => by cases e),(fun e => by cases e),o⟩) (fun j hj => by
 have := List.all_eq_true.1 hs.1 j (List.mem_range.2 hj)
 simpa using this) fs.h fun ν => by simpa [rv,xLc] using g ν⟩⟩
instance {i d : Nat} {Ls : EL} {lt : Nat -> Bool} {L : (Nat -> Gh) -> EL} {S : Unit -> SV} {B' : Unit -> List Res} {f : FuncId} {xs : List Operand} {ts : Array TypeId} {Ss : List SV} [lx : Lus n true Ls env xs Ss] [ct : CtR P f Ss B sd Unit S B'] [fs : FpS (B' ()) B] :
 Nx (GE P n X ms Ls env B ol (⟨some d,.call ⟨.value (.func f),xs.toArray,ts⟩,ty,pos,af,none⟩ :: rest) k lt 1 i L []) (((List.range i).all fun j => reach ol 9 i j || lt j) = true /\ sd) (∀ ν,GO P n X ms ((d,S ()) :: L ν) env (B' ()) ol rest k) := ⟨fun hs g => ⟨fun ql => .stm (some (d,S ())) (B' ()) rfl (.inr rfl) (fun ν ρ h w s => by
 have s' : Sx X.h0 X.w0 Ls env B xs ρ h w := s.sub (fun x hx => by simp [looks,Op.operands,Call.operands,hx]) (ql ν)
 have hx : denL h Ss (xs.map (ev n ρ)) := lx.h rfl fun x hx => s'.fx x hx
 refine OpG.plain (OpW.enter (f := f) (args := (xs.map (ev n ρ)).toArray) (w' := w) ?_ (ct.h hs.2 s.gr s.ow hx) ?_)
 · have := ct.fn (#[] ++ (xs.map (ev n ρ)).toArray ++ #[]) w
   simp only [execOp,resolve,ev,Deferred.ofValue,Sem.run_bind,Sem.run_pure,Result.andThen,invoke,List.map_toArray]
   simpa using this
 · rintro e w'' ⟨v,rfl,h',s1,g',le,o,dd⟩
   exact ⟨v,rfl,h',⟨v,rfl,dd⟩,g',le,(fun e => by cases e),(fun e => by cases e),o⟩) (fun j hj => by
 have := List.all_eq_true.1 hs.1 j (List.mem_range.2 hj)
 simpa using this) fs.h fun ν => by simpa [rv,xLc] using g ν⟩⟩
end
end Go.E3
