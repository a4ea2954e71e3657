/- K9: a part of the proof about training through the decoder: how the program's functions run, and what they compute, for every input. -/
import Derived.Test.YtdciabokggfpbaaGreatK8
set_option linter.all false
namespace Go.E3
open Go Go.Ear
class EqA {α : Type _} (a b : α) (sd : outParam Prop) : Prop where h : sd -> a = b
instance (priority := high) {α : Type _} {a : α} : EqA a a True := ⟨fun _ => rfl⟩
instance (priority := low) {α : Type _} {a b : α} : EqA a b (a = b) := ⟨fun e => e⟩
instance {k : IntKind} {a b : Int} : EqA (SV.cv (.int k a)) (SV.cv (.int k b)) (a = b) := ⟨fun e => by rw [e]⟩
instance {a b : Bool} : EqA (SV.cv (.bool a)) (SV.cv (.bool b)) (a = b) := ⟨fun e => by rw [e]⟩
instance {α : Type} {r : Rp α} {a b : List α} : EqA (lv r a) (lv r b) (a = b) := ⟨fun e => by rw [e]⟩
class EqS (S T : SV) (sd : outParam Prop) : Prop where h : sd -> ∀ {h v},den h S v -> den h T v
instance {S T : SV} {sd : Prop} [i : EqA S T sd] : EqS S T sd := ⟨fun e _ _ u => by rw [<- i.h e]; exact u⟩
instance (priority := high) {α : Type} {r : Rp α} {l : List α} {b : Option Addr} {c : Nat} : EqS (.cv (.slice b 0 c)) (lv r l) (l = []) := ⟨fun e h v u => by
 subst e; rw [u]; exact LR.nil r h b c⟩
class EqSL (l m : List SV) (sd : outParam Prop) : Prop where h : sd -> ∀ {h vs},denL h l vs -> denL h m vs
instance : EqSL [] [] True := ⟨fun _ _ _ u => u⟩
instance {S T : SV} {sd : Prop} [i : EqS S T sd] : EqSL [S] [T] sd := ⟨fun e h vs u => by
 match vs,u with
 | _ :: _,u => exact ⟨i.h e u.1,u.2⟩⟩
instance (priority := low) {S T : SV} {l m : List SV} {s1 s2 : Prop} [i : EqS S T s1] [j : EqSL l m s2] : EqSL (S :: l) (T :: m) (s1 /\ s2) := ⟨fun e h vs u => by
 match vs,u with
 | _ :: _,u => exact ⟨i.h e.1 u.1,j.h e.2 u.2⟩⟩
instance (priority := high) {l m : List SV} {sd : Prop} [i : EqSL l m sd] : EqS (.ag l) (.ag m) sd := ⟨fun e h v ⟨vs,a,u⟩ => ⟨vs,a,i.h e u⟩⟩
instance (priority := high) {l m : List SV} {sd : Prop} [i : EqSL l m sd] : EqS (.tp l) (.tp m) sd := ⟨fun e h v ⟨vs,a,u⟩ => ⟨vs,a,i.h e u⟩⟩
instance (priority := high) {l m : List SV} {o : Nat} {sd : Prop} [i : EqSL l m sd] [RflE l.length m.length] : EqS (.pk l o) (.pk m o) sd := ⟨fun e h v u => by
 have hl : l.length = m.length := RflE.h
 obtain ⟨b,off,arr,t,fz,a1,a2,a3,a4⟩ := u
 rw [hl] at a3 a4
 exact ⟨b,off,arr,t,fz,a1,a2,a3,i.h e a4⟩⟩
section
variable {P : Program} {n : Nat} {X : Fix} {ms : List Nat} {loc env env' : EL} {B B' : List Res} {c x y : Code} {k : Kt} {ol rest : List Oper} {d : Nat} {op : Op} {ty : TypeId} {pos : String} {af : Array Edge} {sd : Prop} {S : SV} {a b m : Nat} {t e : TypeId} {o1 o2 : Operand}
theorem asg_step {op : Op} (a : GO P n X ms loc ((d,S) :: env') B ol rest k) (h1 : isAsg op = true) (hop : ∀ {ρ : Env} {h : PH} {w : World},Sy X.h0 X.w0 loc env B ρ h w -> ∀ {ty : TypeId} {pos : String} {af : Array Edge} {K : Env -> World -> Prop},(∀ v,den h S v -> K (upd ρ d v) w) -> OpW P n ⟨some d,op,ty,pos,af,none⟩ ρ w K) (dl : Dl env d env') : GO P n X ms loc env B ol (⟨some d,op,ty,pos,af,none⟩ :: rest) k := ⟨fun ok ρ h w s => by
 obtain ⟨h1,_,h3⟩ := okR_some rfl ok
 refine Ops.cons (hop s fun v u => a.p (okR_swap (fun e he => ?_) (fun e he h2 => ?_) h3) _ _ _ ⟨s.gr,s.lo.upd (nIn_of h1),⟨?_,(dl.h.2.1 s.en).upd dl.h.1⟩,s.ow⟩)
 · simp only [memN,Bool.or_eq_false_iff] at he; exact he.2
 · simp only [memN,Bool.or_eq_false_iff] at he
   simp only [List.map_cons,memN,Bool.or_eq_false_iff]; exact ⟨he.1,dl.h.2.2 e h2⟩
 · rw [upd_at]; exact u⟩
instance [lx : Lu n true loc env o1 S] [dl : Dl env d env'] : Nx (GO P n X ms loc env B ol (⟨some d,.assign o1,ty,pos,af,none⟩ :: rest) k) True (GO P n X ms loc ((d,S) :: env') B ol rest k) := ⟨fun _ a => asg_step a rfl (fun s _ _ _ _ k => OpW.assign rfl (k _ (lx.h rfl ((s.x [o1]).fx o1 (by simp))))) dl⟩
instance (priority := high) [ie : InE env d] [lx : Lu n true loc env o1 S] [dl : Dl env d env'] : Nx (GO P n X ms loc env B ol (⟨some d,.move o1,ty,pos,af,none⟩ :: rest) k) True (GO P n X ms loc ((d,S) :: env') B ol rest k) := ⟨fun _ a => asg_step a rfl (fun s _ _ _ _ k => OpW.move rfl (k _ (lx.h rfl ((s.x [o1]).fx o1 (by simp))))) dl⟩
theorem okR_env {o : Oper} {d : Nat} (hd : o.dst = some d) (ha : isAsg o.op = false) {L E : List Nat} (h : okR (o :: rest) L E = true) : memN d L = false /\ memN d E = false /\ okR rest L (d :: E) = true := by
 obtain ⟨h1,h2,h3⟩ := okR_some hd h
 refine ⟨h1,h2 ha,okR_swap (fun e he => ?_) (fun e he h2 => ?_) h3⟩
 · simp only [memN,Bool.or_eq_false_iff] at he; exact he.2
 · simp only [memN,Bool.or_eq_false_iff] at he ⊢; exact ⟨he.1,h2⟩
theorem Sy.var {h0 : PH} {w0 : World} {ρ : Env} {h h' : PH} {w w' : World} {v : Value} (s : Sy h0 w0 loc env B ρ h w) (g : Gr h w h' w') (u : den h' S v) (hl : memN d (loc.map (·.1)) = false) (he : memN d (env.map (·.1)) = false) : Sy h0 w0 loc ((d,S) :: env) B (upd ρ d v) h' w' :=
 ⟨s.gr.trans g,(s.lo.upd (nIn_of hl)).mono g.le,⟨by rw [upd_at]; exact u,(s.en.upd (nIn_of he)).mono g.le⟩,s.ow.grow g⟩
theorem OwnB.new {w0 : World} {h h' : PH} {w w' : World} {r : Res} (o : OwnB w0 B h w) (g : Gr h w h' w') (hw : w0.heap.size <= w.heap.size) (hp : r.pr h' w') (hf : ∀ i,r.fp i -> w.heap.size <= i /\ i < w'.heap.size /\ h' i = none) : OwnB w0 (r :: B) h' w' :=
 ⟨hp,fun i hi => ⟨(hf i hi).2.2,fun _ => Nat.le_trans hw (hf i hi).1,(hf i hi).2.1⟩,fun r' hr' i hi q => by have := (o.foot r' hr' i q).2.2; have := (hf i hi).1; omega,o.grow g⟩
instance (priority := high) [nn : NotIn d ms] [st : St P n true loc env B ms d (.box t o1) sd S] : Nx (GO P n X ms loc env B ol (⟨some d,.box t o1,ty,pos,af,none⟩ :: rest) k) sd (GO P n X ms loc ((d,S) :: env) B ol rest k) := ⟨fun hs a => ⟨fun ok ρ h w s => by
 obtain ⟨h1,h2,h3⟩ := okR_env rfl rfl ok
 exact Ops.cons (st.h rfl hs (s.x _) fun v h' w' g u => a.p h3 _ _ _ (s.var g u h1 h2))⟩⟩
class IsIn (d : Nat) (ms : List Nat) : Prop where t : True
instance {l : List Nat} : IsIn d (d :: l) := ⟨trivial⟩
instance (priority := low) {l : List Nat} [IsIn d l] : IsIn d (a :: l) := ⟨trivial⟩
instance {l : List SV} [nn : IsIn d ms] [lx : Lu n true loc env o1 S] [cl : Cl S l] : Nx (GO P n X ms loc env B ol (⟨some d,.box t o1,ty,pos,af,none⟩ :: rest) k) True (∀ v,GO P n X ms loc ((d,ov v) :: env) (rV v l t :: B) ol rest k) := ⟨fun _ a => ⟨fun ok ρ h w s => by
 obtain ⟨h1,h2,h3⟩ := okR_env rfl rfl ok
 have u := cl.h (lx.h rfl ((s.x [o1]).fx o1 (by simp)))
 refine Ops.cons (OpW.boxO s.gr.sat rfl rfl fun b w' g hn hlo hb => ?_)
 have sv := s.var (v := .pointer (some ⟨b,0,none⟩)) (S := ov (.pointer (some ⟨b,0,none⟩))) g ⟨rfl,rfl⟩ h1 h2
 exact (a _).p h3 _ _ _ ⟨sv.gr,sv.lo,sv.en,s.ow.new g s.gr.ext.size ⟨b,_,rfl,hb,u⟩ fun i hi => by cases hi; exact ⟨hlo,blk_lt hb,hn⟩⟩⟩⟩
instance {l : List SV} [zc : ZC P t l] : Nx (GO P n X ms loc env B ol (⟨some d,.alloc t,ty,pos,af,none⟩ :: rest) k) True (∀ v,GO P n X ms loc ((d,ov v) :: env) (rV v l t :: B) ol rest k) := ⟨fun _ a => ⟨fun ok ρ h w s => by
 obtain ⟨h1,h2,h3⟩ := okR_env rfl rfl ok
 obtain ⟨z,hz,hu⟩ := zc.h
 refine Ops.cons (OpW.allocO s.gr.sat hz rfl fun b w' g hn hlo hb => ?_)
 have sv := s.var (v := .pointer (some ⟨b,0,none⟩)) (S := ov (.pointer (some ⟨b,0,none⟩))) g ⟨rfl,rfl⟩ h1 h2
 exact (a _).p h3 _ _ _ ⟨sv.gr,sv.lo,sv.en,s.ow.new g s.gr.ext.size ⟨b,_,rfl,hb,hu⟩ fun i hi => by cases hi; exact ⟨hlo,blk_lt hb,hn⟩⟩⟩⟩
section
variable {α : Type} {r : Rp α} {bb : Nat} {d0 : α} {q q' : List α} {v : Value} {kx ky : IntKind} {i j : Int}
theorem own_made {h : PH} {w : World} {z : Value} {b : Nat} {ti : TypeInfo} (el : El P e r.k bb z ti) (hz : r.R h z.cells.toList d0) (hn : h b = none) (hb : w.heap[b]? = some (.cells (madeCells z.cells (a * ti.size)) e (0,0))) : OwnL r 0 h w e (.slice (some ⟨b,0,none⟩) a a) (List.replicate a d0) := by
 have hs := el.hc.trans el.hk
 have hm : madeCells z.cells (a * ti.size) = ((List.replicate a z.cells.toList).flatten).toArray := by rw [<- el.hc]; exact made_list
 refine ⟨List.replicate a z.cells.toList,⟨by simp [hs],.inr ⟨b,a,_,by simp,Nat.zero_le _,hn,hb,by simp, ?_, ?_⟩⟩,Go.Ear.Rows.replicate hz a⟩
 · rw [hm]; simp [hs]
 · rw [hm]; simp; exact List.take_of_length_le (by simp [hs])
instance [ts : TS P t e] [rt : RT P e α r bb d0] [lx : Lu n true loc env o1 (.cv (.int kx i))] [ly : Lu n true loc env o2 (.cv (.int ky j))] [a1 : IN i a] [b1 : IN j b] : Nx (GO P n X ms loc env B ol (⟨some d,.makeSlice t o1 o2,ty,pos,af,none⟩ :: rest) k) (a = b /\ bb * a <= 281474976710656 /\ a <= 9223372036854775807) (∀ v,GO P n X ms ((d,ov v) :: loc) env (rA r e v (List.replicate a d0) :: B) ol rest k) := ⟨fun hs f => ⟨fun ok ρ h w s => by
 obtain ⟨h1,h2,h3⟩ := okR_some rfl ok
 obtain ⟨z,ti,el,hz⟩ := rt.e
 obtain ⟨rfl,s2,s3⟩ := hs
 have hx := cvE (lx.h rfl ((s.x [o1]).fx o1 (by simp)))
 have hy := cvE (ly.h rfl ((s.x [o2]).fx o2 (by simp)))
 rw [a1.e] at hx; rw [b1.e] at hy
 refine Ops.cons (OpW.makeO s.gr.sat ts.h el.hi el.hz hx hy (Nat.le_refl _) (by rw [el.hb]; exact s2) s3 rfl fun b w' g hn hlo hb => ?_)
 have sv := s.put (v := .slice (some ⟨b,0,none⟩) a a) (S := ov (.slice (some ⟨b,0,none⟩) a a)) g ⟨rfl,rfl⟩ h1 (h2 rfl)
 exact (f _).p h3 _ _ _ ⟨sv.gr,sv.lo,sv.en,s.ow.new g s.gr.ext.size (own_made el (hz _) hn hb) fun i hi => by cases hi; exact ⟨hlo,blk_lt hb,hn⟩⟩⟩⟩
theorem own_one {lo : Nat} {h : PH} {w : World} {v : Value} (u : OwnL r lo h w e v q) : v.oneCell' = true := by
 obtain ⟨_,_,rfl,_⟩ := u.shape; rfl
theorem own_app {h0 : PH} {w0 : World} {ρ : Env} {h : PH} {w w' : World} {v' : Value} (s : Sy h0 w0 loc env (rA r e v q :: B) ρ h w) (own : OwnL r 0 h w' e v' q') (ow : Ow w w' (Value.blk v)) (hbl : ∀ b,Value.blk v' = some b -> Value.blk v = some b \/ w.heap.size <= b) : Sy h0 w0 loc env (rA r e v' q' :: B) ρ h w' := by
 have at_ := s.ow.at 0 rfl
 have hf : ∀ i,(rA r e v q).fp i -> h i = none /\ w0.heap.size <= i := fun i hi => ⟨(at_.2 i hi).1,(at_.2 i hi).2.1 rfl⟩
 have g := s.gr.ow ow fun i hi => hf i hi
 refine ⟨g,s.lo,s.en,OwnB.set (j := 0) (r := rA r e v q) rfl (fun _ _ x => x) ow.size (fun r' hr' i hi => ?_) own (fun i hi => ?_) s.ow s.gr.ext.size rfl⟩
 · have f := s.ow.foot r' (List.mem_of_mem_eraseIdx hr') i hi
   exact ⟨ow.block i f.2.2 fun e => s.ow.apart 0 rfl r' hr' i e.symm hi,f.1⟩
 · rcases hbl i hi with x | x
   · exact .inl ⟨x,(hf i x).1⟩
   · exact .inr ⟨x,(own.lt hi).1,(own.lt hi).2.1⟩
theorem Sy.set {h0 : PH} {w0 : World} {ρ : Env} {h : PH} {w : World} {v : Value} (s : Sy h0 w0 loc env B ρ h w) (u : den h S v) (hl : memN d (loc.map (·.1)) = false) (he : memN d (env.map (·.1)) = false) : Sy h0 w0 ((d,S) :: loc) env B (upd ρ d v) h w := s.put (Gr.refl s.gr.sat) u hl he
instance [ts : TS P t e] [rt : RT P e α r bb d0] [lx : Lu n true loc env o1 (ov v)] [pa : PA B v α r e q B'] [ly : Lu n true loc env o2 (lv r q')] : Nx (GO P n X ms loc env B ol (⟨some d,.call ⟨.builtin .append,[o1,o2].toArray,[t,t].toArray⟩,ty,pos,af,none⟩ :: rest) k) (q.length + q'.length <= 9223372036854775807 /\ (q.length + q'.length) * bb <= 140737488355328) (∀ v',GO P n X ms ((d,ov v') :: loc) env (rA r e v' (q ++ q') :: B') ol rest k) := ⟨fun hs f => ⟨fun ok ρ h w s => by
 obtain ⟨h1,h2,h3⟩ := okR_some rfl ok
 obtain ⟨z,ti,el,hz⟩ := rt.e
 have hx := lx.h rfl ((s.x [o1]).fx o1 (by simp))
 have hy := ly.h rfl ((s.x [o2]).fx o2 (by simp))
 have s' := s.sb pa.h
 refine Ops.cons (OpW.appendL (lo := 0) ts.h el.hi el.hz el.hc el.hk s.gr.sat (Nat.zero_le _) hx.1 rfl (s'.ow.at 0 rfl).1 hy hs.1 (by rw [el.hb]; exact hs.2) fun v' w' own ow hbl => ?_)
 exact (f v').p h3 _ _ _ ((own_app s' own ow hbl).set ⟨rfl,own_one own⟩ h1 (h2 rfl))⟩⟩
instance [ts : TS P t e] [rt : RT P e α r bb d0] [lx : Lu n true loc env o1 (.cv (.slice none 0 0))] [ly : Lu n true loc env o2 (lv r q')] : Nx (GO P n X ms loc env B ol (⟨some d,.call ⟨.builtin .append,[o1,o2].toArray,[t,t].toArray⟩,ty,pos,af,none⟩ :: rest) k) (q'.length <= 9223372036854775807 /\ q'.length * bb <= 140737488355328) (∀ v',GO P n X ms ((d,ov v') :: loc) env (rA r e v' q' :: B) ol rest k) := ⟨fun hs f => ⟨fun ok ρ h w s => by
 obtain ⟨h1,h2,h3⟩ := okR_some rfl ok
 obtain ⟨z,ti,el,hz⟩ := rt.e
 have hx := cvE (lx.h rfl ((s.x [o1]).fx o1 (by simp)))
 have hy := ly.h rfl ((s.x [o2]).fx o2 (by simp))
 have s' : Sy X.h0 X.w0 loc env (rA r e (.slice none 0 0) [] :: B) ρ h w := ⟨s.gr,s.lo,s.en,OwnL.nil r 0 h w e,(fun i hi => by cases hi),(fun r' hr' i hi => by cases hi),s.ow⟩
 refine Ops.cons (OpW.appendL (lo := 0) ts.h el.hi el.hz el.hc el.hk s.gr.sat (Nat.zero_le _) hx rfl (s'.ow.at 0 rfl).1 hy (by simpa using hs.1) (by rw [el.hb]; simpa using hs.2) fun v' w' own ow hbl => ?_)
 exact (f v').p h3 _ _ _ ((own_app s' own ow hbl).set ⟨rfl,own_one own⟩ h1 (h2 rfl))⟩⟩
instance {len : Nat} {xs : List (Nat × Operand)} {ps : List (Nat × SV)} [nn : IsIn d ms] [lx : Lup n true loc env xs ps] [ts : TS P t e] [rt : RT P e α r bb d0] [f : Els r 0 ps q] : Nx (GO P n X ms loc env B ol (⟨some d,.buildSlice t len xs.toArray,ty,pos,af,none⟩ :: rest) k) (q.length = len /\ Nat.ble (len * r.k) 16777216 = true) (∀ v,GO P n X ms ((d,ov v) :: loc) env (rA r e v q :: B) ol rest k) := ⟨fun sd g => ⟨fun ok ρ h w s => by
 obtain ⟨h1,h2,h3⟩ := okR_some rfl ok
 obtain ⟨e1,e2⟩ := lx.h rfl
 obtain ⟨z,i,el,hz⟩ := rt.e
 have hzk : z.cells.size = r.k := el.hc.trans el.hk
 have sx := s.x (xs.map (·.2))
 obtain ⟨rr,hf⟩ := f.h (xs := xs.map fun p => (p.1,ev n ρ p.2)) (by rw [List.map_map]; exact e1.symm) (by rw [List.map_map]; exact e2 fun p hp => sx.fx p.2 (List.mem_map.2 ⟨p,hp,rfl⟩))
 obtain ⟨arr,g1,g2⟩ := hf (sz := z.cells.size) (arr := ((List.replicate len z.cells.toList).flatten).toArray) hzk (by simp [sd.1])
 have ha : arr.toList = (xs.map fun p => (ev n ρ p.2).cells.toList).flatten := by
  rw [g2,Nat.zero_mul,Nat.zero_add,sd.1,List.drop_eq_nil_of_le (by simp)]
  simp only [List.take_zero,List.nil_append,List.append_nil,List.map_map]
  rfl
 refine Ops.cons (OpW.buildSliceO s.gr.sat ts.h (isZero_of el) (by rw [hzk]; exact rt.k) (by rw [hzk]; exact sd.2) g1 fun b w' gr hn hlo hb => ?_)
 have sv := s.put (v := .slice (some ⟨b,0,none⟩) len len) (S := ov (.slice (some ⟨b,0,none⟩) len len)) gr ⟨rfl,rfl⟩ h1 (h2 rfl)
 refine (g _).p h3 _ _ _ ⟨sv.gr,sv.lo,sv.en,s.ow.new gr s.gr.ext.size ?_ fun i hi => by cases hi; exact ⟨hlo,blk_lt hb,hn⟩⟩
 rw [List.map_map] at rr
 have hl := rr.length
 have hfl := flatten_length rr.lens
 have hsz : arr.size = len * r.k := by rw [<- Array.length_toList,ha, <- sd.1, <- hl]; exact hfl
 refine ⟨_,⟨?_,.inr ⟨b,len,arr,by rw [sd.1],Nat.zero_le _,hn,hb,by rw [sd.1]; exact Nat.le_refl _,hsz, ?_⟩⟩,rr⟩
 · rw [hfl,hl]
 · rw [ha]; exact List.take_of_length_le (by rw [<- ha,Array.length_toList,hsz,sd.1]; exact Nat.le_refl _)⟩⟩
instance [ts : TS P t e] {u : TypeId} {lc : Nat} [lx : Lu n true loc env o1 (lv r q)] : Nx (GO P n X ms loc env B ol (⟨some d,.binOp .eql t o1 (.const (.slice none 0 lc)) u,ty,pos,af,none⟩ :: rest) k) True (∀ b : Bool,(b = true -> q = []) -> GO P n X ms ((d,.cv (.bool b)) :: loc) env B ol rest k) := ⟨fun _ f => ⟨fun ok ρ h w s => by
 obtain ⟨h1,h2,h3⟩ := okR_some rfl ok
 have hx : LR r h _ q := lx.h rfl ((s.x [o1]).fx o1 (by simp))
 obtain ⟨bs,c,ex,_⟩ := hx.shape
 rw [ex] at hx
 exact Ops.cons (OpW.eqlNil ts.h ex rfl rfl ((f _ fun hb => hx.isNone hb).p h3 _ _ _ (s.set rfl h1 (h2 rfl))))⟩⟩
theorem own_put {h0 : PH} {w0 : World} {ρ : Env} {h : PH} {w w' : World} {r r' : Res} {b : Nat} {o : Obj} (nb : r.bor = false) (s : Sy h0 w0 loc env (r :: B) ρ h w) (p : Put w w' b o) (hp : r'.pr h w') (hb : r.fp b) (hf : ∀ i,r'.fp i -> r.fp i) : Sy h0 w0 loc env (r' :: B) ρ h w' := by
 have at_ := s.ow.at 0 rfl
 refine ⟨s.gr.put p (at_.2 b hb).1 ((at_.2 b hb).2.1 nb),s.lo,s.en,OwnB.set (j := 0) (r := r) nb (fun _ _ x => x) (by rw [p.size]; exact Nat.le_refl _) (fun r' hr' i hi => ?_) hp (fun i hi => .inl ⟨hf i hi,(at_.2 i (hf i hi)).1⟩) s.ow s.gr.ext.size rfl⟩
 have f := s.ow.foot r' (List.mem_of_mem_eraseIdx hr') i hi
 exact ⟨p.other i fun e => s.ow.apart 0 rfl r' hr' b hb (e ▸ hi),f.1⟩
class Pl (S : SV) (B : List Res) (v : outParam Value) (o : outParam Nat) : Prop where h : ∀ {h x},den h S x -> ∀ {b},v = .pointer (some ⟨b,0,none⟩) -> x = .pointer (some ⟨b,o,none⟩)
instance {o : Nat} : Pl (fo v o) B v o := ⟨fun ⟨b,off,e1,e2⟩ b' e => by rw [e] at e1; cases e1; rw [e2,Nat.zero_add]⟩
instance : Pl (ov v) B v 0 := ⟨fun u b' e => by rw [u.1,e]⟩
theorem splice_den {h : PH} {l cs l' : List SV} {o : Nat} {arr : Array Value} {vs : List Value} (u : denL h l arr.toList) (uc : denL h cs vs) (hs : l.take o ++ cs ++ l.drop (o + cs.length) = l') (hfit : o + cs.length <= l.length) : denL h l' (putIn arr o vs).toList := by
 have hl := u.length
 have hc := uc.length
 simp only [Array.length_toList] at hl
 rw [putIn_toList vs arr o (by omega), <- hs,hc]
 exact ((u.take o).app uc).app (u.drop _)
section
variable {l cs l' : List SV} {o : Nat} {T : SV} {u : TypeId}
instance [lx : Lu n true loc env o1 T] [pl : Pl T B v o] [pv : PV B v l e B'] [ly : Lu n true loc env o2 S] [os : O1 S] [sp : Spl l o [S] l'] [tz : TZ P t 1] : Nx (GO P n X ms loc env B ol (⟨none,.store t o1 o2,ty,pos,af,none⟩ :: rest) k) True (GO P n X ms loc env (rV v l' e :: B') ol rest k) := ⟨fun _ f => ⟨fun ok ρ h w s => by
 have hx := lx.h rfl ((s.x [o1]).fx o1 (by simp))
 have hy := ly.h rfl ((s.x [o2]).fx o2 (by simp))
 have s' := s.sb pv.h
 obtain ⟨b,arr,ev_,hb,ud⟩ := (s'.ow.at 0 rfl).1
 have hsz := ud.length
 simp only [Array.length_toList] at hsz
 have hfit := sp.h.2
 simp only [List.length_cons,List.length_nil] at hfit
 refine Ops.cons (OpW.store1 tz.h (pl.h hx ev_) rfl (hy.one os.h) hb (by omega) fun w' p => f.p (okR_none rfl ok) _ _ _ (own_put rfl s' p ⟨b,_,ev_,p.at_, ?_⟩ ev_ fun i hi => hi))
 exact splice_den (cs := [S]) (vs := [_]) ud (show den _ _ _ /\ True from ⟨hy,trivial⟩) sp.h.1 sp.h.2⟩⟩
instance [lx : Lu n true loc env o1 T] [pl : Pl T B v o] [pv : PV B v l e B'] [ly : Lu n true loc env o2 (.ag cs)] [oc : O1L cs] [sp : Spl l o cs l'] [tz : TZ P t m] [ml : RflE cs.length m] : Nx (GO P n X ms loc env B ol (⟨none,.store t o1 o2,ty,pos,af,none⟩ :: rest) k) True (GO P n X ms loc env (rV v l' e :: B') ol rest k) := ⟨fun _ f => ⟨fun ok ρ h w s => by
 have hx := lx.h rfl ((s.x [o1]).fx o1 (by simp))
 obtain ⟨vs,hy,uc⟩ := ly.h rfl ((s.x [o2]).fx o2 (by simp))
 have s' := s.sb pv.h
 obtain ⟨b,arr,ev_,hb,ud⟩ := (s'.ow.at 0 rfl).1
 have hsz := ud.length
 simp only [Array.length_toList] at hsz
 have hfit := sp.h.2
 have hc := uc.length
 have hm := ml.h
 refine Ops.cons (OpW.storeA tz.h (by omega) (pl.h hx ev_) hy (uc.one oc.h) hb (by omega) fun w' p => f.p (okR_none rfl ok) _ _ _ (own_put rfl s' p ⟨b,_,ev_,p.at_,splice_den ud uc sp.h.1 sp.h.2⟩ ev_ fun i hi => hi))⟩⟩
end
section
variable {x' : α} {p : Nat}
theorem own_elem {h0 : PH} {w0 : World} {ρ : Env} {h : PH} {w w' : World} {mk : List α -> List Res} {cs : List Value} {b cap : Nat} {arr : Array Value} (ua : UA B v α r e q mk) (s : Sy h0 w0 loc env B ρ h w) (hj : a < q.length) (rk : r.k = m) (hr : r.R h cs x') (ev_ : v = .slice (some ⟨b,0,none⟩) q.length cap) (hb : w.heap[b]? = some (.cells arr e (0,0))) (p : Put w w' b (.cells (putIn arr (a * m) cs) e (0,0))) : Sy h0 w0 loc env (mk (q.set a x')) ρ h w' := by
 obtain ⟨ho,hf⟩ := ua.own s.ow
 have hfb := hf b (by rw [ev_]; rfl)
 refine ⟨s.gr.put p hfb.2 hfb.1,s.lo,s.en,ua.put s.ow p (by rw [ev_]; rfl) ?_ (List.length_set ..)⟩
 obtain ⟨css0,a0,b0⟩ := ho
 rcases a0.2 with ⟨hn,_⟩ | ⟨bb2,cap2,arr2,h5,h6,h7,h8,h9,h10,h11⟩
 · rw [ev_] at hn; cases hn
 · rw [ev_] at h5; cases h5
   rw [hb] at h8; cases h8
   have u : RelA r h arr q := ⟨css0,arr.toList.drop css0.flatten.length,by
    have hl := flatten_length b0.lens
    rw [b0.length] at hl
    have h12 := h11
    rw [<- hl] at h12
    conv => lhs; rw [<- List.take_append_drop css0.flatten.length arr.toList,h12],b0⟩
   have hset := RelA.set u hj hr
   rw [rk] at hset
   obtain ⟨css,z,hz,rr⟩ := hset
   have hl := rr.length
   rw [List.length_set] at hl
   have hfl := flatten_length rr.lens
   refine ⟨css,⟨by rw [List.length_set,hfl,hl],.inr ⟨b,cap,_,by rw [List.length_set]; exact ev_,Nat.zero_le _,hfb.2,p.at_,by rw [List.length_set]; exact h9,by rw [putIn_size]; exact h10, ?_⟩⟩,rr⟩
   rw [hz,List.length_set,List.take_append_of_le_length (by rw [hfl,hl]; exact Nat.le_refl _)]
   exact List.take_of_length_le (by rw [hfl,hl]; exact Nat.le_refl _)
instance {mk : List α -> List Res} [lx : Lu n true loc env o1 (pa v m a 0)] [ua : UA B v α r e q mk] [rk : Rk r m] [ly : Lu n true loc env o2 S] [rd : Rd r S x'] [tz : TZ P t m] : Nx (GO P n X ms loc env B ol (⟨none,.store t o1 o2,ty,pos,af,none⟩ :: rest) k) (a < q.length) (GO P n X ms loc env (mk (q.set a x')) ol rest k) := ⟨fun hj f => ⟨fun ok ρ h w s => by
 have hx := lx.h rfl ((s.x [o1]).fx o1 (by simp))
 have hy := ly.h rfl ((s.x [o2]).fx o2 (by simp))
 obtain ⟨b,cap,arr,ev_,_,hnb,hb,hle,ur⟩ := OwnL.block (ua.own s.ow).1 (by intro e; rw [e] at hj; cases hj)
 obtain ⟨b',l',c',e1,e2⟩ := hx
 rw [ev_] at e1; cases e1
 have hr := rd.h hy
 have hfit := ur.fit rk.h.symm hj
 have hlen := r.len hr
 rw [rk.h] at hlen
 cases hv : ev n ρ o2 with
 | agg vs =>
   rw [hv] at hr hlen
   have h1 := r.one hr
   exact Ops.cons (OpW.storeA (cs := vs.toList) tz.h hlen e2 (by rw [hv]) h1 hb (by omega) fun w' p => f.p (okR_none rfl ok) _ _ _ (own_elem ua s hj rk.h hr ev_ hb p))
 | _ =>
   rw [hv] at hr hlen
   have hm : m = 1 := by rw [<- hlen]; rfl
   subst hm
   exact Ops.cons (OpW.store1 tz.h e2 hv (r.one hr _ (by simp [Value.cells])) hb (by omega) fun w' p => f.p (okR_none rfl ok) _ _ _ (own_elem ua s hj rk.h hr ev_ hb (by simpa [putIn,Value.cells] using p)))⟩⟩
end
end
class GDst (ol : List Oper) (j : Nat) (e : outParam Nat) : Prop where h : (ol[j]?).bind (·.dst) = some e
instance {o : Op} {g : Option (Nat × Bool)} : GDst (⟨some d,o,ty,pos,af,g⟩ :: ol) 0 d := ⟨rfl⟩
instance {o : Oper} {j e : Nat} [i : GDst ol j e] : GDst (o :: ol) (j + 1) e := ⟨by simpa using i.h⟩
class Gd (S : SV) (b : Bool) (c : outParam Bool) : Prop where
 h : ∀ {h v},den h S v -> (c = true /\ v = .bool b) \/ (c = false /\ (v = undef \/ ∃ b',v = .bool b' /\ (b' == b) = false))
instance {g : Bool} : Gd (.cv (.bool g)) true g := ⟨fun u => by cases u; cases g; exact .inr ⟨rfl,.inr ⟨false,rfl,rfl⟩⟩; exact .inl ⟨rfl,rfl⟩⟩
class Nt (a : Bool) (b : outParam Bool) : Prop where h : (!a) = b
instance (priority := high) : Nt true false := ⟨rfl⟩
instance (priority := high) : Nt false true := ⟨rfl⟩
instance (priority := low) {a : Bool} : Nt a (!a) := ⟨rfl⟩
class An (a b : Bool) (c : outParam Bool) : Prop where h : (a && b) = c
instance (priority := low) {a b : Bool} : An a b (a && b) := ⟨rfl⟩
instance {g g2 : Bool} [nt : Nt g g2] : Gd (.cv (.bool g)) false g2 := ⟨fun u => by rw [<- nt.h]; cases u; cases g; exact .inl ⟨rfl,rfl⟩; exact .inr ⟨rfl,.inr ⟨true,rfl,rfl⟩⟩⟩
instance {g q b c c2 : Bool} [i : Gd (.cv (.bool g)) b c] [an : An q c c2] : Gd (.cn q (.cv (.bool g))) b c2 := ⟨fun {h v} u => by
 rw [<- an.h]
 cases q with
 | false => exact .inr ⟨rfl,.inl (u.2 rfl)⟩
 | true => exact i.h (u.1 rfl)⟩
theorem guard_step {h0 : PH} {w0 : World} {ρ : Env} {h : PH} {w : World} {K : Env -> World -> Prop} {j : Nat} {b : Bool} {g : Nat} {Sg : SV} {q : Bool} [gd : GDst ol j g] [bl : RflE (Nat.ble n g) false] [gc : Gd Sg b q] [st : St P n q loc env B ms d op sd S]
 (hg : den h Sg (ρ g)) (s : Sx h0 w0 loc env B op.operands.toList ρ h w) (hs : q = true -> sd) (hk : ∀ v h' w',Gr h w h' w' -> den h' (.cn q S) v -> K (upd ρ d v) w') : OpG P n ol.toArray ⟨some d,op,ty,pos,af,some (j,b)⟩ ρ w K := by
 have hd : (ol.toArray[j]?).bind (·.dst) = some g := by simpa using gd.h
 rcases gc.h hg with ⟨hq,hv⟩ | ⟨hq,hv | ⟨b',hv,hb⟩⟩
 · exact OpG.live hd (blt_of bl.h) hv (st.h hq (hs hq) s fun v h' w' g u => hk v h' w' g ⟨fun _ => u,fun e => absurd (hq.symm.trans e) Bool.noConfusion⟩)
 · exact OpG.dead0 hd (blt_of bl.h) hv (hk _ _ _ (Gr.refl s.gr.sat) ⟨fun e => absurd (hq.symm.trans e) Bool.false_ne_true,fun _ => rfl⟩)
 · exact OpG.dead hd (blt_of bl.h) hv hb (hk _ _ _ (Gr.refl s.gr.sat) ⟨fun e => absurd (hq.symm.trans e) Bool.false_ne_true,fun _ => rfl⟩)
theorem Ops.ofG {ops : Array Oper} {K : Env -> World -> Prop} {o : Oper} {ρ : Env} {w : World} (g : OpG P n ops o ρ w (Ops P n ops K rest)) : Ops P n ops K (o :: rest) ρ w := by
 unfold Ops; unfold OpG at g
 split
 · rename_i hw; rw [if_pos hw] at g; exact g
 · rename_i hw; rw [if_neg hw] at g; exact g
instance {j g : Nat} {b q : Bool} {Sg : SV} {p : Prop} [gd : GDst ol j g] [bl : RflE (Nat.ble n g) false] [lg : LkT loc env g Sg] [gc : Gd Sg b q] [st : St P n q loc env B ms d op sd S] [tp : TP q p] : Nx (GO P n X ms loc env B ol (⟨some d,op,ty,pos,af,some (j,b)⟩ :: rest) k) (memN d (env.map (·.1)) = false /\ (p -> sd)) (GO P n X ms ((d,.cn q S) :: loc) env B ol rest k) := ⟨fun hs a => ⟨fun ok ρ h w s => by
 obtain ⟨h1,h2,h3⟩ := okR_some rfl ok
 exact Ops.ofG (guard_step (gc := gc) (st := st) (lg.h.elim s.lo.mem s.en.mem) (s.x _) (fun hq => hs.2 (tp.h.1 hq)) fun v h' w' g u => a.p h3 _ _ _ (s.put g u h1 hs.1))⟩⟩
instance (priority := high) {j g : Nat} {b : Bool} {Sg : SV} [gd : GDst ol j g] [bl : RflE (Nat.ble n g) false] [lg : LkT loc env g Sg] [gc : Gd Sg b false] : Nx (GO P n X ms loc env B ol (⟨some d,op,ty,pos,af,some (j,b)⟩ :: rest) k) (memN d (env.map (·.1)) = false) (GO P n X ms ((d,.cn false (.cv undef)) :: loc) env B ol rest k) := ⟨fun hs a => ⟨fun ok ρ h w s => by
 obtain ⟨h1,h2,h3⟩ := okR_some rfl ok
 have hd : (ol.toArray[j]?).bind (·.dst) = some g := by simpa using gd.h
 refine Ops.ofG ?_
 have key : Ops P n ol.toArray (fun ρ w => run X.c.round P X.T k .normal (mkX X.c n ρ) w) rest (upd ρ d undef) w := a.p h3 _ _ _ (s.put (S := .cn false (.cv undef)) (Gr.refl s.gr.sat) ⟨fun e => (by cases e),fun _ => rfl⟩ h1 hs)
 rcases gc.h (lg.h.elim s.lo.mem s.en.mem) with ⟨hq,_⟩ | ⟨_,hv | ⟨b',hv,hb⟩⟩
 · cases hq
 · exact OpG.dead0 hd (blt_of bl.h) hv key
 · exact OpG.dead hd (blt_of bl.h) hv hb key⟩⟩
theorem gIf {o : Operand} {b : Bool} {p : Prop} [l : Lu n true loc env o (.cv (.bool b))] [tp : TP b p] (ht : p -> GW P n X ms [] env B x k) (hf : ¬ p -> GW P n X ms [] env B y k) : GW P n X ms loc env B (.cond o x y) k := ⟨fun ρ h w s =>
 WT.cond (cvE (l.h rfl ((s.x [o]).fx o (by simp)))) (fun e => (ht (tp.h.1 e)).p _ _ _ ⟨s.gr,trivial,s.en,s.ow⟩) fun e => (hf (fun q => by rw [tp.h.2 q] at e; cases e)).p _ _ _ ⟨s.gr,trivial,s.en,s.ow⟩⟩
instance (priority := high) {o : Operand} [l : Lu n true loc env o (.cv (.bool true))] : Nx (GW P n X ms loc env B (.cond o x y) k) True (GW P n X ms [] env B x k) := ⟨fun _ a => gIf (fun _ => a) fun q => absurd trivial q⟩
instance (priority := high) {o : Operand} [l : Lu n true loc env o (.cv (.bool false))] : Nx (GW P n X ms loc env B (.cond o x y) k) True (GW P n X ms [] env B y k) := ⟨fun _ a => gIf (fun q => q.elim) fun _ => a⟩
class ArgE (i : Nat) (args : List SV) (env : outParam EL) : Prop where
 h : ∀ {h vs},denL h args vs -> EnvOk h (env0 i vs) env
 n : ∀ j,j < i -> nIn j env = true
instance {i : Nat} : ArgE i [] [] := ⟨fun _ => trivial,fun _ _ => rfl⟩
instance {i : Nat} {args : List SV} [a : ArgE (i + 1) args env] : ArgE i (S :: args) ((i,S) :: env) := ⟨fun {h vs} u => by
 cases vs with
 | nil => exact u.elim
 | cons v vs =>
   refine ⟨?_,(a.h u.2).upd (v := v) (a.n i (Nat.lt_succ_self i))⟩
   show den h S (upd (env0 (i + 1) vs) i v i)
   rw [upd_at]; exact u.1,fun j hj => by
 unfold nIn
 rw [beq_ne (by omega : i ≠ j),a.n j (by omega)]; rfl⟩
def resL (P : Program) (n : Nat) (ρ : Env) (w : World) : List ResultVar -> List Value -> Prop
 | [],[] => True
 | r :: rs,v :: vs => resOf P n ρ w r v /\ resL P n ρ w rs vs
 | _,_ => False
def res1 : List Value -> Value
 | [v] => v
 | l => .tuple l.toArray
def oneOf : List SV -> SV
 | [S] => S
 | l => .tp l
def fE (n : Nat) (R : Env -> World -> Prop) : Exit -> Act -> World -> Prop
 | .normal,a,w | .ret,a,w => ∃ ρ,(a = mkX X0 n ρ /\ R ρ w) \/ ∃ D,a = mkX ⟨none,[{ target := .collected D,args := #[] }]⟩ n ρ /\ w.heap[D]? = some (.deferred (some [])) /\ ∀ w',Put w w' D (.deferred none) -> R ρ w'
 | _,_,_ => False
def fQ (P : Program) (n : Nat) (rs : List ResultVar) (h0 : PH) (w0 : World) (S : SV) (ρ : Env) (w : World) : Prop := ∃ vs h',resL P n ρ w rs vs /\ Gr h0 w0 h' w /\ den h' S (res1 vs)
theorem mapM_res {ρ : Env} {w : World} : ∀ {rs : List ResultVar} {vs : List Value},resL P n ρ w rs vs -> (rs.mapM (resOne (mk n ρ).tmps)).run P w = .ok vs w
 | [],[],_ => rfl
 | r :: rs,v :: vs,u => by
   have h1 : (resOne (mk n ρ).tmps r).run P w = .ok v w := u.1
   have h2 := mapM_res u.2
   simp only [List.mapM_cons,Sem.run_bind,h1,Result.andThen,h2]; rfl
theorem callsE {f : FuncId} {fn : Func} {c : Code} {vs : List Value} {w : World} {R : Env -> World -> Prop} {R' : Value -> World -> Prop} (hf : P.funcs[f]? = some fn) (hb : fn.body = some c) (hn : Nat.ble vs.length fn.ntmps = true)
 (h : WT X0 P fn.ntmps c (fE fn.ntmps R) (env0 0 vs) w) (hR : ∀ ρ w,R ρ w -> ∃ v,(results fn (mk fn.ntmps ρ).tmps).run P w = .ok v w /\ R' v w) : Calls P f vs.toArray w fun e w' => ∃ v,e = .returned v /\ R' v w' := by
 refine (callsIn_wide (n := 0)).1 ?_
 refine callsIn_of_wp_marks hf hb trivial ?_
 have := mk_env0 (Nat.le_of_ble_eq_true hn)
 simp only [List.size_toArray]
 rw [this]
 refine wpIn_mono h ?_
 intro e a w' hq
 have key : (∃ ρ,(a = mkX X0 fn.ntmps ρ /\ R ρ w') \/ ∃ D,a = mkX ⟨none,[{ target := .collected D,args := #[] }]⟩ fn.ntmps ρ /\ w'.heap[D]? = some (.deferred (some [])) /\ ∀ w2,Put w' w2 D (.deferred none) -> R ρ w2) ->
  bodyPostM (FX X0) 0 P fn (fun e w' => ∃ v,e = .returned v /\ R' v w') .ret a w' := by
  rintro ⟨ρ,⟨rfl,r⟩ | ⟨D,rfl,hD,r⟩⟩
  · obtain ⟨v,h1,h2⟩ := hR _ _ r; exact ⟨v,h1,v,rfl,h2⟩
  · obtain ⟨v,h1,h2⟩ := hR _ _ (r _ (Put.obj (o := .deferred none) (blk_lt hD)))
    exact ⟨by simp,.inl ⟨D,_,rfl,run_takeDeferred hD,v,h1,v,rfl,h2⟩⟩
 cases e with
 | normal => exact key hq
 | ret => exact key hq
 | _ => exact hq.elim
theorem res_run {fn : Func} {rs : List ResultVar} {ρ : Env} {w : World} {vs : List Value} (hr : fn.results = rs.toArray) (hres : resL P fn.ntmps ρ w rs vs) : (results fn (mk fn.ntmps ρ).tmps).run P w = .ok (res1 vs) w := by
 have hm := mapM_res hres
 rw [results_eq,hr]
 simp only [List.mapM_toArray,Sem.run_bind,Sem.run_map,hm]
 match vs with
 | [] => rfl
 | [v] => rfl
 | v :: u :: vs => simp [res1]
theorem ctB {f : FuncId} {fn : Func} {args : List SV} {rs : List ResultVar} {B : List Res} (call : IsFn P f) (hf : P.funcs[f]? = some fn) (hn : fn.ntmps = n) (hb : fn.body = some c) (hr : fn.results = rs.toArray) (hl : Nat.ble args.length n = true) [ae : ArgE 0 args env] (ms : List Nat) (body : ∀ h0 w0,sd -> GW P n ⟨fE n (fQ P n rs h0 w0 S),h0,w0,X0⟩ ms [] env (B.map bo) c .fin) : CtB P f args B sd S := ⟨call,fun hs w0 h w vs sat ow u => by
 subst hn
 refine (callsE hf hb (by rw [u.length]; exact hl) ((body h w hs).p (env0 0 vs) h w ⟨Gr.refl sat,trivial,ae.h u,ow.bo w⟩) (R' := fun v w' => ∃ h',Gr h w h' w' /\ den h' S v) ?_).mono ?_
 · rintro ρ w' ⟨vs,h',hres,g,d⟩
   exact ⟨_,res_run hr hres,h',g,d⟩
 · rintro e w' ⟨v,rfl,h',g,d⟩
   exact ⟨v,h',rfl,g,d⟩⟩
theorem ctI {f : FuncId} {fn : Func} {args : List SV} {rs : List ResultVar} (call : IsFn P f) (hf : P.funcs[f]? = some fn) (hn : fn.ntmps = n) (hb : fn.body = some c) (hr : fn.results = rs.toArray) (hl : Nat.ble args.length n = true) [ae : ArgE 0 args env] (ms : List Nat) (body : ∀ h0 w0,sd -> GW P n ⟨fE n (fQ P n rs h0 w0 S),h0,w0,X0⟩ ms [] env [] c .fin) : Ct P f args sd S :=
 have cb : CtB P f args [] sd S := ctB call hf hn hb hr hl ms body
 ⟨call,fun hs _ w _ sat u => cb.h (w0 := w) hs sat trivial u⟩
class Fz (B : List Res) (S : SV) (T : outParam SV) : Prop where h : ∀ {h h'},h.le h' -> (∀ r ∈ B,r.fz h') -> ∀ {v},den h S v -> den h' T v
class FzL (B : List Res) (S : List SV) (T : outParam (List SV)) : Prop where h : ∀ {h h'},h.le h' -> (∀ r ∈ B,r.fz h') -> ∀ {v},denL h S v -> denL h' T v
instance (priority := low) : Fz B S S := ⟨fun le _ _ u => u.mono le⟩
instance : FzL B [] [] := ⟨fun _ _ v u => by cases v; trivial; exact u⟩
instance {T : SV} {Ss Ts : List SV} [i : Fz B S T] [j : FzL B Ss Ts] : FzL B (S :: Ss) (T :: Ts) := ⟨fun le z v u => by
 cases v with
 | nil => exact u
 | cons v vs => exact ⟨i.h le z u.1,j.h le z u.2⟩⟩
instance {l m : List SV} [i : FzL B l m] : Fz B (.ag l) (.ag m) := ⟨fun le z v ⟨vs,e,u⟩ => ⟨vs,e,i.h le z u⟩⟩
instance {α : Type} {r : Rp α} {v : Value} {q : List α} [ha : MA B v α r e q] : Fz B (ov v) (lv r q) := ⟨fun {h h'} le z x u => by
 have : LR r h' v q := z _ ha.h
 rw [u.1]; exact this⟩
instance {v : Value} {l : List SV} [hv : MV B v l t] : Fz B (ov v) (.pk l 0) := ⟨fun {h h'} le z x u => by
 have : den h' (.pk l 0) v := z _ hv.h
 rw [u.1]; exact this⟩
class Rs (P : Program) (n : Nat) (loc env : EL) (B : List Res) (rs : List ResultVar) (Ss : outParam (List SV)) : Prop where
 h : ∀ {h0 w0 ρ h w},Sy h0 w0 loc env B ρ h w -> ∃ vs,resL P n ρ w rs vs /\ denL h Ss vs
instance : Rs P n loc env B [] [] := ⟨fun _ => ⟨[],trivial,trivial⟩⟩
instance {rs : List ResultVar} {Ss : List SV} {s : Nat} [lx : Lu n true loc env (.tmp s) S] [i : Rs P n loc env B rs Ss] : Rs P n loc env B (.tmp s :: rs) (S :: Ss) := ⟨fun {h0 w0 ρ h w} y => by
 obtain ⟨vs,a,b⟩ := i.h y
 exact ⟨_ :: vs,⟨resOf_tmp rfl,a⟩,lx.h rfl ((y.x [.tmp s]).fx (.tmp s) (by simp)),b⟩⟩
instance {rs : List ResultVar} {Ss : List SV} {s : Nat} {v : Value} {l : List SV} [ta : TA P t true] [tz : TZ P t m] [lx : Lu n true loc env (.tmp s) (ov v)] [hv : HV B v l e] [ml : RflE l.length m] [i : Rs P n loc env B rs Ss] : Rs P n loc env B (.cell s t :: rs) (.ag l :: Ss) := ⟨fun {h0 w0 ρ h w} y => by
 obtain ⟨vs,a,b⟩ := i.h y
 have hx := lx.h rfl ((y.x [.tmp s]).fx (.tmp s) (by simp))
 obtain ⟨b',arr,e1,e2,e3⟩ := hv.own y.ow
 have hl := e3.length
 simp only [Array.length_toList] at hl
 have hm := ml.h
 refine ⟨.agg arr.toList.toArray :: vs,⟨resOf_cellA ta.h tz.h (hx.1.trans e1) e2 (by omega) ?_,a⟩,⟨arr.toList,rfl,e3⟩,b⟩
 unfold cut; rw [List.drop_zero]; exact List.take_of_length_le (by simp; omega)⟩
theorem fQ_of {rs : List ResultVar} {h0 : PH} {w0 : World} {T T' : SV} {Ss Ts : List SV} [r : Rs P n loc env B rs Ss] [f : FzL B Ss Ts] (hS : oneOf Ts = T') [eq : EqS T' T sd] (hs : sd) {ρ : Env} {h : PH} {w : World} (s : Sy h0 w0 loc env B ρ h w) : fQ P n rs h0 w0 T ρ w := by
 obtain ⟨vs,a,b⟩ := r.h s
 obtain ⟨h',g,le,z⟩ := OwnB.all s.gr s.ow
 have hd := f.h le z b
 have hv : den h' T' (res1 vs) := by
  subst hS
  match Ts,vs,hd with
  | [],[],_ => exact ⟨[],rfl,trivial⟩
  | [S],[v],d => exact d.1
  | S :: T :: Ss,v :: u :: vs,d => exact ⟨v :: u :: vs,rfl,d⟩
 exact ⟨vs,h',a,g,eq.h hs hv⟩
class Fin (X : Fix) (n : Nat) (R : outParam (Env -> World -> Prop)) (P : Program) (loc env : EL) (B : List Res) (B' : outParam (List Res)) : Prop where
 h : (∀ ρ h w,Sy X.h0 X.w0 loc env B' ρ h w -> R ρ w) -> ∀ e,e = .normal \/ e = .ret -> ∀ ρ h w,Sy X.h0 X.w0 loc env B ρ h w -> run X.c.round P X.T .fin e (mkX X.c n ρ) w
instance {R : Env -> World -> Prop} {h0 : PH} {w0 : World} : Fin ⟨fE n R,h0,w0,X0⟩ n R P loc env B B := ⟨fun hR e he ρ h w s => by rcases he with rfl | rfl <;> exact ⟨ρ,.inl ⟨rfl,hR ρ h w s⟩⟩⟩
instance {R : Env -> World -> Prop} {h0 : PH} {w0 : World} {D : Nat} [po : PO B D (.deferred (some [])) B'] : Fin ⟨fE n R,h0,w0,⟨none,[{ target := .collected D,args := #[] }]⟩⟩ n R P loc env B B' := ⟨fun hR e he ρ h w s => by
 have s' := s.sb po.h
 obtain ⟨a,f,d,g⟩ := s'.ow
 have key : ∀ w',Put w w' D (.deferred none) -> R ρ w' := fun w' p => hR ρ h w' ⟨s'.gr.put p (f D rfl).1 ((f D rfl).2.1 rfl),s'.lo,s'.en,OwnB.after p g fun r hr q => d r hr D rfl q⟩
 rcases he with rfl | rfl <;> exact ⟨ρ,.inr ⟨D,rfl,a,key⟩⟩⟩
theorem gEnd {rs : List ResultVar} {h0 : PH} {w0 : World} {T T' : SV} {Ss Ts : List SV} {R0 : Exit -> Act -> World -> Prop} {C : Ctx} [fi : Fin ⟨R0,h0,w0,C⟩ n (fQ P n rs h0 w0 T) P loc env B B'] [r : Rs P n loc env B' rs Ss] [f : FzL B' Ss Ts] (hS : oneOf Ts = T') [eq : EqS T' T sd] (hs : sd) {e : Exit} (he : e = .normal \/ e = .ret) : GX P n ⟨R0,h0,w0,C⟩ ms loc env B e .fin :=
 ⟨fun ρ h w s => fi.h (fun ρ h w s => fQ_of (r := r) (f := f) hS (eq := eq) hs s) e he ρ h w s⟩
class OneOf (l : List SV) (S : outParam SV) : Prop where h : oneOf l = S
instance : OneOf [S] S := ⟨rfl⟩
instance : OneOf [] (.tp []) := ⟨rfl⟩
instance {S T : SV} {l : List SV} : OneOf (S :: T :: l) (.tp (S :: T :: l)) := ⟨rfl⟩
instance {rs : List ResultVar} {h0 : PH} {w0 : World} {T T' : SV} {Ss Ts : List SV} {C : Ctx} [fi : Fin ⟨fE n (fQ P n rs h0 w0 T),h0,w0,C⟩ n (fQ P n rs h0 w0 T) P loc env B B'] [r : Rs P n loc env B' rs Ss] [f : FzL B' Ss Ts] [o : OneOf Ts T'] [eq : EqS T' T sd] : Nx (GX P n ⟨fE n (fQ P n rs h0 w0 T),h0,w0,C⟩ ms loc env B .ret .fin) True sd := ⟨fun _ e => gEnd (fi := fi) (r := r) (f := f) o.h (eq := eq) e (.inr rfl)⟩
class SbE (v : Value) (T : SV) (l : EL) (l' : outParam EL) : Prop where h : ∀ {h ρ},(∀ x,x = v -> den h T x) -> EnvOk h ρ l -> EnvOk h ρ l'
class SbL (v : Value) (T : SV) (l : List SV) (l' : outParam (List SV)) : Prop where h : ∀ {h vs},(∀ x,x = v -> den h T x) -> denL h l vs -> denL h l' vs
class SbB (v : Value) (T : SV) (B : List Res) (B' : outParam (List Res)) : Prop where h : ∀ {w0 h w},(∀ h',h.le h' -> ∀ x,x = v -> den h' T x) -> OwnB w0 B h w -> OwnB w0 B' h w /\ ∀ r ∈ B', ∃ r' ∈ B, ∀ i,r.fp i -> r'.fp i
instance {v : Value} {T : SV} : SbE v T [] [] := ⟨fun _ u => u⟩
instance (priority := high) {v : Value} {T : SV} {s : Nat} {l l' : EL} [i : SbE v T l l'] : SbE v T ((s,ov v) :: l) ((s,T) :: l') := ⟨fun q u => ⟨q _ u.1.1,i.h q u.2⟩⟩
instance {v : Value} {S T : SV} {s : Nat} {l l' : EL} [i : SbE v T l l'] : SbE v T ((s,S) :: l) ((s,S) :: l') := ⟨fun q u => ⟨u.1,i.h q u.2⟩⟩
instance {v : Value} {T : SV} : SbL v T [] [] := ⟨fun _ u => u⟩
instance (priority := high) {v : Value} {T : SV} {l l' : List SV} [i : SbL v T l l'] : SbL v T (ov v :: l) (T :: l') := ⟨fun {h vs} q u => by
 match vs,u with
 | _ :: _,u => exact ⟨q _ u.1.1,i.h q u.2⟩⟩
instance {v : Value} {S T : SV} {l l' : List SV} [i : SbL v T l l'] : SbL v T (S :: l) (S :: l') := ⟨fun {h vs} q u => by
 match vs,u with
 | _ :: _,u => exact ⟨u.1,i.h q u.2⟩⟩
instance {v : Value} {T : SV} : SbB v T [] [] := ⟨fun _ o => ⟨o,fun _ h => by cases h⟩⟩
instance {v : Value} {T : SV} {r : Res} {B B' : List Res} [i : SbB v T B B'] : SbB v T (r :: B) (r :: B') := ⟨fun q o => by
 obtain ⟨a,b⟩ := i.h q o.2.2.2
 refine ⟨⟨o.1,o.2.1,fun r' hr' j hj hj' => ?_,a⟩,fun r' hr' => ?_⟩
 · obtain ⟨r2,h2,h3⟩ := b r' hr'
   exact o.2.2.1 r2 h2 j hj (h3 j hj')
 · rcases List.mem_cons.1 hr' with rfl | hr'
   · exact ⟨_,List.mem_cons_self ..,fun _ x => x⟩
   · obtain ⟨r2,h2,h3⟩ := b r' hr'
     exact ⟨r2,List.mem_cons_of_mem _ h2,h3⟩⟩
instance (priority := high) {v x : Value} {T : SV} {l l' : List SV} {B B' : List Res} [a : SbL v T l l'] [i : SbB v T B B'] : SbB v T (rV x l t :: B) (rV x l' t :: B') := ⟨fun q o => by
 obtain ⟨a',b⟩ := i.h q o.2.2.2
 refine ⟨⟨?_,o.2.1,fun r' hr' j hj hj' => ?_,a'⟩,fun r' hr' => ?_⟩
 · obtain ⟨b',arr,e1,e2,e3⟩ := o.1
   exact ⟨b',arr,e1,e2,a.h (q _ (fun _ _ x => x)) e3⟩
 · obtain ⟨r2,h2,h3⟩ := b r' hr'
   exact o.2.2.1 r2 h2 j hj (h3 j hj')
 · rcases List.mem_cons.1 hr' with rfl | hr'
   · exact ⟨_,List.mem_cons_self ..,fun _ x => x⟩
   · obtain ⟨r2,h2,h3⟩ := b r' hr'
     exact ⟨r2,List.mem_cons_of_mem _ h2,h3⟩⟩
theorem Sy.fz {α : Type} {v : Value} {r : Rp α} {q : List α} {h0 : PH} {w0 : World} {loc' : EL} {B1 B2 : List Res} {ρ : Env} {h : PH} {w : World} [pa : PA B v α r e q B1] [sl : SbE v (lv r q) loc loc'] [se : SbE v (lv r q) env env'] [sb : SbB v (lv r q) B1 B2] (s : Sy h0 w0 loc env B ρ h w) : ∃ h',Sy h0 w0 loc' env' B2 ρ h' w := by
 have s' := s.sb pa.h
 obtain ⟨h',g,le,z,o⟩ := OwnB.freeze (j := 0) s'.gr s'.ow rfl
 have z' : LR r h' v q := z
 have key : ∀ x,x = v -> den h' (lv r q) x := fun x e => by subst e; exact z'
 exact ⟨h',g,sl.h key (s.lo.mono le),se.h key (s.en.mono le),(sb.h (fun h2 l2 x e => by subst e; exact z'.mono l2) o).1⟩
theorem gFz {α : Type} (v : Value) {r : Rp α} {q : List α} {loc' : EL} {B1 B2 : List Res} [pa : PA B v α r e q B1] [sl : SbE v (lv r q) loc loc'] [se : SbE v (lv r q) env env'] [sb : SbB v (lv r q) B1 B2] (g : GW P n X ms loc' env' B2 c k) : GW P n X ms loc env B c k := ⟨fun ρ h w s => by
 obtain ⟨h',s'⟩ := s.fz (v := v) (r := r) (q := q) (pa := pa) (sl := sl) (se := se) (sb := sb)
 exact g.p ρ h' w s'⟩
class FO (Ss : List SV) (v : outParam Value) : Prop where t : True
instance {v : Value} {l : List SV} : FO (ov v :: l) v := ⟨trivial⟩
class SameDom (a b : EL) : Prop where h : b.map (·.1) = a.map (·.1)
instance : SameDom [] [] := ⟨rfl⟩
instance {s : Nat} {S T : SV} {a b : EL} [i : SameDom a b] : SameDom ((s,S) :: a) ((s,T) :: b) := ⟨by simp [i.h]⟩
instance (priority := 50) {α : Type} {v : Value} {r : Rp α} {q : List α} {loc' : EL} {B1 B2 : List Res} {f : Operand} {xs : List Operand} {ts : Array TypeId} {Ss : List SV} [lx : Lus n true loc env xs Ss] [fo : FO Ss v] [pa : PA B v α r e q B1] [sl : SbE v (lv r q) loc loc'] [se : SbE v (lv r q) env env'] [sb : SbB v (lv r q) B1 B2] [d1 : SameDom loc loc'] [d2 : SameDom env env'] :
 Nx (GO P n X ms loc env B ol (⟨some d,.call ⟨.value f,xs.toArray,ts⟩,ty,pos,af,none⟩ :: rest) k) True (GO P n X ms loc' env' B2 ol (⟨some d,.call ⟨.value f,xs.toArray,ts⟩,ty,pos,af,none⟩ :: rest) k) := ⟨fun _ g => ⟨fun ok ρ h w s => by
 obtain ⟨h',s'⟩ := s.fz (v := v) (r := r) (q := q) (pa := pa) (sl := sl) (se := se) (sb := sb)
 exact g.p (by rw [d1.h,d2.h]; exact ok) ρ h' w s'⟩⟩
class CtO (P : Program) (f : FuncId) (args : List SV) (side : outParam Prop) (T : outParam (Gh -> List Res)) : Prop where
 fn : IsFn P f
 h : side -> ∀ {h w vs},Sat h w -> denL h args vs -> Calls P f vs.toArray w fun e w' => ∃ g : Gh,e = .returned g.v /\ ∃ h',Gr h w h' w' /\ g.v.oneCell' = true /\ OwnB w (T g) h' w'
def fO (P : Program) (n : Nat) (rs : List ResultVar) (h0 : PH) (w0 : World) (T : Gh -> List Res) (ρ : Env) (w : World) : Prop := ∃ (g : Gh) (h' : PH),resL P n ρ w rs [g.v] /\ Gr h0 w0 h' w /\ g.v.oneCell' = true /\ OwnB w0 (T g) h' w
theorem ctO {f : FuncId} {fn : Func} {args : List SV} {rs : List ResultVar} {T : Gh -> List Res} (call : IsFn P f) (hf : P.funcs[f]? = some fn) (hn : fn.ntmps = n) (hb : fn.body = some c) (hr : fn.results = rs.toArray) (hl : Nat.ble args.length n = true) [ae : ArgE 0 args env] (ms : List Nat) (body : ∀ h0 w0,sd -> GW P n ⟨fE n (fO P n rs h0 w0 T),h0,w0,X0⟩ ms [] env [] c .fin) : CtO P f args sd T := ⟨call,fun hs h w vs sat u => by
 subst hn
 refine (callsE hf hb (by rw [u.length]; exact hl) ((body h w hs).p (env0 0 vs) h w ⟨Gr.refl sat,trivial,ae.h u,trivial⟩) (R' := fun v w' => ∃ g : Gh,g.v = v /\ ∃ h',Gr h w h' w' /\ g.v.oneCell' = true /\ OwnB w (T g) h' w') ?_).mono ?_
 · rintro ρ w' ⟨g,h',hres,x⟩
   exact ⟨_,res_run hr hres,g,rfl,h',x⟩
 · rintro e w' ⟨v,rfl,g,rfl,x⟩
   exact ⟨g,rfl,x⟩⟩
theorem CtO.az {f : FuncId} {az bs : List SV} {T : Gh -> List Res} (c : CtO P f bs sd T) (i : ∀ {h vs},denL h az vs -> denL h bs vs) : CtO P f az sd T := ⟨c.fn,fun x _ _ _ s u => c.h x s (i u)⟩
class MtB (B l : List Res) (sd : outParam Prop) (rest : outParam (List Res)) : Prop where h : sd -> Sb B (l ++ rest)
instance {B : List Res} : MtB B [] True B := ⟨fun _ => .refl _⟩
theorem Sb.more {B B1 l rest : List Res} {x : Res} (p : Sb B (x :: B1)) (i : Sb B1 (l ++ rest)) : Sb B (x :: l ++ rest) := p.trans (i.cons x)
instance {α : Type} {B B1 l rest : List Res} {v : Value} {r : Rp α} {e : TypeId} {q q0 : List α} {s1 s2 : Prop} [p : PA B v α r e q0 B1] [ea : EqA q0 q s1] [i : MtB B1 l s2 rest] : MtB B (rA r e v q :: l) (s1 /\ s2) rest := ⟨fun x => by rw [<- ea.h x.1]; exact p.h.more (i.h x.2)⟩
theorem rV_as {v : Value} {e : TypeId} {q q0 : List SV} {s1 : Prop} (ea : EqSL q0 q s1) (x : s1) (B : List Res) : Sb (rV v q0 e :: B) (rV v q e :: B) := ⟨fun o => by
 obtain ⟨⟨b,arr,e1,e2,e3⟩,f,d,g⟩ := o
 exact ⟨⟨b,arr,e1,e2,ea.h x e3⟩,f,d,g⟩,fun r hr i q => by
 rcases List.mem_cons.1 hr with rfl | hr
 · exact ⟨_,List.mem_cons_self ..,q⟩
 · exact ⟨r,List.mem_cons_of_mem _ hr,q⟩⟩
instance {B B1 l rest : List Res} {v : Value} {e : TypeId} {q q0 : List SV} {s1 s2 : Prop} [p : PV B v q0 e B1] [ea : EqSL q0 q s1] [i : MtB B1 l s2 rest] : MtB B (rV v q e :: l) (s1 /\ s2) rest := ⟨fun x => (p.h.trans (rV_as ea x.1 B1)).more (i.h x.2)⟩
instance {α : Type} {B B1 l rest : List Res} {vs : List Value} {r : Rp α} {e : TypeId} {q q0 : List (List α)} {s1 s2 : Prop} [p : PZ B vs α r e q0 B1] [ea : EqA q0 q s1] [i : MtB B1 l s2 rest] : MtB B (rZ r e vs q :: l) (s1 /\ s2) rest := ⟨fun x => by rw [<- ea.h x.1]; exact p.h.more (i.h x.2)⟩
instance {B B1 l rest : List Res} {b : Nat} {o o' : Obj} {s2 : Prop} [p : PO B b o B1] [ea : RflE o o'] [i : MtB B1 l s2 rest] : MtB B (rO b o' :: l) s2 rest := ⟨fun x => by rw [<- ea.h]; exact p.h.more (i.h x)⟩
theorem gEo {rs : List ResultVar} {h0 : PH} {w0 : World} {T : Gh -> List Res} {R0 : Exit -> Act -> World -> Prop} {C : Ctx} {kb : List Res} (g : Gh) [fi : Fin ⟨R0,h0,w0,C⟩ n (fO P n rs h0 w0 T) P loc env B B'] [r : Rs P n loc env B' rs [ov g.v]] [mb : MtB B' (T g) sd kb] (hs : sd) {e : Exit} (he : e = .normal \/ e = .ret := by first | exact .inl rfl | exact .inr rfl) : GX P n ⟨R0,h0,w0,C⟩ ms loc env B e .fin := ⟨fun ρ h w s => fi.h (fun ρ h w s => by
 obtain ⟨vs,a,b⟩ := r.h s
 match vs,b with
 | [x],b =>
   have o := (mb.h hs).own s.ow
   have hx : x = g.v := b.1.1
   subst hx
   exact ⟨g,h,a,s.gr,b.1.2,o.left⟩) e he ρ h w s⟩
instance {α : Type} {r : Rp α} {q l : List α} {v : Value} {rs : List ResultVar} {h0 : PH} {w0 : World} {C : Ctx} [fi : Fin ⟨fE n (fO P n rs h0 w0 fun g => [rA r e g.v l]),h0,w0,C⟩ n (fO P n rs h0 w0 fun g => [rA r e g.v l]) P loc env B B'] [r1 : Rs P n loc env B' rs [ov v]] {B1 : List Res} [pa : PA B' v α r e q B1] [eq : EqA q l sd] : Nx (GX P n ⟨fE n (fO P n rs h0 w0 fun g => [rA r e g.v l]),h0,w0,C⟩ ms loc env B .ret .fin) True sd := ⟨fun _ x => by
 refine gEo (T := fun g => [rA r e g.v l]) ⟨v,[]⟩ (fi := fi) (r := r1) (mb := ⟨fun _ => ?_⟩) (kb := B1) trivial (.inr rfl)
 rw [<- eq.h x]; exact pa.h⟩
instance {α : Type} {r : Rp α} {l : List α} {rs : List ResultVar} {h0 : PH} {w0 : World} {C : Ctx} [fi : Fin ⟨fE n (fO P n rs h0 w0 fun g => [rA r e g.v l]),h0,w0,C⟩ n (fO P n rs h0 w0 fun g => [rA r e g.v l]) P loc env B B'] [r1 : Rs P n loc env B' rs [.cv (.slice none 0 0)]] : Nx (GX P n ⟨fE n (fO P n rs h0 w0 fun g => [rA r e g.v l]),h0,w0,C⟩ ms loc env B .ret .fin) True (l = []) := ⟨fun _ x => ⟨fun ρ h w s => fi.h (fun ρ h w s => by
 obtain ⟨vs,a,b⟩ := r1.h s
 match vs,b with
 | [y],b =>
   have hy : y = .slice none 0 0 := b.1
   subst hy; subst x
   exact ⟨⟨_,[]⟩,h,a,s.gr,rfl,OwnL.nil r 0 h w e,(fun i hi => by cases hi),(fun r' hr' => by cases hr'),trivial⟩) .ret (.inr rfl) ρ h w s⟩⟩
theorem OwnB.join {w0 : World} {h h1 : PH} {w w' : World} {A : List Res} (ha : OwnB w A h1 w') (hw : w0.heap.size <= w.heap.size) (hB : OwnB w0 B h w) (g : Gr h w h1 w') (hnb : ∀ r ∈ A,r.bor = false) : OwnB w0 (A ++ B) h1 w' := by
 have hb := hB.grow g
 induction A with
 | nil => exact hb
 | cons r A ih =>
   refine ⟨ha.1,fun i hi => ⟨(ha.2.1 i hi).1,fun e => Nat.le_trans hw ((ha.2.1 i hi).2.1 e),(ha.2.1 i hi).2.2⟩,fun r' hr' i hi q => ?_,ih ha.2.2.2 fun r hr => hnb r (List.mem_cons_of_mem _ hr)⟩
   rcases List.mem_append.1 hr' with m | m
   · exact ha.2.2.1 r' m i hi q
   · have h1 := (ha.2.1 i hi).2.1 (hnb r (List.mem_cons_self ..))
     have h2 := (hB.foot r' m i q).2.2
     omega
class NB (l : List Res) : Prop where h : ∀ r ∈ l,r.bor = false
instance : NB [] := ⟨fun _ h => by cases h⟩
instance {α : Type} {r : Rp α} {v : Value} {q : List α} {l : List Res} [i : NB l] : NB (rA r e v q :: l) := ⟨fun x hx => by rcases List.mem_cons.1 hx with rfl | hx; rfl; exact i.h x hx⟩
instance {α : Type} {r : Rp α} {vs : List Value} {q : List (List α)} {l : List Res} [i : NB l] : NB (rZ r e vs q :: l) := ⟨fun x hx => by rcases List.mem_cons.1 hx with rfl | hx; rfl; exact i.h x hx⟩
instance (priority := high) {f : FuncId} {xs : List Operand} {ts : Array TypeId} {Ss : List SV} {T : Gh -> List Res} {B' : Gh -> List Res} [nn : IsIn d ms] [lx : Lus n true loc env xs Ss] [ct : CtO P f Ss sd T] [nb : ∀ g,NB (T g)] [ap : ∀ g,AppL (T g) B (B' g)] : Nx (GO P n X ms loc env B ol (⟨some d,.call ⟨.value (.func f),xs.toArray,ts⟩,ty,pos,af,none⟩ :: rest) k) sd (∀ g : Gh,GO P n X ms ((d,ov g.v) :: loc) env (B' g) ol rest k) := ⟨fun hs g => ⟨fun ok ρ h w s => by
 obtain ⟨h1,h2,h3⟩ := okR_some rfl ok
 have hx : denL h Ss (xs.map (ev n ρ)) := lx.h rfl fun x hx => (s.x [x]).fx x (by simp)
 refine Ops.cons (OpW.enter (f := f) (args := (xs.map (ev n ρ)).toArray) (w' := w) ?_ (ct.h hs s.gr.sat hx) ?_)
 · simp only [execOp,resolve,ev,Deferred.ofValue,Sem.run_bind,Sem.run_pure,Result.andThen,invoke,List.map_toArray]
   have := ct.fn (#[] ++ (xs.map (ev n ρ)).toArray ++ #[]) w
   simpa using this
 · rintro e w'' ⟨q,rfl,h',gr,o1,ow⟩
   have sv := s.put (v := q.v) (S := ov q.v) gr ⟨rfl,o1⟩ h1 (h2 rfl)
   exact ⟨q.v,rfl,(g q).p h3 _ _ _ ⟨sv.gr,sv.lo,sv.en,by rw [<- (ap q).h]; exact OwnB.join ow s.gr.ext.size s.ow gr (nb q).h⟩⟩⟩⟩
end
end Go.E3
