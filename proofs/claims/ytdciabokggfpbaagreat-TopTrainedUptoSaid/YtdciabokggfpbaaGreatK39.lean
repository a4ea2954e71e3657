/- K39: a part of the proof about training through the decoder: how the program's functions run, and what they compute, for every input. -/
import Derived.DeepKeys4
import Derived.Test.YtdciabokggfpbaaGreatK38
import Derived.Test.YtdciabokggfpbaaGreatK23
import Derived.Test.YtdciabokggfpbaaGreatK7
import Derived.Test.YtdciabokggfpbaaGreatK27
import Derived.Test.YtdciabokggfpbaaGreatK15
set_option linter.all false
set_option maxHeartbeats 4000000
namespace Go.E3
open Go Go.Ear
section
variable {P : Program} {n : Nat} {X : Fix} {ms : List Nat} {c : Bool} {loc env : EL} {B B1 : List Res} {kk : Kt} {ol rest : List Oper} {d : Nat} {ty : TypeId} {pos : String} {af : Array Edge} {κ α : Type} {K : KK κ} {f : α -> SV} {x0 a : α} {v p : Value} {l vis : List (κ × α)} {t u : TypeId} {x y z : Operand} {s : κ} {S T : SV} {sd : Prop}
instance [mt : MpT P t κ K α f x0] : Nx (GO P n X ms loc env B ol (⟨some d,.makeMap t none,ty,pos,af,none⟩ :: rest) kk) True (∀ v,GO P n X ms ((d,ov v) :: loc) env (rM' K f v [] :: B) ol rest kk) := ⟨fun _ g => ⟨fun ok ρ h w s => by
 obtain ⟨h1,h2,h3⟩ := okR_some rfl ok
 refine Ops.cons (OpW.makeM ?_)
 have gr : Gr h w h (newW w (.map #[] 0)) := Gr.new s.gr.sat _
 have sv := s.put (v := .map (some w.heap.size)) (S := ov (.map (some w.heap.size))) gr ⟨rfl,rfl⟩ h1 (h2 rfl)
 refine (g _).p h3 _ _ _ ⟨sv.gr,sv.lo,sv.en,s.ow.new gr s.gr.ext.size ⟨_,rfl, #[],0,newW_at w _,⟨trivial,by simp⟩,by simp,fun e he => by simp at he⟩ fun i hi => ?_⟩
 cases hi
 exact ⟨Nat.le_refl _,blk_lt (newW_at w _),s.gr.sat.fresh⟩⟩⟩
noncomputable def lkS (f : α -> SV) (x0 : α) (l : List (κ × α)) (s : κ) (ok : Bool) : SV := bif ok then .tp [f ((mget l s).getD x0),.cv (.bool (mget l s).isSome)] else f ((mget l s).getD x0)
theorem lookup_st {ok : Bool} [mt : MpT P t κ K α f x0] [lx : Lu n c loc env x (ov v)] [hm : HM B v κ K α f l] [ly : Lu n c loc env y T] [kv : KV K T s sd] : St P n c loc env B ms d (.lookup t x y ok) sd (lkS f x0 l s ok) := .p fun q hs _ _ _ _ _ sx _ _ _ _ _ kk => by
 obtain ⟨kt,et,zv,h1,h2,h3,h4⟩ := mt.h
 obtain ⟨b,hv,es,clock,hb,⟨rows,nd⟩,hn,hc⟩ := hm.h sx.ow
 obtain ⟨gk,ke⟩ := kv.h hs
 have hx := (lx.h q (sx.f x)).1
 refine OpW.lookupM (kt := kt) gk h1 h3 (hx.trans hv) (ke (ly.h q (sx.f y))) hb rows nd (fun v' a hg hd => kk _ ?_) (fun hg => kk _ ?_)
 · unfold lkS; rw [hg]
   cases ok with
   | true => exact ⟨[v',.bool true],rfl,hd,rfl,trivial⟩
   | false => exact hd
 · unfold lkS; rw [hg]
   cases ok with
   | true => exact ⟨[zv,.bool false],rfl,h4 _,rfl,trivial⟩
   | false => exact h4 _
instance [mt : MpT P t κ K α f x0] [lx : Lu n c loc env x (ov v)] [hm : HM B v κ K α f l] [ly : Lu n c loc env y T] [kv : KV K T s sd] : St P n c loc env B ms d (.lookup t x y false) sd (f ((mget l s).getD x0)) := lookup_st (ok := false)
instance [mt : MpT P t κ K α f x0] [lx : Lu n c loc env x (ov v)] [hm : HM B v κ K α f l] : St P n c loc env B ms d (.call ⟨.builtin .len,[x].toArray,[t].toArray⟩) True (.cv (.int .i64 (l.length : Int))) := .p fun q _ _ _ _ _ w sx _ _ _ _ _ kk => by
 obtain ⟨kt,et,zv,h1,_,_,_⟩ := mt.h
 obtain ⟨b,hv,es,clock,hb,⟨rows,nd⟩,hn,hc⟩ := hm.h sx.ow
 have hx := (lx.h q (sx.f x)).1.trans hv
 have hl := rows.length
 have hg : (getObj b).run P w = .ok (.map es clock) w := by simp [getObj,Sem.run,hb]
 refine OpW.valD (v := .int .i64 (l.length : Int)) (w' := w) ?_ (kk _ rfl)
 simp only [execOp,resolve,invoke,builtin,Sem.run_bind,Sem.run_pure,Result.andThen,List.map_toArray,List.map_cons,List.map_nil,hx,Builtin.len_,List.getElem?_toArray,List.getElem?_cons_zero,h1.run w,hg]
 rw [<- hl]; rfl
instance [mt : MpT P t κ K α f x0] [lx : Lu n true loc env x (ov v)] [ly : Lu n true loc env y T] [kv : KV K T s sd] [lz : Lu n true loc env z S] [pm : PM B v κ K α f l B1] [vw : Vw f S a] : Nx (GO P n X ms loc env B ol (⟨none,.mapUpdate t x y z,ty,pos,af,none⟩ :: rest) kk) sd (GO P n X ms loc env (rM' K f v (mset l s a) :: B1) ol rest kk) := ⟨fun hs g => ⟨fun ok ρ h w sy => by
 obtain ⟨kt,et,zv,h1,h2,h3,h4⟩ := mt.h
 have s' := sy.sb pm.h
 obtain ⟨b,hv,hok⟩ := s'.ow.1
 obtain ⟨gk,ke⟩ := kv.h hs
 have hx := (lx.h rfl ((sy.x [x]).fx x (by simp))).1
 have hy := ke (ly.h rfl ((sy.x [y]).fx y (by simp)))
 have hz := vw.h (lz.h rfl ((sy.x [z]).fx z (by simp)))
 refine Ops.cons (OpW.setM (kt := kt) (a := a) (f := f) (h := h) (l := l) gk h1 (hx.trans hv) hy rfl hz hok fun w' o p hok' => ?_)
 have s2 := own_put (r' := rM' K f v (mset l s a)) rfl s' p ⟨b,hv,hok'⟩ hv fun i hi => hi
 exact g.p (okR_none rfl ok) _ _ _ s2⟩⟩
instance [mt : MpT P t κ K α f x0] [lx : Lu n true loc env x (ov v)] [pm : PM B v κ K α f l B1] : Nx (GO P n X ms loc env B ol (⟨some d,.range t x,ty,pos,af,none⟩ :: rest) kk) True (∀ p,GO P n X ms ((d,ov p) :: loc) env (rMI K f p v l [] :: B1) ol rest kk) := ⟨fun _ g => ⟨fun ok ρ h w sy => by
 obtain ⟨h1,h2,h3⟩ := okR_some rfl ok
 obtain ⟨kt,et,zv,t1,t2,t3,t4⟩ := mt.h
 have s' := sy.sb pm.h
 obtain ⟨b,hv,es,clock,hb,rows,hn,hc⟩ := s'.ow.1
 have hx := (lx.h rfl ((sy.x [x]).fx x (by simp))).1
 refine Ops.cons (OpW.rangeM t1 (hx.trans hv) hb ?_)
 have gr : Gr h w h (newW w (.mapIter (some b) clock #[] clock)) := Gr.new sy.gr.sat _
 have sv := s'.put (v := .pointer (some ⟨w.heap.size,0,none⟩)) (S := ov (.pointer (some ⟨w.heap.size,0,none⟩))) gr ⟨rfl,rfl⟩ h1 (h2 rfl)
 have ow := sv.ow
 have hft := s'.ow.foot (rM' K f v l) (List.mem_cons_self ..) b hv
 have hbl : b < w.heap.size := hft.2.2
 refine (g _).p h3 _ _ _ ⟨sv.gr,sv.lo,sv.en,⟨w.heap.size,b,rfl,hv,es,clock, #[],[],es.toList.zip l, ?_,newW_at w _,rows,hn,hc,by simp,by simp,rfl⟩,fun i hi => ?_,fun r' hr' i hi => ?_,ow.2.2.2⟩
 · have := ow.1
   obtain ⟨b',hv',es',clock',hb',_⟩ := this
   rw [hv] at hv'; cases hv'
   unfold newW
   show (w.heap.push _)[b]? = _
   rw [Array.getElem?_push,if_neg (by omega)]; exact hb
 · rcases hi with hi | hi
   · cases hi
     exact ⟨sy.gr.sat.fresh,fun _ => sy.gr.ext.size,blk_lt (newW_at w _)⟩
   · exact ow.2.1 i hi
 · rcases hi with hi | hi
   · cases hi
     intro hr
     have := (s'.ow.2.2.2.foot r' hr' _ hr).2.2
     omega
   · exact ow.2.2.1 r' hr' i hi⟩⟩
end
class PMI (B : List Res) (p : Value) (κ : outParam Type) (K : outParam (KK κ)) (α : outParam Type) (f : outParam (α -> SV)) (v : outParam Value) (l vis : outParam (List (κ × α))) (B' : outParam (List Res)) : Prop where h : Sb B (rMI K f p v l vis :: B')
class HI (B : List Res) (p : Value) (κ : outParam Type) (K : outParam (KK κ)) (α : outParam Type) (f : outParam (α -> SV)) (v : outParam Value) (l vis : outParam (List (κ × α))) : Prop where h : ∀ {w0 h w},OwnB w0 B h w -> ∃ it b,p = .pointer (some ⟨it,0,none⟩) /\ v = .map (some b) /\ MIOk K f h w it b l vis
section
variable {κ α : Type} {K : KK κ} {f : α -> SV} {p v : Value} {l vis : List (κ × α)} {B B' : List Res}
instance : PMI (rMI K f p v l vis :: B) p κ K α f v l vis B := ⟨.refl _⟩
instance (priority := 50) {x : Res} [i : PMI B p κ K α f v l vis B'] : PMI (x :: B) p κ K α f v l vis (x :: B') := ⟨(i.h.cons x).trans (.perm (List.Perm.swap ..))⟩
instance : HI (rMI K f p v l vis :: B) p κ K α f v l vis := ⟨fun o => o.1⟩
end
section
variable {P : Program} {n : Nat} {X : Fix} {ms : List Nat} {c : Bool} {loc env : EL} {B B1 : List Res} {kt : Kt} {ol rest : List Oper} {d : Nat} {ty : TypeId} {pos : String} {af : Array Edge} {κ α : Type} {K : KK κ} {f : α -> SV} {a : α} {v p : Value} {l vis : List (κ × α)} {x : Operand} {s : κ}
theorem gNxt [lx : Lu n true loc env x (ov p)] [pm : PMI B p κ K α f v l vis B1] (done : vis.Perm l -> GO P n X ms ((d,.tp [.cv (.bool false)]) :: loc) env (rM' K f v l :: B1) ol rest kt)
 (more : ∀ s a,(∃ r,(vis ++ (s,a) :: r).Perm l) -> GO P n X ms ((d,.tp [.cv (.bool true),K.sv s,f a]) :: loc) env (rMI K f p v l (vis ++ [(s,a)]) :: B1) ol rest kt) : GO P n X ms loc env B ol (⟨some d,.next x false,ty,pos,af,none⟩ :: rest) kt := ⟨fun ok ρ h w sy => by
 obtain ⟨h1,h2,h3⟩ := okR_some rfl ok
 have s' := sy.sb pm.h
 obtain ⟨it,b,hp,hv,es,clock,seen,zv,zr,hb,hi,rows,hn,hc,pz,hs,hvs⟩ := s'.ow.1
 have hx := (lx.h rfl ((sy.x [x]).fx x (by simp))).1.trans hp
 obtain ⟨n1,n2⟩ := mi_next rows.1 hn pz hs hvs
 refine Ops.cons (OpW.nextM hx hb hi hc (fun h0 => ?_) fun e he w' pw => ?_)
 · have hft := fun i hi => s'.ow.2.1 i hi
   refine (done (n1 h0)).p h3 _ _ _ ⟨s'.gr,⟨by rw [upd_at]; exact ⟨[.bool false],rfl,rfl,trivial⟩,s'.lo.upd (nIn_of h1)⟩,s'.en.upd (nIn_of (h2 rfl)),⟨b,hv,es,clock,hb,rows,hn,hc⟩,fun i hi => s'.ow.2.1 i (.inr hi),fun r' hr' i hi => s'.ow.2.2.1 r' hr' i (.inr hi),s'.ow.2.2.2⟩
 · obtain ⟨s,a,zr',hk,hd,hpz,hr⟩ := n2 e he
   have hne : b ≠ it := fun e => by subst e; rw [hb] at hi; cases hi
   have s2 := own_put (r' := rMI K f p v l (vis ++ [(s,a)])) rfl s' pw ⟨it,b,hp,hv,es,clock,seen.push e.born,zv ++ [(e,s,a)],zr',by rw [pw.other b hne]; exact hb,pw.at_,rows,hn,hc,hpz,by rw [List.map_append,hs,Array.toList_push]; rfl,by rw [List.map_append,hvs]; rfl⟩ (.inl hp) fun i hi => hi
   refine (more s a hr).p h3 _ _ _ ⟨s2.gr,⟨?_,s2.lo.upd (nIn_of h1)⟩,s2.en.upd (nIn_of (h2 rfl)),s2.ow⟩
   rw [upd_at]
   exact ⟨[.bool true,e.key,e.val],rfl,rfl,by rw [hk.1]; exact K.svh _ _,hd,trivial⟩⟩
theorem OpW.entryM {ρ : Env} {w : World} {Q : Env -> World -> Prop} {it b : Nat} {es : Array MapEntry} {clock : Nat} {seen : Array Nat} {e : MapEntry} {g : Option (Nat × Bool)} (hx : ev n ρ x = .pointer (some ⟨it,0,none⟩)) (hb : w.heap[b]? = some (.map es clock)) (hi : w.heap[it]? = some (.mapIter (some b) clock seen clock)) (hl : seen.back? = some e.born) (he : e ∈ es.toList) (hn : (es.toList.map (·.born)).Nodup)
 (hk : Q (upd ρ d (.tuple #[e.key,e.val])) w) : OpW P n ⟨some d,.entry x,ty,pos,af,g⟩ ρ w Q := by
 have hgi : (getObj it).run P w = .ok (.mapIter (some b) clock seen clock) w := by simp [getObj,Sem.run,hi]
 have hgb : (getObj b).run P w = .ok (.map es clock) w := by simp [getObj,Sem.run,hb]
 have hf : es.find? (·.born == e.born) = some e := by rw [<- Array.find?_toList]; exact find_born e es.toList hn he
 refine OpW.valD ?_ hk
 simp only [execOp,hx,Instr.entry,Sem.run_bind,hgi,hgb,hl,hf,Result.andThen,bne_self_eq_false,Bool.false_eq_true,if_false]
 rfl
instance [lx : Lu n c loc env x (ov p)] [hi : HI B p κ K α f v l (vis ++ [(s,a)])] : St P n c loc env B ms d (.entry x) True (.tp [K.sv s,f a]) := .p fun q _ _ _ _ _ _ sx _ _ _ _ _ kk => by
 obtain ⟨it,b,hp,hv,es,clock,seen,zv,zr,hb,hit,rows,hn,hc,pz,hs,hvs⟩ := hi.h sx.ow
 have hx := (lx.h q (sx.f x)).1.trans hp
 have hz : zv ≠ [] := fun e => by rw [e] at hvs; simp at hvs
 obtain ⟨zi,zl,rfl⟩ : ∃ zi zl,zv = zi ++ [zl] := ⟨zv.dropLast,zv.getLast hz,(List.dropLast_concat_getLast hz).symm⟩
 rw [List.map_append] at hvs hs
 have e1 : zl.2 = (s,a) := by
  have := congrArg List.getLast? hvs
  simpa using this
 have e2 : seen.back? = some zl.1.born := by
  rw [<- Array.getLast?_toList, <- hs]; simp
 have hm : zl ∈ es.toList.zip l := pz.mem_iff.1 (by simp)
 have he : zl.1 ∈ es.toList := (List.of_mem_zip (show (zl.1,zl.2) ∈ es.toList.zip l from hm)).1
 have hk := rows.1.zip zl hm
 rw [e1] at hk
 exact OpW.entryM hx hb hit e2 he hn (kk _ ⟨[zl.1.key,zl.1.val],rfl,by rw [hk.1.1]; exact K.svh _ _,hk.2,trivial⟩)
end
def rKI {κ α : Type} (K : KK κ) (f : α -> SV) (p v : Value) (l vis : List (κ × α)) : Res where
 fp := fun i => p = .pointer (some ⟨i,0,none⟩)
 pr := fun h w => ∃ (it b : Nat) (es : Array MapEntry) (clock : Nat) (seen : Array Nat) (zv zr : List (MapEntry × κ × α)),p = .pointer (some ⟨it,0,none⟩) /\ v = .map (some b) /\ h b = some (.map es clock) /\ w.heap[it]? = some (.mapIter (some b) clock seen clock) /\ (MRows K f h es.toList l /\ (l.map (·.1)).Nodup) /\ (es.toList.map (·.born)).Nodup /\ (∀ e ∈ es.toList,e.born < clock) /\ (zv ++ zr).Perm (es.toList.zip l) /\ zv.map (·.1.born) = seen.toList /\ zv.map (·.2) = vis
 st := fun {h w h' w'} le hw hn ⟨it,b,es,clock,seen,zv,zr,e1,e2,h1,h2,h3,h4⟩ => ⟨it,b,es,clock,seen,zv,zr,e1,e2,le _ _ h1,by rw [hw it e1]; exact h2,⟨h3.1.mono le,h3.2⟩,h4⟩
 fz := fun _ => True
 fzm := fun _ _ => trivial
 frz := fun {h0 w0 h w} g _ _ => ⟨h,g,PH.le.refl h,fun _ x _ => x,trivial⟩
section
variable {κ α : Type} {K : KK κ} {f : α -> SV} {p v : Value} {l vis : List (κ × α)} {B B' : List Res}
end
section
variable {P : Program} {n : Nat} {X : Fix} {ms : List Nat} {c : Bool} {loc env : EL} {B B1 : List Res} {kt : Kt} {ol rest : List Oper} {d : Nat} {ty : TypeId} {pos : String} {af : Array Edge} {κ α : Type} {K : KK κ} {f : α -> SV} {x0 a : α} {v p : Value} {l vis : List (κ × α)} {R : List (κ × α) -> Prop} {t : TypeId} {x y : Operand} {s : κ} {T : SV} {sd : Prop}
end
section
variable {P : Program} {b : Frame} {a : Act} {k : List Item} {cs : List Frame} {w : World} {Q : Exit -> Act -> World -> Prop} {F : Fence} {n : Nat}
end
section
variable {P : Program} {n : Nat} {X : Fix} {ms : List Nat} {loc env : EL} {B : List Res} {k : Kt} {x : Code}
end
section
variable (P : Program) (n : Nat) (X : Fix) (ms : List Nat) (env : EL) (B : List Res) (ol : List Oper)
end
section
variable {P : Program} {n : Nat} {X : Fix} {ms : List Nat} {env : EL} {B : List Res} {ol : List Oper} {k : Kt}
end
section
variable {P : Program} {n : Nat} {X : Fix} {ms : List Nat} {loc env : EL} {B : List Res} {ol rest : List Oper} {k : Kt} {Ls : EL} {lt : Nat -> Bool} {Kp : List Res -> Prop} {d : Nat} {op : Op} {m i : Nat} {L : (Nat -> Gh) -> EL} {R : List (Nat × (Gh -> Res))} {ty t e : TypeId} {pos : String} {af : Array Edge} {sd : Prop} {S : SV}
end
section
variable {P : Program}
end
section
variable {P : Program} {n : Nat} {c : Bool} {loc env : EL} {B : List Res} {ms : List Nat} {d : Nat} {x y : Operand} {t u : TypeId} {k : IntKind} {i j : Int}
section
variable [lx : Lu n c loc env x (.cv (.int k i))] [ly : Lu n c loc env y (.cv (.int k j))]
end
end
end Go.E3
set_option maxRecDepth 20000
namespace Go.E3
open Go Go.Ear Go.Proofs
def I64z (x : Int) : Prop := -9223372036854775808 <= x /\ x <= 9223372036854775807
theorem I64z.wf {x : Int} (h : I64z x) : (Lit.int .i64 x).wf = true := by
 obtain ⟨a,b⟩ := h
 show (decide (-9223372036854775808 <= x) && decide (x <= 9223372036854775807)) = true
 simp [a,b]
@[reducible] def KN : KK Int where
 enc x := .int .i64 x
 gd := I64z
 inj := fun x y e => by cases e; rfl
 sv x := iv x
 svh := fun _ _ => rfl
instance {x : Int} : KV KN (.cv (.int .i64 x)) x (I64z x) := ⟨fun h => ⟨h,fun u => u⟩⟩
structure K4 where
 a : Int
 b : Int
 c : Int
 d : Int
@[reducible] def KA : KK K4 where
 enc x := .agg #[.int .i64 x.a,.int .i64 x.b,.int .i64 x.c,.int .i64 x.d]
 gd x := I64z x.a /\ I64z x.b /\ I64z x.c /\ I64z x.d
 inj := fun ⟨a,b,c,d⟩ ⟨a',b',c',d'⟩ e => by simpa using e
 sv x := .ag [iv x.a,iv x.b,iv x.c,iv x.d]
 svh := fun _ k => ⟨[.int .i64 k.a,.int .i64 k.b,.int .i64 k.c,.int .i64 k.d],rfl,rfl,rfl,rfl,rfl,trivial⟩
instance {a b c d : Int} : KV KA (.ag [.cv (.int .i64 a),.cv (.int .i64 b),.cv (.int .i64 c),.cv (.int .i64 d)]) ⟨a,b,c,d⟩ (I64z a /\ I64z b /\ I64z c /\ I64z d) := ⟨fun h => ⟨h,fun {h v} u => by
 obtain ⟨vs,e,u⟩ := u
 match vs,u with
 | [_,_,_,_],⟨rfl,rfl,rfl,rfl,_⟩ => exact e⟩⟩
structure K8 where
 h : K4
 p : K4
@[reducible] def KP : KK K8 where
 enc x := .agg #[.int .i64 x.h.a,.int .i64 x.h.b,.int .i64 x.h.c,.int .i64 x.h.d,.int .i64 x.p.a,.int .i64 x.p.b,.int .i64 x.p.c,.int .i64 x.p.d]
 gd x := KA.gd x.h /\ KA.gd x.p
 inj := fun ⟨⟨a,b,c,d⟩,⟨a1,b1,c1,d1⟩⟩ ⟨⟨a',b',c',d'⟩,⟨a1',b1',c1',d1'⟩⟩ e => by simpa [and_assoc] using e
 sv x := .ag [iv x.h.a,iv x.h.b,iv x.h.c,iv x.h.d,iv x.p.a,iv x.p.b,iv x.p.c,iv x.p.d]
 svh := fun _ k => ⟨[.int .i64 k.h.a,.int .i64 k.h.b,.int .i64 k.h.c,.int .i64 k.h.d,.int .i64 k.p.a,.int .i64 k.p.b,.int .i64 k.p.c,.int .i64 k.p.d],rfl,rfl,rfl,rfl,rfl,rfl,rfl,rfl,rfl,trivial⟩
instance {a b c d a1 b1 c1 d1 : Int} : KV KP (.ag [.cv (.int .i64 a),.cv (.int .i64 b),.cv (.int .i64 c),.cv (.int .i64 d),.cv (.int .i64 a1),.cv (.int .i64 b1),.cv (.int .i64 c1),.cv (.int .i64 d1)]) ⟨⟨a,b,c,d⟩,⟨a1,b1,c1,d1⟩⟩ ((I64z a /\ I64z b /\ I64z c /\ I64z d) /\ I64z a1 /\ I64z b1 /\ I64z c1 /\ I64z d1) := ⟨fun h => ⟨h,fun {h v} u => by
 obtain ⟨vs,e,u⟩ := u
 match vs,u with
 | [_,_,_,_,_,_,_,_],⟨rfl,rfl,rfl,rfl,rfl,rfl,rfl,rfl,_⟩ => exact e⟩⟩
theorem laidB : laidOutB Tryz.prog = true := by kernel_rfl
instance : KyP Tryz.prog 3 KN := ⟨Go.Maps.int_keyed Tryz.underlying3,fun x h => ⟨_,Go.Maps.keyOf_int_mk Tryz.underlying3 h.wf⟩⟩
theorem lits_int {P : Program} {e : TypeId} (he : P.underlying e = some (.int .i64)) (D : Nat) {x : Int} (h : I64z x) : P.keyLits (D + 1) e [.int .i64 x] = some [.int .i64 x] := by
 unfold Program.keyLits
 rw [he]
 simp [h.wf]
theorem lits_arr {P : Program} {t e : TypeId} (ht : P.underlying t = some (.array 4 e)) (he : P.underlying e = some (.int .i64)) (c4 : P.cellsOf t = 4) (c1 : P.cellsOf e = 1) (D : Nat) {x : K4} (h : KA.gd x) : P.keyLits (D + 2) t [.int .i64 x.a,.int .i64 x.b,.int .i64 x.c,.int .i64 x.d] = some [.int .i64 x.a,.int .i64 x.b,.int .i64 x.c,.int .i64 x.d] := by
 obtain ⟨h1,h2,h3,h4⟩ := h
 unfold Program.keyLits
 rw [ht]
 simp [c4,c1,List.range,List.range.loop,lits_int he D h1,lits_int he D h2,lits_int he D h3,lits_int he D h4]
theorem kyA {P : Program} {t e : TypeId} (hl : laidOutB P = true) (hr : t < P.types.size) (hk : P.keyTypeAt 9 t = true) (hk2 : P.keyType t = true) (ht : P.underlying t = some (.array 4 e)) (he : P.underlying e = some (.int .i64)) (c4 : P.cellsOf t = 4) (c1 : P.cellsOf e = 1) {n : Nat} (hn : P.types.size = n + 1) : KyP P t KA := ⟨Go.Maps.Keyed.of_law (deep_law_laid hl (m := 9) (by decide) hr hk (by rw [ht])),fun x h => by
 have hf : (KA.enc x).formed P t = true := by simp [Value.formed,ht,c4]
 obtain ⟨L,hl2⟩ : ∃ L,P.keyLits (P.types.size + 1) t (KA.enc x).cells.toList = some L := ⟨_,by rw [hn]; exact lits_arr ht he c4 c1 n h⟩
 unfold keyOf
 rw [ht,hk2,hf,hl2]
 exact ⟨_,rfl⟩⟩
instance : KyP Tryz.prog 86 KA := kyA laidB (by decide +kernel) (by kernel_rfl) (by kernel_rfl) Tryz.underlying86 Tryz.underlying3 (by kernel_rfl) (by kernel_rfl) (n := Tryz.prog.types.size - 1) (by decide +kernel)
instance : KyP Tryz.prog 221 KA := kyA laidB (by decide +kernel) (by kernel_rfl) (by kernel_rfl) Tryz.underlying221 Tryz.underlying3 (by kernel_rfl) (by kernel_rfl) (n := Tryz.prog.types.size - 1) (by decide +kernel)
theorem lits_pl {x : K8} (h : KP.gd x) : Tryz.prog.keyLits (Tryz.prog.types.size + 1) 88 (KP.enc x).cells.toList = some [.int .i64 x.h.a,.int .i64 x.h.b,.int .i64 x.h.c,.int .i64 x.h.d,.int .i64 x.p.a,.int .i64 x.p.b,.int .i64 x.p.c,.int .i64 x.p.d] := by
 obtain ⟨h0,h1,h2,h3,h4⟩ := h
 obtain ⟨n,hn⟩ : ∃ n,Tryz.prog.types.size = n + 2 := ⟨Tryz.prog.types.size - 2,by decide +kernel⟩
 have c88 : Tryz.prog.cellsOf 88 = 8 := by kernel_rfl
 have c86 : Tryz.prog.cellsOf 86 = 4 := by kernel_rfl
 have c3 : Tryz.prog.cellsOf 3 = 1 := by kernel_rfl
 have e0 := lits_arr Tryz.underlying86 Tryz.underlying3 c86 c3 n h0
 have e1 := fun {y : Int} (hy : I64z y) => lits_int Tryz.underlying3 (n + 1) hy
 rw [hn]
 show Tryz.prog.keyLits (n + 2 + 1) 88 [.int .i64 x.h.a,.int .i64 x.h.b,.int .i64 x.h.c,.int .i64 x.h.d,.int .i64 x.p.a,.int .i64 x.p.b,.int .i64 x.p.c,.int .i64 x.p.d] = _
 unfold Program.keyLits
 rw [Tryz.underlying88]
 simp [c88,c86,c3,e0,e1 h1,e1 h2,e1 h3,e1 h4]
instance : KyP Tryz.prog 88 KP := ⟨Go.Maps.Keyed.of_law (deep_law_laid laidB (m := 9) (by decide) (by decide +kernel) (by kernel_rfl) (by rw [Tryz.underlying88])),fun x h => by
 have hf : (KP.enc x).formed Tryz.prog 88 = true := by
  have c88 : Tryz.prog.cellsOf 88 = 8 := by kernel_rfl
  simp [Value.formed,Tryz.underlying88,c88]
 have hk : Tryz.prog.keyType 88 = true := by kernel_rfl
 have hl2 := lits_pl h
 unfold keyOf
 rw [Tryz.underlying88,hk,hf,hl2]
 exact ⟨_,rfl⟩⟩
instance : MpT Tryz.prog 220 K4 KA Int iv 0 := ⟨221,3,_,Tryz.underlying220,inferInstance,Tryz.zeroValue3,fun _ => rfl⟩
instance : MpT Tryz.prog 225 Int KN Int iv 0 := ⟨3,3,_,Tryz.underlying225,inferInstance,Tryz.zeroValue3,fun _ => rfl⟩
instance : MpT Tryz.prog 85 K8 KP Fr fv fr0 := ⟨88,32,_,Tryz.underlying85,inferInstance,Tryz.zeroValue32,fun _ => ⟨[_,_,_],rfl,rfl,nil_lv rfl,nil_lv rfl,trivial⟩⟩
instance : MpT Tryz.prog 180 K4 KA (List Fr) (lv rF) [] := ⟨86,22,_,Tryz.underlying180,inferInstance,Tryz.zeroValue22,fun _ => nil_lv rfl⟩
end Go.E3
namespace Go.E3
open Go Go.Ear
def kmz {κ α : Type} (K : KK κ) (f : α -> SV) (L : List (κ × α)) : SV := .kv ⟨fun h v => (v = .map none /\ L = []) \/ ∃ b l,v = .map (some b) /\ l.Perm L /\ KpOk K f h b l,fun {h v} u => by
 rcases u with ⟨e,_⟩ | ⟨b,l,e,_⟩ <;> subst e <;> rfl,fun e u => by
 rcases u with u | ⟨b,l,a,r,k⟩
 · exact .inl u
 · exact .inr ⟨b,l,a,r,k.mono e⟩⟩
section
variable {κ α : Type} {K : KK κ}
theorem mget_perm {l L : List (κ × α)} (p : l.Perm L) (nd : (l.map (·.1)).Nodup) (k : κ) : mget l k = mget L k := by
 have nd2 : (L.map (·.1)).Nodup := (p.map _).nodup_iff.1 nd
 by_cases h : ∃ y ∈ l,y.1 = k
 · obtain ⟨y,hy,rfl⟩ := h
   obtain ⟨j,hj⟩ := List.getElem?_of_mem hy
   obtain ⟨j2,hj2⟩ := List.getElem?_of_mem (p.mem_iff.1 hy)
   rw [mget_at nd hj,mget_at nd2 hj2]
 · rw [mget_none fun y hy e => h ⟨y,hy,e⟩,mget_none fun y hy e => h ⟨y,p.mem_iff.2 hy,e⟩]
end
section
variable {P : Program} {n : Nat} {ρ : Env} {w : World} {Q : Env -> World -> Prop} {d : Nat} {ty : TypeId} {pos : String} {af : Array Edge} {g : Option (Nat × Bool)} {κ : Type} {K : KK κ} {t kt et : TypeId} {x y : Operand} {k : κ} {zv : Value} {it : Nat}
theorem OpW.lookupN [ky : KyP P kt K] (gk : K.gd k) (ht : IsUnd P t (.map kt et)) (hz : IsZero P et zv) (hx : ev n ρ x = .map none) (hy : ev n ρ y = K.enc k) (h2 : Q (upd ρ d zv) w) : OpW P n ⟨some d,.lookup t x y false,ty,pos,af,g⟩ ρ w Q := by
 obtain ⟨lx,hlx⟩ := ky.lit k gk
 have hc : ∀ em : Bool,(Instr.checkKey em 10000 kt (K.enc k)).run P w = .ok () w := fun em => ky.law.check w em hlx
 have hf : (Instr.findKey kt (K.enc k) []).run P w = .ok none w := by
  rcases ky.law.find w hlx [] (fun e he => by cases he) with ⟨h,_⟩ | ⟨j,e,_,h,_⟩
  · exact h
  · simp at h
 refine OpW.valD ?_ h2
 simp only [execOp,Instr.lookup,hx,hy,Sem.run_bind,ht.run w,hc,hf,Result.andThen,Sem.run_pure,hz w]
 rfl
theorem OpW.rangeN (ht : IsUnd P t (.map kt et)) (hx : ev n ρ x = .map none) (hk : Q (upd ρ d (.pointer (some ⟨w.heap.size,0,none⟩))) (newW w (.mapIter none 0 #[] 0))) : OpW P n ⟨some d,.range t x,ty,pos,af,g⟩ ρ w Q := by
 refine OpW.valD (v := .pointer (some ⟨w.heap.size,0,none⟩)) (w' := newW w (.mapIter none 0 #[] 0)) ?_ hk
 simp only [execOp,Instr.range,hx,Sem.run_bind,ht.run w,Result.andThen,Sem.run_pure]
 rfl
theorem OpW.nextN {c q : Nat} {s : Array Nat} (hx : ev n ρ x = .pointer (some ⟨it,0,none⟩)) (hi : w.heap[it]? = some (.mapIter none c s q)) (h0 : Q (upd ρ d (.tuple #[.bool false])) w) : OpW P n ⟨some d,.next x false,ty,pos,af,g⟩ ρ w Q := by
 have hgi : (getObj it).run P w = .ok (.mapIter none c s q) w := by simp [getObj,Sem.run,hi]
 refine OpW.valD ?_ h0
 simp only [execOp,hx,Instr.next,Sem.run_bind,hgi,Result.andThen]
 rfl
end
def rKz {κ α : Type} (K : KK κ) (f : α -> SV) (p : Value) (L vis : List (κ × α)) : Res where
 fp := fun i => p = .pointer (some ⟨i,0,none⟩)
 pr := fun h w => (∃ (it c q : Nat) (s : Array Nat),p = .pointer (some ⟨it,0,none⟩) /\ w.heap[it]? = some (.mapIter none c s q) /\ L = [] /\ vis = []) \/ ∃ v l,l.Perm L /\ (rKI K f p v l vis).pr h w
 st := fun {h w h' w'} le hw hn u => by
  rcases u with ⟨it,c,q,s,e,h1,h2⟩ | ⟨v,l,hp,u⟩
  · exact .inl ⟨it,c,q,s,e,by rw [hw it e]; exact h1,h2⟩
  · exact .inr ⟨v,l,hp,(rKI K f p v l vis).st le hw hn u⟩
 fz := fun _ => True
 fzm := fun _ _ => trivial
 frz := fun {h0 w0 h w} g _ _ => ⟨h,g,PH.le.refl h,fun _ x _ => x,trivial⟩
class PKz (B : List Res) (p : Value) (κ : outParam Type) (K : outParam (KK κ)) (α : outParam Type) (f : outParam (α -> SV)) (L vis : outParam (List (κ × α))) (B' : outParam (List Res)) : Prop where h : Sb B (rKz K f p L vis :: B')
class HKz (B : List Res) (p : Value) (κ : outParam Type) (K : outParam (KK κ)) (α : outParam Type) (f : outParam (α -> SV)) (L vis : outParam (List (κ × α))) : Prop where h : ∀ {w0 h w},OwnB w0 B h w -> (rKz K f p L vis).pr h w
section
variable {κ α : Type} {K : KK κ} {f : α -> SV} {p : Value} {L vis : List (κ × α)} {B B' : List Res}
instance : PKz (rKz K f p L vis :: B) p κ K α f L vis B := ⟨.refl _⟩
instance : HKz (rKz K f p L vis :: B) p κ K α f L vis := ⟨fun o => o.1⟩
end
section
variable {P : Program} {n : Nat} {X : Fix} {ms : List Nat} {c : Bool} {loc env : EL} {B B1 : List Res} {kt : Kt} {ol rest : List Oper} {d : Nat} {ty : TypeId} {pos : String} {af : Array Edge} {κ α : Type} {K : KK κ} {f : α -> SV} {x0 a : α} {p : Value} {L vis : List (κ × α)} {t : TypeId} {x y : Operand} {s : κ} {T : SV} {sd : Prop}
theorem gZRg [mt : MpT P t κ K α f x0] [lx : Lu n true loc env x (kmz K f L)] (g : ∀ p,GO P n X ms ((d,ov p) :: loc) env (rKz K f p L [] :: B) ol rest kt) : GO P n X ms loc env B ol (⟨some d,.range t x,ty,pos,af,none⟩ :: rest) kt := ⟨fun ok ρ h w sy => by
 obtain ⟨h1,h2,h3⟩ := okR_some rfl ok
 obtain ⟨ktp,et,zv,t1,t2,t3,t4⟩ := mt.h
 rcases lx.h rfl ((sy.x [x]).fx x (by simp)) with ⟨hv,hL⟩ | ⟨b,l,hv,hR,es,clock,hb,rows,hn,hc⟩
 · refine Ops.cons (OpW.rangeN t1 hv ?_)
   have gr : Gr h w h (newW w (.mapIter none 0 #[] 0)) := Gr.new sy.gr.sat _
   have sv := sy.put (v := .pointer (some ⟨w.heap.size,0,none⟩)) (S := ov (.pointer (some ⟨w.heap.size,0,none⟩))) gr ⟨rfl,rfl⟩ h1 (h2 rfl)
   refine (g _).p h3 _ _ _ ⟨sv.gr,sv.lo,sv.en,sy.ow.new gr sy.gr.ext.size (.inl ⟨w.heap.size,0,0, #[],rfl,newW_at w _,hL,rfl⟩) fun i hi => ?_⟩
   cases hi
   exact ⟨Nat.le_refl _,blk_lt (newW_at w _),sy.gr.sat.fresh⟩
 · have hbw : w.heap[b]? = some (.map es clock) := sy.gr.sat _ _ hb
   refine Ops.cons (OpW.rangeM t1 hv hbw ?_)
   have gr : Gr h w h (newW w (.mapIter (some b) clock #[] clock)) := Gr.new sy.gr.sat _
   have sv := sy.put (v := .pointer (some ⟨w.heap.size,0,none⟩)) (S := ov (.pointer (some ⟨w.heap.size,0,none⟩))) gr ⟨rfl,rfl⟩ h1 (h2 rfl)
   refine (g _).p h3 _ _ _ ⟨sv.gr,sv.lo,sv.en,sy.ow.new gr sy.gr.ext.size (.inr ⟨_,l,hR,w.heap.size,b,es,clock, #[],[],es.toList.zip l,rfl,rfl,hb,newW_at w _,rows,hn,hc,by simp,by simp,rfl⟩) fun i hi => ?_⟩
   cases hi
   exact ⟨Nat.le_refl _,blk_lt (newW_at w _),sy.gr.sat.fresh⟩⟩
theorem gZNx [lx : Lu n true loc env x (ov p)] [pm : PKz B p κ K α f L vis B1] (done : vis.Perm L -> GO P n X ms ((d,.tp [.cv (.bool false)]) :: loc) env B1 ol rest kt)
 (more : ∀ s a,(∃ r,(vis ++ (s,a) :: r).Perm L) -> GO P n X ms ((d,.tp [.cv (.bool true),K.sv s,f a]) :: loc) env (rKz K f p L (vis ++ [(s,a)]) :: B1) ol rest kt) : GO P n X ms loc env B ol (⟨some d,.next x false,ty,pos,af,none⟩ :: rest) kt := ⟨fun ok ρ h w sy => by
 obtain ⟨h1,h2,h3⟩ := okR_some rfl ok
 have s' := sy.sb pm.h
 rcases s'.ow.1 with ⟨it,c,q,s,hp,hi,hL,hv⟩ | ⟨v,l,hpl,it,b,es,clock,seen,zv,zr,hp,hv,hb,hi,rows,hn,hc,pz,hs,hvs⟩
 · have hx := (lx.h rfl ((sy.x [x]).fx x (by simp))).1.trans hp
   refine Ops.cons (OpW.nextN hx hi ?_)
   exact (done (by rw [hL,hv])).p h3 _ _ _ ⟨s'.gr,⟨by rw [upd_at]; exact ⟨[.bool false],rfl,rfl,trivial⟩,s'.lo.upd (nIn_of h1)⟩,s'.en.upd (nIn_of (h2 rfl)),s'.ow.2.2.2⟩
 · have hbw : w.heap[b]? = some (.map es clock) := sy.gr.sat _ _ hb
   have hx := (lx.h rfl ((sy.x [x]).fx x (by simp))).1.trans hp
   obtain ⟨n1,n2⟩ := mi_next rows.1 hn pz hs hvs
   refine Ops.cons (OpW.nextM hx hbw hi hc (fun h0 => ?_) fun e he w' pw => ?_)
   · exact (done ((n1 h0).trans hpl)).p h3 _ _ _ ⟨s'.gr,⟨by rw [upd_at]; exact ⟨[.bool false],rfl,rfl,trivial⟩,s'.lo.upd (nIn_of h1)⟩,s'.en.upd (nIn_of (h2 rfl)),s'.ow.2.2.2⟩
   · obtain ⟨s,a,zr',hk,hd,hpz,r,hr⟩ := n2 e he
     have s2 := own_put (r' := rKz K f p L (vis ++ [(s,a)])) rfl s' pw (.inr ⟨v,l,hpl,it,b,es,clock,seen.push e.born,zv ++ [(e,s,a)],zr',hp,hv,hb,pw.at_,rows,hn,hc,hpz,by rw [List.map_append,hs,Array.toList_push]; rfl,by rw [List.map_append,hvs]; rfl⟩) hp fun i hi => hi
     refine (more s a ⟨r,hr.trans hpl⟩).p h3 _ _ _ ⟨s2.gr,⟨?_,s2.lo.upd (nIn_of h1)⟩,s2.en.upd (nIn_of (h2 rfl)),s2.ow⟩
     rw [upd_at]
     exact ⟨[.bool true,e.key,e.val],rfl,rfl,by rw [hk.1]; exact K.svh _ _,hd,trivial⟩⟩
instance [lx : Lu n c loc env x (ov p)] [hi : HKz B p κ K α f L (vis ++ [(s,a)])] : St P n c loc env B ms d (.entry x) True (.tp [K.sv s,f a]) := .p fun q _ _ _ _ _ _ sx _ _ _ _ _ kk => by
 rcases hi.h sx.ow with ⟨it,_,_,_,_,_,_,hv⟩ | ⟨v,l,hpl,it,b,es,clock,seen,zv,zr,hp,hv,hb,hit,rows,hn,hc,pz,hs,hvs⟩
 · simp at hv
 have hbw := sx.gr.sat _ _ hb
 have hx := (lx.h q (sx.f x)).1.trans hp
 have hz : zv ≠ [] := fun e => by rw [e] at hvs; simp at hvs
 obtain ⟨zi,zl,rfl⟩ : ∃ zi zl,zv = zi ++ [zl] := ⟨zv.dropLast,zv.getLast hz,(List.dropLast_concat_getLast hz).symm⟩
 rw [List.map_append] at hvs hs
 have e1 : zl.2 = (s,a) := by
  have := congrArg List.getLast? hvs
  simpa using this
 have e2 : seen.back? = some zl.1.born := by
  rw [<- Array.getLast?_toList, <- hs]; simp
 have hm : zl ∈ es.toList.zip l := pz.mem_iff.1 (by simp)
 have he : zl.1 ∈ es.toList := (List.of_mem_zip (show (zl.1,zl.2) ∈ es.toList.zip l from hm)).1
 have hk := rows.1.zip zl hm
 rw [e1] at hk
 exact OpW.entryM hx hbw hit e2 he hn (kk _ ⟨[zl.1.key,zl.1.val],rfl,by rw [hk.1.1]; exact K.svh _ _,hk.2,trivial⟩)
instance [mt : MpT P t κ K α f x0] [lx : Lu n c loc env x (kmz K f L)] [ly : Lu n c loc env y T] [kv : KV K T s sd] : St P n c loc env B ms d (.lookup t x y false) sd (f ((mget L s).getD x0)) := .p fun q hs _ _ _ _ _ sx _ _ _ _ _ kk => by
 obtain ⟨ktp,et,zv,h1,h2,h3,h4⟩ := mt.h
 obtain ⟨gk,ke⟩ := kv.h hs
 rcases lx.h q (sx.f x) with ⟨hv,hL⟩ | ⟨b,l,hv,hR,es,clock,hb,⟨rows,nd⟩,hn,hc⟩
 · refine OpW.lookupN (kt := ktp) gk h1 h3 hv (ke (ly.h q (sx.f y))) (kk _ ?_)
   rw [hL,show mget ([] : List (κ × α)) s = none from mget_none fun y hy => absurd hy (by simp)]
   exact h4 _
 · have hbw := sx.gr.sat _ _ hb
   have hg := mget_perm hR nd s
   refine OpW.lookupM (ok := false) (kt := ktp) gk h1 h3 hv (ke (ly.h q (sx.f y))) hbw rows nd (fun v' a hm hd => kk _ ?_) (fun hm => kk _ ?_)
   · rw [<- hg,hm]; exact hd
   · rw [<- hg,hm]; exact h4 _
instance [mt : MpT P t κ K α f x0] [lx : Lu n c loc env x (kmz K f L)] : St P n c loc env B ms d (.call ⟨.builtin .len,[x].toArray,[t].toArray⟩) True (.cv (.int .i64 (L.length : Int))) := .p fun q _ _ _ _ _ w sx _ _ _ _ _ kk => by
 obtain ⟨ktp,et,zv,h1,_,_,_⟩ := mt.h
 rcases lx.h q (sx.f x) with ⟨hv,hL⟩ | ⟨b,l,hv,hR,es,clock,hb,⟨rows,nd⟩,hn,hc⟩
 · refine OpW.valD (v := .int .i64 (L.length : Int)) (w' := w) ?_ (kk _ rfl)
   rw [hL]
   simp only [execOp,resolve,invoke,builtin,Sem.run_bind,Sem.run_pure,Result.andThen,List.map_toArray,List.map_cons,List.map_nil,hv,Builtin.len_,List.getElem?_toArray,List.getElem?_cons_zero,h1.run w]
   rfl
 · have hl := rows.length
   have hg : (getObj b).run P w = .ok (.map es clock) w := by simp [getObj,Sem.run,sx.gr.sat _ _ hb]
   refine OpW.valD (v := .int .i64 (L.length : Int)) (w' := w) ?_ (kk _ rfl)
   simp only [execOp,resolve,invoke,builtin,Sem.run_bind,Sem.run_pure,Result.andThen,List.map_toArray,List.map_cons,List.map_nil,hv,Builtin.len_,List.getElem?_toArray,List.getElem?_cons_zero,h1.run w,hg]
   rw [<- hR.length_eq, <- hl]; rfl
end
end Go.E3
namespace Go.E3
open Go Go.Ear Go.Proofs
class TArr (P : Program) (t : TypeId) (m : outParam Nat) : Prop where h : ∃ e,IsUnd P t (.array m e) /\ IsSize P e 1 /\ 1 < m
section
variable {P : Program} {n : Nat} {X : Fix} {ms : List Nat} {c : Bool} {loc env : EL} {B : List Res} {d : Nat} {ty : TypeId} {pos : String} {af : Array Edge} {t : TypeId} {x y : Operand} {v : Value} {l : List SV} {m : Nat} {k : IntKind} {i : Int} {a : Nat} {sd : Prop} {ρ : Env} {w : World} {Q : Env -> World -> Prop} {g : Option (Nat × Bool)}
theorem OpW.indexArr {e : TypeId} {b off : Nat} (ht : IsUnd P t (.array m e)) (hs : IsSize P e 1) (hx : ev n ρ x = .pointer (some ⟨b,off,none⟩)) (hy : ev n ρ y = .int k i) (h : 0 <= i /\ i < m) (hm : 1 < m) (hk : Q (upd ρ d (.pointer (some ⟨b,off + i.toNat,none⟩))) w) : OpW P n ⟨some d,.indexAddr t x y,ty,pos,af,g⟩ ρ w Q := by
 refine OpW.valD ?_ hk
 have hmm : ¬ m <= 1 := by omega
 simp [execOp,Instr.indexAt,asIntOf,hx,hy,ht.run w,hs w,h,addr_add,Instr.sureAddr,hmm]
instance [ta : TArr P t m] [lx : Lu n c loc env x (ov v)] [hv : HC B v l] [ly : Lu n c loc env y (.cv (.int k i))] [tn : TN i a sd] : St P n c loc env B ms d (.indexAddr t x y) (sd /\ a < m) (fo v a) := .p fun q hs _ _ _ _ _ s _ _ _ _ _ kk => by
 obtain ⟨e,h1,h2,h3⟩ := ta.h
 have u := lx.h q (s.f x)
 obtain ⟨b,off,vs,ev_,_⟩ := hvE (v := v) s
 have hi := tn.e hs.1
 refine OpW.indexArr h1 h2 (u.1.trans ev_) (cvE (ly.h q (s.f y))) (by rw [hi]; have := hs.2; omega) h3 (kk _ ⟨b,off,ev_,by rw [hi]; rfl⟩)
end
instance : TArr Tryz.prog 86 4 := ⟨3,Tryz.underlying86,Tryz.sizeOf3,by decide⟩
instance : TArr Tryz.prog 221 4 := ⟨3,Tryz.underlying221,Tryz.sizeOf3,by decide⟩
end Go.E3
