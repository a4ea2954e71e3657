/- K41: a part of the proof about training through the decoder: how the program's functions run, and what they compute, for every input. -/
import Derived.Test.YtdciabokggfpbaaGreatK40
set_option linter.all false
set_option maxHeartbeats 4000000
namespace Go.E3
open Go Go.Ear Go.Proofs
class IvL (l : List SV) (m : outParam (List Int)) : Prop where h : l = m.map fun x => (.cv (.int .i64 x) : SV)
instance : IvL [] [] := ⟨rfl⟩
instance {x : Int} {l : List SV} {m : List Int} [i : IvL l m] : IvL (.cv (.int .i64 x) :: l) (x :: m) := ⟨by rw [i.h]; rfl⟩
class SbN (a b : Nat) (c : outParam Nat) : Prop where h : c = a - b /\ b <= a
instance {a : Nat} : SbN a 0 a := ⟨rfl,Nat.zero_le _⟩
instance {a b c : Nat} [i : SbN a b c] : SbN (a + 1) (b + 1) c := ⟨by have := i.h; omega,by have := i.h; omega⟩
instance (priority := high) {i j : Int} {a b c : Nat} {s : Prop} [x : TN i a s] [y : IN j b] [sb : SbN a b c] : TN (i - j) c s := ⟨fun h => by rw [x.e h,y.e]; have := sb.h; omega⟩
class IvM (m : List Int) (l : outParam (List SV)) : Prop where h : l = m.map fun x => (.cv (.int .i64 x) : SV)
instance : IvM [] [] := ⟨rfl⟩
instance {x : Int} {l : List SV} {m : List Int} [i : IvM m l] : IvM (x :: m) (.cv (.int .i64 x) :: l) := ⟨by rw [i.h]; rfl⟩
theorem iv_inj : ∀ {a b : List Int},(a.map fun x => (.cv (.int .i64 x) : SV)) = b.map (fun x => (.cv (.int .i64 x) : SV)) -> a = b
 | [],[],_ => rfl
 | [],_ :: _,h => by simp at h
 | _ :: _,[],h => by simp at h
 | x :: a,y :: b,h => by
   rw [List.map_cons,List.map_cons] at h
   injection h with h1 h2
   injection h1 with h1
   injection h1 with _ h1
   rw [h1,iv_inj h2]
theorem den_ints {h : PH} : ∀ {m : List Int} {vs : List Value},denL h (m.map fun x => (.cv (.int .i64 x) : SV)) vs -> vs = m.map fun x => Value.int .i64 x
 | [],[],_ => rfl
 | x :: m,v :: vs,u => by rw [List.map_cons, <- den_ints u.2,show v = Value.int .i64 x from u.1]
theorem lr_pk {h : PH} {m : List Int} {b off cap : Nat} {arr : Array Value} {t : TypeId} {fz : Nat × Nat} (hb : h b = some (.cells arr t fz)) (hsz : off + m.length <= arr.size) (u : cut arr off m.length = m.map fun x => Value.int .i64 x) (hc : m.length <= cap) : LR rI h (.slice (some ⟨b,off,none⟩) m.length cap) m := by
 have key : ∀ m : List Int,Go.Ear.Rows rI h (m.map fun x => [Value.int .i64 x]) m := fun m => by
  induction m with
  | nil => trivial
  | cons x m ih => exact ⟨⟨rfl,trivial⟩,ih⟩
 refine ⟨m.map fun x => [Value.int .i64 x],⟨some ⟨b,off,none⟩,cap,by simp,by simpa using hc,fun cs hcs => ?_,.inr ⟨b,off,arr,t,fz,rfl,hb,by simpa [show rI.k = 1 from rfl] using hsz,fun i cs hi => ?_⟩⟩,key m⟩
 · obtain ⟨x,_,rfl⟩ := List.mem_map.1 hcs; rfl
 · rw [List.getElem?_map] at hi
   obtain ⟨x,hx,rfl⟩ := Option.map_eq_some_iff.1 hi
   have hlt := (List.getElem?_eq_some_iff.1 hx).1
   have : arr[off + i]? = some (Value.int .i64 x) := cut_cell u i hlt (by rw [List.getElem?_map,hx]; rfl)
   show cut arr (off + i * 1) 1 = _
   rw [Nat.mul_one]
   have hl2 := (Array.getElem?_eq_some_iff.1 this).1
   unfold cut
   rw [List.drop_eq_getElem_cons (by simpa using hl2),List.take_succ_cons,List.take_zero,Array.getElem_toList]
   rw [Array.getElem?_eq_getElem hl2] at this
   rw [Option.some.inj this]
section
variable {P : Program} {n : Nat} {ρ : Env} {w : World} {Q : Env -> World -> Prop} {d : Nat} {ty : TypeId} {pos : String} {af : Array Edge} {g : Option (Nat × Bool)} {t : TypeId} {x y z : Operand} {m : Nat} {k k2 : IntKind}
theorem OpW.sliceA {e : TypeId} {b off : Nat} (ht : IsUnd P t (.array m e)) (hs : IsSize P e 1) (hx : ev n ρ x = .pointer (some ⟨b,off,none⟩)) (hk : Q (upd ρ d (.slice (some ⟨b,off,none⟩) m m)) w) (hm : m ≠ 0) : OpW P n ⟨some d,.slice t x none none none,ty,pos,af,g⟩ ρ w Q := by
 refine OpW.valD ?_ hk
 simp [execOp,Instr.sliceAt,Instr.sliceBounds,hx,ht.run w,hs w,Instr.sureAddr,hm]
 rfl
theorem OpW.sliceAto {e : TypeId} {b off c : Nat} (ht : IsUnd P t (.array m e)) (hs : IsSize P e 1) (hx : ev n ρ x = .pointer (some ⟨b,off,none⟩)) (hy : ev n ρ y = .int k c) (hc : c <= m) (hm : m ≠ 0) (hk : Q (upd ρ d (.slice (some ⟨b,off,none⟩) c m)) w) : OpW P n ⟨some d,.slice t x none (some y) none,ty,pos,af,g⟩ ρ w Q := by
 refine OpW.valD ?_ hk
 have h1 : (0 : Int) <= (c : Int) /\ (c : Int) <= (m : Int) := by omega
 simp [execOp,Instr.sliceAt,Instr.sliceBounds,Instr.sliceBound,asIntOf,hx,hy,ht.run w,hs w,Instr.sureAddr,hm,h1,hc]
 rfl
theorem OpW.sliceAmid {e : TypeId} {b off a c : Nat} (ht : IsUnd P t (.array m e)) (hs : IsSize P e 1) (hx : ev n ρ x = .pointer (some ⟨b,off,none⟩)) (hy : ev n ρ y = .int k a) (hz : ev n ρ z = .int k2 c) (ha : a <= c) (hc : c <= m) (hk : Q (upd ρ d (.slice (some (if m = a then ⟨b,off,none⟩ else (⟨b,off,none⟩ : Addr).add (a * 1))) (c - a) (m - a))) w) : OpW P n ⟨some d,.slice t x (some y) (some z) none,ty,pos,af,g⟩ ρ w Q := by
 refine OpW.valD ?_ hk
 have h1 : (0 : Int) <= (c : Int) /\ (c : Int) <= (m : Int) := by omega
 have h2 : (0 : Int) <= (a : Int) /\ (a : Int) <= (c : Int) := by omega
 simp [execOp,Instr.sliceAt,Instr.sliceBounds,Instr.sliceBound,asIntOf,hx,hy,hz,ht.run w,hs w,Instr.sureAddr,h1,h2,ha,hc]
theorem OpW.eqlNilM {u kt et : TypeId} {b : Option Nat} (ht : IsUnd P t (.map kt et)) (hx : ev n ρ x = .map b) (hy : ev n ρ y = .map none) (hk : Q (upd ρ d (.bool b.isNone)) w) : OpW P n ⟨some d,.binOp .eql t x y u,ty,pos,af,g⟩ ρ w Q := by
 refine OpW.valD ?_ hk
 have he : (eqGuard .eql t x y (.map b) (.map none)).run P w = .ok () w := by unfold eqGuard; simp
 have hb : (binOp .eql t (.map b) (.map none)).run P w = .ok (.bool b.isNone) w := by
  show (do pure (Value.bool (<- Op.equal t (.map b) (.map none))) : Sem Value).run P w = _
  have : (Op.equal t (.map b) (.map none)).run P w = .ok b.isNone w := by
   show (Op.equalIn (9999 + 1) t (.map b) (.map none)).run P w = _
   unfold Op.equalIn
   cases b <;> (simp only [Sem.run_bind,ht.run w,Result.andThen]; rfl)
  simp only [Sem.run_bind,this,Result.andThen]; rfl
 simp only [execOp,hx,hy,Sem.run_bind,he,Result.andThen,hb]; rfl
end
class IsMp (P : Program) (t : TypeId) : Prop where h : ∃ kt et,IsUnd P t (.map kt et)
def sl (v : Value) (m : Nat) : SV := .kv ⟨fun _ x => ∃ b,v = .pointer (some ⟨b,0,none⟩) /\ x = .slice (some ⟨b,0,none⟩) m m,fun ⟨b,_,e⟩ => e ▸ rfl,fun _ u => u⟩
def isNM : Value -> Bool
 | .map none => true
 | _ => false
section
variable {P : Program} {n : Nat} {X : Fix} {ms : List Nat} {c : Bool} {loc env : EL} {B B1 : List Res} {kk : Kt} {ol rest : List Oper} {d : Nat} {ty : TypeId} {pos : String} {af : Array Edge} {t t2 u e et : TypeId} {x y z : Operand} {v : Value} {l l' : List SV} {q m2 : List Int} {m : Nat} {k k2 : IntKind} {i j : Int} {a b : Nat} {sd sd2 : Prop}
instance [ta : TArr P t m] [lx : Lu n c loc env x (ov v)] [hv : HV B v l et] : St P n c loc env B ms d (.slice t x none none none) True (sl v m) := .p fun qc _ _ _ _ _ _ s _ _ _ _ _ kk => by
 obtain ⟨e,h1,h2,h3⟩ := ta.h
 obtain ⟨b,arr,ev_,_⟩ := hv.h s.ow
 have hx := (lx.h qc (s.f x)).1
 exact OpW.sliceA h1 h2 (hx.trans ev_) (kk _ ⟨b,ev_,rfl⟩) (by omega)
instance [ta : TArr P t m] [lx : Lu n c loc env x (.pk l 0)] [iv : IvL l q] [ly : Lu n c loc env y (.cv (.int k i))] [tn : TN i a sd] : St P n c loc env B ms d (.slice t x none (some y) none) (sd /\ a <= m /\ q.length = m) (lv rI (q.take a)) := .p fun qc hs _ _ _ _ _ s _ _ _ _ _ kk => by
 obtain ⟨e,h1,h2,h3⟩ := ta.h
 obtain ⟨b,off,arr,t0,fz,hb,hx,hsz,hd⟩ := lx.h qc (s.f x)
 rw [iv.h,List.length_map] at hsz hd
 have hu := lr_pk (cap := m) hb hsz (den_ints hd) (by omega)
 have hq := hs.2.2
 rw [hq] at hu
 exact OpW.sliceAto h1 h2 hx ((cvE (ly.h qc (s.f y))).trans (by rw [tn.e hs.1])) hs.2.1 (by omega) (kk _ (hu.take a (by omega)))
instance {cnt : Nat} {q2 : List Int} [ta : TArr P t m] [lx : Lu n c loc env x (.pk l 0)] [iv : IvL l q] [ly : Lu n c loc env y (.cv (.int k i))] [lz : Lu n c loc env z (.cv (.int k2 j))] [tn : TN i a sd] [tn2 : TN j b sd2] [sb : SbN b a cnt] [pr : Prt l a cnt l'] [iv2 : IvL l' q2] : St P n c loc env B ms d (.slice t x (some y) (some z) none) ((sd /\ sd2) /\ b <= m /\ q.length = m) (lv rI q2) := .p fun qc hs _ _ _ _ _ s _ _ _ _ _ kk => by
 obtain ⟨e,h1,h2,h3⟩ := ta.h
 obtain ⟨b',off,arr,t0,fz,hb,hx,hsz,hd⟩ := lx.h qc (s.f x)
 rw [iv.h,List.length_map] at hsz hd
 have hu := lr_pk (cap := m) hb hsz (den_ints hd) (by omega)
 obtain ⟨hs1,hbm,hq⟩ := hs
 have ha := sb.h.2
 rw [hq] at hu
 rw [Nat.add_zero] at hx
 have hu2 := LR.drop (m := a) (sz := 1) (hu.take b (by omega)) rfl (by rw [List.length_take]; omega)
 have e3 : (q.take b).drop a = q2 := by
  have h5 := pr.h.1
  rw [iv.h,iv2.h, <- List.map_drop, <- List.map_take,sb.h.1] at h5
  rw [<- iv_inj h5,List.drop_take]
 rw [e3] at hu2
 refine OpW.sliceAmid h1 h2 hx ((cvE (ly.h qc (s.f y))).trans (by rw [tn.e hs1.1])) ((cvE (lz.h qc (s.f z))).trans (by rw [tn2.e hs1.2])) ha hbm (kk _ ?_)
 have e2 : (some (if m = a then (⟨b',off,none⟩ : Addr) else (⟨b',off,none⟩ : Addr).add (a * 1)) : Option Addr) = (if m = a then some ⟨b',off,none⟩ else (some (⟨b',off,none⟩ : Addr)).map (·.add (a * 1))) := by split <;> rfl
 rw [e2]
 exact hu2
instance [ta : TArr P t m] [lx : Lu n c loc env x (.pk l 0)] [ly : Lu n c loc env y (.cv (.int k i))] [tn : TN i a sd] : St P n c loc env B ms d (.indexAddr t x y) (sd /\ a < m) (.pk l a) := .p fun q hs _ _ _ _ _ s _ _ _ _ _ kk => by
 obtain ⟨e,h1,h2,h3⟩ := ta.h
 obtain ⟨b,off,arr,t0,fz,hb,hx,hsz,hd⟩ := lx.h q (s.f x)
 rw [Nat.add_zero] at hx
 have hi := tn.e hs.1
 refine OpW.indexArr h1 h2 hx (cvE (ly.h q (s.f y))) (by rw [hi]; have := hs.2; omega) h3 (kk _ ⟨b,off,arr,t0,fz,hb,by rw [hi]; rfl,hsz,hd⟩)
instance {e2 : TypeId} {cs lr : List SV} [ts : TS P t e2] [tz : TZ P e2 1] [lx : Lu n true loc env x (sl v m)] [pv : PV B v l et B1] [iv : IvL l q] [ly : Lu n true loc env y (lv rI m2)] [im : IvM m2 cs] [sp : Spl l 0 cs lr] : Nx (GO P n X ms loc env B ol (⟨some d,.call ⟨.builtin .copy,[x,y].toArray,[t,t2].toArray⟩,ty,pos,af,none⟩ :: rest) kk) (m2.length <= m /\ q.length = m) (GO P n X ms ((d,.cv (.int .i64 (m2.length : Int))) :: loc) env (rV v lr et :: B1) ol rest kk) := ⟨fun hs f => ⟨fun ok ρ h w s => by
 have hlr : lr = (m2 ++ q.drop m2.length).map fun x => (.cv (.int .i64 x) : SV) := by
  have h5 := sp.h.1
  rw [List.take_zero,List.nil_append,Nat.zero_add,im.h,List.length_map,iv.h, <- List.map_drop, <- List.map_append] at h5
  exact h5.symm
 rw [hlr] at f
 obtain ⟨h1,h2,h3⟩ := okR_some rfl ok
 obtain ⟨b,eb,hx⟩ := lx.h rfl ((s.x [x]).fx x (by simp))
 have hy : LR rI h _ m2 := ly.h rfl ((s.x [y]).fx y (by simp))
 have s' := s.sb pv.h
 obtain ⟨b',arr,ev_,hb,ud⟩ := (s'.ow.at 0 rfl).1
 rw [eb] at ev_; cases ev_
 obtain ⟨base,cap,ey,hc⟩ := hy.shape
 rw [ey] at hy
 obtain ⟨hm,hq⟩ := hs
 rw [iv.h] at ud
 have har := den_ints ud
 have hsz : arr.size = q.length := by rw [<- Array.length_toList,har,List.length_map]
 obtain ⟨css,s2,rr⟩ := hy
 have rd := s2.reads s.gr.sat
 have hcl := rr.length
 have hcf : css.flatten = m2.map fun x => Value.int .i64 x := by
  have key : ∀ (css : List (List Value)) (m2 : List Int),Go.Ear.Rows rI h css m2 -> css.flatten = m2.map fun x => Value.int .i64 x := fun css => by
   induction css with
   | nil => intro m2 u; cases m2 with
     | nil => rfl
     | cons => exact u.elim
   | cons cs css ih => intro m2 u; cases m2 with
     | nil => exact u.elim
     | cons x m2 =>
       have h0 : denL h [(.cv (.int .i64 x) : SV)] cs := u.1
       match cs,h0 with
       | [c],h0 => rw [List.flatten_cons,ih m2 u.2,show c = Value.int .i64 x from h0.1]; rfl
  exact key css m2 rr
 have hf := run_firstCells (P := P) rd
 have hfl : css.flatten.length = m2.length := by rw [hcf,List.length_map]
 obtain ⟨w',hst,hp⟩ := run_storeCells_own (P := P) css.flatten 0 0 arr w hb (by rw [hfl,hsz]; omega) rr.ones
 have hmin : Nat.min m2.length m = m2.length := Nat.min_eq_left hm
 have hput : putIn arr (0 + 0) css.flatten = ((m2 ++ q.drop m2.length).map fun x => Value.int .i64 x).toArray := by
  apply Array.ext'
  rw [putIn_toList css.flatten arr 0 (by rw [hfl,hsz]; omega),hfl,har,hcf]
  simp
 rw [hput] at hp
 have hkk : rI.k = 1 := rfl
 rw [hkk] at hf
 refine Ops.cons (OpW.valD (v := .int .i64 (m2.length : Int)) (w' := w') ?_ ?_)
 · simp only [execOp,resolve,invoke,builtin,Sem.run_bind,Sem.run_pure,Result.andThen,List.map_toArray,List.map_cons,List.map_nil,hx,ey]
   have hrr : (Builtin.copy_ #[t,t2] ty #[.slice (some ⟨b,0,none⟩) m m,.slice base m2.length cap]).run P w = .ok (.int .i64 (m2.length : Int)) w' := by
    rw [hcl] at hf
    simp [Builtin.copy_,run_underlying ts.h,Builtin.lenOf,tz.h w,hmin,hf,hst,goInt]
   rw [hrr]
 · have hden : denL h ((m2 ++ q.drop m2.length).map fun x => (.cv (.int .i64 x) : SV)) ((m2 ++ q.drop m2.length).map fun x => Value.int .i64 x) := by
    generalize m2 ++ q.drop m2.length = l
    induction l with
    | nil => trivial
    | cons x l ih => exact ⟨rfl,ih⟩
   exact f.p h3 _ _ _ ((own_put (r' := rV v ((m2 ++ q.drop m2.length).map fun x => (.cv (.int .i64 x) : SV)) et) rfl s' hp ⟨b,_,eb,hp.at_,hden⟩ eb fun i hi => hi).set (show den h (.cv (.int .i64 (m2.length : Int))) (.int .i64 (m2.length : Int)) from rfl) h1 (h2 rfl))⟩⟩
instance [lx : Lu n c loc env x (ov v)] [mt : IsMp P t] : St P n c loc env B ms d (.binOp .eql t x (.const (.map none)) u) (∃ b,v = .map b) (.cv (.bool (isNM v))) := .p fun qc hs _ _ _ _ _ s _ _ _ _ _ kk => by
 obtain ⟨kt,et,h1⟩ := mt.h
 obtain ⟨b,hb⟩ := hs
 have hx := (lx.h qc (s.f x)).1
 refine OpW.eqlNilM h1 (hx.trans hb) rfl (kk _ ?_)
 rw [hb]
 cases b <;> rfl
end
section
variable {κ α : Type}
theorem mget_mset {l : List (κ × α)} {k : κ} {x : α} : mget (mset l k x) k = some x := by
 induction l with
 | nil => unfold mset mget; rw [List.find?_cons_of_pos (by simp)]; rfl
 | cons y l ih =>
   unfold mset
   split
   · unfold mget; rw [List.find?_cons_of_pos (by simp)]; rfl
   · rename_i hne
     unfold mget at ih ⊢
     rw [List.find?_cons_of_neg (by simpa using hne)]; exact ih
theorem mget_mset_ne {l : List (κ × α)} {k k' : κ} {x : α} (h : k' ≠ k) : mget (mset l k x) k' = mget l k' := by
 induction l with
 | nil => unfold mset mget; rw [List.find?_cons_of_neg (by simpa using fun e => h e.symm)]
 | cons y l ih =>
   unfold mset
   split
   · rename_i e
     unfold mget
     rw [List.find?_cons_of_neg (by simpa using fun e => h e.symm),List.find?_cons_of_neg (by simpa using fun e2 => h (e2.symm.trans e))]
   · unfold mget at ih ⊢
     by_cases e : y.1 = k'
     · rw [List.find?_cons_of_pos (by simpa using e),List.find?_cons_of_pos (by simpa using e)]
     · rw [List.find?_cons_of_neg (by simpa using e),List.find?_cons_of_neg (by simpa using e)]; exact ih
theorem mset_pos {l : List (κ × α)} {k : κ} {x : α} {y : κ × α} (h : y.1 = k) : mset (y :: l) k x = (k,x) :: l := by
 unfold mset; rw [if_pos h]
theorem mset_neg {l : List (κ × α)} {k : κ} {x : α} {y : κ × α} (h : ¬ y.1 = k) : mset (y :: l) k x = y :: mset l k x := by
 rw [mset,if_neg h]
theorem mset_mset {l : List (κ × α)} {k : κ} {x y : α} : mset (mset l k x) k y = mset l k y := by
 induction l with
 | nil => exact mset_pos rfl
 | cons z l ih =>
   by_cases e : z.1 = k
   · rw [mset_pos e,mset_pos e,mset_pos rfl]
   · rw [mset_neg e,mset_neg e,mset_neg e,ih]
theorem mset_same {l : List (κ × α)} {k : κ} {x : α} (nd : (l.map (·.1)).Nodup) (h : mget l k = some x) : mset l k x = l := by
 induction l with
 | nil => unfold mget at h; simp at h
 | cons z l ih =>
   rw [List.map_cons,List.nodup_cons] at nd
   unfold mset
   unfold mget at h ih
   by_cases e : z.1 = k
   · rw [List.find?_cons_of_pos (by simpa using e)] at h
     rw [if_pos e]
     have : z.2 = x := by simpa using h
     rw [<- e, <- this]
   · rw [List.find?_cons_of_neg (by simpa using e)] at h
     rw [if_neg e,ih nd.2 h]
end
section
variable {κ α : Type} {K : KK κ}
def rME (K : KK κ) (f : α -> SV) (x0 : α) (v : Value) (l : List (κ × α)) (k : κ) (st : Value) : Res where
 fp := fun i => v = .map (some i)
 pr := fun h w => ∃ b,v = .map (some b) /\ K.gd k /\ ∃ (es : Array MapEntry) (clock j : Nat) (e : MapEntry),w.heap[b]? = some (.map es clock) /\ (MRows K f h es.toList (mset l k ((mget l k).getD x0)) /\ ((mset l k ((mget l k).getD x0)).map (·.1)).Nodup) /\ (es.toList.map (·.born)).Nodup /\ (∀ e ∈ es.toList,e.born < clock) /\ es.toList[j]? = some e /\ e.key = K.enc k /\ st = .int .i64 (e.born : Int)
 st := fun {h w h' w'} le hw hn u => by
  obtain ⟨b,e,gd,es,clock,j,e',h1,⟨h2,h2'⟩,h3⟩ := u
  exact ⟨b,e,gd,es,clock,j,e',by rw [hw b e]; exact h1,⟨h2.mono le,h2'⟩,h3⟩
 fz := fun _ => True
 fzm := fun _ _ => trivial
 frz := fun {h0 w0 h w} g _ _ => ⟨h,g,PH.le.refl h,fun _ x _ => x,trivial⟩
end
class HME (B : List Res) (v : Value) (κ : outParam Type) (K : outParam (KK κ)) (α : outParam Type) (f : outParam (α -> SV)) (x0 : outParam α) (l : outParam (List (κ × α))) (k : outParam κ) (st : outParam Value) : Prop where h : ∀ {w0 h w},OwnB w0 B h w -> (rME K f x0 v l k st).pr h w
class PME (B : List Res) (v : Value) (κ : outParam Type) (K : outParam (KK κ)) (α : outParam Type) (f : outParam (α -> SV)) (x0 : outParam α) (l : outParam (List (κ × α))) (k : outParam κ) (st : outParam Value) (B' : outParam (List Res)) : Prop where h : Sb B (rME K f x0 v l k st :: B')
section
variable {κ α : Type} {K : KK κ} {f : α -> SV} {x0 : α} {v st : Value} {l : List (κ × α)} {k : κ} {B B' : List Res}
instance : HME (rME K f x0 v l k st :: B) v κ K α f x0 l k st := ⟨fun o => o.1⟩
instance : PME (rME K f x0 v l k st :: B) v κ K α f x0 l k st B := ⟨.refl _⟩
end
section
variable {P : Program} {n : Nat} {ρ : Env} {w : World} {Q : Env -> World -> Prop} {d : Nat} {ty : TypeId} {pos : String} {af : Array Edge} {g : Option (Nat × Bool)} {κ α : Type} {K : KK κ} {f : α -> SV} {h : PH} {l : List (κ × α)} {t kt et : TypeId} {x y z : Operand} {b : Nat} {k : κ} {zv : Value} {x0 : α}
theorem born_at : ∀ {l : List MapEntry} {j : Nat} {e : MapEntry},(l.map (·.born)).Nodup -> l[j]? = some e -> l.findIdx? (fun e' => (e'.born : Int) == (e.born : Int)) = some j
 | [],j,e,_,h => by simp at h
 | y :: l,0,e,nd,h => by
   simp at h; subst h
   simp [List.findIdx?_cons]
 | y :: l,j + 1,e,nd,h => by
   rw [List.map_cons,List.nodup_cons] at nd
   have h : l[j]? = some e := by simpa using h
   have hne : ¬ y.born = e.born := fun e2 => nd.1 (by rw [e2]; exact List.mem_map_of_mem (List.mem_of_getElem? h))
   have ih := born_at nd.2 h
   rw [List.findIdx?_cons]
   have : ((y.born : Int) == (e.born : Int)) = false := by simpa using fun e2 : (y.born : Int) = (e.born : Int) => hne (by omega)
   rw [this,ih]; rfl
theorem modify_at {β : Type _} (p q : β -> β) : ∀ {l : List β} {j : Nat} {e : β},l[j]? = some e -> p e = q e -> l.modify j p = l.modify j q
 | [],j,e,h,_ => by simp at h
 | y :: l,0,e,h,he => by simp at h; subst h; rw [List.modify_zero_cons,List.modify_zero_cons,he]
 | y :: l,j + 1,e,h,he => by rw [List.modify_succ_cons,List.modify_succ_cons,modify_at p q (by simpa using h) he]
theorem modify_id {β : Type _} (p : β -> β) : ∀ {l : List β} {j : Nat} {e : β},l[j]? = some e -> p e = e -> l.modify j p = l
 | [],j,e,h,_ => by simp at h
 | y :: l,0,e,h,he => by simp at h; subst h; rw [List.modify_zero_cons,he]
 | y :: l,j + 1,e,h,he => by rw [List.modify_succ_cons,modify_id p (by simpa using h) he]
theorem OpW.entryE [ky : KyP P kt K] (gk : K.gd k) (ht : IsUnd P t (.map kt et)) (hz : IsZero P et zv) (hzd : den h (f x0) zv) (hx : ev n ρ x = .map (some b)) (hy : ev n ρ y = K.enc k) (ok : MpOk K f h w b l)
 (hk : ∀ w' o v st,Put w w' b o -> (rME K f x0 (.map (some b)) l k st).pr h w' -> den h (f ((mget l k).getD x0)) v -> Q (upd ρ d (.tuple #[v,st])) w') : OpW P n ⟨some d,.mapEntry t x y,ty,pos,af,g⟩ ρ w Q := by
 obtain ⟨es,clock,hb,⟨rows,nd⟩,hn,hcl⟩ := ok
 have hg : (getObj b).run P w = .ok (.map es clock) w := by simp [getObj,Sem.run,hb]
 obtain ⟨lx,hlx⟩ := ky.lit k gk
 have hc : (Instr.checkKey false 10000 kt (K.enc k)).run P w = .ok () w := ky.law.check w false hlx
 have hlt : b < w.heap.size := (Array.getElem?_eq_some_iff.1 hb).1
 have hset : ∀ o : Obj,(setObj b o).run P w = .ok () (w.putObj b o) := fun o => by
  simp only [setObj,Sem.run,hb]; rfl
 rcases find_rows (P := P) (kt := kt) gk rows nd w with ⟨hf,hne,hm⟩ | ⟨j,e,a',hf,he,hke,hm,hlj,hd⟩
 · have hms : mset l k ((mget l k).getD x0) = l ++ [(k,x0)] := by
    rw [hm]
    refine mset_new fun y hy e => ?_
    obtain ⟨jj,hjj⟩ := List.getElem?_of_mem hy
    have := mget_at nd hjj
    rw [e,hm] at this; cases this
   refine OpW.valD (v := .tuple #[zv,goInt clock]) (w' := w.putObj b (.map (es.push ⟨K.enc k,zv,clock⟩) (clock + 1))) ?_ (hk _ _ _ _ (Put.obj hlt) ⟨b,rfl,gk,_,_,es.toList.length,⟨K.enc k,zv,clock⟩,(Put.obj hlt).at_, ?_, ?_, ?_,by rw [Array.toList_push]; simp,rfl,rfl⟩ (by rw [hm]; exact hzd))
   · simp only [execOp,Instr.mapEntry,hx,hy,Sem.run_bind,ht.run w,hg,hc,hf,Result.andThen,Sem.run_pure,hset,hz w]
   · rw [hms,Array.toList_push]
     refine ⟨rows.app ⟨⟨⟨rfl,gk⟩,hzd⟩,trivial⟩, ?_⟩
     rw [<- hms]; exact mset_nd nd
   · rw [Array.toList_push,List.map_append,List.nodup_append]
     refine ⟨hn,by simp,fun a ha b hb => ?_⟩
     obtain ⟨e,he,rfl⟩ := List.mem_map.1 ha
     have hb : b = clock := by simpa using hb
     have := hcl e he
     omega
   · intro e he
     rw [Array.toList_push] at he
     rcases List.mem_append.1 he with he | he
     · have := hcl e he; omega
     · rcases List.mem_singleton.1 he with rfl; exact Nat.lt_succ_self _
 · have hms : mset l k ((mget l k).getD x0) = l := by rw [hm]; exact mset_same nd hm
   have hj : es[j]? = some e := by rw [<- Array.getElem?_toList]; exact he
   have hks : (Instr.keyThatStays (((es[j]?).map (·.key)).getD (K.enc k)) (K.enc k)).run P w = .ok (K.enc k) w := by
    have : ((es[j]?).map (·.key)).getD (K.enc k) = K.enc k := by rw [hj]; exact hke
    rw [this]
    exact ky.law.stays w hlx
   have hmod : es.modify j (fun e => { e with key := K.enc k }) = es := by
    apply Array.ext'
    rw [Array.toList_modify]
    exact modify_id _ he (by rw [<- hke])
   refine OpW.valD (v := .tuple #[e.val,goInt e.born]) (w' := w.putObj b (.map es clock)) ?_ (hk _ _ _ _ (Put.obj hlt) ⟨b,rfl,gk,es,clock,j,e,(Put.obj hlt).at_,⟨by rw [hms]; exact rows,by rw [hms]; exact nd⟩,hn,hcl,he,hke,rfl⟩ (by rw [hm]; exact hd))
   simp only [execOp,Instr.mapEntry,hx,hy,Sem.run_bind,ht.run w,hg,hc,hf,hks,Result.andThen,Sem.run_pure,hset,hmod]
   rw [hj]; rfl
theorem OpW.entryS {dd : Option Tmp} {v st : Value} {a : α} (hx : ev n ρ x = .map (some b)) (hy : ev n ρ y = st) (hz : ev n ρ z = v) (hv : den h (f a) v) (ok : (rME K f x0 (.map (some b)) l k st).pr h w)
 (hk : ∀ w' o,Put w w' b o -> MpOk K f h w' b (mset l k a) -> Q (updO ρ dd undef) w') : OpW P n ⟨dd,.entryStore t x y z,ty,pos,af,g⟩ ρ w Q := by
 obtain ⟨b',e0,gk,es,clock,j,e,hb,⟨rows,nd⟩,hn,hcl,he,hke,rfl⟩ := ok
 cases e0
 have hg : (getObj b).run P w = .ok (.map es clock) w := by simp [getObj,Sem.run,hb]
 have hlt : b < w.heap.size := (Array.getElem?_eq_some_iff.1 hb).1
 have hset : ∀ o : Obj,(setObj b o).run P w = .ok () (w.putObj b o) := fun o => by
  simp only [setObj,Sem.run,hb]; rfl
 have hfi : es.findIdx? (fun e' => (e'.born : Int) == (e.born : Int)) = some j := by
  have := born_at hn he
  cases es; simpa using this
 obtain ⟨u1,u2⟩ := upd_rows gk hv rows nd
 refine OpW.skip (w' := w.putObj b (.map (es.modify j fun e => { e with val := v }) clock)) ?_ (hk _ _ (Put.obj hlt) ⟨_,_,(Put.obj hlt).at_,⟨?_, ?_⟩, ?_, ?_⟩)
 · have hai : (asInt (Value.int .i64 (e.born : Int))).run P w = .ok (e.born : Int) w := rfl
   simp only [execOp,Instr.entryStore,hx,hy,hz,Sem.run_bind,hg,hai,hfi,Result.andThen,Sem.run_pure,hset]
 · have := u1 j e he hke
   rw [mset_mset] at this
   rw [Array.toList_modify,modify_at (fun e => { e with val := v }) (fun e => { e with key := K.enc k,val := v }) he (by rw [<- hke])]
   exact this
 · have := mset_nd (k := k) (x := a) nd
   rwa [mset_mset] at this
 · rw [Array.toList_modify,born_modify (fun e => { e with val := v }) fun _ => rfl]; exact hn
 · rw [Array.toList_modify]; exact old_modify (fun e => { e with val := v }) (fun _ => rfl) hcl j
end
section
variable {P : Program} {n : Nat} {X : Fix} {ms : List Nat} {c : Bool} {loc env : EL} {B B1 : List Res} {kk : Kt} {ol rest : List Oper} {d : Nat} {ty : TypeId} {pos : String} {af : Array Edge} {κ α : Type} {K : KK κ} {f : α -> SV} {x0 a : α} {v st : Value} {l : List (κ × α)} {t : TypeId} {x y z : Operand} {s : κ} {S T : SV} {sd : Prop} {i p m : Nat} {L : Gh -> EL}
instance (priority := high) [mt : MpT P t κ K α f x0] [lx : Lu n c loc env x (ov v)] [hm : HME B v κ K α f x0 l s st] [ly : Lu n c loc env y T] [kv : KV K T s sd] : St P n c loc env B ms d (.lookup t x y false) sd (f ((mget l s).getD x0)) := .p fun q hs _ _ _ _ _ sx _ _ _ _ _ kk => by
 obtain ⟨kt,et,zv,h1,h2,h3,h4⟩ := mt.h
 obtain ⟨b,hv,gd,es,clock,j,e,hb,⟨rows,nd⟩,hn,hc,_⟩ := hm.h sx.ow
 obtain ⟨gk,ke⟩ := kv.h hs
 have hx := (lx.h q (sx.f x)).1
 have hg : mget (mset l s ((mget l s).getD x0)) s = some ((mget l s).getD x0) := mget_mset
 refine OpW.lookupM (ok := false) (kt := kt) gk h1 h3 (hx.trans hv) (ke (ly.h q (sx.f y))) hb rows nd (fun v' a' hg2 hd => kk _ ?_) (fun hg2 => kk _ ?_)
 · rw [hg] at hg2; cases hg2; exact hd
 · rw [hg] at hg2; cases hg2
theorem gMent (sz p m d : Nat) (v : Value) (s : κ) (x0 : α) {idn : Nat} [pm : PM B v κ K α f l B1] [mx : MixO P] (hs : Nat.beq ol.length sz = true) (c : (dagC ol m (env.map (·.1)) && ol.all noDefer && Nat.blt p m) = true) (g : GI P n X ms env ol B kk (some ⟨d,fun γ => .tp [f ((mget l s).getD x0),.cv γ.v],fun γ => rME K f x0 v l s γ.v :: B1⟩) p m (fun _ => []) 0 ol) : GW P n X ms loc env B (.region idn ol.toArray true) kk := gIa sz p m _ hs c g
instance (priority := high) [e0 : RflE (Nat.beq i m) false] [e2 : RflE (Nat.beq i p) true] [mt : MpT P t κ K α f x0] [lx : ∀ γ,Lu n true (L γ) env x (ov v)] [pm : PM B v κ K α f l B1] [ly : ∀ γ,Lu n true (L γ) env y T] [kv : KV K T s sd] : Nx (GI P n X ms env ol B kk (some ⟨d,fun γ => .tp [f ((mget l s).getD x0),.cv γ.v],fun γ => rME K f x0 v l s γ.v :: B1⟩) p m L i (⟨some d,.mapEntry t x y,ty,pos,af,none⟩ :: rest)) sd (GI P n X ms env ol B kk (some ⟨d,fun γ => .tp [f ((mget l s).getD x0),.cv γ.v],fun γ => rME K f x0 v l s γ.v :: B1⟩) p m L (i + 1) rest) := ⟨fun hs g => .ev ⟨Nat.eq_of_beq_eq_true e2.h,_,rfl,rfl,fun γ ρ h w s' => by
 obtain ⟨kt,et,zv,h1,h2,h3,h4⟩ := mt.h
 have sy : Sy X.h0 X.w0 [] [] B ρ h w := ⟨s'.gr,trivial,trivial,s'.ow⟩
 have sb := sy.sb pm.h
 obtain ⟨b,hv,hok⟩ := sb.ow.1
 obtain ⟨gk,ke⟩ := kv.h hs
 have sx : Sx X.h0 X.w0 (L γ) env B [x,y] ρ h w := s'.sub (fun x hx => by simp [looks,Op.operands] at hx ⊢; exact hx) fun _ h => h
 have hx := ((lx γ).h rfl (sx.fx x (by simp))).1
 have hy := ke ((ly γ).h rfl (sx.fx y (by simp)))
 refine OpG.plain (OpW.entryE (kt := kt) gk h1 h3 (h4 h) (hx.trans hv) hy hok fun w' o vv st p' hpr hd => ?_)
 have hst : ∃ e : MapEntry,st = .int .i64 (e.born : Int) := by
  obtain ⟨_,_,_,_,_,_,e,_,_,_,_,_,_,hh⟩ := hpr
  exact ⟨e,hh⟩
 obtain ⟨e,rfl⟩ := hst
 have s2 := own_put (r' := rME K f x0 v l s (.int .i64 (e.born : Int))) rfl sb p' (by rw [hv]; exact hpr) hv fun i hi => hi
 exact ⟨_,⟨.int .i64 (e.born : Int),[]⟩,h,rfl,⟨[_,_],rfl,hd,rfl,trivial⟩,s2.gr,PH.le.refl h,s2.ow⟩⟩ g⟩
instance [lx : Lu n true loc env x (ov v)] [pm : PME B v κ K α f x0 l s st B1] [ly : Lu n true loc env y (.cv st)] [lz : Lu n true loc env z S] [vw : Vw f S a] : Nx (GO P n X ms loc env B ol (⟨none,.entryStore t x y z,ty,pos,af,none⟩ :: rest) kk) True (GO P n X ms loc env (rM' K f v (mset l s a) :: B1) ol rest kk) := ⟨fun hs g => ⟨fun ok ρ h w sy => by
 have s' := sy.sb pm.h
 have hpr := s'.ow.1
 obtain ⟨b,hv,_⟩ := id hpr
 have hx := (lx.h rfl ((sy.x [x]).fx x (by simp))).1
 have hy := cvE (ly.h rfl ((sy.x [y]).fx y (by simp)))
 have hz := vw.h (lz.h rfl ((sy.x [z]).fx z (by simp)))
 refine Ops.cons (OpW.entryS (a := a) (f := f) (h := h) (l := l) (x0 := x0) (K := K) (k := s) (hx.trans hv) hy rfl hz (by rw [<- hv]; exact hpr) fun w' o p hok' => ?_)
 have s2 := own_put (r' := rM' K f v (mset l s a)) rfl s' p ⟨b,hv,hok'⟩ hv fun i hi => hi
 exact g.p (okR_none rfl ok) _ _ _ s2⟩⟩
end
end Go.E3
