/- K25: a part of the proof about training through the decoder: how the program's functions run, and what they compute, for every input. -/
import Derived.Test.YtdciabokggfpbaaGreatK24
import Derived.Test.YtdciabokggfpbaaGreatK23
set_option linter.all false
set_option maxRecDepth 20000
set_option maxHeartbeats 4000000
set_option synthInstance.maxSize 1000
namespace Go.E3
open Go Go.Ear Go.Proofs
structure RW {α : Type} (n i : Nat) (f : Nat -> List α) (z : List α) (ls : List (List α)) : Prop where
 l : ls.length = n
 b : ∀ j,j < i -> ls.getD j [] = f j
 z : ∀ j,i <= j -> j < n -> ls.getD j [] = z
theorem RW.start {α : Type} {n : Nat} {f : Nat -> List α} {z : List α} : RW n 0 f z (List.replicate n z) := ⟨by simp,fun j hj => by omega,fun j _ hj => by rw [List.getD_eq_getElem?_getD,List.getElem?_replicate,if_pos hj]; rfl⟩
theorem RW.next {α : Type} {n i : Nat} {f : Nat -> List α} {z x : List α} {ls : List (List α)} (h : RW n i f z ls) (hi : i < n) (hx : x = f i) : RW n (i + 1) f z (ls.set i x) := ⟨by simp [h.l],fun j hj => by
 rw [getD_set _ _ _ (by rw [h.l]; exact hi)]
 split
 · rename_i e; rw [hx,e]
 · exact h.b j (by omega),fun j h1 h2 => by rw [getD_set _ _ _ (by rw [h.l]; exact hi),if_neg (by omega)]; exact h.z j (by omega) h2⟩
theorem RW.all {α : Type} {n i : Nat} {f : Nat -> List α} {z : List α} {ls : List (List α)} (h : RW n i f z ls) (hi : n <= i) : ls = (List.range n).map f := by
 apply List.ext_getElem?
 intro j
 rcases Nat.lt_or_ge j n with hj | hj
 · have := h.b j (by omega)
   rw [List.getD_eq_getElem?_getD,List.getElem?_eq_getElem (by rw [h.l]; exact hj)] at this
   rw [List.getElem?_eq_getElem (by rw [h.l]; exact hj),List.getElem?_map,List.getElem?_range hj]
   simpa using this
 · rw [List.getElem?_eq_none (by rw [h.l]; omega),List.getElem?_eq_none (by simp; omega)]
theorem map_rep {α : Type} (n : Nat) (x : α) : (List.range n).map (fun _ => x) = List.replicate n x := by
 induction n with
 | zero => rfl
 | succ n ih => rw [List.range_succ,List.map_append,ih,List.replicate_succ']; rfl
instance rows_c {n w : Nat} : CtO Tryz.prog 54 [iv (n : Int),iv (w : Int)] (n <= 1048576 /\ w <= 1048576) (fun g => [rA rW 22 g.v g.l,rZ rF 32 g.l (List.replicate n (List.replicate w fr0))]) := by
 refine (ctO Tryz.call54 Tryz.func54 Tryz.ntmps54 rfl Tryz.results54 rfl [] fun h0 w0 ⟨h1,h2⟩ => ?_)
 repeat first | refine nx ?_ | intro _
 rename_i v
 refine gLp (fun s : Nat × List Value × List (List Fr) => [(11,iv s.1)]) (fun s => [rA rW 22 v s.2.1,rZ rF 32 s.2.1 s.2.2]) (fun s => s.1 <= n /\ s.2.1.length = n /\ RW n s.1 (fun _ => List.replicate w fr0) [] s.2.2) (fun s => n - s.1) (0,List.replicate n vnil,List.replicate n []) ⟨by dsimp only; omega,by simp,.start⟩ (fun ⟨i,vs,ls⟩ ⟨hi,hv,hr⟩ => ?_)
 dsimp only at hi hv hr ⊢
 have hl := hr.l
 have hrl : (List.replicate n vnil).length = n := by simp
 repeat first | refine nx ?_ | intro _
 refine gIf (fun c => ?_) fun c => ?_
 · repeat first | refine nx ?_ | intro _
   rename_i z
   exact gBk (i + 1,vs.set i z,ls.set i (List.replicate w fr0)) ⟨by dsimp only; omega,by simp [hv],hr.next (by omega) rfl⟩ (by dsimp only; omega)
 · repeat first | refine nx ?_ | intro _
   rw [hr.all (by omega),map_rep]
   exact gEo (T := fun g : Gh => [rA rW 22 g.v g.l,rZ rF 32 g.l (List.replicate n (List.replicate w fr0))]) ⟨v,vs⟩ (by (repeat' (first | refine And.intro ?_ ?_ | trivial | rfl | omega)))
theorem gZl {P : Program} {n : Nat} {X : Fix} {ms : List Nat} {loc env : EL} {B : List Res} {k : Kt} {x : Code} {α : Type} {r : Rp α} {e : TypeId} {ls : List (List α)} (vs : List Value) [hz : HZ B vs α r e ls] (g : vs.length = ls.length -> GW P n X ms loc env B x k) : GW P n X ms loc env B x k := ⟨fun ρ h w s => (g (hz.h s.ow).1).p ρ h w s⟩
theorem bq_int1 {k : Int} (h : -9223372036854775808 <= k /\ k <= 9223372036854775807) : bq ((1 : Int) / (k : Int) : Rat) <= 100 := by
 have := bq_div ((1 : Int) : Rat) (k : Rat); have := bq_intc (n := 1) (by decide) (by decide); have := bq_intc h.1 h.2; omega
theorem half_bq : bq halfQ <= 100 := bq_int1 (k := 2) (by decide)
instance Left_c {a b : Int} : Ct Tryz.prog 22 [iv a,iv b] True (.tp [mv (leftR a b),iv (leftE a b)]) := by
 refine (ctI Tryz.call22 Tryz.func22 Tryz.ntmps22 rfl Tryz.results22 rfl [41,46] fun h0 w0 _ => ?_)
 repeat first | refine nx ?_ | intro _
 refine gIf (fun c => ?_) fun c => ?_
 · repeat first | refine nx ?_ | intro _
   have he : leftE a b = 2 := if_pos (by omega)
   unfold leftR; rw [he]; exact ⟨⟨rfl,rfl,rfl,rfl⟩,rfl⟩
 obtain ⟨n,rfl⟩ : ∃ n : Nat,a = n := ⟨a.toNat,by omega⟩
 obtain ⟨k,rfl⟩ : ∃ k : Nat,b = k := ⟨b.toNat,by omega⟩
 have hn : 1 <= n /\ n <= 40 := by omega
 have hk : 1 <= k /\ k <= 64 := by omega
 repeat first | refine nx ?_ | intro _
 rw [show ((1 : Int) : Rat) / ((2 : Int) : Rat) = halfQ from rfl,show ((1 : Int) : Rat) / ((k : Int) : Rat) = eachQ k from rfl]
 have hhq := half_bq
 have hkq : bq (eachQ k) <= 100 := bq_int1 (k := k) (by omega)
 refine gDb (fun ν => .ag [ov (ν 38).v,ov (ν 41).v,ov (ν 43).v,ov (ν 46).v]) [38,41,43,46] ?_
 have hrl : ∀ x : Fr,(List.replicate n x).length = n := by simp
 have hrl2 : ∀ x : List Fr,(List.replicate n x).length = n := by simp
 repeat first | refine nx ?_ | intro _
 rename_i v4 v6 v8 ν ν2 ν3
 refine gZl (ν 41).l fun h41 => ?_
 refine gZl (ν 46).l fun h46 => ?_
 rw [hrl2] at h41 h46
 generalize hM : List.replicate n (List.replicate n fr0) = M0
 generalize hY : List.replicate n (List.replicate k fr0) = Y0
 refine gLp (fun s : Nat × List (List Fr) × List (List Fr) => [(60,iv s.1)]) (fun s => [rZ rF 32 (ν 41).l s.2.1,rZ rF 32 (ν 46).l s.2.2]) (fun s => s.1 <= n /\ RW n s.1 (fun j => (leftRow n j).map frK) (List.replicate n fr0) s.2.1 /\ RW n s.1 (fun j => List.replicate k (frK (eachQ k))) (List.replicate k fr0) s.2.2) (fun s => n - s.1) (0,M0,Y0) ⟨by dsimp only; omega,by rw [<- hM]; exact .start,by rw [<- hY]; exact .start⟩ (fun ⟨i,lm,ly⟩ ⟨hi,hm,hy⟩ => ?_)
 dsimp only at hi hm hy ⊢
 have hml := hm.l
 have hyl := hy.l
 repeat first | refine nx ?_ | intro _
 refine gIf (fun c => ?_) fun c => ?_
 · have hz := hm.z i (Nat.le_refl _) c
   have hzl : (lm.getD i []).length = n := by rw [hz,hrl]
   have hyz := hy.z i (Nat.le_refl _) c
   have hz1 : (lm.set i ((lm.getD i []).set i (frK halfQ))).getD i [] = (lm.getD i []).set i (frK halfQ) := by rw [getD_set _ _ _ (by omega),if_pos rfl]
   have hz2 : ((lm.set i ((lm.getD i []).set i (frK halfQ))).getD i []).length = n := by rw [hz1,List.length_set,hzl]
   repeat first | refine nx ?_ | intro _
   refine gIf (fun c2 => ?_) fun c2 => ?_
   all_goals repeat first | refine nx ?_ | intro _
   all_goals first
    | rw [show (lm.set i ((lm.getD i []).set i (frK halfQ))).set i (((lm.set i ((lm.getD i []).set i (frK halfQ))).getD i []).set (i + 1) (frK halfQ)) = lm.set i ((leftRow n i).map frK) by rw [hz1,List.set_set,hz]; unfold leftRow; rw [if_pos c2]; simp [List.map_set,frK_zero]]
    | rw [show lm.set i ((lm.getD i []).set i (frK halfQ)) = lm.set i ((leftRow n i).map frK) by rw [hz]; unfold leftRow; rw [if_neg c2]; simp [List.map_set,frK_zero]]
   all_goals
    have hm2 := hm.next c rfl
    generalize lm.set i ((leftRow n i).map frK) = lm2 at hm2 ⊢
    refine gLp (fun j : Nat => [(87,iv j)]) (fun j => [rZ rF 32 (ν 46).l (ly.set i (Go.Ear.rowAt (List.replicate k (frK (eachQ k))) fr0 k j))]) (fun j => j <= k) (fun j => k - j) 0 (Nat.zero_le _) (fun j hj => ?_) (h2 := ⟨by rw [Go.Ear.rowAt_zero, <- hyz]; exact set_getD.symm,trivial⟩)
    have hr1 : (ly.set i (Go.Ear.rowAt (List.replicate k (frK (eachQ k))) fr0 k j)).getD i [] = Go.Ear.rowAt (List.replicate k (frK (eachQ k))) fr0 k j := by rw [getD_set _ _ _ (by omega),if_pos rfl]
    have hr2 : ((ly.set i (Go.Ear.rowAt (List.replicate k (frK (eachQ k))) fr0 k j)).getD i []).length = k := by rw [hr1]; exact Go.Ear.rowAt_len (by simp) hj
    repeat first | refine nx ?_ | intro _
    refine gIf (fun c3 => ?_) fun c3 => ?_
    · repeat first | refine nx ?_ | intro _
      rw [set_row2 (by omega),Go.Ear.rowAt_set (q := frK (eachQ k)) (by simp) c3 (by rw [List.getD_eq_getElem?_getD,List.getElem?_replicate,if_pos c3]; rfl)]
      exact gBk (j + 1) (by omega) (by omega)
    · repeat first | refine nx ?_ | intro _
      rw [Go.Ear.rowAt_end (by simp) (by omega)]
      exact gBk (i + 1,lm2,ly.set i (List.replicate k (frK (eachQ k)))) ⟨by dsimp only; omega,hm2,hy.next c rfl⟩ (by dsimp only; omega)
 · repeat first | refine nx ?_ | intro _
   have he : leftE n k = 0 := if_neg (by omega)
   rw [hm.all (by omega),hy.all (by omega),he]
   unfold leftR
   rw [if_pos he]
   simp only [leftMd,Go.Ear.mdK,leftS,leftF,leftMv,leftY,List.map_set,List.map_replicate,frK_zero,map_rep,List.map_map,Int.toNat_natCast]
   exact ⟨⟨rfl,rfl,trivial,trivial⟩,trivial⟩
end Go.E3
namespace Go.E3
open Go Go.Ear
section
variable {P : Program} {n : Nat} {X : Fix} {ms : List Nat} {loc env : EL} {B : List Res} {k : Kt} {ol rest l : List Oper} {d m i : Nat} {op : Op} {ty : TypeId} {pos : String} {af : Array Edge} {t e : TypeId} {L : (Nat -> Gh) -> EL} {R : List (Nat × (Gh -> Res))} {Ls : EL} {lt : Nat -> Bool}
instance (priority := high) appN {α : Type} {r : Rp α} {bb : Nat} {d0 : α} {q' : List α} {o1 o2 : Operand} [lf : RflE (lt i) false] [ts : TS P t e] [rt : RT P e α r bb d0] [lx : Lu n true Ls env o1 (.cv (.slice none 0 0))] [ly : Lu n true Ls env o2 (lv r q')] : Nx (GE P n X ms Ls env B ol (⟨some d,.call ⟨.builtin .append,[o1,o2].toArray,[t,t].toArray⟩,ty,pos,af,none⟩ :: rest) k lt (m + 1) i L R) (q'.length <= 9223372036854775807 /\ q'.length * bb <= 140737488355328) (GE P n X ms Ls env B ol rest k lt m (i + 1) (fun ν => (d,ov (ν d).v) :: L ν) ((d,fun g => rA r e g.v q') :: R)) := ⟨fun hs f => ⟨fun ql => .own d (fun g => rA r e g.v q') rfl (fun ν ρ h w s => by
 obtain ⟨z,ti,el,hz⟩ := rt.e
 have s' : Sx X.h0 X.w0 Ls env B [o1,o2] ρ h w := s.sub (fun x hx => by simp [looks,Op.operands,Call.operands] at hx ⊢; exact hx) (ql ν)
 have hx := cvE (lx.h rfl (s'.fx o1 (by simp)))
 have hy := ly.h rfl (s'.fx o2 (by simp))
 refine OpG.plain (OpW.appendL (lo := 0) ts.h el.hi el.hz el.hc el.hk s.gr.sat (Nat.zero_le _) hx rfl (OwnL.nil r 0 h w e) hy (by simpa using hs.1) (by rw [el.hb]; simpa using hs.2) fun v' w' own ow hbl => ?_)
 refine ⟨v',[],h,rfl,(Gr.refl s.gr.sat).ow ow (fun i hi => by cases hi),own_one own,by rw [List.nil_append] at own; exact own,fun i hi => ?_⟩
 rcases hbl i hi with x | x
 · cases x
 · exact ⟨x,(own.lt hi).1,(own.lt hi).2.1⟩) lf.h (f.p fun ν e h => List.mem_cons_of_mem _ (ql ν e h))⟩⟩
end
section
variable {P : Program} {n : Nat} {X : Fix} {ms : List Nat} {loc env : EL} {B : List Res} {k : Kt} {ol rest : List Oper} {a m o : Nat} {ty : TypeId} {pos : String} {af : Array Edge} {t e : TypeId} {α : Type} {v : Value} {r : Rp α} {q : List α} {S : SV} {o1 o2 : Operand} {f : α -> α} {d0 : α}
end
end Go.E3
namespace Go.E3
open Go Go.Ear Go.Proofs
end Go.E3
namespace Go.E3
open Go Go.Ear Go.Proofs
end Go.E3
set_option maxHeartbeats 400000
namespace Go.E3
open Go Go.Ear Go.Proofs
abbrev TlT := Value × Value × Value × Value × Value × List Value × List Value
@[reducible] def tlR (s : TlT) (S : List Fr) (M : List (List Fr)) (E : List Fr) (Y : List (List Fr)) (u n : Int) (t : Fr) (B : List Res) : List Res :=
 rV s.1 [ov s.2.1,ov s.2.2.1,ov s.2.2.2.1,ov s.2.2.2.2.1,iv u,iv n,bv t.neg,lv rU t.n,lv rU t.d] 69 :: rA rF 32 s.2.1 S :: rA rW 22 s.2.2.1 s.2.2.2.2.2.1 :: rZ rF 32 s.2.2.2.2.2.1 M :: rA rF 32 s.2.2.2.1 E :: rA rW 22 s.2.2.2.2.1 s.2.2.2.2.2.2 :: rZ rF 32 s.2.2.2.2.2.2 Y :: B
instance empty_c {m : Md} {B : List Res} : CtR Tryz.prog 72 [mv m] B (m.start.length <= 1048576 /\ symb m <= 1048576 /\ 0 < m.say.length) TlT (fun s => ov s.1) (fun s => tlR s (List.replicate m.start.length fr0) (List.replicate m.start.length (List.replicate m.start.length fr0)) (List.replicate m.start.length fr0) (List.replicate m.start.length (List.replicate (symb m) fr0)) 0 0 fr0 B) := by
 refine (ctR Tryz.call72 Tryz.func72 Tryz.ntmps72 rfl Tryz.results72 rfl [17,22,25] fun h0 w0 ⟨h1,h2,h3⟩ => ?_)
 unfold symb at h2
 repeat first | refine gDr 10 (by kernel_rfl) ?_ | refine nx ?_ | intro _
 rename_i ν ν2 v
 exact gEr (σ := TlT) (v,(ν2 14).v,(ν2 17).v,(ν2 19).v,(ν2 22).v,(ν2 17).l,(ν2 22).l)
set_option maxHeartbeats 4000000
def addF (a b : List Fr) : List Fr := (List.range a.length).map fun i => frK ((a.getD i fr0).rat + (b.getD i fr0).rat)
theorem addF_len (a b : List Fr) : (addF a b).length = a.length := by simp [addF]
theorem addF_at {a b : List Fr} {i : Nat} (hi : i < a.length) : frK ((a.getD i fr0).rat + (b.getD i fr0).rat) = (addF a b).getD i fr0 := by rw [addF,range_getD _ _ hi]
instance addF_ft {a b : List Fr} : FtS (addF a b) := ⟨fun f hf => by obtain ⟨i,_,rfl⟩ := List.mem_map.1 hf; infer_instance⟩
theorem upTo_ft {r l : List Fr} {i : Nat} (a : FtS r) (b : FtS l) : FtS (upTo r l i) := ⟨fun f hf => by
 unfold upTo at hf
 rcases List.mem_append.1 hf with h | h
 · exact a.h f (List.mem_of_mem_take h)
 · exact b.h f (List.mem_of_mem_drop h)⟩
theorem plusF_b {v : Value} {la lb : List Fr} {rest : List Res} [fa : FtS la] [fb : FtS lb] : CtR Tryz.prog 121 [ov v,lv rF lb,.cv (.func (.func 38) #[] #[])] (rA rF 32 v la :: rest) (lb.length = la.length /\ la.length <= 1048576 /\ ∀ i,i < la.length -> bf (la.getD i fr0) + bf (lb.getD i fr0) <= 134217000) Unit (fun _ => .tp []) (fun _ => rA rF 32 v (addF la lb) :: rest) := by
 refine (ctR Tryz.call121 Tryz.func121 Tryz.ntmps121 rfl Tryz.results121 rfl [] fun h0 w0 ⟨h1,h2,h3⟩ => ?_)
 repeat first | refine nx ?_ | intro _
 refine gLp (fun i : Nat => [(9,iv i)]) (fun i => [rA rF 32 v (upTo (addF la lb) la i)]) (fun i => i <= la.length) (fun i => la.length - i) 0 (Nat.zero_le _) (fun i hi => ?_) (h2 := by rw [upTo_zero]; exact ⟨rfl,trivial⟩)
 haveI := upTo_ft (i := i) (addF_ft (a := la) (b := lb)) fa
 have hul : (upTo (addF la lb) la i).length = la.length := upTo_len (addF_len _ _)
 repeat first | refine nx ?_ | intro _
 refine gIf (fun c => ?_) fun c => ?_
 · have hb := h3 i c
   have hu : (upTo (addF la lb) la i).getD i fr0 = la.getD i fr0 := upTo_get (addF_len _ _) c
   rw [<- hu] at hb
   repeat first | refine nx ?_ | intro _
   rw [hu,upTo_set (addF_len _ _) c (addF_at c)]
   exact gBk (i + 1) (by omega) (by omega)
 · repeat first | refine nx ?_ | intro _
   rw [upTo_end (addF_len _ _) (by omega)]
   exact gEr ()
theorem CtR.to {P : Program} {f : FuncId} {args : List SV} {B B1 : List Res} {sd : Prop} {σ : Type} {S : σ -> SV} {B' : σ -> List Res} (c : CtR P f args B1 sd σ S B') (h : Sb B B1) : CtR P f args B sd σ S B' := ⟨c.fn,fun a h0 w0 hh w vs g o u => c.h a g (h.own o) u⟩
section
variable {B B1 : List Res} {v : Value} {la lb : List Fr}
instance plusF_c [pa : PA B v Fr rF 32 la B1] [fa : FtS la] [fb : FtS lb] : CtR Tryz.prog 121 [ov v,lv rF lb,.cv (.func (.func 38) #[] #[])] B (lb.length = la.length /\ la.length <= 1048576 /\ ∀ i,i < la.length -> bf (la.getD i fr0) + bf (lb.getD i fr0) <= 134217000) Unit (fun _ => .tp []) (fun _ => rA rF 32 v (addF la lb) :: B1) := plusF_b.to pa.h
theorem add1_b {rest : List Res} [fa : FtS la] [fb : FtS lb] : CtR Tryz.prog 120 [ov v,lv rF lb] (rA rF 32 v la :: rest) (lb.length = la.length /\ la.length <= 1048576 /\ ∀ i,i < la.length -> bf (la.getD i fr0) + bf (lb.getD i fr0) <= 134217000) Unit (fun _ => ov v) (fun _ => rA rF 32 v (addF la lb) :: rest) := by
 refine (ctR Tryz.call120 Tryz.func120 Tryz.ntmps120 rfl Tryz.results120 rfl [] fun h0 w0 ⟨h1,h2,h3⟩ => ?_)
 repeat first | refine nx ?_ | intro _
 exact gEr ()
instance add1_c [pa : PA B v Fr rF 32 la B1] [fa : FtS la] [fb : FtS lb] : CtR Tryz.prog 120 [ov v,lv rF lb] B (lb.length = la.length /\ la.length <= 1048576 /\ ∀ i,i < la.length -> bf (la.getD i fr0) + bf (lb.getD i fr0) <= 134217000) Unit (fun _ => ov v) (fun _ => rA rF 32 v (addF la lb) :: B1) := add1_b.to pa.h
end
def addG (a b : List (List Fr)) : List (List Fr) := (List.range a.length).map fun i => addF (a.getD i []) (b.getD i [])
theorem addG_len (a b : List (List Fr)) : (addG a b).length = a.length := by simp [addG]
theorem addG_at {a b : List (List Fr)} {i : Nat} (hi : i < a.length) : addF (a.getD i []) (b.getD i []) = (addG a b).getD i [] := by rw [addG,range_getD _ _ hi]
instance addG_ft {a b : List (List Fr)} : FtR (addG a b) := ⟨fun f hf => by obtain ⟨i,_,rfl⟩ := List.mem_map.1 hf; infer_instance⟩
theorem upToR_ft {r l : List (List Fr)} {i : Nat} (a : FtR r) (b : FtR l) : FtR (upTo r l i) := ⟨fun f hf => by
 unfold upTo at hf
 rcases List.mem_append.1 hf with h | h
 · exact a.h f (List.mem_of_mem_take h)
 · exact b.h f (List.mem_of_mem_drop h)⟩
theorem plusM_b {v : Value} {vs : List Value} {la lb : List (List Fr)} {rest : List Res} [fa : FtR la] [fb : FtR lb] : CtR Tryz.prog 122 [ov v,lv (rL rF) lb,.cv (.func (.func 120) #[] #[])] (rA rW 22 v vs :: rZ rF 32 vs la :: rest) (lb.length = la.length /\ la.length <= 1048576 /\ ∀ i,i < la.length -> (lb.getD i []).length = (la.getD i []).length /\ (la.getD i []).length <= 1048576 /\ ∀ j,j < (la.getD i []).length -> bf ((la.getD i []).getD j fr0) + bf ((lb.getD i []).getD j fr0) <= 134217000) Unit (fun _ => .tp []) (fun _ => rA rW 22 v vs :: rZ rF 32 vs (addG la lb) :: rest) := by
 refine (ctR Tryz.call122 Tryz.func122 Tryz.ntmps122 rfl Tryz.results122 rfl [] fun h0 w0 ⟨h1,h2,h3⟩ => ?_)
 refine gZl vs fun hvs => ?_
 repeat first | refine nx ?_ | intro _
 refine gLp (fun i : Nat => [(9,iv i)]) (fun i => [rZ rF 32 vs (upTo (addG la lb) la i)]) (fun i => i <= la.length) (fun i => la.length - i) 0 (Nat.zero_le _) (fun i hi => ?_) (h2 := by rw [upTo_zero]; exact ⟨rfl,trivial⟩)
 haveI := upToR_ft (i := i) (addG_ft (a := la) (b := lb)) fa
 have hul : (upTo (addG la lb) la i).length = la.length := upTo_len (addG_len _ _)
 repeat first | refine nx ?_ | intro _
 refine gIf (fun c => ?_) fun c => ?_
 · have hb := h3 i (by omega)
   have hu : (upTo (addG la lb) la i).getD i [] = la.getD i [] := upTo_get (addG_len _ _) (by omega)
   rw [<- hu] at hb
   obtain ⟨hb1,hb2,hb3⟩ := hb
   repeat first | refine gDrL (fun j => Nat.ble j 1) 12 (by kernel_rfl) ?_ | refine nx ?_ | intro _
   rw [set_getD,List.set_set,hu,upTo_set (d := []) (addG_len _ _) (by omega) (addG_at (by omega))]
   exact gBk (i + 1) (by omega) (by omega)
 · repeat first | refine nx ?_ | intro _
   rw [upTo_end (addG_len _ _) (by omega)]
   exact gEr ()
section
variable {B B1 B2 : List Res} {v : Value} {vs : List Value} {la lb : List (List Fr)}
instance fpsM {α : Type} {r : Rp α} {e ew : TypeId} {q q' : List (List α)} [p1 : PA B v Value rW ew vs B1] [p2 : PZ B1 vs α r e q B2] : FpS (rA rW ew v vs :: rZ r e vs q' :: B2) B := ⟨fun r' hr' i hi => by
 have key := (p1.h.trans (p2.h.cons _)).fp
 rcases List.mem_cons.1 hr' with rfl | hr'
 · exact key _ (List.mem_cons_self ..) i hi
 · rcases List.mem_cons.1 hr' with rfl | hr'
   · exact key _ (List.mem_cons_of_mem _ (List.mem_cons_self ..)) i hi
   · exact key _ (List.mem_cons_of_mem _ (List.mem_cons_of_mem _ hr')) i hi⟩
instance plusM_c [p1 : PA B v Value rW 22 vs B1] [p2 : PZ B1 vs Fr rF 32 la B2] [fa : FtR la] [fb : FtR lb] : CtR Tryz.prog 122 [ov v,lv (rL rF) lb,.cv (.func (.func 120) #[] #[])] B (lb.length = la.length /\ la.length <= 1048576 /\ ∀ i,i < la.length -> (lb.getD i []).length = (la.getD i []).length /\ (la.getD i []).length <= 1048576 /\ ∀ j,j < (la.getD i []).length -> bf ((la.getD i []).getD j fr0) + bf ((lb.getD i []).getD j fr0) <= 134217000) Unit (fun _ => .tp []) (fun _ => rA rW 22 v vs :: rZ rF 32 vs (addG la lb) :: B2) := plusM_b.to (p1.h.trans (p2.h.cons _))
end
section
variable {S E dS dE : List Fr} {M Y dM dY : List (List Fr)} {K1 K2 K3 K4 K5 : SV} {u n : Int} {t : Fr} {s : TlT} {rest : List Res}
@[reducible] def okP (a b : List Fr) : Prop := b.length = a.length /\ a.length <= 1048576 /\ ∀ i,i < a.length -> bf (a.getD i fr0) + bf (b.getD i fr0) <= 134217000
@[reducible] def okM (a b : List (List Fr)) : Prop := b.length = a.length /\ a.length <= 1048576 /\ ∀ i,i < a.length -> (b.getD i []).length = (a.getD i []).length /\ (a.getD i []).length <= 1048576 /\ ∀ j,j < (a.getD i []).length -> bf ((a.getD i []).getD j fr0) + bf ((b.getD i []).getD j fr0) <= 134217000
theorem tadd_b [f1 : FtS S] [f2 : FtR M] [f3 : FtS E] [f4 : FtR Y] [g1 : FtS dS] [g2 : FtR dM] [g3 : FtS dE] [g4 : FtR dY] : CtR Tryz.prog 74 [ov s.1,.pk [lv rF dS,lv (rL rF) dM,lv rF dE,lv (rL rF) dY,K1,K2,K3,K4,K5] 0] (tlR s S M E Y u n t rest) (okP S dS /\ okM M dM /\ okP E dE /\ okM Y dY) Unit (fun _ => .tp []) (fun _ => tlR s (addF S dS) (addG M dM) (addF E dE) (addG Y dY) u n t rest) := by
 obtain ⟨c,a,m,e,y,vm,vy⟩ := s
 dsimp only [tlR]
 refine (ctR Tryz.call74 Tryz.func74 Tryz.ntmps74 rfl Tryz.results74 rfl [] fun h0 w0 ⟨⟨p1,p2,p3⟩,⟨q1,q2,q3⟩,⟨r1,r2,r3⟩,⟨t1,t2,t3⟩⟩ => ?_)
 repeat first | refine nx ?_ | intro _
 exact gEr ()
instance tadd_c {c a m e y : Value} {vm vy : List Value} {B B0 B1 B2 B3 B4 B5 B6 : List Res} [pv : PV B c [ov a,ov m,ov e,ov y,iv u,iv n,bv t.neg,lv rU t.n,lv rU t.d] 69 B0] [p1 : PA B0 a Fr rF 32 S B1] [p2 : PA B1 m Value rW 22 vm B2] [p3 : PZ B2 vm Fr rF 32 M B3] [p4 : PA B3 e Fr rF 32 E B4] [p5 : PA B4 y Value rW 22 vy B5] [p6 : PZ B5 vy Fr rF 32 Y B6] [f1 : FtS S] [f2 : FtR M] [f3 : FtS E] [f4 : FtR Y] [g1 : FtS dS] [g2 : FtR dM] [g3 : FtS dE] [g4 : FtR dY] :
 CtR Tryz.prog 74 [ov c,.pk [lv rF dS,lv (rL rF) dM,lv rF dE,lv (rL rF) dY,K1,K2,K3,K4,K5] 0] B (okP S dS /\ okM M dM /\ okP E dE /\ okM Y dY) Unit (fun _ => .tp []) (fun _ => tlR (c,a,m,e,y,vm,vy) (addF S dS) (addG M dM) (addF E dE) (addG Y dY) u n t B6) :=
 (tadd_b (s := (c,a,m,e,y,vm,vy))).to (pv.h.trans ((p1.h.cons _).trans (((p2.h.cons _).cons _).trans ((((p3.h.cons _).cons _).cons _).trans (((((p4.h.cons _).cons _).cons _).cons _).trans ((((((p5.h.cons _).cons _).cons _).cons _).cons _).trans (((((((p6.h.cons _).cons _).cons _).cons _).cons _).cons _))))))))
end
instance cnt1_c {a : Fr} {x : Rat} {A : Nat} {S : SV} {B : List Res} {v6 p : Value} {c1 c2 c3 c4 c5 c6 : SV} {q : Fr} {Q : Rat} {Qb : Nat} [i : VF S a x A] [hv : HC B v6 [ov p]] [hc : HC B p [c1,c2,c3,c4,c5,c6,bv q.neg,lv rU q.n,lv rU q.d]] [fq : FtF q] [rq : Rt q Q] [bq : Bfe q Qb] : CtB Tryz.prog 119 [S,ov v6] B (A + Qb <= 134217000) (kk (x / Q)) := by
 haveI := i.t
 haveI : Rt a x := ⟨i.r⟩
 have hA := i.b
 have hQ := bq.h
 refine cB1 i.v (ctB Tryz.call119 Tryz.func119 Tryz.ntmps119 rfl Tryz.results119 rfl [] fun h0 w0 hb => ?_)
 repeat first | refine gDr 11 (by kernel_rfl) ?_ | refine nx ?_ | intro _
 refine gIf (fun c => ?_) fun c => ?_
 · repeat first | refine nx ?_ | intro _
   rw [sgQ_zero.1 c,zero_div_rat,frK_zero]; (repeat' (first | refine And.intro ?_ ?_ | trivial | rfl | omega))
 · repeat first | refine gDr 11 (by kernel_rfl) ?_ | refine nx ?_ | intro _
   (repeat' (first | refine And.intro ?_ ?_ | trivial | rfl | omega))
end Go.E3
