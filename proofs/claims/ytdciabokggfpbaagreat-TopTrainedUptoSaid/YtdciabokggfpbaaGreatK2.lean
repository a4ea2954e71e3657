/- K2: a part of the proof about training through the decoder: how the program's functions run, and what they compute, for every input. -/
import Derived.Laws.AppendOwn
import Derived.Laws.OwnMore
import Derived.IntWalk
import Derived.Test.YtdciabokggfpbaaGreatK1
set_option linter.all false
namespace Go.Ear
section ops
variable {P : Program} {n : Nat} {ρ : Env} {w : World} {K : Env -> World -> Prop} {d : Tmp} {ty : TypeId} {pos : String} {af : Array Edge} {g : Option (Nat × Bool)}
theorem OpW.valD {op : Op} {v : Value} {w' : World} (hr : (execOp (ev n ρ) ⟨some d,op,ty,pos,af,g⟩).run P w = .ok (.value v) w') (hk : K (upd ρ d v) w') :
 OpW P n ⟨some d,op,ty,pos,af,g⟩ ρ w K := OpW.val hr hk
theorem OpW.move {x : Operand} {v : Value} (hx : ev n ρ x = v) (hk : K (upd ρ d v) w) : OpW P n ⟨some d,.move x,ty,pos,af,g⟩ ρ w K :=
 OpW.valD (by simp [execOp,hx]) hk
theorem OpW.assign {x : Operand} {v : Value} (hx : ev n ρ x = v) (hk : K (upd ρ d v) w) : OpW P n ⟨some d,.assign x,ty,pos,af,g⟩ ρ w K :=
 OpW.valD (by simp [execOp,hx]) hk
theorem OpW.pickT {c x y : Operand} {v : Value} (hc : ev n ρ c = .bool true) (hx : ev n ρ x = v) (hk : K (upd ρ d v) w) : OpW P n ⟨some d,.pick c x y,ty,pos,af,g⟩ ρ w K :=
 OpW.valD (by simp [execOp,hc,hx,asBool]) hk
theorem OpW.pickF {c x y : Operand} {v : Value} (hc : ev n ρ c = .bool false) (hy : ev n ρ y = v) (hk : K (upd ρ d v) w) : OpW P n ⟨some d,.pick c x y,ty,pos,af,g⟩ ρ w K :=
 OpW.valD (by simp [execOp,hc,hy,asBool]) hk
def IsZero (P : Program) (t : TypeId) (z : Value) : Prop := ∀ w,(zeroValue t).run P w = .ok z w
def IsAgg (P : Program) (t : TypeId) (b : Bool) : Prop := ∀ w,(isAgg t).run P w = .ok b w
def IsSize (P : Program) (t : TypeId) (k : Nat) : Prop := ∀ w,(sizeOf t).run P w = .ok k w
def IsUnd (P : Program) (t : TypeId) (d : TypeDesc) : Prop := P.underlying t = some d
theorem IsUnd.run {t : TypeId} {d : TypeDesc} (h : IsUnd P t d) (w : World) : (underlying t).run P w = .ok d w := run_underlying h w
theorem OpW.alloc {t : TypeId} {z : Value} (hz : IsZero P t z)
 (hk : K (upd ρ d (.pointer (some ⟨w.heap.size,0,none⟩))) (newW w (.cells z.cells t (0,0)))) : OpW P n ⟨some d,.alloc t,ty,pos,af,g⟩ ρ w K :=
 OpW.valD (by simp [execOp,Instr.alloc,hz w,newVar,newRow,newObj,Sem.run]; rfl) hk
theorem OpW.box {t : TypeId} {x : Operand} {v : Value} (hx : ev n ρ x = v)
 (hk : K (upd ρ d (.pointer (some ⟨w.heap.size,0,none⟩))) (newW w (.cells v.cells t (0,0)))) : OpW P n ⟨some d,.box t x,ty,pos,af,g⟩ ρ w K :=
 OpW.valD (by simp [execOp,Instr.box,hx,newVar,newRow,newObj,Sem.run]; rfl) hk
theorem cell_of {b off : Nat} {arr : Array Value} {e : TypeId} {fz : Nat × Nat} {v : Value} (hb : w.heap[b]? = some (.cells arr e fz)) (hv : arr[off]? = some v) :
 w.cell? ⟨b,off,none⟩ = some v := by simp [World.cell?,hb,hv]
theorem OpW.load1 {t : TypeId} {x : Operand} {b off : Nat} {arr : Array Value} {e : TypeId} {fz : Nat × Nat} {v : Value} (hA : IsAgg P t false)
 (hx : ev n ρ x = .pointer (some ⟨b,off,none⟩)) (hb : w.heap[b]? = some (.cells arr e fz)) (hv : arr[off]? = some v) (hk : K (upd ρ d v) w) :
 OpW P n ⟨some d,.load t x,ty,pos,af,g⟩ ρ w K :=
 OpW.valD (by simp [execOp,Instr.loadAt,Instr.sureAddr,hx,loadVar,hA w,load,Sem.run,cell_of hb hv]) hk
def cut (arr : Array Value) (off k : Nat) : List Value := (arr.toList.drop off).take k
theorem addr_add (b off i : Nat) : (⟨b,off,none⟩ : Addr).add i = ⟨b,off + i,none⟩ := by
 unfold Addr.add; split <;> simp_all
theorem run_loadCellsFrom {b off : Nat} {arr : Array Value} {e : TypeId} {fz : Nat × Nat} (hb : w.heap[b]? = some (.cells arr e fz)) :
 ∀ (k i : Nat) (acc : Array Value),off + i + k <= arr.size -> (loadCellsFrom ⟨b,off,none⟩ i k acc).run P w = .ok (acc ++ (cut arr (off + i) k).toArray) w
 | 0,i,acc,h => by simp [loadCellsFrom,cut]
 | k + 1,i,acc,h => by
   have hlt : off + i < arr.size := by omega
   have hv : arr[off + i]? = some (arr[off + i]'hlt) := Array.getElem?_eq_getElem hlt
   have ih := run_loadCellsFrom (off := off) hb k (i + 1) (acc.push (arr[off + i]'hlt)) (by omega)
   have hc : cut arr (off + i) (k + 1) = (arr[off + i]'hlt) :: cut arr (off + (i + 1)) k := by
    unfold cut
    rw [List.drop_eq_getElem_cons (by simpa using hlt)]
    simp [Nat.add_assoc]
   have h1 : (load ⟨b,off + i,none⟩).run P w = .ok (arr[off + i]'hlt) w := by simp [load,Sem.run,cell_of hb hv]
   simp only [loadCellsFrom,addr_add,Sem.run_bind,h1,Result.andThen,ih,hc]
   simp
theorem OpW.loadA {t : TypeId} {x : Operand} {b off k : Nat} {arr : Array Value} {e : TypeId} {fz : Nat × Nat} {cs : List Value} (hA : IsAgg P t true) (hs : IsSize P t k)
 (hx : ev n ρ x = .pointer (some ⟨b,off,none⟩)) (hb : w.heap[b]? = some (.cells arr e fz)) (hfit : off + k <= arr.size) (hv : cut arr off k = cs)
 (hk : K (upd ρ d (.agg cs.toArray)) w) : OpW P n ⟨some d,.load t x,ty,pos,af,g⟩ ρ w K := by
 have hl := run_loadCellsFrom (P := P) (w := w) (off := off) hb k 0 #[] (by omega)
 refine OpW.valD ?_ hk
 simp only [execOp,Instr.loadAt,Instr.sureAddr,hx,loadVar,Sem.run_bind,Sem.run_pure,Result.andThen,hA w,hs w,if_true,loadCells,hl]
 simp [hv]
def putIn (arr : Array Value) (off : Nat) : List Value -> Array Value
 | [] => arr
 | c :: cs => putIn (arr.setIfInBounds off c) (off + 1) cs
theorem putIn_size (cs : List Value) : ∀ (arr : Array Value) (off : Nat),(putIn arr off cs).size = arr.size := by
 induction cs with
 | nil => intros; rfl
 | cons c cs ih => intro arr off; simp [putIn,ih]
theorem Put.refl {w : World} {b : Nat} {o : Obj} (h : w.heap[b]? = some o) : Put w w b o := ⟨rfl,rfl,rfl,rfl,h,fun _ _ => rfl,Nat.le_refl _⟩
theorem Put.trans {a b c : World} {i : Nat} {o o' : Obj} (h : Put a b i o) (k : Put b c i o') : Put a c i o' :=
 ⟨k.os.trans h.os,k.tape.trans h.tape,k.output.trans h.output,k.size.trans h.size,k.at_,fun j hj => (k.other j hj).trans (h.other j hj),Nat.le_trans h.drawn k.drawn⟩
theorem Put.setCell {b off : Nat} {arr : Array Value} {e : TypeId} {fz : Nat × Nat} (hb : w.heap[b]? = some (.cells arr e fz)) (v : Value) :
 Put w (w.setCell ⟨b,off,none⟩ v) b (.cells (arr.setIfInBounds off v) e fz) := by
 refine ⟨rfl,rfl,rfl,by simp [World.setCell], ?_, ?_,Nat.le_refl _⟩
 · simp only [World.setCell,Array.getElem?_modify,if_true,hb,Option.map_some]; simp
 · intro i hi
   simp only [World.setCell,Array.getElem?_modify]
   rw [if_neg (fun e => hi e.symm)]
theorem oneCell_run_store {b off : Nat} {arr : Array Value} {e : TypeId} {v : Value} {α : Type} {k : Sem α} (hb : w.heap[b]? = some (.cells arr e (0,0))) (ho : off < arr.size) (h1 : v.oneCell' = true) :
 (Sem.store .plain ⟨b,off,none⟩ v k).run P w = k.run P (w.setCell ⟨b,off,none⟩ v) := by
 have hc := cell_of (w := w) hb (Array.getElem?_eq_getElem ho)
 have hf : w.frozen? ⟨b,off,none⟩ = false := by simp [World.frozen?,hb]
 cases v <;> first | (simp [Value.oneCell'] at h1; done) | simp [Sem.run,hc,hf]
theorem run_storeCells_own {b : Nat} {e : TypeId} (cs : List Value) : ∀ (off i : Nat) (arr : Array Value) (w : World),w.heap[b]? = some (.cells arr e (0,0)) -> off + i + cs.length <= arr.size ->
 (∀ c ∈ cs,c.oneCell' = true) -> ∃ w',(storeCells ⟨b,off,none⟩ cs i).run P w = .ok () w' /\ Put w w' b (.cells (putIn arr (off + i) cs) e (0,0)) := by
 induction cs with
 | nil => intro off i arr w hb _ _; exact ⟨w,rfl,Put.refl hb⟩
 | cons c cs ih =>
   intro off i arr w hb hfit h1
   simp only [List.length_cons] at hfit
   have hp := Put.setCell (w := w) (off := off + i) hb c
   obtain ⟨w',hr,hput⟩ := ih off (i + 1) _ _ hp.at_ (by simp; omega) (fun x hx => h1 x (List.mem_cons_of_mem _ hx))
   refine ⟨w', ?_,hp.trans hput⟩
   simp only [storeCells,store,addr_add,Sem.run_bind]
   rw [oneCell_run_store hb (by omega) (h1 c (List.mem_cons_self ..))]
   simp [Sem.run,hr]
theorem OpW.store1 {dd : Option Tmp} {t : TypeId} {x y : Operand} {b off : Nat} {arr : Array Value} {e : TypeId} {v : Value} (hs : IsSize P t 1)
 (hx : ev n ρ x = .pointer (some ⟨b,off,none⟩)) (hy : ev n ρ y = v) (h1 : v.oneCell' = true) (hb : w.heap[b]? = some (.cells arr e (0,0))) (ho : off < arr.size)
 (hk : ∀ w',Put w w' b (.cells (arr.setIfInBounds off v) e (0,0)) -> K (updO ρ dd undef) w') : OpW P n ⟨dd,.store t x y,ty,pos,af,g⟩ ρ w K := by
 have hcs : v.cells = #[v] := by cases v <;> first | (simp [Value.oneCell'] at h1; done) | rfl
 refine OpW.skip (w' := w.setCell ⟨b,off,none⟩ v) ?_ (hk _ (Put.setCell hb v))
 simp only [execOp,Instr.storeAt,Instr.sureAddr,hx,hy,storeVar,Sem.run_bind,Sem.run_pure,Result.andThen,hs w,hcs]
 simp only [List.size_toArray,List.length_cons,List.length_nil,ne_eq,Nat.zero_add,not_true_eq_false,if_false,Sem.run_bind,Sem.run_pure,Result.andThen,storeCells,store,addr_add,Nat.add_zero]
 rw [oneCell_run_store hb ho h1]
 simp [Sem.run]
theorem OpW.storeA {dd : Option Tmp} {t : TypeId} {x y : Operand} {b off k : Nat} {arr : Array Value} {e : TypeId} {cs : List Value} (hs : IsSize P t k) (hl : cs.length = k)
 (hx : ev n ρ x = .pointer (some ⟨b,off,none⟩)) (hy : ev n ρ y = .agg cs.toArray) (h1 : ∀ c ∈ cs,c.oneCell' = true) (hb : w.heap[b]? = some (.cells arr e (0,0))) (hfit : off + k <= arr.size)
 (hk : ∀ w',Put w w' b (.cells (putIn arr off cs) e (0,0)) -> K (updO ρ dd undef) w') : OpW P n ⟨dd,.store t x y,ty,pos,af,g⟩ ρ w K := by
 obtain ⟨w',hr,hp⟩ := run_storeCells_own (P := P) cs off 0 arr w hb (by omega) h1
 refine OpW.skip (w' := w') ?_ (hk _ hp)
 simp only [execOp,Instr.storeAt,Instr.sureAddr,hx,hy,storeVar,Sem.run_bind,Sem.run_pure,Result.andThen,hs w,Value.cells,List.size_toArray,hl]
 simp [hr]
theorem OpW.arith {op : BinOp} {t u : TypeId} {x y : Operand} {k : IntKind} {a b r : Int} {v : Value} (hx : ev n ρ x = .int k a) (hy : ev n ρ y = .int k b)
 (hop : ∀ w,(binOp op t (.int k a) (.int k b)).run P w = .ok v w) (hne : op ≠ .eql) (hnn : op ≠ .neq) (hr : v = .int k r) (hk : K (upd ρ d (.int k r)) w) :
 OpW P n ⟨some d,.binOp op t x y u,ty,pos,af,g⟩ ρ w K := by
 subst hr
 refine OpW.valD ?_ hk
 have he : (eqGuard op t x y (.int k a) (.int k b)).run P w = .ok () w := by
  unfold eqGuard
  cases op <;> first | exact absurd rfl hne | exact absurd rfl hnn | simp
 simp only [execOp,hx,hy,Sem.run_bind,he,Result.andThen,hop]
 simp
theorem OpW.add {t u : TypeId} {x y : Operand} {k : IntKind} {a b r : Int} (hx : ev n ρ x = .int k a) (hy : ev n ρ y = .int k b) (hr : k.wrap (a + b) = r)
 (hk : K (upd ρ d (.int k r)) w) : OpW P n ⟨some d,.binOp .add t x y u,ty,pos,af,g⟩ ρ w K :=
 OpW.arith hx hy (fun w => by simp [binOp,Op.intArith]; rfl) (by decide) (by decide) (by rw [hr]) hk
theorem OpW.sub {t u : TypeId} {x y : Operand} {k : IntKind} {a b r : Int} (hx : ev n ρ x = .int k a) (hy : ev n ρ y = .int k b) (hr : k.wrap (a - b) = r)
 (hk : K (upd ρ d (.int k r)) w) : OpW P n ⟨some d,.binOp .sub t x y u,ty,pos,af,g⟩ ρ w K :=
 OpW.arith hx hy (fun w => by simp [binOp,Op.intArith]; rfl) (by decide) (by decide) (by rw [hr]) hk
theorem OpW.mul {t u : TypeId} {x y : Operand} {k : IntKind} {a b r : Int} (hx : ev n ρ x = .int k a) (hy : ev n ρ y = .int k b) (hr : k.wrap (a * b) = r)
 (hk : K (upd ρ d (.int k r)) w) : OpW P n ⟨some d,.binOp .mul t x y u,ty,pos,af,g⟩ ρ w K :=
 OpW.arith hx hy (fun w => by simp [binOp,Op.intArith]; rfl) (by decide) (by decide) (by rw [hr]) hk
theorem OpW.quo {t u : TypeId} {x y : Operand} {k : IntKind} {a b r : Int} (hx : ev n ρ x = .int k a) (hy : ev n ρ y = .int k b) (h0 : b ≠ 0) (hr : k.wrap (a.tdiv b) = r)
 (hk : K (upd ρ d (.int k r)) w) : OpW P n ⟨some d,.binOp .quo t x y u,ty,pos,af,g⟩ ρ w K :=
 OpW.arith hx hy (fun w => by simp [binOp,Op.intDiv,h0]; rfl) (by decide) (by decide) (by rw [hr]) hk
theorem OpW.rem {t u : TypeId} {x y : Operand} {k : IntKind} {a b r : Int} (hx : ev n ρ x = .int k a) (hy : ev n ρ y = .int k b) (h0 : b ≠ 0) (hr : a.tmod b = r)
 (hk : K (upd ρ d (.int k r)) w) : OpW P n ⟨some d,.binOp .rem t x y u,ty,pos,af,g⟩ ρ w K :=
 OpW.arith hx hy (fun w => by simp [binOp,Op.intDiv,h0]; rfl) (by decide) (by decide) (by rw [hr]) hk
theorem OpW.bits {op : BinOp} {t u : TypeId} {x y : Operand} {k : IntKind} {a b r : Int} (hop : op = .and \/ op = .or \/ op = .xor \/ op = .andNot)
 (hx : ev n ρ x = .int k a) (hy : ev n ρ y = .int k b) (hr : ∀ w,(Op.intBits op k a b).run P w = .ok (.int k r) w)
 (hk : K (upd ρ d (.int k r)) w) : OpW P n ⟨some d,.binOp op t x y u,ty,pos,af,g⟩ ρ w K :=
 OpW.arith hx hy (fun w => by rcases hop with rfl | rfl | rfl | rfl <;> simp [binOp,hr]; all_goals rfl) (by rcases hop with rfl | rfl | rfl | rfl <;> decide) (by rcases hop with rfl | rfl | rfl | rfl <;> decide) rfl hk
theorem OpW.shift {op : BinOp} {t u : TypeId} {x y : Operand} {k yk : IntKind} {a b r : Int} (hop : op = .shl \/ op = .shr)
 (hx : ev n ρ x = .int k a) (hy : ev n ρ y = .int yk b) (hr : ∀ w,(Op.shift op k a yk b).run P w = .ok (.int k r) w)
 (hk : K (upd ρ d (.int k r)) w) : OpW P n ⟨some d,.binOp op t x y u,ty,pos,af,g⟩ ρ w K := by
 refine OpW.valD ?_ hk
 have he : (eqGuard op t x y (.int k a) (.int yk b)).run P w = .ok () w := by
  unfold eqGuard
  rcases hop with rfl | rfl <;> simp
 simp only [execOp,hx,hy,Sem.run_bind,he,Result.andThen]
 rcases hop with rfl | rfl <;> simp [binOp,hr]
theorem run_cmp {op : BinOp} {t : TypeId} {x y : Operand} {k : IntKind} {a b : Int} : (eqGuard op t x y (.int k a) (.int k b)).run P w = .ok () w := by
 unfold eqGuard
 cases op <;> simp
theorem OpW.cmp {op : BinOp} {t u : TypeId} {x y : Operand} {k : IntKind} {a b : Int} {r : Bool} (hx : ev n ρ x = .int k a) (hy : ev n ρ y = .int k b)
 (hop : ∀ w,(binOp op t (.int k a) (.int k b)).run P w = .ok (.bool r) w)
 (hk : K (upd ρ d (.bool r)) w) : OpW P n ⟨some d,.binOp op t x y u,ty,pos,af,g⟩ ρ w K := by
 refine OpW.valD ?_ hk
 simp only [execOp,hx,hy,Sem.run_bind,run_cmp,Result.andThen,hop]
 simp
theorem OpW.lss {t u : TypeId} {x y : Operand} {k : IntKind} {a b : Int} {r : Bool} (hx : ev n ρ x = .int k a) (hy : ev n ρ y = .int k b) (hr : decide (a < b) = r)
 (hk : K (upd ρ d (.bool r)) w) : OpW P n ⟨some d,.binOp .lss t x y u,ty,pos,af,g⟩ ρ w K :=
 OpW.cmp hx hy (fun w => by simp [binOp,Op.intCmp,hr]) hk
theorem OpW.leq {t u : TypeId} {x y : Operand} {k : IntKind} {a b : Int} {r : Bool} (hx : ev n ρ x = .int k a) (hy : ev n ρ y = .int k b) (hr : decide (a <= b) = r)
 (hk : K (upd ρ d (.bool r)) w) : OpW P n ⟨some d,.binOp .leq t x y u,ty,pos,af,g⟩ ρ w K :=
 OpW.cmp hx hy (fun w => by simp [binOp,Op.intCmp,hr]) hk
theorem OpW.gtr {t u : TypeId} {x y : Operand} {k : IntKind} {a b : Int} {r : Bool} (hx : ev n ρ x = .int k a) (hy : ev n ρ y = .int k b) (hr : decide (b < a) = r)
 (hk : K (upd ρ d (.bool r)) w) : OpW P n ⟨some d,.binOp .gtr t x y u,ty,pos,af,g⟩ ρ w K :=
 OpW.cmp hx hy (fun w => by simp [binOp,Op.intCmp,hr]) hk
theorem OpW.geq {t u : TypeId} {x y : Operand} {k : IntKind} {a b : Int} {r : Bool} (hx : ev n ρ x = .int k a) (hy : ev n ρ y = .int k b) (hr : decide (b <= a) = r)
 (hk : K (upd ρ d (.bool r)) w) : OpW P n ⟨some d,.binOp .geq t x y u,ty,pos,af,g⟩ ρ w K :=
 OpW.cmp hx hy (fun w => by simp [binOp,Op.intCmp,hr]) hk
theorem OpW.eqlI {t u : TypeId} {x y : Operand} {k : IntKind} {a b : Int} {r : Bool} (hx : ev n ρ x = .int k a) (hy : ev n ρ y = .int k b) (hr : decide (a = b) = r)
 (hk : K (upd ρ d (.bool r)) w) : OpW P n ⟨some d,.binOp .eql t x y u,ty,pos,af,g⟩ ρ w K :=
 OpW.cmp hx hy (fun w => by subst hr; simp [binOp,Op.intCmp]; rfl) hk
theorem OpW.neqI {t u : TypeId} {x y : Operand} {k : IntKind} {a b : Int} {r : Bool} (hx : ev n ρ x = .int k a) (hy : ev n ρ y = .int k b) (hr : decide (a ≠ b) = r)
 (hk : K (upd ρ d (.bool r)) w) : OpW P n ⟨some d,.binOp .neq t x y u,ty,pos,af,g⟩ ρ w K :=
 OpW.cmp hx hy (fun w => by subst hr; simp [binOp,Op.intCmp,bne]; rfl) hk
theorem run_equalB {t : TypeId} {a b : Bool} (ht : IsUnd P t .bool) : (Op.equal t (.bool a) (.bool b)).run P w = .ok (a == b) w := by
 show (Op.equalIn (9999 + 1) t (.bool a) (.bool b)).run P w = _
 unfold Op.equalIn
 simp only [Sem.run_bind,ht.run w,Result.andThen]
 rfl
theorem OpW.eqlB {t u : TypeId} {x y : Operand} {a b r : Bool} (ht : IsUnd P t .bool) (hx : ev n ρ x = .bool a) (hy : ev n ρ y = .bool b) (hr : (a == b) = r)
 (hk : K (upd ρ d (.bool r)) w) : OpW P n ⟨some d,.binOp .eql t x y u,ty,pos,af,g⟩ ρ w K := by
 refine OpW.valD ?_ hk
 subst hr
 have he : (eqGuard .eql t x y (.bool a) (.bool b)).run P w = .ok () w := by unfold eqGuard; simp
 have hb : (binOp .eql t (.bool a) (.bool b)).run P w = .ok (.bool (a == b)) w := by
  show (do pure (Value.bool (<- Op.equal t (.bool a) (.bool b))) : Sem Value).run P w = _
  simp only [Sem.run_bind,run_equalB ht,Result.andThen]; rfl
 simp only [execOp,hx,hy,Sem.run_bind,he,Result.andThen,hb]; rfl
theorem OpW.neqB {t u : TypeId} {x y : Operand} {a b r : Bool} (ht : IsUnd P t .bool) (hx : ev n ρ x = .bool a) (hy : ev n ρ y = .bool b) (hr : (a != b) = r)
 (hk : K (upd ρ d (.bool r)) w) : OpW P n ⟨some d,.binOp .neq t x y u,ty,pos,af,g⟩ ρ w K := by
 refine OpW.valD ?_ hk
 subst hr
 have he : (eqGuard .neq t x y (.bool a) (.bool b)).run P w = .ok () w := by unfold eqGuard; simp
 have hb : (binOp .neq t (.bool a) (.bool b)).run P w = .ok (.bool (a != b)) w := by
  show (do pure (Value.bool (!(<- Op.equal t (.bool a) (.bool b)))) : Sem Value).run P w = _
  simp only [Sem.run_bind,run_equalB ht,Result.andThen]; rfl
 simp only [execOp,hx,hy,Sem.run_bind,he,Result.andThen,hb]; rfl
theorem OpW.eqlS {t u : TypeId} {x y : Operand} {a b : ByteArray} {r : Bool} (hx : ev n ρ x = .string a) (hy : ev n ρ y = .string b) (hr : (a.toList == b.toList) = r)
 (hk : K (upd ρ d (.bool r)) w) : OpW P n ⟨some d,.binOp .eql t x y u,ty,pos,af,g⟩ ρ w K := by
 refine OpW.valD ?_ hk
 simp [execOp,hx,hy,eqGuard,binOp,Op.stringOp,hr]
theorem run_equalNil {t e : TypeId} {b : Option Addr} {l c l' c' : Nat} (ht : IsUnd P t (.slice e)) : (Op.equal t (.slice b l c) (.slice none l' c')).run P w = .ok b.isNone w := by
 show (Op.equalIn (9999 + 1) t (.slice b l c) (.slice none l' c')).run P w = _
 unfold Op.equalIn
 cases b <;> (simp only [Sem.run_bind,ht.run w,Result.andThen]; rfl)
theorem OpW.eqlNil {t u e : TypeId} {x y : Operand} {b : Option Addr} {l c l' c' : Nat} {r : Bool} (ht : IsUnd P t (.slice e)) (hx : ev n ρ x = .slice b l c) (hy : ev n ρ y = .slice none l' c') (hr : b.isNone = r)
 (hk : K (upd ρ d (.bool r)) w) : OpW P n ⟨some d,.binOp .eql t x y u,ty,pos,af,g⟩ ρ w K := by
 refine OpW.valD ?_ hk
 subst hr
 have he : (eqGuard .eql t x y (.slice b l c) (.slice none l' c')).run P w = .ok () w := by unfold eqGuard; simp
 have hb : (binOp .eql t (.slice b l c) (.slice none l' c')).run P w = .ok (.bool b.isNone) w := by
  show (do pure (Value.bool (<- Op.equal t (.slice b l c) (.slice none l' c'))) : Sem Value).run P w = _
  simp only [Sem.run_bind,run_equalNil ht,Result.andThen]; rfl
 simp only [execOp,hx,hy,Sem.run_bind,he,Result.andThen,hb]; rfl
theorem OpW.notB {t : TypeId} {x : Operand} {a r : Bool} (hx : ev n ρ x = .bool a) (hr : (!a) = r) (hk : K (upd ρ d (.bool r)) w) : OpW P n ⟨some d,.unOp .not t x,ty,pos,af,g⟩ ρ w K :=
 OpW.valD (by simp [execOp,hx,Op.unary,hr]) hk
theorem OpW.negI {t : TypeId} {x : Operand} {k : IntKind} {a r : Int} (hx : ev n ρ x = .int k a) (hr : k.wrap (0 - a) = r) (hk : K (upd ρ d (.int k r)) w) : OpW P n ⟨some d,.unOp .neg t x,ty,pos,af,g⟩ ρ w K :=
 OpW.valD (by simp only [execOp,hx,Op.unary,Op.intArith,hr]; simp) hk
theorem OpW.convI {s t : TypeId} {x : Operand} {k k' : IntKind} {sd : TypeDesc} {a r : Int} (hs : IsUnd P s sd) (ht : IsUnd P t (.int k')) (hx : ev n ρ x = .int k a) (hr : k'.wrap a = r)
 (hk : K (upd ρ d (.int k' r)) w) : OpW P n ⟨some d,.convert s t x,ty,pos,af,g⟩ ρ w K :=
 OpW.valD (by simp [execOp,hx,convert,hs.run w,ht.run w,Conv.intToInt,hr]) hk
theorem OpW.lenS {x : Operand} {t e : TypeId} {b : Option Addr} {l c : Nat} (ht : IsUnd P t (.slice e)) (hx : ev n ρ x = .slice b l c) (hk : K (upd ρ d (.int .i64 l)) w) :
 OpW P n ⟨some d,.call ⟨.builtin .len, #[x], #[t]⟩,ty,pos,af,g⟩ ρ w K :=
 OpW.valD (by simp [execOp,resolve,invoke,builtin,Builtin.len_,hx,ht.run w,goInt]) hk
theorem OpW.maxI {x y : Operand} {t u : TypeId} {k : IntKind} {a b r : Int} (hx : ev n ρ x = .int k a) (hy : ev n ρ y = .int k b)
 (hr : ∀ w,(Builtin.max_ #[t,u] ty #[.int k a,.int k b]).run P w = .ok (.int k r) w) (hk : K (upd ρ d (.int k r)) w) :
 OpW P n ⟨some d,.call ⟨.builtin .max, #[x,y], #[t,u]⟩,ty,pos,af,g⟩ ρ w K :=
 OpW.valD (by simp [execOp,resolve,invoke,builtin,hx,hy,hr]) hk
theorem OpW.minI {x y : Operand} {t u : TypeId} {k : IntKind} {a b r : Int} (hx : ev n ρ x = .int k a) (hy : ev n ρ y = .int k b)
 (hr : ∀ w,(Builtin.min_ #[t,u] ty #[.int k a,.int k b]).run P w = .ok (.int k r) w) (hk : K (upd ρ d (.int k r)) w) :
 OpW P n ⟨some d,.call ⟨.builtin .min, #[x,y], #[t,u]⟩,ty,pos,af,g⟩ ρ w K :=
 OpW.valD (by simp [execOp,resolve,invoke,builtin,hx,hy,hr]) hk
theorem OpW.indexAddr {t e : TypeId} {x y : Operand} {k : IntKind} {b off l c sz : Nat} {i : Int} {o : Nat} (ht : IsUnd P t (.slice e)) (hs : IsSize P e sz) (hx : ev n ρ x = .slice (some ⟨b,off,none⟩) l c)
 (hy : ev n ρ y = .int k i) (h : 0 <= i /\ i < l) (ho : off + i.toNat * sz = o) (hk : K (upd ρ d (.pointer (some ⟨b,o,none⟩))) w) :
 OpW P n ⟨some d,.indexAddr t x y,ty,pos,af,g⟩ ρ w K := by
 refine OpW.valD ?_ hk
 subst ho
 simp [execOp,Instr.indexAt,asIntOf,hx,hy,ht.run w,hs w,h,addr_add]
theorem OpW.fieldAddr {t : TypeId} {fs : Array Field} {f : Field} {x : Operand} {i b off sz o : Nat} (ht : IsUnd P t (.struct fs)) (hf : fs[i]? = some f) (hs : IsSize P f.type sz) (hz : sz ≠ 0)
 (hx : ev n ρ x = .pointer (some ⟨b,off,none⟩)) (ho : off + f.offset = o) (hk : K (upd ρ d (.pointer (some ⟨b,o,none⟩))) w) : OpW P n ⟨some d,.fieldAddr t x i,ty,pos,af,g⟩ ρ w K := by
 refine OpW.valD ?_ hk
 subst ho
 simp [execOp,Instr.fieldAt,Instr.sureAddr,hx,ht.run w,hf,fieldPlace,hs w,hz,addr_add]
theorem OpW.extract {x : Operand} {vs : Array Value} {i : Nat} {v : Value} (hx : ev n ρ x = .tuple vs) (hv : vs[i]? = some v) (hk : K (upd ρ d v) w) :
 OpW P n ⟨some d,.extract x i,ty,pos,af,g⟩ ρ w K :=
 OpW.valD (by simp [execOp,Instr.extract,hx,hv]) hk
theorem OpW.slice {t : TypeId} {x : Operand} {lo hi mx : Option Operand} {a : Option Addr} {l c : Nat} {r : Value} (hx : ev n ρ x = .slice a l c)
 (hr : (Instr.sliceAt t (.slice a l c) (lo.map (ev n ρ)) (hi.map (ev n ρ)) (mx.map (ev n ρ))).run P w = .ok r w) (hk : K (upd ρ d r) w) :
 OpW P n ⟨some d,.slice t x lo hi mx,ty,pos,af,g⟩ ρ w K :=
 OpW.valD (by simp [execOp,hx,hr]) hk
end ops
end Go.Ear
namespace Go.Ear
def Sl (h : PH) (k : Nat) (v : Value) (css : List (List Value)) : Prop :=
 ∃ (base : Option Addr) (cap : Nat),v = .slice base css.length cap /\ css.length <= cap /\ (∀ cs ∈ css,cs.length = k) /\
   (css = [] \/ ∃ b off arr e fz,base = some ⟨b,off,none⟩ /\ h b = some (.cells arr e fz) /\ off + css.length * k <= arr.size /\ ∀ i cs,css[i]? = some cs -> cut arr (off + i * k) k = cs)
theorem Sl.mono {h h' : PH} {k : Nat} {v : Value} {css : List (List Value)} (s : Sl h k v css) (l : h.le h') : Sl h' k v css := by
 obtain ⟨base,cap,rfl,hc,hk,hx⟩ := s
 refine ⟨base,cap,rfl,hc,hk, ?_⟩
 rcases hx with hx | ⟨b,off,arr,e,fz,h1,h2,h3,h4⟩
 · exact .inl hx
 · exact .inr ⟨b,off,arr,e,fz,h1,l _ _ h2,h3,h4⟩
theorem Sl.nil (h : PH) (k : Nat) (base : Option Addr) (cap : Nat) : Sl h k (.slice base 0 cap) [] := ⟨base,cap,rfl,Nat.zero_le _,by simp,.inl rfl⟩
theorem Sl.shape {h : PH} {k : Nat} {v : Value} {css : List (List Value)} (s : Sl h k v css) : ∃ base cap,v = .slice base css.length cap /\ css.length <= cap := by
 obtain ⟨base,cap,rfl,hc,_⟩ := s
 exact ⟨base,cap,rfl,hc⟩
theorem Sl.at {h : PH} {k : Nat} {v : Value} {css : List (List Value)} (s : Sl h k v css) {i : Nat} {cs : List Value} (hi : css[i]? = some cs) :
 ∃ b off cap arr e fz,v = .slice (some ⟨b,off,none⟩) css.length cap /\ h b = some (.cells arr e fz) /\ off + css.length * k <= arr.size /\ cut arr (off + i * k) k = cs /\ i < css.length /\ off + i * k + k <= arr.size := by
 obtain ⟨base,cap,rfl,hc,hk,hx⟩ := s
 have hlt := (List.getElem?_eq_some_iff.1 hi).1
 rcases hx with rfl | ⟨b,off,arr,e,fz,rfl,h2,h3,h4⟩
 · simp at hi
 · refine ⟨b,off,cap,arr,e,fz,rfl,h2,h3,h4 i cs hi,hlt, ?_⟩
   have : (i + 1) * k <= css.length * k := Nat.mul_le_mul_right _ hlt
   rw [Nat.add_mul,Nat.one_mul] at this
   omega
theorem Sl.take {h : PH} {k : Nat} {base : Option Addr} {l cap : Nat} {css : List (List Value)} (s : Sl h k (.slice base l cap) css) (m : Nat) (hm : m <= css.length) :
 Sl h k (.slice base m cap) (css.take m) := by
 obtain ⟨base',cap',he,hc,hk,hx⟩ := s
 cases he
 refine ⟨base,cap,by simp [Nat.min_eq_left hm],by simp; omega,fun cs hcs => hk cs (List.mem_of_mem_take hcs), ?_⟩
 rcases hx with rfl | ⟨b,off,arr,e,fz,rfl,h2,h3,h4⟩
 · exact .inl (by simp)
 · refine .inr ⟨b,off,arr,e,fz,rfl,h2, ?_, ?_⟩
   · simp only [List.length_take,Nat.min_eq_left hm]
     have : m * k <= css.length * k := Nat.mul_le_mul_right _ hm
     omega
   · intro i cs hi
     rw [List.getElem?_take] at hi
     split at hi
     · exact h4 i cs hi
     · cases hi
def Own (lo : Nat) (h : PH) (w : World) (e : TypeId) (k : Nat) (v : Value) (len : Nat) (xs : List Value) : Prop :=
 xs.length = len * k /\ ((v = .slice none 0 0 /\ len = 0) \/
  ∃ b cap arr,v = .slice (some ⟨b,0,none⟩) len cap /\ lo <= b /\ h b = none /\ w.heap[b]? = some (.cells arr e (0,0)) /\ len <= cap /\ arr.size = cap * k /\ arr.toList.take (len * k) = xs)
theorem Own.nil (lo : Nat) (h : PH) (w : World) (e : TypeId) (k : Nat) : Own lo h w e k (.slice none 0 0) 0 [] := ⟨by simp,.inl ⟨rfl,rfl⟩⟩
def Value.blk : Value -> Option Nat
 | .slice (some a) _ _ => some a.block
 | _ => none
theorem Own.keep {lo : Nat} {h h' : PH} {w w' : World} {e : TypeId} {k : Nat} {v : Value} {len : Nat} {xs : List Value} (o : Own lo h w e k v len xs)
 (hb : ∀ b,Value.blk v = some b -> b < w.heap.size -> w'.heap[b]? = w.heap[b]? /\ (h b = none -> h' b = none)) : Own lo h' w' e k v len xs := by
 refine ⟨o.1, ?_⟩
 rcases o.2 with hn | ⟨b,cap,arr,rfl,h1,h2,h3,h4⟩
 · exact .inl hn
 · have := hb b rfl (Array.getElem?_eq_some_iff.1 h3).1
   exact .inr ⟨b,cap,arr,rfl,h1,this.2 h2,by rw [this.1]; exact h3,h4⟩
def chunks (k : Nat) : Nat -> List Value -> List (List Value)
 | 0,_ => []
 | n + 1,xs => xs.take k :: chunks k n (xs.drop k)
theorem chunks_at (k : Nat) : ∀ (n : Nat) (xs : List Value) (i : Nat),i < n -> (chunks k n xs)[i]? = some ((xs.drop (i * k)).take k)
 | 0,_,_,h => by omega
 | n + 1,xs,0,_ => by simp [chunks]
 | n + 1,xs,i + 1,h => by
   simp only [chunks,List.getElem?_cons_succ]
   rw [chunks_at k n _ i (by omega),List.drop_drop]
   congr 3
   rw [Nat.add_mul,Nat.one_mul,Nat.add_comm]
theorem chunks_flatten (k : Nat) : ∀ (css : List (List Value)),(∀ cs ∈ css,cs.length = k) -> chunks k css.length css.flatten = css
 | [],_ => rfl
 | cs :: css,h => by
   have hc : cs.length = k := h cs (List.mem_cons_self ..)
   simp only [List.length_cons,chunks,List.flatten_cons]
   rw [List.take_left' hc,List.drop_left' hc,chunks_flatten k css fun c hc => h c (List.mem_cons_of_mem _ hc)]
theorem Own.freeze {lo : Nat} {h0 h : PH} {w0 w : World} {e : TypeId} {k : Nat} {v : Value} {len : Nat} {css : List (List Value)} (g : Gr h0 w0 h w) (hlo : w0.heap.size <= lo)
 (hk : ∀ cs ∈ css,cs.length = k) (hl : css.length = len) (o : Own lo h w e k v len css.flatten) :
 ∃ h',Gr h0 w0 h' w /\ h.le h' /\ (∀ i,h i = none -> some i ≠ Value.blk v -> h' i = none) /\ Sl h' k v css := by
 rcases o.2 with ⟨rfl,hn⟩ | ⟨b,cap,arr,rfl,h1,h2,h3,h4,h5,h6⟩
 · refine ⟨h,g,PH.le.refl h,fun i hi _ => hi, ?_⟩
   have : css = [] := by
    cases css with
    | nil => rfl
    | cons c cs => simp at hl; omega
   subst this
   exact Sl.nil h k _ _
 · refine ⟨h.put b (.cells arr e (0,0)),g.freeze h3 h2 (Nat.le_trans hlo h1),PH.le_put _ h2,fun i hi hne => ?_,_,cap,by rw [hl],by rw [hl]; exact h4,hk,.inr ⟨b,0,arr,e,(0,0),rfl,PH.put_at .., ?_, ?_⟩⟩
   · rw [PH.put_ne _ (fun e => hne (by simp [Value.blk,e]))]; exact hi
   · rw [hl,h5]; simp; exact Nat.mul_le_mul_right _ h4
   · intro i cs hi
     have hlt := (List.getElem?_eq_some_iff.1 hi).1
     have hc := chunks_at k css.length css.flatten i hlt
     rw [chunks_flatten k css hk,hi] at hc
     have hc := Option.some.inj hc
     unfold cut
     rw [hc, <- h6,Nat.zero_add]
     rw [List.drop_take,List.take_take]
     congr 1
     have : (i + 1) * k <= len * k := Nat.mul_le_mul_right _ (by omega)
     rw [Nat.add_mul,Nat.one_mul] at this
     omega
section ops
variable {P : Program} {n : Nat} {ρ : Env} {w : World} {K : Env -> World -> Prop} {d : Tmp} {ty : TypeId} {pos : String} {af : Array Edge} {g : Option (Nat × Bool)}
theorem OpW.make {t e : TypeId} {i : TypeInfo} {z : Value} {x y : Operand} {kx ky : IntKind} {l c : Nat} (ht : IsUnd P t (.slice e)) (hi : P.info? e = some i) (hz : i.zero = some z)
 (hx : ev n ρ x = .int kx l) (hy : ev n ρ y = .int ky c) (hlc : l <= c) (hb : i.bytes * c <= 281474976710656) (h63 : c <= 9223372036854775807)
 (hk : K (upd ρ d (.slice (some ⟨w.heap.size,0,none⟩) l c)) (newW w (.cells (madeCells z.cells (c * i.size)) e (0,0)))) : OpW P n ⟨some d,.makeSlice t x y,ty,pos,af,g⟩ ρ w K := by
 refine OpW.valD ?_ hk
 have hr := run_make (P := P) w t e i z ht hi hz kx ky l c (by omega) (by omega)
  (by have h := Int.ofNat_le.2 hb
      rw [Int.natCast_mul] at h; omega) (by omega)
 simp only [execOp,hx,hy,Sem.run_bind,hr,Result.andThen,Int.toNat_natCast]
 rfl
theorem OpW.sliceTo {t e : TypeId} {x y : Operand} {k : IntKind} {a : Option Addr} {l c m : Nat} {sz : Nat} (ht : IsUnd P t (.slice e)) (hs : IsSize P e sz) (hx : ev n ρ x = .slice a l c) (hy : ev n ρ y = .int k m) (hm : m <= c)
 (hk : K (upd ρ d (.slice a m c)) w) : OpW P n ⟨some d,.slice t x none (some y) none,ty,pos,af,g⟩ ρ w K := by
 refine OpW.slice hx ?_ hk
 have hmm : (0 : Int) <= (m : Int) /\ (m : Int) <= (c : Int) := by omega
 have ha : (if c = 0 then a else a.map (·.add (0 * sz))) = a := by
  split
  · rfl
  · cases a <;> simp [Addr.add]
 simp only [Instr.sliceAt,Sem.run_bind,ht.run w,Result.andThen,Option.map_none,Option.map_some,hy,Instr.slice,Instr.sliceBounds,Instr.sliceBound,asIntOf,Sem.run_pure,hmm,and_self,if_true,hs w,Int.toNat_natCast,Nat.sub_zero,ha]
theorem OpW.sliceFrom {t e : TypeId} {x y : Operand} {k : IntKind} {a : Option Addr} {l c m : Nat} {sz : Nat} (ht : IsUnd P t (.slice e)) (hs : IsSize P e sz) (hx : ev n ρ x = .slice a l c) (hy : ev n ρ y = .int k m) (hm : m <= l)
 (hk : K (upd ρ d (.slice (if c = m then a else a.map (·.add (m * sz))) (l - m) (c - m))) w) : OpW P n ⟨some d,.slice t x (some y) none none,ty,pos,af,g⟩ ρ w K := by
 refine OpW.slice hx ?_ hk
 have hmm : (0 : Int) <= (m : Int) /\ (m : Int) <= (l : Int) := by omega
 simp only [Instr.sliceAt,Sem.run_bind,ht.run w,Result.andThen,Option.map_none,Option.map_some,hy,Instr.slice,Instr.sliceBounds,Instr.sliceBound,asIntOf,Sem.run_pure,hmm,and_self,if_true,hs w,Int.toNat_natCast]
theorem OpW.indexStr {t : TypeId} {x y : Operand} {k : IntKind} {s : ByteArray} {i : Nat} {b : UInt8} (ht : IsUnd P t .string) (hx : ev n ρ x = .string s) (hy : ev n ρ y = .int k i) (hi : s[i]? = some b)
 (hk : K (upd ρ d (.int .u8 b.toNat)) w) : OpW P n ⟨some d,.index t x y,ty,pos,af,g⟩ ρ w K := by
 refine OpW.valD ?_ hk
 have h0 : (0 : Int) <= (i : Int) := by omega
 simp only [execOp,hx,hy,Sem.run_bind,Instr.index,asIntOf,Sem.run_pure,Result.andThen,ht.run w,h0,if_true,Int.toNat_natCast,hi]
end ops
end Go.Ear
