/- K3: a part of the proof about training through the decoder: how the program's functions run, and what they compute, for every input. -/
import Derived.Test.YtdciabokggfpbaaGreatK2
set_option linter.all false
namespace Go.Ear
structure Ow (w w' : World) (b : Option Nat) : Prop where
 os : w'.os = w.os
 tape : w'.tape = w.tape
 output : w'.output = w.output
 size : w.heap.size <= w'.heap.size
 block : ∀ i,i < w.heap.size -> some i ≠ b -> w'.heap[i]? = w.heap[i]?
 drawn : w.drawn <= w'.drawn
theorem Gr.ow {h0 h : PH} {w0 w w' : World} {b : Option Nat} (a : Gr h0 w0 h w) (p : Ow w w' b) (hn : ∀ i,b = some i -> h i = none /\ w0.heap.size <= i) : Gr h0 w0 h w' :=
 ⟨fun i x e => by
  have hlt := a.sat.lt (by rw [e]; exact fun h => nomatch h)
  rw [p.block i hlt (by rintro rfl; rw [(hn i rfl).1] at e; cases e)]; exact a.sat i x e,
  ⟨p.os.trans a.ext.os,p.tape.trans a.ext.tape,p.output.trans a.ext.output,Nat.le_trans a.ext.size p.size,
   fun i hi => by
    rw [p.block i (Nat.lt_of_lt_of_le hi a.ext.size) (by rintro rfl; have := (hn i rfl).2; omega)]; exact a.ext.block i hi⟩,a.le,a.fresh,fun e1 e2 => Nat.le_trans (a.drawn e1 e2) p.drawn⟩
def Reads (w : World) (x : Value) (m : Nat) (k : Nat) (ys : List Value) : Prop :=
 ys.length = m * k /\ ∃ base c,x = .slice base m c /\ (ys = [] \/ ∃ b off arr e fz,base = some ⟨b,off,none⟩ /\ w.heap[b]? = some (.cells arr e fz) /\ off + m * k <= arr.size /\ cut arr off (m * k) = ys)
theorem flatten_length {k : Nat} : ∀ {css : List (List Value)},(∀ cs ∈ css,cs.length = k) -> css.flatten.length = css.length * k
 | [],_ => by simp
 | cs :: css,h => by
   simp only [List.flatten_cons,List.length_append,List.length_cons,h cs (List.mem_cons_self ..),flatten_length fun c hc => h c (List.mem_cons_of_mem _ hc)]
   rw [Nat.add_mul,Nat.one_mul,Nat.add_comm]
theorem cut_add (arr : Array Value) (off a b : Nat) : cut arr off (a + b) = cut arr off a ++ cut arr (off + a) b := by
 unfold cut
 rw [List.take_add,List.drop_drop]
theorem cut_flatten {arr : Array Value} {k : Nat} : ∀ (css : List (List Value)) (off : Nat),(∀ i cs,css[i]? = some cs -> cut arr (off + i * k) k = cs) -> cut arr off (css.length * k) = css.flatten
 | [],off,_ => by simp [cut]
 | cs :: css,off,h => by
   have h0 := h 0 cs rfl
   rw [Nat.zero_mul,Nat.add_zero] at h0
   have ih := cut_flatten css (off + k) (fun i c hc => by
    have := h (i + 1) c (by simpa using hc)
    rw [Nat.add_mul,Nat.one_mul] at this
    rw [<- this]; congr 1; omega)
   simp only [List.length_cons,List.flatten_cons]
   rw [Nat.add_mul,Nat.one_mul,Nat.add_comm,cut_add,h0,ih]
theorem Sl.reads {h : PH} {w : World} {k : Nat} {v : Value} {css : List (List Value)} (s : Sl h k v css) (hs : Sat h w) : Reads w v css.length k css.flatten := by
 obtain ⟨base,cap,rfl,hc,hk,hx⟩ := s
 refine ⟨flatten_length hk,base,cap,rfl, ?_⟩
 rcases hx with rfl | ⟨b,off,arr,e,fz,rfl,h2,h3,h4⟩
 · exact .inl rfl
 · exact .inr ⟨b,off,arr,e,fz,rfl,hs _ _ h2,h3,cut_flatten css off h4⟩
theorem run_firstCells {P : Program} {w : World} {x : Value} {m k : Nat} {ys : List Value} (r : Reads w x m k ys) : (Builtin.firstCells k m x).run P w = .ok ys.toArray w := by
 obtain ⟨hl,base,c,rfl,hx⟩ := r
 rcases hx with rfl | ⟨b,off,arr,e,fz,rfl,h1,h2,h3⟩
 · cases base with
   | none => rfl
   | some a =>
     have : m * k = 0 := by simpa using hl.symm
     simp [Builtin.firstCells,this,loadCells,loadCellsFrom]
 · have := run_loadCellsFrom (P := P) (w := w) (off := off) h1 (m * k) 0 #[] (by omega)
   simp only [Builtin.firstCells,loadCells,this]
   simp [h3]
theorem Reads.drew {w : World} {x : Value} {m k : Nat} {ys : List Value} (r : Reads w x m k ys) (d : Nat) : Reads { w with drawn := d } x m k ys := r
section
variable {P : Program} {w : World}
theorem run_append {lo : Nat} {h : PH} {t ty e : TypeId} {i : TypeInfo} {z : Value} {v x : Value} {len m : Nat} {xs ys : List Value}
 (ht : P.underlying t = some (.slice e)) (hi : P.info? e = some i) (hz : i.zero = some z) (hzs : z.cells.size = i.size)
 (hs : Sat h w) (hlo : lo <= w.heap.size) (own : Own lo h w e i.size v len xs) (r : Reads w x m i.size ys) (h1 : ∀ y ∈ ys,y.oneCell' = true)
 (h63 : len + m <= 9223372036854775807) (hb : (len + m) * i.bytes <= 140737488355328) :
 ∃ v' w',(Builtin.append_ #[t,t] ty #[v,x]).run P w = .ok v' w' /\ Own lo h w' e i.size v' (len + m) (xs ++ ys) /\ Ow w w' (Value.blk v) /\
   (∀ b,Value.blk v' = some b -> Value.blk v = some b \/ w.heap.size <= b) := by
 have hrl := r.1
 obtain ⟨base,c,rfl,hrx⟩ := r.2
 have hfc := run_firstCells (P := P) r
 have hlen : (xs ++ ys).length = (len + m) * i.size := by rw [List.length_append,own.1,hrl,Nat.add_mul]
 have grow : ∀ (sCap : Nat) (olds : Value),len + m > sCap -> (Builtin.firstCells i.size len olds).run P w.drew = .ok xs.toArray w.drew -> (∃ b : Option Addr,olds = .slice b len sCap) ->
  (Builtin.append_ #[t,t] ty #[olds,.slice base m c]).run P w = .ok (.slice (some ⟨w.heap.size,0,none⟩) (len + m) (grownCap w (len + m) sCap e))
   (w.drew.alloc (.cells (xs.toArray ++ ys.toArray ++ Builtin.zeroCells z.cells (grownCap w (len + m) sCap e - (len + m))) e)) := by
  intro sCap olds hgt hold ⟨bo,ho⟩
  subst ho
  have hn : ¬ (len + m <= sCap) := by omega
  have h63' : ¬ (9223372036854775807 < ((len : Int) + (m : Int))) := by omega
  have hfit := growslice_fits (need := len + m) (old := sCap) (bytes := i.bytes) hgt hb
  have h48 : ¬ (281474976710656 < Builtin.nextslicecap (len + m) sCap * i.bytes) := by omega
  have hfc' : (Builtin.firstCells i.size m (.slice base m c)).run P w.drew = .ok ys.toArray w.drew := run_firstCells (P := P) (r.drew _)
  simp [Builtin.append_,run_underlying ht,sizeOf,typeInfo,zeroValue,hi,hz,Builtin.lenOf,hn,h63',h48,Question.forced,newRow,grownCap,hold,hfc',Array.append_assoc]
  try (rw [<- List.append_toArray,Array.append_assoc])
 have grown : ∀ sCap,len + m > sCap -> (w.drew.alloc (.cells (xs.toArray ++ ys.toArray ++ Builtin.zeroCells z.cells (grownCap w (len + m) sCap e - (len + m))) e)).heap[w.heap.size]? =
  some (.cells (xs.toArray ++ ys.toArray ++ Builtin.zeroCells z.cells (grownCap w (len + m) sCap e - (len + m))) e (0,0)) := fun sCap _ => heap_alloc_new w.drew _
 have fin : ∀ sCap,len + m > sCap -> Own lo h (w.drew.alloc (.cells (xs.toArray ++ ys.toArray ++ Builtin.zeroCells z.cells (grownCap w (len + m) sCap e - (len + m))) e)) e i.size
  (.slice (some ⟨w.heap.size,0,none⟩) (len + m) (grownCap w (len + m) sCap e)) (len + m) (xs ++ ys) := by
  intro sCap hgt
  have hge := grownCap_ge w (len + m) sCap e
  refine ⟨hlen,.inr ⟨w.heap.size,_,_,rfl,hlo,hs.fresh,grown sCap hgt,hge, ?_, ?_⟩⟩
  · simp only [Array.size_append,List.size_toArray,size_zeroCells,hzs,own.1,hrl, <- Nat.add_mul]
    congr 1; omega
  · simp only [Array.toList_append]
    rw [show xs ++ ys = xs ++ ys from rfl, <- hlen]
    exact List.take_left
 have ow : ∀ sCap b,len + m > sCap -> Ow w (w.drew.alloc (.cells (xs.toArray ++ ys.toArray ++ Builtin.zeroCells z.cells (grownCap w (len + m) sCap e - (len + m))) e)) b := fun sCap b _ =>
  ⟨rfl,rfl,rfl,by simp,fun k hk _ => heap_alloc_old w.drew _ k hk,Nat.le_succ _⟩
 rcases own.2 with ⟨rfl,rfl⟩ | ⟨b,cap,arr,rfl,hb1,hb2,hb3,hb4,hb5,hb6⟩
 · have hx : xs = [] := List.eq_nil_of_length_eq_zero (by simpa using own.1)
   subst hx
   by_cases hm : m = 0
   · subst hm
     have : ys = [] := List.eq_nil_of_length_eq_zero (by simpa using hrl)
     subst this
     refine ⟨.slice none 0 0,w, ?_,Own.nil lo h w e i.size,⟨rfl,rfl,rfl,Nat.le_refl _,fun _ _ _ => rfl,Nat.le_refl _⟩,by simp [Value.blk]⟩
     simp [Builtin.append_,run_underlying ht,sizeOf,typeInfo,hi,Builtin.lenOf,hfc]
   · exact ⟨_,_,grow 0 (.slice none 0 0) (by omega) rfl ⟨none,rfl⟩,fin 0 (by omega),ow 0 _ (by omega),by simp [Value.blk]⟩
 · by_cases hroom : len + m <= cap
   · have hfit : len * i.size + 0 + ys.length <= arr.size := by
      rw [hrl,hb5,Nat.add_zero, <- Nat.add_mul]; exact Nat.mul_le_mul_right _ hroom
     obtain ⟨w',hst,hp⟩ := run_storeCells_own (P := P) ys (len * i.size) 0 arr w hb3 hfit h1
     refine ⟨.slice (some ⟨b,0,none⟩) (len + m) cap,w', ?_,⟨hlen,.inr ⟨b,cap,_,rfl,hb1,hb2,hp.at_,hroom,by rw [putIn_size,hb5], ?_⟩⟩,⟨hp.os,hp.tape,hp.output,by rw [hp.size]; exact Nat.le_refl _,fun k _ hk => hp.other k (fun e => hk (by simp [Value.blk,e])),hp.drawn⟩,by simp [Value.blk]⟩
     · simp [Builtin.append_,run_underlying ht,sizeOf,typeInfo,hi,Builtin.lenOf,hroom,hfc,addr_add,hst]
     · have key : ∀ (cs : List Value) (a : Array Value) (off : Nat),off + cs.length <= a.size -> (putIn a off cs).toList.take (off + cs.length) = a.toList.take off ++ cs := by
        intro cs
        induction cs with
        | nil => intro a off _; simp [putIn]
        | cons c cs ih =>
          intro a off hle
          simp only [List.length_cons] at hle ⊢
          have := ih (a.setIfInBounds off c) (off + 1) (by simp; omega)
          rw [putIn,show off + (cs.length + 1) = off + 1 + cs.length by omega,this]
          simp only [Array.toList_setIfInBounds]
          have hlt : off < a.toList.length := by simp; omega
          rw [List.take_succ_eq_append_getElem (by simpa using hlt),List.take_set_of_le (Nat.le_refl _)]
          simp
       have := key ys arr (len * i.size + 0) (by simpa using hfit)
       rw [Nat.add_zero] at this
       rw [Nat.add_mul, <- hrl,Nat.add_zero,this,hb6]
   · have hold : (Builtin.firstCells i.size len (.slice (some ⟨b,0,none⟩) len cap)).run P w.drew = .ok xs.toArray w.drew := by
      refine run_firstCells ⟨own.1,some ⟨b,0,none⟩,cap,rfl,.inr ⟨b,0,arr,e,(0,0),rfl,hb3, ?_, ?_⟩⟩
      · rw [hb5,Nat.zero_add]; exact Nat.mul_le_mul_right _ hb4
      · unfold cut; simpa using hb6
     exact ⟨_,_,grow cap _ (by omega) hold ⟨_,rfl⟩,fin cap (by omega),ow cap _ (by omega),fun b' hb' => .inr (by simp [Value.blk] at hb'; omega)⟩
end
section ops
variable {P : Program} {n : Nat} {ρ : Env} {w : World} {K : Env -> World -> Prop} {d : Tmp} {ty : TypeId} {pos : String} {af : Array Edge} {g : Option (Nat × Bool)}
theorem OpW.append {lo : Nat} {h : PH} {t e : TypeId} {i : TypeInfo} {z : Value} {a b : Operand} {v x : Value} {len m : Nat} {xs ys : List Value}
 (ht : P.underlying t = some (.slice e)) (hi : P.info? e = some i) (hz : i.zero = some z) (hzs : z.cells.size = i.size)
 (hs : Sat h w) (hlo : lo <= w.heap.size) (ha : ev n ρ a = v) (hb : ev n ρ b = x) (own : Own lo h w e i.size v len xs) (r : Reads w x m i.size ys) (h1 : ∀ y ∈ ys,y.oneCell' = true)
 (h63 : len + m <= 9223372036854775807) (hbb : (len + m) * i.bytes <= 140737488355328)
 (hk : ∀ v' w',Own lo h w' e i.size v' (len + m) (xs ++ ys) -> Ow w w' (Value.blk v) -> (∀ b,Value.blk v' = some b -> Value.blk v = some b \/ w.heap.size <= b) -> K (upd ρ d v') w') :
 OpW P n ⟨some d,.call ⟨.builtin .append, #[a,b], #[t,t]⟩,ty,pos,af,g⟩ ρ w K := by
 obtain ⟨v',w',hr,o,ow,hbl⟩ := run_append (P := P) (ty := ty) ht hi hz hzs hs hlo own r h1 h63 hbb
 refine OpW.valD ?_ (hk v' w' o ow hbl)
 simp only [execOp,resolve,invoke,builtin,Sem.run_bind,Sem.run_pure,Result.andThen,List.map_toArray,List.map_cons,List.map_nil,ha,hb,hr]
theorem OpW.buildSlice {t e : TypeId} {len : Nat} {ps : Array (Nat × Operand)} {arr : Array Value}
 (hr : ∀ w,(Instr.buildSlice t len (ps.map fun (i,x) => (i,ev n ρ x))).run P w = .ok (.slice (some ⟨w.heap.size,0,none⟩) len len) (newW w (.cells arr e (0,0))))
 (hk : K (upd ρ d (.slice (some ⟨w.heap.size,0,none⟩) len len)) (newW w (.cells arr e (0,0)))) : OpW P n ⟨some d,.buildSlice t len ps,ty,pos,af,g⟩ ρ w K :=
 OpW.valD (by simp only [execOp,Sem.run_bind,hr,Result.andThen]; rfl) hk
theorem run_build {t : TypeId} {fs : Array Field} {z : Value} {parts : List (Nat × Value)} {places : List (Nat × Nat)} {cs : Array Value} (ht : IsUnd P t (.struct fs)) (hz : IsZero P t z)
 (hp : ∀ w,(fs.mapM fun (f : Field) => (do pure (f.offset, <- sizeOf f.type) : Sem (Nat × Nat))).run P w = .ok places.toArray w)
 (hf : Instr.fill (places[·]?) z.cells parts = some cs) (w : World) : (Instr.build t parts.toArray).run P w = .ok (.agg cs) w := by
 have hf' : Instr.fill (places.toArray[·]?) z.cells parts = some cs := by
  rw [<- hf]; congr 1; funext x; simp
 simp only [Instr.build,Sem.run_bind,hz w,Result.andThen,ht.run w,hp w,hf']
 rfl
theorem OpW.build {t : TypeId} {fs : Array Field} {z : Value} {ps : List (Nat × Operand)} {places : List (Nat × Nat)} {cs : List Value} (ht : IsUnd P t (.struct fs)) (hz : IsZero P t z)
 (hp : ∀ w,(fs.mapM fun (f : Field) => (do pure (f.offset, <- sizeOf f.type) : Sem (Nat × Nat))).run P w = .ok places.toArray w)
 (hf : Instr.fill (places[·]?) z.cells (ps.map fun p => (p.1,ev n ρ p.2)) = some cs.toArray)
 (hk : K (upd ρ d (.agg cs.toArray)) w) : OpW P n ⟨some d,.build t ps.toArray,ty,pos,af,g⟩ ρ w K := by
 have hr := run_build (P := P) ht hz hp hf w
 refine OpW.valD ?_ hk
 simp only [execOp,List.map_toArray,Sem.run_bind]
 rw [show (ps.map fun (x : Nat × Operand) => (x.1,ev n ρ x.2)) = ps.map fun p => (p.1,ev n ρ p.2) from rfl,hr]
 rfl
theorem OpW.makeFunc {fn : Fn} {xs ys : List Operand} {v : Value} (hv : Value.func fn (xs.map (ev n ρ)).toArray (ys.map (ev n ρ)).toArray = v) (hk : K (upd ρ d v) w) :
 OpW P n ⟨some d,.makeFunc fn xs.toArray ys.toArray,ty,pos,af,g⟩ ρ w K :=
 OpW.valD (by subst hv; simp [execOp,Instr.makeFunc]) hk
theorem OpW.nilCheck {x : Operand} {a : Addr} (hx : ev n ρ x = .pointer (some a)) (hk : K (upd ρ d (.pointer (some a))) w) : OpW P n ⟨some d,.nilCheck x,ty,pos,af,g⟩ ρ w K :=
 OpW.valD (by simp [execOp,hx]) hk
def IsFn (P : Program) (f : FuncId) : Prop := ∀ args w,(callFunc f args).run P w = .ok (.enter f args) w
theorem OpW.callF {f : FuncId} {xs : List Operand} {ts : Array TypeId} {vs : List Value} {h : PH} {Q : PH -> Value -> Prop} {dd : Option Tmp} (hf : IsFn P f) (hx : xs.map (ev n ρ) = vs)
 (hc : Calls P f vs.toArray w (Ret h w Q)) (hk : ∀ v h' w',Gr h w h' w' -> Q h' v -> K (updO ρ dd v) w') :
 OpW P n ⟨dd,.call ⟨.value (.func f),xs.toArray,ts⟩,ty,pos,af,g⟩ ρ w K := by
 refine OpW.call (f := f) (args := vs.toArray) ?_ hc hk
 simp only [execOp,resolve,ev,Deferred.ofValue,Sem.run_bind,Sem.run_pure,Result.andThen,invoke,List.map_toArray,hx]
 have := hf (#[] ++ vs.toArray ++ #[]) w
 simpa using this
theorem OpW.callV {c : Operand} {f : FuncId} {first cap : List Value} {xs : List Operand} {ts : Array TypeId} {vs : List Value} {h : PH} {Q : PH -> Value -> Prop} {dd : Option Tmp}
 (hcv : ev n ρ c = .func (.func f) first.toArray cap.toArray) (hf : IsFn P f) (hx : first ++ xs.map (ev n ρ) ++ cap = vs)
 (hc : Calls P f vs.toArray w (Ret h w Q)) (hk : ∀ v h' w',Gr h w h' w' -> Q h' v -> K (updO ρ dd v) w') :
 OpW P n ⟨dd,.call ⟨.value c,xs.toArray,ts⟩,ty,pos,af,g⟩ ρ w K := by
 refine OpW.call (f := f) (args := vs.toArray) ?_ hc hk
 subst hx
 simp only [execOp,resolve,hcv,Deferred.ofValue,Sem.run_bind,Sem.run_pure,Result.andThen,invoke,List.map_toArray,List.append_toArray,hf _ w]
end ops
end Go.Ear
namespace Go.Ear
def env0 : Nat -> List Value -> Env
 | _,[] => fun _ => undef
 | i,a :: az => upd (env0 (i + 1) az) i a
theorem env0_at : ∀ (az : List Value) (i j : Nat),env0 i az (i + j) = az.getD j undef
 | [],i,j => by simp [env0]
 | a :: az,i,0 => by simp [env0,upd]
 | a :: az,i,j + 1 => by
   have := env0_at az (i + 1) j
   simp only [env0]
   rw [upd_ne _ _ (by omega),show i + (j + 1) = i + 1 + j by omega,this]
   simp
theorem mk_env0 {n : Nat} {vs : List Value} (h : vs.length <= n) : (⟨vs.toArray ++ Array.replicate (n - vs.length) undef,[]⟩ : Act) = mk n (env0 0 vs) := by
 unfold mk
 congr 1
 apply Array.ext
 · simp; omega
 · intro i h1 h2
   have h3 := env0_at vs 0 i
   rw [Nat.zero_add] at h3
   simp only [Array.getElem_ofFn,h3]
   by_cases hi : i < vs.length
   · rw [Array.getElem_append_left (by simpa using hi)]
     simp [List.getD_eq_getElem?_getD,hi]
   · rw [Array.getElem_append_right (by simpa using hi)]
     simp [List.getD_eq_getElem?_getD,List.getElem?_eq_none (Nat.le_of_not_lt hi)]
def resOne (tmps : Array Value) : ResultVar -> Sem Value
 | .tmp t => pure (tmps.getD t undef)
 | .cell a t => do loadVar t (<- asAddr (tmps.getD a undef))
theorem results_eq (fn : Func) (tmps : Array Value) : results fn tmps = (do
 let vs <- fn.results.mapM (resOne tmps)
 pure (if h : vs.size = 1 then vs[0] else .tuple vs)) := by
 unfold results
 congr 2
def resOf (P : Program) (n : Nat) (ρ : Env) (w : World) (rv : ResultVar) (v : Value) : Prop := (resOne (mk n ρ).tmps rv).run P w = .ok v w
theorem resOf_tmp {P : Program} {n : Nat} {ρ : Env} {w : World} {t : Tmp} {v : Value} (h : ev n ρ (.tmp t) = v) : resOf P n ρ w (.tmp t) v := by
 have := eval_mk (n := n) (ρ := ρ) (.tmp t)
 simp only [Act.eval] at this
 simp [resOf,resOne,this,h]
theorem resOf_cellA {P : Program} {n : Nat} {ρ : Env} {w : World} {a : Tmp} {t : TypeId} {b off k : Nat} {arr : Array Value} {e : TypeId} {fz : Nat × Nat} {cs : List Value} (hA : IsAgg P t true) (hs : IsSize P t k)
 (hx : ev n ρ (.tmp a) = .pointer (some ⟨b,off,none⟩)) (hb : w.heap[b]? = some (.cells arr e fz)) (hfit : off + k <= arr.size) (hv : cut arr off k = cs) : resOf P n ρ w (.cell a t) (.agg cs.toArray) := by
 have := eval_mk (n := n) (ρ := ρ) (.tmp a)
 simp only [Act.eval] at this
 have hl := run_loadCellsFrom (P := P) (w := w) (off := off) hb k 0 #[] (by omega)
 simp only [resOf,resOne,this,hx,asAddr,loadVar,Sem.run_bind,Sem.run_pure,Result.andThen,hA w,hs w,if_true,loadCells,hl]
 simp [hv]
theorem Ext.keep {w w' : World} (e : Ext w w') {b : Nat} {o : Obj} (h : w.heap[b]? = some o) : w'.heap[b]? = some o := by
 rw [e.block b (Array.getElem?_eq_some_iff.1 h).1]; exact h
theorem blk_lt {w : World} {b : Nat} {o : Obj} (h : w.heap[b]? = some o) : b < w.heap.size := (Array.getElem?_eq_some_iff.1 h).1
section ops
variable {P : Program} {n : Nat} {ρ : Env} {w : World} {K : Env -> World -> Prop} {d : Tmp} {ty : TypeId} {pos : String} {af : Array Edge} {g : Option (Nat × Bool)}
theorem OpW.boxO {h : PH} {t : TypeId} {x : Operand} {v : Value} {arr : Array Value} (hs : Sat h w) (hx : ev n ρ x = v) (hv : v.cells = arr)
 (hk : ∀ b w',Gr h w h w' -> h b = none -> w.heap.size <= b -> w'.heap[b]? = some (.cells arr t (0,0)) -> K (upd ρ d (.pointer (some ⟨b,0,none⟩))) w') : OpW P n ⟨some d,.box t x,ty,pos,af,g⟩ ρ w K := by
 subst hv
 exact OpW.box hx (hk _ _ (Gr.new hs _) hs.fresh (Nat.le_refl _) (newW_at w _))
theorem OpW.allocO {h : PH} {t : TypeId} {z : Value} {arr : Array Value} (hs : Sat h w) (hz : IsZero P t z) (hv : z.cells = arr)
 (hk : ∀ b w',Gr h w h w' -> h b = none -> w.heap.size <= b -> w'.heap[b]? = some (.cells arr t (0,0)) -> K (upd ρ d (.pointer (some ⟨b,0,none⟩))) w') : OpW P n ⟨some d,.alloc t,ty,pos,af,g⟩ ρ w K := by
 subst hv
 exact OpW.alloc hz (hk _ _ (Gr.new hs _) hs.fresh (Nat.le_refl _) (newW_at w _))
theorem OpW.boxK {h : PH} {t : TypeId} {x : Operand} {v : Value} {arr : Array Value} (hs : Sat h w) (hx : ev n ρ x = v) (hv : v.cells = arr)
 (hk : ∀ b h' w',Gr h w h' w' -> h' b = some (.cells arr t (0,0)) -> K (upd ρ d (.pointer (some ⟨b,0,none⟩))) w') : OpW P n ⟨some d,.box t x,ty,pos,af,g⟩ ρ w K := by
 refine OpW.boxO hs hx hv ?_
 intro b w' gr hn hlo hb
 exact hk b _ w' (gr.freeze hb hn hlo) (PH.put_at ..)
theorem OpW.makeO {h : PH} {t e : TypeId} {i : TypeInfo} {z : Value} {x y : Operand} {kx ky : IntKind} {l c : Nat} {arr : Array Value} (hs : Sat h w) (ht : IsUnd P t (.slice e)) (hi : P.info? e = some i) (hz : i.zero = some z)
 (hx : ev n ρ x = .int kx l) (hy : ev n ρ y = .int ky c) (hlc : l <= c) (hb : i.bytes * c <= 281474976710656) (h63 : c <= 9223372036854775807) (harr : madeCells z.cells (c * i.size) = arr)
 (hk : ∀ b w',Gr h w h w' -> h b = none -> w.heap.size <= b -> w'.heap[b]? = some (.cells arr e (0,0)) -> K (upd ρ d (.slice (some ⟨b,0,none⟩) l c)) w') : OpW P n ⟨some d,.makeSlice t x y,ty,pos,af,g⟩ ρ w K := by
 subst harr
 exact OpW.make ht hi hz hx hy hlc hb h63 (hk _ _ (Gr.new hs _) hs.fresh (Nat.le_refl _) (newW_at w _))
theorem made_list {z : Value} {len : Nat} : madeCells z.cells (len * z.cells.size) = ((List.replicate len z.cells.toList).flatten).toArray := by
 generalize hz : z.cells = zs
 apply Array.ext_getElem?
 intro i
 by_cases hi : i < len * zs.size
 · have hk : 0 < zs.size := Nat.pos_of_ne_zero (by intro e; rw [e,Nat.mul_zero] at hi; omega)
   have h1 : (madeCells zs (len * zs.size))[i]? = some (zs[i % zs.size]!) := by
    simp [madeCells,hi]
   rw [h1]
   have key : ∀ (n i : Nat),i < n * zs.size -> ((List.replicate n zs.toList).flatten)[i]? = zs.toList[i % zs.size]? := by
    intro n
    induction n with
    | zero => intro i h; omega
    | succ n ih =>
      intro i h
      simp only [List.replicate_succ,List.flatten_cons]
      by_cases hl : i < zs.size
      · rw [List.getElem?_append_left (by simpa using hl),Nat.mod_eq_of_lt hl]
      · rw [List.getElem?_append_right (by simpa using hl)]
        simp only [Array.length_toList]
        rw [ih (i - zs.size) (by rw [Nat.add_mul,Nat.one_mul] at h; omega)]
        congr 1
        exact (Nat.mod_eq_sub_mod (by omega)).symm
   rw [List.getElem?_toArray,key len i hi]
   have hm : i % zs.size < zs.size := Nat.mod_lt _ hk
   simp [hm]
 · rw [Array.getElem?_eq_none (by simp [madeCells]; omega),List.getElem?_toArray,List.getElem?_eq_none]
   have : ((List.replicate len zs.toList).flatten).length = len * zs.size := by simp
   omega
theorem run_buildSlice {t e : TypeId} {len : Nat} {z : Value} {parts : Array (Nat × Value)} {arr : Array Value} (ht : IsUnd P t (.slice e)) (hs : IsSize P e z.cells.size) (hz : IsZero P e z)
 (hlen : Nat.ble (len * z.cells.size) 16777216 = true) (hf : Instr.fill (fun i => some (i * z.cells.size,z.cells.size)) ((List.replicate len z.cells.toList).flatten).toArray parts.toList = some arr) (w : World) :
 (Instr.buildSlice t len parts).run P w = .ok (.slice (some ⟨w.heap.size,0,none⟩) len len) (newW w (.cells arr e (0,0))) := by
 have hl := Nat.le_of_ble_eq_true hlen
 have h1 : ¬ (len * z.cells.size > 2 ^ 24) := by
  have : (2 : Nat) ^ 24 = 16777216 := rfl
  omega
 have hcells : (Array.range (len * z.cells.size)).map (fun j => (if len * z.cells.size = 0 then #[] else z.cells)[j % (if len * z.cells.size = 0 then #[] else z.cells).size]!) = ((List.replicate len z.cells.toList).flatten).toArray := by
  rw [<- made_list]
  unfold madeCells
  split
  · rename_i h0; rw [h0]; simp
  · rfl
 simp only [Instr.buildSlice,Sem.run_bind,ht.run w,Result.andThen,hs w]
 rw [if_neg h1]
 by_cases h0 : len * z.cells.size = 0
 · simp only [h0,if_true] at hcells ⊢
   simp only [Sem.run_bind,Sem.run_pure,Result.andThen]
   rw [hcells,hf]
   simp [newRow,newObj,Sem.run]
   rfl
 · simp only [h0,if_false] at hcells ⊢
   simp only [Sem.run_bind,Sem.run_pure,Result.andThen,hz w]
   rw [hcells,hf]
   simp [newRow,newObj,Sem.run]
   rfl
theorem OpW.buildSliceO {h : PH} {t e : TypeId} {len : Nat} {z : Value} {ps : List (Nat × Operand)} {arr : Array Value} (hs : Sat h w) (ht : IsUnd P t (.slice e)) (hz : IsZero P e z) (hsz : IsSize P e z.cells.size)
 (hlen : Nat.ble (len * z.cells.size) 16777216 = true)
 (hf : Instr.fill (fun i => some (i * z.cells.size,z.cells.size)) ((List.replicate len z.cells.toList).flatten).toArray (ps.map fun p => (p.1,ev n ρ p.2)) = some arr)
 (hk : ∀ b w',Gr h w h w' -> h b = none -> w.heap.size <= b -> w'.heap[b]? = some (.cells arr e (0,0)) -> K (upd ρ d (.slice (some ⟨b,0,none⟩) len len)) w') : OpW P n ⟨some d,.buildSlice t len ps.toArray,ty,pos,af,g⟩ ρ w K :=
 OpW.buildSlice (fun w => by rw [List.map_toArray]; exact run_buildSlice ht hsz hz hlen (by simpa using hf) w) (hk _ _ (Gr.new hs _) hs.fresh (Nat.le_refl _) (newW_at w _))
end ops
end Go.Ear
