/- K24: a part of the proof about training through the decoder: how the program's functions run, and what they compute, for every input. -/
import Derived.Test.YtdciabokggfpbaaGreatK22
import Derived.Test.YtdciabokggfpbaaGreatK23
set_option linter.all false
set_option maxRecDepth 20000
set_option maxHeartbeats 2000000
set_option synthInstance.maxSize 1000
namespace Go.E3
open Go Go.Ear Go.Proofs
theorem calls_iter {P : Program} {f : FuncId} {fn : Func} {c : Code} {vs : List Value} {w : World} {N : World -> Prop}
 (hf : P.funcs[f]? = some fn) (hb : fn.body = some c) (hn : Nat.ble vs.length fn.ntmps = true) (hr : fn.results = #[])
 (hw : WpX X0 P fn.ntmps c (fun e _ w => match e with | .normal | .ret => N w | _ => False) (env0 0 vs) w) :
 CallsIn Fence.wide 0 P f vs.toArray w fun e w' => (∃ v,e = .returned v) /\ N w' := by
 refine callsIn_of_wp hf hb trivial ?_
 have := mk_env0 (Nat.le_of_ble_eq_true hn)
 simp only [List.size_toArray]
 rw [this]
 refine wpIn_mono (F := Fence.wide) hw ?_
 rintro e a w' ⟨ρ,rfl,hq⟩
 cases e <;> first
  | exact ⟨rfl,.tuple #[],by simp [results,hr],⟨_,rfl⟩,hq⟩
  | exact hq.elim
theorem nm {ρ : Env} {l : List (Nat × Value)} (h : l.map (fun p => ρ p.1) = l.map (·.2)) : ρ = upds ρ l := by
 refine named ?_
 induction l with
 | nil => trivial
 | cons p l ih => simp only [List.map_cons,List.cons.injEq] at h; exact ⟨h.1,ih h.2⟩
section
variable {P : Program} {n : Nat} {ρ : Env} {w : World} {K : Env -> World -> Prop} {ops : Array Oper} {rest : List Oper} {d : Tmp} {ty : TypeId} {pos : String} {af : Array Edge}
theorem omv {x : Operand} (h : Ops P n ops K rest (upd ρ d (ev n ρ x)) w) : Ops P n ops K (⟨some d,.move x,ty,pos,af,none⟩ :: rest) ρ w := Ops.cons (OpW.move rfl h)
theorem oas {x : Operand} (h : Ops P n ops K rest (upd ρ d (ev n ρ x)) w) : Ops P n ops K (⟨some d,.assign x,ty,pos,af,none⟩ :: rest) ρ w := Ops.cons (OpW.assign rfl h)
theorem WpX.sr {X : Ctx} {Q : Exit -> Env -> World -> Prop} {id : Nat} {l : List Oper} {y : Code} (hd : l.all noDefer = true) (h : Ops P n l.toArray (WpX X P n y Q) l ρ w) : WpX X P n (.seq (.region id l.toArray false) y) Q ρ w := WpX.seq (WpX.region hd h)
end
theorem frames_iter {n : Nat} {back : Bool} {vn vb : Value} {B : World -> Prop} (hn : n <= 1099511627776) (h1 : ∀ W,B W -> ∃ b o arr t fz,vn = .pointer (some ⟨b,o,none⟩) /\ W.heap[b]? = some (.cells arr t fz) /\ arr[o]? = some (.int .i64 ((n : Nat) : Int))) (h2 : ∀ W,B W -> ∃ b o arr t fz,vb = .pointer (some ⟨b,o,none⟩) /\ W.heap[b]? = some (.cells arr t fz) /\ arr[o]? = some (.bool back)) :
 IterK Tryz.prog 153 #[vn,vb] (fun k => .int .i64 (((if back then n - 1 - k else k) : Nat) : Int)) n B := by
 intro l J W hB hY h0
 refine calls_iter (vs := [.func (.yield l) #[] #[],vn,vb]) Tryz.func153 rfl rfl rfl ?_
 refine WpX.sr rfl ?_
 obtain ⟨b,o,arr,t,fz,hv,hb,ha⟩ := h1 W (hB 0 W h0)
 refine Ops.cons (OpW.load1 (v := .int .i64 ((n : Nat) : Int)) Tryz.isAgg3 hv hb ha ?_)
 refine omv ?_
 refine Ops.nil ?_
 refine WpX.block ?_
 refine WpX.loop (σ := Nat) (fun k ρ w' => ∃ ρb, ρ = upds ρb [(0,.func (.yield l) #[] #[]),(1,vn),(2,vb),(5,.int .i64 ((n : Nat) : Int)),(6,.int .i64 ((k : Nat) : Int))] /\ k <= n /\ J k w') (fun k => n - k) 0 ⟨_,nm rfl,by omega,h0⟩ ?_
 rintro k ρ w' ⟨ρb,rfl,hk,hJ⟩
 refine WpX.sr rfl ?_
 refine Ops.cons (OpW.lss (a := ((k : Nat) : Int)) (b := ((n : Nat) : Int)) (r := decide (k < n)) rfl rfl (decide_eq_decide.2 (by omega)) ?_)
 refine Ops.nil ?_
 refine WpX.seq ?_
 refine WpX.cond (t := decide (k < n)) rfl (fun c1 => ?_) (fun c1 => ?_)
 · have c1 := of_decide_eq_true c1
   refine WpX.skip ?_
   refine WpX.seq ?_
   refine WpX.block ?_
   refine WpX.sr rfl ?_
   refine omv ?_
   refine oas ?_
   refine Ops.nil ?_
   refine WpX.seq ?_
   refine WpX.cut (fun ρ' w'' => w' = w'' /\ ∃ ρb, ρ' = upds ρb [(0,.func (.yield l) #[] #[]),(1,vn),(2,vb),(4,.int .i64 (((if back then n - 1 - k else k) : Nat) : Int)),(5,.int .i64 ((n : Nat) : Int)),(6,.int .i64 ((k : Nat) : Int))]) ?_ ?_
   · refine WpX.sr rfl ?_
     obtain ⟨b,o,arr,t,fz,hv2,hb,ha⟩ := h2 w' (hB k w' hJ)
     refine Ops.cons (OpW.load1 (v := .bool back) Tryz.isAgg4 hv2 hb ha ?_)
     refine Ops.nil ?_
     refine WpX.cond (t := back) rfl (fun c2 => ?_) (fun c2 => ?_)
     · refine WpX.region rfl ?_
       obtain ⟨b,o,arr,t,fz,hv,hb,ha⟩ := h1 w' (hB k w' hJ)
       refine Ops.cons (OpW.load1 (v := .int .i64 ((n : Nat) : Int)) Tryz.isAgg3 hv hb ha ?_)
       refine Ops.cons (OpW.sub (a := ((n : Nat) : Int)) (b := ((1 : Nat) : Int)) (r := ((n - 1 : Nat) : Int)) rfl rfl ((in_i64 (by omega)).trans (by omega)) ?_)
       refine omv ?_
       refine Ops.cons (OpW.sub (a := ((n - 1 : Nat) : Int)) (b := ((k : Nat) : Int)) (r := ((n - 1 - k : Nat) : Int)) rfl rfl ((in_i64 (by omega)).trans (by omega)) ?_)
       refine oas ?_
       refine Ops.nil ?_
       subst c2
       exact ⟨rfl,_,nm rfl⟩
     · refine WpX.skip ?_
       subst c2
       exact ⟨rfl,_,nm rfl⟩
   rintro ρ2 w2 ⟨rfl, ρb2,rfl⟩
   refine WpX.seq ?_
   refine WpX.yield (l := l) (x := .int .i64 (((if back then n - 1 - k else k) : Nat) : Int)) rfl rfl rfl rfl rfl (hY k w' c1 hJ) ?_
   rintro e w2 ⟨rfl,hJ2⟩
   refine ⟨_,rfl, ?_⟩
   refine Ops.cons (OpW.notB (a := true) (r := false) rfl rfl ?_)
   refine Ops.nil ?_
   refine WpX.cond_f rfl ?_
   refine WpX.skip ?_
   refine WpX.region rfl ?_
   refine Ops.cons (OpW.add (a := ((k : Nat) : Int)) (b := ((1 : Nat) : Int)) (r := ((k + 1 : Nat) : Int)) rfl rfl ((in_i64 (by omega)).trans (by omega)) ?_)
   refine omv ?_
   refine Ops.nil ?_
   exact ⟨k + 1,⟨_,nm rfl,by omega,hJ2⟩,by omega⟩
 · have c1 := of_decide_eq_false c1
   refine WpX.exit ?_
   show J n w'
   rw [show n = k by omega]; exact hJ
theorem pk1 {h : PH} {x v : Value} (u : den h (.pk [.cv x] 0) v) {W : World} (s : Sat h W) : ∃ b o arr t fz,v = .pointer (some ⟨b,o,none⟩) /\ W.heap[b]? = some (.cells arr t fz) /\ arr[o]? = some x := by
 obtain ⟨b,off,arr,t,fz,a1,a2,a3,a4⟩ := u
 refine ⟨b,off,arr,t,fz,by simpa using a2,s _ _ a1, ?_⟩
 match hc : cut arr off [SV.cv x].length,a4 with
 | [y],a4 =>
   have hy : y = x := a4.1
   subst hy
   have := cut_cell hc 0 (by simp) (c := y) rfl
   simpa using this
instance frames_it {n : Nat} {back : Bool} : It Tryz.prog (fnv (.func 153) [] [.pk [iv n] 0,.pk [bv back] 0]) (fun k => (((if back then n - 1 - k else k) : Nat) : Int)) n (n <= 1099511627776) := ⟨fun hn {h x} u => by
 obtain ⟨us,vs,e,a,b⟩ := u
 match us,vs,a,b with
 | [],[vn,vb],_,⟨b1,b2,_⟩ =>
   exact ⟨153, #[vn,vb],e,Tryz.call153,frames_iter hn (fun W s => pk1 b1 s) fun W s => pk1 b2 s⟩⟩
instance frames_c {n : Int} {b : Bool} : Ct Tryz.prog 109 [iv n,bv b] True (fnv (.func 153) [] [.pk [iv n] 0,.pk [bv b] 0]) := by
 refine (ctI Tryz.call109 Tryz.func109 Tryz.ntmps109 rfl Tryz.results109 rfl [] fun h0 w0 _ => ?_)
 repeat first | refine nx ?_ | intro _
 trivial
theorem getD_K (l : List Rat) (i : Nat) : (l.map frK).getD i fr0 = frK (l.getD i 0) := by
 rw [List.getD_eq_getElem?_getD,List.getD_eq_getElem?_getD,List.getElem?_map]
 cases l[i]? with
 | none => exact frK_zero.symm
 | some x => rfl
instance {l : List Rat} {i : Nat} : Rt ((l.map frK).getD i fr0) (l.getD i 0) := ⟨by rw [getD_K,frK_rat]⟩
instance {l : List Rat} {i : Nat} : Bfe ((l.map frK).getD i fr0) (bq (l.getD i 0)) := ⟨by rw [getD_K,bf_frK]⟩
section
variable {P : Program} {n : Nat} {c : Bool} {loc env : EL} {B : List Res} {ms : List Nat} {d : Nat} {x : Operand} {t u e : TypeId} {l lc l2 : Nat} {b : Option Addr}
instance (priority := high) [ts : TS P t e] [lx : Lu n c loc env x (.cv (.slice none l l2))] : St P n c loc env B ms d (.binOp .eql t x (.const (.slice none 0 lc)) u) True (.cv (.bool true)) := .p fun q _ _ _ _ _ _ s _ _ _ _ _ k => OpW.eqlNil ts.h (cvE (lx.h q (s.f x))) rfl rfl (k _ rfl)
end
instance open_c {r : Value} {a b c d e : SV} {t i : Int} {B : List Res} [hc : HC B r [a,b,c,d,e,.cv (.slice none 0 0)]] : CtB Tryz.prog 110 [ov r,iv t,iv i] B True (bv true) := by
 refine (ctB Tryz.call110 Tryz.func110 Tryz.ntmps110 rfl Tryz.results110 rfl [] fun h0 w0 _ => ?_)
 repeat first | refine nx ?_ | intro _
 trivial
instance sumF_c {F : SV} {n : Nat} {B : List Res} {sd : Nat -> Prop} {q : Nat -> Rat} [fv : ∀ i : Nat,Fv Tryz.prog F [iv (i : Int)] B (sd i) (kk (q i))] : CtB Tryz.prog 107 [iv (n : Int),F] B (n <= 1048576 /\ (∀ i,i < n -> sd i) /\ ∃ b,(∀ i,i < n -> bq (q i) <= b) /\ n * (b + 1) <= 60000000) (kk (sumTo q n)) := by
 refine (ctB Tryz.call107 Tryz.func107 Tryz.ntmps107 rfl Tryz.results107 rfl [] fun h0 w0 ⟨hn,hs,b,hb,hB⟩ => ?_)
 have hB1 := fun k hk => bq_sumTo (q := q) (B := b) k (fun i hi => hb i (Nat.lt_of_lt_of_le hi hk))
 repeat first | refine nx ?_ | intro _
 rename_i u v
 refine gLp (fun k : Nat => [(10,iv k)]) (fun k => [rV v [bv (frK (sumTo q k)).neg,lv rU (frK (sumTo q k)).n,lv rU (frK (sumTo q k)).d] 32]) (fun k => k <= n) (fun k => n - k) 0 (Nat.zero_le _) (fun k hk => ?_) (h2 := by rw [show sumTo q 0 = 0 from rfl,frK_zero]; exact ⟨⟨rfl,rfl,rfl⟩,trivial⟩)
 have hb1 := hB1 k hk
 have hb2 := Nat.mul_le_mul_right (b + 1) hk
 repeat first | refine nx ?_ | intro _
 refine gIf (fun c => ?_) fun c => ?_
 · have hsk := hs k c
   have hbk := hb k c
   have hb4 : b + 1 <= n * (b + 1) := Nat.le_mul_of_pos_left _ (by omega)
   repeat first | refine nx ?_ | intro _
   refine gIf (fun d => ?_) fun d => ?_ <;> repeat first | refine nx ?_ | intro _
   · rw [<- sumTo_succ]; exact gBk (k + 1) (by omega) (by omega)
   · have hz : q k = 0 := sgQ_zero.1 (Classical.not_not.1 d)
     rw [<- sumTo_skip hz]; exact gBk (k + 1) (by omega) (by omega)
 · repeat first | refine nx ?_ | intro _
   rw [show k = n by omega]; exact ⟨rfl,rfl,rfl⟩
set_option maxHeartbeats 4000000
section
variable {P : Program} {n : Nat} {X : Fix} {ms : List Nat} {loc env : EL} {B : List Res} {k : Kt} {x y : Code}
instance (priority := high) {o : Operand} [l : Lu n true loc env o (.cv (.bool (!true)))] : Nx (GW P n X ms loc env B (.cond o x y) k) True (GW P n X ms [] env B y k) := ⟨fun _ a => gIf (b := !true) (p := False) (tp := ⟨by decide⟩) (fun q => q.elim) fun _ => a⟩
end
class HZ (B : List Res) (vs : List Value) (α : outParam Type) (r : outParam (Rp α)) (e : outParam TypeId) (ls : outParam (List (List α))) : Prop where h : ∀ {w0 h w},OwnB w0 B h w -> vs.length = ls.length /\ ∀ t,OwnL r 0 h w e (vs.getD t vnil) (ls.getD t [])
section
variable {α : Type} {B : List Res} {vs : List Value} {r : Rp α} {e : TypeId} {ls : List (List α)} {x : Res} {k : Nat}
instance : HZ (rZ r e vs ls :: B) vs α r e ls := ⟨fun o => ⟨o.1.1,o.1.2.1⟩⟩
instance (priority := low) [i : HZ B vs α r e ls] : HZ (x :: B) vs α r e ls := ⟨fun o => i.h o.2.2.2⟩
instance (priority := 10) [i : HZ B vs α r e ls] : HA B (vs.getD k vnil) α r e (ls.getD k []) := ⟨fun o => (i.h o).2 k⟩
end
theorem getD_KR (l : List (List Rat)) (i : Nat) : (l.map (·.map frK)).getD i [] = (l.getD i []).map frK := by
 rw [List.getD_eq_getElem?_getD,List.getD_eq_getElem?_getD,List.getElem?_map]
 cases l[i]? <;> rfl
instance {l : List (List Rat)} {i j : Nat} : Rt (((l.map (·.map frK)).getD i []).getD j fr0) ((l.getD i []).getD j 0) := ⟨by rw [getD_KR,getD_K,frK_rat]⟩
instance {l : List (List Rat)} {i j : Nat} : Bfe (((l.map (·.map frK)).getD i []).getD j fr0) (bq ((l.getD i []).getD j 0)) := ⟨by rw [getD_KR,getD_K,bf_frK]⟩
theorem len_KR (l : List (List Rat)) (i : Nat) : ((l.map (·.map frK)).getD i []).length = (l.getD i []).length := by rw [getD_KR,List.length_map]
section
variable {B : List Res} {r : Value} {m : Md} {o : List Int} {K : SV}
instance lik1_c {i : Nat} {f : List (List Rat)} {vn : Value} [FtM m] [hn : HC B vn [iv (f.length : Int)]] [hc : HC B r [lv rF m.start,lv (rL rF) m.move,lv rF m.fin,lv (rL rF) m.say,lv rI o,K]] : CtB Tryz.prog 108 [iv (i : Int),.pk [lv (rL rF) (f.map (·.map frK))] 0,ov vn,.pk [ov r] 0] B ((1 <= f.length /\ f.length <= 1048576) /\ i < (f.getD (f.length - 1) []).length /\ i < m.fin.length /\ bq ((f.getD (f.length - 1) []).getD i 0) + bf (m.fin.getD i fr0) <= 60000000) (kk ((f.getD (f.length - 1) []).getD i 0 * (m.fin.getD i fr0).rat)) := by
 refine (ctB Tryz.call108 Tryz.func108 Tryz.ntmps108 rfl Tryz.results108 rfl [] fun h0 w0 ⟨h1,h2,h3,h4⟩ => ?_)
 have hl := len_KR f (f.length - 1)
 have hm : (f.map (·.map frK)).length = f.length := List.length_map _
 repeat first | refine nx ?_ | intro _
 exact ⟨trivial,trivial,trivial⟩
instance lik_c {f : List (List Rat)} [FtM m] [hc : HC B r [lv rF m.start,lv (rL rF) m.move,lv rF m.fin,lv (rL rF) m.say,lv rI o,K]] : CtB Tryz.prog 56 [ov r,lv (rL rF) (f.map (·.map frK))] B (f.length <= 1048576 /\ m.start.length <= 1048576 /\ m.fin.length = m.start.length /\ (f.length = 0 \/ (f.getD (f.length - 1) []).length = m.start.length) /\ ∃ b,(∀ i,i < m.start.length -> bq ((f.getD (f.length - 1) []).getD i 0) + bf (m.fin.getD i fr0) <= b) /\ m.start.length * (b + 1) <= 60000000) (kk (likT ⟨m,o⟩ f)) := by
 refine (ctB Tryz.call56 Tryz.func56 Tryz.ntmps56 rfl Tryz.results56 rfl [] fun h0 w0 ⟨h1,h2,h3,h4,b,h5,h6⟩ => ?_)
 have hm : (f.map (·.map frK)).length = f.length := List.length_map _
 repeat first | refine nx ?_ | intro _
 rw [hm]
 refine gIf (fun c => ?_) fun c => ?_
 · repeat first | refine nx ?_ | intro _
   unfold likT; rw [if_pos c,frK_zero]; exact ⟨rfl,rfl,rfl⟩
 · have hft : FtM m := inferInstance
   have hb : ∀ i,i < m.start.length -> (1 <= f.length /\ f.length <= 1048576) /\ i < (f.getD (f.length - 1) []).length /\ i < m.fin.length /\ bq ((f.getD (f.length - 1) []).getD i 0) + bf (m.fin.getD i fr0) <= 60000000 := fun i hi => ⟨by omega,by omega,by omega,Nat.le_trans (h5 i hi) (le_of_mul (by omega) h6)⟩
   have hq : ∃ b,(∀ i,i < m.start.length -> bq ((f.getD (f.length - 1) []).getD i 0 * (m.fin.getD i fr0).rat) <= b) /\ m.start.length * (b + 1) <= 60000000 := ⟨b,fun i hi => Nat.le_trans (bq_mul _ _) (Nat.le_trans (Nat.add_le_add_left (hft.h.2.2.1.bqg i) _) (h5 i hi)),h6⟩
   repeat first | refine nx ?_ | intro _
   unfold likT; rw [if_neg c]; exact ⟨rfl,rfl,rfl⟩
theorem wts3 (a b c : Fr) : wts [a,b,c] = bf a + bf b + bf c + 3 := by rw [wts_cons,wts_cons,wts_cons,wts_nil]; omega
section
variable {vi vt vo out : Value} {vs : List Value} {ls : List (List Fr)} {t : Nat} {i : Nat} {e : TypeId} {row : List Rat}
instance p1_c {j : Nat} [FtM m] [FtR ls] [hi : HC B vi [iv (i : Int)]] [ht : HC B vt [iv (t : Int)]] [ho : HC B vo [ov out]] [ha : HA B out Value rW e vs] [hz : HZ B vs Fr rF 32 ls] [hc : HC B r [lv rF m.start,lv (rL rF) m.move,lv rF m.fin,lv (rL rF) m.say,lv rI o,K]] :
 CtB Tryz.prog 111 [iv (j : Int),.pk [ov r] 0,ov vi,ov vt,ov vo] B (TOk ⟨m,o⟩ /\ MdB 100000 m /\ i < m.start.length /\ j < m.start.length /\ t + 1 < o.length /\ t + 1 < vs.length /\ j < (ls.getD (t + 1) []).length /\ bf ((ls.getD (t + 1) []).getD j fr0) <= 300000) (kk (moveT ⟨m,o⟩ i j * sayT ⟨m,o⟩ j (t + 1) * ((ls.getD (t + 1) []).getD j fr0).rat)) := by
 refine (ctB Tryz.call111 Tryz.func111 Tryz.ntmps111 rfl Tryz.results111 rfl [] fun h0 w0 ⟨tk,hb,hil,hj,h1,h2,h3,h4⟩ => ?_)
 have hmv := tk.mv
 have hsy := tk.say
 have hn := tk.n
 have hmi := tk.mvi i hil
 have hsi := tk.sayi j (t + 1) hj h1
 dsimp only at hmv hsy hn hmi hsi
 have hwm := hb.mvb i j
 have hws := hb.syb j (o.getD (t + 1) 0).toNat
 have hw := wts3 ((m.move.getD i []).getD j fr0) ((m.say.getD j []).getD (o.getD (t + 1) 0).toNat fr0) ((ls.getD (t + 1) []).getD j fr0)
 repeat first | refine nx ?_ | intro _
 rw [prodF3]; exact ⟨rfl,rfl,rfl⟩
instance p2_c {j : Nat} [FtM m] [FtR ls] [hi : HC B vi [iv (i : Int)]] [ht : HC B vt [iv (t : Int)]] [ho : HC B vo [ov out]] [ha : HA B out Value rW e vs] [hz : HZ B vs Fr rF 32 ls] [hc : HC B r [lv rF m.start,lv (rL rF) m.move,lv rF m.fin,lv (rL rF) m.say,lv rI o,K]] :
 CtB Tryz.prog 112 [iv (j : Int),ov vo,ov vt,.pk [ov r] 0,ov vi] B (TOk ⟨m,o⟩ /\ MdB 100000 m /\ i < m.start.length /\ j < m.start.length /\ (1 <= t /\ t <= 1000) /\ t <= vs.length /\ j < (ls.getD (t - 1) []).length /\ bf ((ls.getD (t - 1) []).getD j fr0) <= 300000) (kk (((ls.getD (t - 1) []).getD j fr0).rat * moveT ⟨m,o⟩ j i)) := by
 refine (ctB Tryz.call112 Tryz.func112 Tryz.ntmps112 rfl Tryz.results112 rfl [] fun h0 w0 ⟨tk,hb,hil,hj,h1,h2,h3,h4⟩ => ?_)
 have hmv := tk.mv
 have hmi := tk.mvi j hj
 dsimp only at hmv hmi
 have hwm := hb.mvb j i
 repeat first | refine nx ?_ | intro _
 exact ⟨rfl,rfl,rfl⟩
end
theorem rows_all {f : Nat -> List Fr} {n : Nat} {ls : List (List Fr)} (hl : ls.length = n) (h : ∀ j,j < n -> ls.getD j [] = f j) : ls = (List.range n).map f := by
 apply List.ext_getElem?
 intro j
 rcases Nat.lt_or_ge j n with hj | hj
 · have := h j hj
   rw [List.getD_eq_getElem?_getD,List.getElem?_eq_getElem (by omega)] at this
   rw [List.getElem?_eq_getElem (by omega),List.getElem?_map,List.getElem?_range hj]
   simpa using this
 · rw [List.getElem?_eq_none (by omega),List.getElem?_eq_none (by simp; omega)]
theorem FtS.set {l : List Fr} (i : FtS l) {x : Fr} (hx : FtF x) (k : Nat) : FtS (l.set k x) := ⟨fun f hf => (List.mem_or_eq_of_mem_set hf).elim (i.h f) fun e => e ▸ hx⟩
theorem FtR.set {l : List (List Fr)} (i : FtR l) {x : List Fr} (hx : FtS x) (k : Nat) : FtR (l.set k x) := ⟨fun f hf => (List.mem_or_eq_of_mem_set hf).elim (i.h f) fun e => e ▸ hx⟩
instance {n : Nat} : FtS (List.replicate n fr0) := ⟨fun f hf => by rw [(List.mem_replicate.1 hf).2]; infer_instance⟩
instance {n : Nat} : FtR (List.replicate n []) := ⟨fun f hf => by rw [(List.mem_replicate.1 hf).2]; infer_instance⟩
theorem getD_set {α : Type} (l : List α) (d x : α) {j k : Nat} (hk : k < l.length) : (l.set k x).getD j d = if j = k then x else l.getD j d := by
 rw [List.getD_eq_getElem?_getD,List.getElem?_set]
 by_cases h : j = k
 · subst h; simp [hk]
 · rw [if_neg (Ne.symm h),if_neg h,List.getD_eq_getElem?_getD]
structure PI (N S : Nat) (p : Nat) (before : Nat -> Prop) (f : Nat -> List Rat) (ls : List (List Fr)) (i : Nat) : Prop where
 il : i <= S
 l : ls.length = N
 b : ∀ j,before j -> ls.getD j [] = (f j).map frK
 r : ls.getD p [] = Go.Ear.rowAt ((f p).map frK) fr0 S i
 t : FtR ls
theorem PI.start {N S p : Nat} {before : Nat -> Prop} {f : Nat -> List Rat} {ls : List (List Fr)} (hl : ls.length = N) (hp : p < N) (hb : ∀ j,before j -> ls.getD j [] = (f j).map frK) (hn : ¬ before p) (ht : FtR ls) : PI N S p before f (ls.set p (List.replicate S fr0)) 0 :=
 ⟨Nat.zero_le _,by simp [hl],fun j hj => by rw [getD_set _ _ _ (by omega),if_neg (fun e : j = p => hn (e ▸ hj))]; exact hb j hj,by rw [getD_set _ _ _ (by omega),if_pos rfl,Go.Ear.rowAt_zero],ht.set inferInstance _⟩
theorem PI.next {N S p : Nat} {before : Nat -> Prop} {f : Nat -> List Rat} {ls : List (List Fr)} {i : Nat} (h : PI N S p before f ls i) (hp : p < N) (hn : ¬ before p) (hi : i < S) (hf : (f p).length = S) {x : Rat} (hx : x = (f p).getD i 0) : PI N S p before f (ls.set p ((ls.getD p []).set i (frK x))) (i + 1) :=
 ⟨hi,by simp [h.l],fun j hj => by rw [getD_set _ _ _ (by rw [h.l]; exact hp),if_neg (fun e : j = p => hn (e ▸ hj))]; exact h.b j hj,by rw [getD_set _ _ _ (by rw [h.l]; exact hp),if_pos rfl,h.r]; exact Go.Ear.rowAt_set (by simp [hf]) hi (by rw [hx,getD_K]),h.t.set ((h.t.getD p).set inferInstance i) _⟩
theorem twOf {t : Tr} [ft : FtM t.m] (hb : MdB 100000 t.m) : TW t := by
 refine ⟨fun i j => ?_,fun i k => ?_⟩
 · exact Nat.le_trans ((ft.h.2.1.getD i).bqg j) (hb.mvb i j)
 · exact Nat.le_trans ((ft.h.2.2.2.getD i).bqg _) (hb.syb i _)
instance passF_c [FtM m] [hc : HC B r [lv rF m.start,lv (rL rF) m.move,lv rF m.fin,lv (rL rF) m.say,lv rI o,.cv (.slice none 0 0)]] : CtB Tryz.prog 57 [ov r,bv false] B (TOk ⟨m,o⟩ /\ MdB 100000 m /\ FwB ⟨m,o⟩) (lv (rL rF) ((fwdAll ⟨m,o⟩).map (·.map frK))) := by
 refine (ctB Tryz.call57 Tryz.func57 Tryz.ntmps57 rfl Tryz.results57 rfl [] fun h0 w0 ⟨tk,hb,hf⟩ => ?_)
 have hs1 := tk.s1
 have hs40 := tk.s40
 have hn := tk.n
 have hmv := tk.mv
 have hfn := tk.fin
 have hsy := tk.say
 dsimp only at hs1 hs40 hn hmv hfn hsy
 repeat first | refine gDr 14 (by kernel_rfl) ?_ | refine nx ?_ | intro _
 rename_i ν out vo
 refine gRg (σ := List Value × List (List Fr)) (fun k s => s.1.length = o.length /\ s.2.length = o.length /\ (∀ j,j < k -> s.2.getD j [] = (fwd ⟨m,o⟩ j).map frK) /\ FtR s.2) (fun k s => [rA rW 22 out s.1,rZ rF 32 s.1 s.2]) (List.replicate o.length vnil,List.replicate o.length []) ⟨by simp,by simp,fun j hj => by omega,inferInstance⟩ rfl (fun hr k s l od od' D hk hI => ?_) (fun D s hI => ?_)
 · obtain ⟨vs,ls⟩ := s
   obtain ⟨hi1,hi2,hi3,hi4⟩ := hI
   simp only [Bool.false_eq_true,if_false] at hi1 hi2 hi3 hi4 ⊢
   repeat first | refine nx ?_ | intro _
   rename_i vt ν2
   refine gLp (fun s : Nat × List (List Fr) => [(33,iv s.1)]) (fun s => [rZ rF 32 (vs.set k (ν2 30).v) s.2]) (fun s => PI o.length m.start.length k (· < k) (fwd ⟨m,o⟩) s.2 s.1) (fun s => m.start.length - s.1) (0,ls.set k (List.replicate m.start.length fr0)) (.start hi2 hk hi3 (by omega) hi4) (fun ⟨i,ls2⟩ hI2 => ?_)
   dsimp only at hI2 ⊢
   have hI2i := hI2.il
   have hft := hI2.t
   repeat first | refine nx ?_ | intro _
   refine gIf (fun c => ?_) fun c => ?_
   · have hsi := tk.sayi i k c hk
     have hwm := hb.sb i
     have hws := hb.syb i (o.getD k 0).toNat
     dsimp only at hsi
     repeat first | refine nx ?_ | intro _
     have hq : ls2.getD k [] = _ := hI2.r
     have hql : (ls2.getD k []).length = m.start.length := by rw [hq]; exact Go.Ear.rowAt_len (by simp [fwd_len]) hI2i
     refine gIf (fun c0 => ?_) fun c0 => ?_
     · have hz := fwd_z (t := ⟨m,o⟩) c0 c
       dsimp only at hz
       repeat first | refine nx ?_ | intro _
       exact gBk (i + 1,ls2.set k ((ls2.getD k []).set i (frK ((m.start.getD i fr0).rat * ((m.say.getD i []).getD (o.getD k 0).toNat fr0).rat)))) (hI2.next hk (by omega) c (fwd_len _ _) hz) (by dsimp only; omega)
     · have hpr := hI2.b (k - 1) (by omega)
       have tw : TW ⟨m,o⟩ := twOf hb
       have hpb := fun j => hf (k - 1) j (show k - 1 < o.length by omega)
       have hpl := fwd_len ⟨m,o⟩ (k - 1)
       have hz := fwd_s (t := ⟨m,o⟩) (i := i) (k := k) (by omega) c
       have hsb := bq_sumF' tk tw hpb i
       have hbk := bq_f2 tw hpb
       dsimp only at hz hpl hsb
       generalize fwd ⟨m,o⟩ (k - 1) = pr at hpr hpb hpl hz hsb hbk
       have hsd : ∀ j,j < m.start.length -> TOk ⟨m,o⟩ /\ MdB 100000 m /\ i < m.start.length /\ j < m.start.length /\ (1 <= k /\ k <= 1000) /\ k <= (vs.set k (ν2 30).v).length /\ j < (ls2.getD (k - 1) []).length /\ bf ((ls2.getD (k - 1) []).getD j fr0) <= 300000 := fun j hj => ⟨tk,hb,c,hj,by omega,by simp; omega,by rw [hpr]; simp; omega,by rw [hpr,getD_K,bf_frK]; exact hpb j⟩
       have hq2 : (fun j => ((ls2.getD (k - 1) []).getD j fr0).rat * moveT ⟨m,o⟩ j i) = fun j => pr.getD j 0 * moveT ⟨m,o⟩ j i := by funext j; rw [hpr,getD_K,frK_rat]
       have hbb : ∃ b,(∀ j,j < m.start.length -> bq (((ls2.getD (k - 1) []).getD j fr0).rat * moveT ⟨m,o⟩ j i) <= b) /\ m.start.length * (b + 1) <= 60000000 := ⟨500000,fun j _ => by rw [congrFun hq2 j]; exact hbk j i,by omega⟩
       rw [<- hq2] at hz hsb
       repeat first | refine nx ?_ | intro _
       exact gBk (i + 1,ls2.set k ((ls2.getD k []).set i (frK (((m.say.getD i []).getD (o.getD k 0).toNat fr0).rat * sumTo (fun j => ((ls2.getD (k - 1) []).getD j fr0).rat * moveT ⟨m,o⟩ j i) m.start.length)))) (hI2.next hk (by omega) c (fwd_len _ _) hz) (by dsimp only; omega)
   · repeat first | refine nx ?_ | intro _
     have ei : i = m.start.length := by omega
     refine gMe (vs.set k (ν2 30).v,ls2) ⟨by simp [hi1],hI2.l,fun j hj => ?_,hft⟩
     rcases Nat.lt_or_ge j k with hjk | hjk
     · exact hI2.b j hjk
     · have : j = k := by omega
       subst this; rw [hI2.r]; exact Go.Ear.rowAt_end (by simp [fwd_len]) (by omega)
 · obtain ⟨vs,ls⟩ := s
   obtain ⟨hi1,hi2,hi3,_⟩ := hI
   dsimp only at hi1 hi2 hi3 ⊢
   have hall := rows_all hi2 hi3
   repeat first | refine nx ?_ | intro _
   rw [hall]; unfold fwdAll; rw [List.map_map]; rfl
end
section
variable {B : List Res} {r : Value} {m : Md} {o : List Int} {K : SV}
instance passB_c [FtM m] [hc : HC B r [lv rF m.start,lv (rL rF) m.move,lv rF m.fin,lv (rL rF) m.say,lv rI o,.cv (.slice none 0 0)]] : CtB Tryz.prog 57 [ov r,bv true] B (TOk ⟨m,o⟩ /\ MdB 100000 m /\ BwB ⟨m,o⟩) (lv (rL rF) ((bwdAll ⟨m,o⟩).map (·.map frK))) := by
 refine (ctB Tryz.call57 Tryz.func57 Tryz.ntmps57 rfl Tryz.results57 rfl [] fun h0 w0 ⟨tk,hb,hf⟩ => ?_)
 have hs1 := tk.s1
 have hs40 := tk.s40
 have hn := tk.n
 have hmv := tk.mv
 have hfn := tk.fin
 have hsy := tk.say
 dsimp only at hs1 hs40 hn hmv hfn hsy
 repeat first | refine gDr 14 (by kernel_rfl) ?_ | refine nx ?_ | intro _
 rename_i ν out vo
 refine gRg (σ := List Value × List (List Fr)) (fun k s => s.1.length = o.length /\ s.2.length = o.length /\ (∀ j,j < o.length /\ o.length <= j + k -> s.2.getD j [] = (bwd ⟨m,o⟩ (o.length - 1 - j)).map frK) /\ FtR s.2) (fun k s => [rA rW 22 out s.1,rZ rF 32 s.1 s.2]) (List.replicate o.length vnil,List.replicate o.length []) ⟨by simp,by simp,fun j hj => by omega,inferInstance⟩ rfl (fun hr k s l od od' D hk hI => ?_) (fun D s hI => ?_)
 · obtain ⟨vs,ls⟩ := s
   obtain ⟨hi1,hi2,hi3,hi4⟩ := hI
   simp only [if_true] at hi1 hi2 hi3 hi4 ⊢
   have hp := show o.length - 1 - k < o.length by omega
   have hkp : o.length - 1 - (o.length - 1 - k) = k := by omega
   have hnx : ∀ j,j < o.length -> o.length <= j + (k + 1) -> o.length <= j + k \/ j = o.length - 1 - k := fun j _ hj => by omega
   have hnb : ¬ (o.length - 1 - k < o.length /\ o.length <= o.length - 1 - k + k) := by omega
   have hpb : 1 <= k -> o.length - 1 - k + 1 < o.length /\ o.length <= o.length - 1 - k + 1 + k /\ o.length - 1 - (o.length - 1 - k + 1) = k - 1 := by omega
   have hk0 : o.length - 1 - k = o.length - 1 ↔ k = 0 := by omega
   generalize hpe : o.length - 1 - k = p at *
   repeat first | refine nx ?_ | intro _
   rename_i vt ν2
   refine gLp (fun s : Nat × List (List Fr) => [(33,iv s.1)]) (fun s => [rZ rF 32 (vs.set p (ν2 30).v) s.2]) (fun s => PI o.length m.start.length p (fun j => j < o.length /\ o.length <= j + k) (fun j => bwd ⟨m,o⟩ (o.length - 1 - j)) s.2 s.1) (fun s => m.start.length - s.1) (0,ls.set p (List.replicate m.start.length fr0)) (.start hi2 hp hi3 hnb hi4) (fun ⟨i,ls2⟩ hI2 => ?_)
   dsimp only at hI2 ⊢
   have hI2i := hI2.il
   have hft := hI2.t
   repeat first | refine nx ?_ | intro _
   refine gIf (fun c => ?_) fun c => ?_
   · have hwm := hb.fb i
     have hq : ls2.getD p [] = _ := hI2.r
     have hql : (ls2.getD p []).length = m.start.length := by rw [hq]; exact Go.Ear.rowAt_len (by simp [bwd_len]) hI2i
     repeat first | refine nx ?_ | intro _
     refine gIf (fun c0 => ?_) fun c0 => ?_
     · have hz := bwd_z (t := ⟨m,o⟩) (hk0.1 (by omega)) c
       dsimp only at hz
       repeat first | refine nx ?_ | intro _
       exact gBk (i + 1,ls2.set p ((ls2.getD p []).set i (frK (m.fin.getD i fr0).rat))) (hI2.next hp hnb c (bwd_len _ _) (by rw [hkp]; exact hz)) (by dsimp only; omega)
     · have hk1 : 1 <= k := Nat.pos_of_ne_zero fun e => c0 ⟨trivial,by have := hk0.2 e; omega⟩
       obtain ⟨hp1,hp2,hp3⟩ := hpb hk1
       have hpr := hI2.b (p + 1) ⟨hp1,hp2⟩
       rw [hp3] at hpr
       have tw : TW ⟨m,o⟩ := twOf hb
       have hpb := fun j => hf (k - 1) j (show k - 1 < o.length by omega)
       have hpl := bwd_len ⟨m,o⟩ (k - 1)
       have hz := bwd_s (t := ⟨m,o⟩) (i := i) hk1 hk c
       dsimp only at hz
       rw [hpe] at hz
       have hsb := bq_sumB tk tw hpb i (p + 1)
       have hbk := bq_b3 tw hpb
       dsimp only at hpl hsb
       generalize bwd ⟨m,o⟩ (k - 1) = pr at hpr hpb hpl hz hsb hbk
       have hsd : ∀ j,j < m.start.length -> TOk ⟨m,o⟩ /\ MdB 100000 m /\ i < m.start.length /\ j < m.start.length /\ p + 1 < o.length /\ p + 1 < (vs.set p (ν2 30).v).length /\ j < (ls2.getD (p + 1) []).length /\ bf ((ls2.getD (p + 1) []).getD j fr0) <= 300000 := fun j hj => ⟨tk,hb,c,hj,by omega,by simp; omega,by rw [hpr]; simp; omega,by rw [hpr,getD_K,bf_frK]; exact hpb j⟩
       have hq2 : (fun j => moveT ⟨m,o⟩ i j * sayT ⟨m,o⟩ j (p + 1) * ((ls2.getD (p + 1) []).getD j fr0).rat) = fun j => moveT ⟨m,o⟩ i j * sayT ⟨m,o⟩ j (p + 1) * pr.getD j 0 := by funext j; rw [hpr,getD_K,frK_rat]
       have hbb : ∃ b,(∀ j,j < m.start.length -> bq (moveT ⟨m,o⟩ i j * sayT ⟨m,o⟩ j (p + 1) * ((ls2.getD (p + 1) []).getD j fr0).rat) <= b) /\ m.start.length * (b + 1) <= 60000000 := ⟨600000,fun j _ => by rw [congrFun hq2 j]; exact hbk i j (p + 1),by omega⟩
       rw [<- hq2] at hz hsb
       repeat first | refine nx ?_ | intro _
       exact gBk (i + 1,ls2.set p ((ls2.getD p []).set i (frK (sumTo (fun j => moveT ⟨m,o⟩ i j * sayT ⟨m,o⟩ j (p + 1) * ((ls2.getD (p + 1) []).getD j fr0).rat) m.start.length)))) (hI2.next hp hnb c (bwd_len _ _) (by rw [hkp]; exact hz)) (by dsimp only; omega)
   · repeat first | refine nx ?_ | intro _
     have ei : i = m.start.length := by omega
     refine gMe (vs.set p (ν2 30).v,ls2) ⟨by simp [hi1],hI2.l,fun j hj => ?_,hft⟩
     rcases hnx j hj.1 hj.2 with h | h
     · exact hI2.b j ⟨hj.1,h⟩
     · subst h; rw [hI2.r]; exact Go.Ear.rowAt_end (by simp [bwd_len]) (by omega)
 · obtain ⟨vs,ls⟩ := s
   obtain ⟨hi1,hi2,hi3,_⟩ := hI
   dsimp only at hi1 hi2 hi3 ⊢
   have hall := rows_all hi2 (fun j hj => hi3 j ⟨hj,by omega⟩)
   repeat first | refine nx ?_ | intro _
   rw [hall]; unfold bwdAll; rw [List.map_map]; rfl
end
section
variable {m : Md} {o : List Int} {S T : SV}
@[reducible] def trK (m : Md) (o : List Int) : SV := .pk [lv rF m.start,lv (rL rF) m.move,lv rF m.fin,lv (rL rF) m.say,lv rI o,.cv (.slice none 0 0)] 0
instance passF_k [FtM m] : Ct Tryz.prog 57 [trK m o,bv false] (TOk ⟨m,o⟩ /\ MdB 100000 m /\ FwB ⟨m,o⟩) (lv (rL rF) ((fwdAll ⟨m,o⟩).map (·.map frK))) := ctK fun v => passF_c
instance passB_k [FtM m] : Ct Tryz.prog 57 [trK m o,bv true] (TOk ⟨m,o⟩ /\ MdB 100000 m /\ BwB ⟨m,o⟩) (lv (rL rF) ((bwdAll ⟨m,o⟩).map (·.map frK))) := ctK fun v => passB_c
instance lik_k {f : List (List Rat)} [FtM m] : Ct Tryz.prog 56 [trK m o,lv (rL rF) (f.map (·.map frK))] (f.length <= 1048576 /\ m.start.length <= 1048576 /\ m.fin.length = m.start.length /\ (f.length = 0 \/ (f.getD (f.length - 1) []).length = m.start.length) /\ ∃ b,(∀ i,i < m.start.length -> bq ((f.getD (f.length - 1) []).getD i 0) + bf (m.fin.getD i fr0) <= b) /\ m.start.length * (b + 1) <= 60000000) (kk (likT ⟨m,o⟩ f)) := ctK fun v => lik_c
theorem one_mdb {K : Nat} {m : Md} (h : MdB K m) : ∀ x ∈ [m],MdB K x := fun x hx => by rw [List.mem_singleton.1 hx]; exact h
theorem one_len {o : List Int} {n : Nat} (h : o.length <= n) : ∀ x ∈ [o],x.length <= n := fun x hx => by rw [List.mem_singleton.1 hx]; exact h
instance Likelihood_c [i : VM S m] [j : Vw (lv rI) T o] : Ct Tryz.prog 23 [S,T] (o.length <= 1099511627776 /\ MdB 10000000 m /\ (checkE [m] [o] = 0 -> MdB 100000 m /\ FwB ⟨m,o⟩)) (.tp [kk (likM m o),iv (checkE [m] [o])]) := by
 haveI := i.t
 refine ct2 i.v j (ctI Tryz.call23 Tryz.func23 Tryz.ntmps23 rfl Tryz.results23 rfl [] fun h0 w0 ⟨h1,h2,h3⟩ => ?_)
 have hx := one_mdb h2
 have ho := one_len h1
 repeat first | refine nx ?_ | intro _
 refine gIf (fun c => ?_) fun c => ?_
 · repeat first | refine nx ?_ | intro _
   unfold likM; rw [if_neg c,frK_zero]; trivial
 · have hE : checkE [m] [o] = 0 := Classical.not_not.1 c
   have tk := checkE_TOk hE
   obtain ⟨hb,hf⟩ := h3 hE
   have a1 : (fwdAll ⟨m,o⟩).length <= 1048576 := by rw [fwdAll_len]; have := tk.n; dsimp only at *; omega
   have a2 : m.start.length <= 1048576 := by have := tk.s40; dsimp only at *; omega
   have a3 := tk.fin
   have a4 := lik_len ⟨m,o⟩
   have a5 : ∃ b,(∀ i,i < m.start.length -> bq (((fwdAll ⟨m,o⟩).getD ((fwdAll ⟨m,o⟩).length - 1) []).getD i 0) + bf (m.fin.getD i fr0) <= b) /\ m.start.length * (b + 1) <= 60000000 := ⟨400001,fun i _ => lik_bd hf hb i,by have := tk.s40; dsimp only at *; omega⟩
   repeat first | refine nx ?_ | intro _
   unfold likM; rw [if_pos hE]; exact ⟨⟨rfl,rfl,rfl⟩,hE.symm⟩
end
section
variable {m : Md} {o : List Int} {vo out : Value} {vs : List Value} {ls : List (List Fr)} {t i : Nat} {e : TypeId} {B : List Res}
@[reducible] def mdK (m : Md) : SV := .pk [lv rF m.start,lv (rL rF) m.move,lv rF m.fin,lv (rL rF) m.say] 0
end
end Go.E3
