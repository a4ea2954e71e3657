/- K10: a part of the proof about training through the decoder: how the program's functions run, and what they compute, for every input. -/
import Derived.Test.YtdciabokggfpbaaGreatK9
set_option linter.all false
namespace Go.E3
open Go Go.Ear
class MtE (env l : EL) (sd : outParam Prop) : Prop where h : sd -> ∀ {h ρ},EnvOk h ρ env -> EnvOk h ρ l
instance {env : EL} : MtE env [] True := ⟨fun _ _ _ _ => trivial⟩
instance {env l : EL} {d : Nat} {S T : SV} {s1 s2 : Prop} [lk : LkE env d S] [e : EqS S T s1] [i : MtE env l s2] : MtE env ((d,T) :: l) (s1 /\ s2) := ⟨fun q _ _ u => ⟨e.h q.1 (u.mem lk.h),i.h q.2 u⟩⟩
class KpE (l env : EL) (env' : outParam EL) : Prop where h : ∀ {h ρ},EnvOk h ρ env -> EnvOk h ρ env'
instance {env : EL} : KpE [] env env := ⟨fun u => u⟩
instance {l env env1 env2 : EL} {d : Nat} {S : SV} [i : Dl env d env1] [j : KpE l env1 env2] : KpE ((d,S) :: l) env env2 := ⟨fun u => j.h (i.h.2.1 u)⟩
class MR (P : Program) (e : TypeId) (bb : outParam Nat) : Prop where h : ∃ ti,El P e 1 bb (.slice none 0 0) ti
theorem rep_getD (a t : Nat) : (List.replicate a vnil).getD t vnil = vnil := by
 rw [List.getD_eq_getElem?_getD,List.getElem?_replicate]; split <;> rfl
theorem rep_getD' {β : Type} (a t : Nat) : (List.replicate a ([] : List β)).getD t [] = [] := by
 rw [List.getD_eq_getElem?_getD,List.getElem?_replicate]; split <;> rfl
theorem OwnB.any {w0 : World} {h : PH} {w : World} : ∀ {B : List Res},OwnB w0 B h w -> OwnB (noW w) B h w
 | [],_ => trivial
 | _ :: _,o => ⟨o.1,fun i hi => ⟨(o.2.1 i hi).1,fun _ => Nat.zero_le _,(o.2.1 i hi).2.2⟩,o.2.2.1,OwnB.any o.2.2.2⟩
theorem own_rows {α : Type} {P : Program} {e : TypeId} {bb a : Nat} {w0 : World} {h : PH} {w : World} {b : Nat} {ti : TypeInfo} (el : El P e 1 bb (.slice none 0 0) ti) (hn : h b = none) (hb : w.heap[b]? = some (.cells (madeCells (Value.slice none 0 0).cells (a * ti.size)) e (0,0))) (hlo : w0.heap.size <= b) (r : Rp α) (e2 : TypeId) :
 OwnB w0 [rA rW e (.slice (some ⟨b,0,none⟩) a a) (List.replicate a vnil),rZ r e2 (List.replicate a vnil) (List.replicate a [])] h w :=
 ⟨own_made (r := rW) el (show den _ _ _ /\ True from ⟨⟨rfl,rfl⟩,trivial⟩) hn hb,fun i hi => by cases hi; exact ⟨hn,fun _ => hlo,blk_lt hb⟩,(fun r' hr' i hi => by
  rcases List.mem_singleton.1 hr' with rfl
  rintro ⟨t,ht⟩; rw [rep_getD,blk_nil] at ht; cases ht),
  ⟨by simp,fun t => by rw [rep_getD,rep_getD']; exact OwnL.nil ..,(fun t u b hb => by rw [rep_getD,blk_nil] at hb; cases hb)⟩,(fun i ⟨t,ht⟩ => by rw [rep_getD,blk_nil] at ht; cases ht),(fun r' hr' => by cases hr'),trivial⟩
structure Bk {σ : Type} (C : Ctx) (n : Nat) (h0 : PH) (w0 : World) (E : σ -> EL) (Bs : σ -> List Res) (I : σ -> Prop) (μ : σ -> Nat) (s : σ) (a : Act) (w : World) : Prop where
 p : ∃ ρ,a = mkX C n ρ /\ ∃ s',I s' /\ μ s' < μ s /\ ∃ h,Sy h0 w0 [] (E s') (Bs s') ρ h w
structure Me {σ : Type} (C : Ctx) (n : Nat) (h0 : PH) (w0 : World) (E : σ -> EL) (Bs : σ -> List Res) (I : σ -> Prop) (a : Act) (w : World) : Prop where
 p : ∃ ρ,a = mkX C n ρ /\ ∃ s',I s' /\ ∃ h,Sy h0 w0 [] (E s') (Bs s') ρ h w
section
variable {P : Program} {n : Nat} {X : Fix} {ms : List Nat} {loc env kept : EL} {B kb : List Res} {x y : Code} {k : Kt} {σ : Type} {s1 s2 : Prop}
theorem gLp (es : σ -> EL) (rs : σ -> List Res) (I : σ -> Prop) (μ : σ -> Nat) (s0 : σ) [kp : KpE (es s0) env kept] [me : MtE env (es s0) s1] [mb : MtB B (rs s0) s2 kb] {E : σ -> EL} {Bs : σ -> List Res} [ae : ∀ s,AppL (es s) kept (E s)] [ab : ∀ s,AppL (rs s) kb (Bs s)]
 (hI : I s0) (round : ∀ s,I s -> GW P n X ms [] (E s) (Bs s) x (.cut (Bk X.c n X.h0 X.w0 E Bs I μ s) k)) (h1 : s1 := by first | trivial | ((try dsimp only); (try simp only [List.length_replicate,List.length_set]); repeat' (first | refine And.intro ?_ ?_ | rfl | trivial | omega))) (h2 : s2 := by first | trivial | ((try dsimp only); (try simp only [List.length_replicate,List.length_set]); repeat' (first | refine And.intro ?_ ?_ | rfl | trivial | omega))) : GW P n X ms loc env B (.loop x) k := ⟨fun ρ h w s => by
 refine WT.loop (fun s ρ w => I s /\ ∃ h,Sy X.h0 X.w0 [] (E s) (Bs s) ρ h w) μ s0 ⟨hI,h,s.gr,trivial, ?_, ?_⟩ ?_
 · rw [<- (ae s0).h]; exact (me.h h1 s.en).app (kp.h s.en)
 · rw [<- (ab s0).h]; exact (mb.h h2).own s.ow
 · rintro s' ρ' w' ⟨hi,h',sy⟩
   refine ((round s' hi).p ρ' h' w' sy).mono fun e a2 w2 hq => ?_
   cases e with
   | normal =>
     obtain ⟨ρ2,rfl,s2,a1,a2,a3⟩ := Bk.p hq
     exact ⟨ρ2,rfl,s2,⟨a1,a3⟩,a2⟩
   | _ => exact hq⟩
theorem gBk {E : σ -> EL} {Bs : σ -> List Res} {I : σ -> Prop} {μ : σ -> Nat} {s : σ} (s' : σ) [me : MtE env (E s') s1] [mb : MtB B (Bs s') s2 kb] (hI : I s') (hm : μ s' < μ s) (h1 : s1 := by first | trivial | ((try dsimp only); (try simp only [List.length_replicate,List.length_set]); repeat' (first | refine And.intro ?_ ?_ | rfl | trivial | omega))) (h2 : s2 := by first | trivial | ((try dsimp only); (try simp only [List.length_replicate,List.length_set]); repeat' (first | refine And.intro ?_ ?_ | rfl | trivial | omega))) :
 GX P n X ms loc env B .normal (.cut (Bk X.c n X.h0 X.w0 E Bs I μ s) k) := ⟨fun ρ h w sy => ⟨⟨ρ,rfl,s',hI,hm,h,sy.gr,trivial,me.h h1 sy.en,((mb.h h2).own sy.ow).left⟩⟩⟩
class KE (ss : List Nat) (env : EL) (env' : outParam EL) : Prop where h : ∀ {h ρ},EnvOk h ρ env -> EnvOk h ρ env'
instance {env : EL} : KE [] env [] := ⟨fun _ => trivial⟩
instance {s : Nat} {ss : List Nat} {env env' : EL} {S : SV} [l : LkE env s S] [i : KE ss env env'] : KE (s :: ss) env ((s,S) :: env') := ⟨fun u => ⟨u.mem l.h,i.h u⟩⟩
theorem gKp (ss : List Nat) {env' : EL} [ke : KE ss env env'] (g : GW P n X ms [] env' B x k) : GW P n X ms loc env B x k := ⟨fun ρ h w s => g.p ρ h w ⟨s.gr,trivial,ke.h s.en,s.ow⟩⟩
theorem gTab {ol rest : List Oper} {d : Nat} {t ty : TypeId} {pos : String} {af : Array Edge} {s : ByteArray} {y : Operand} {kk : IntKind} {i : Int} {a : Nat} {r : Int} [ts : TStr P t] [ly : Lu n true loc env y (.cv (.int kk i))] [a1 : IN i a] (h : (s[a]?).map (fun b => ((b.toNat : Nat) : Int)) = some r) (g : GO P n X ms ((d,.cv (.int .u8 r)) :: loc) env B ol rest k) : GO P n X ms loc env B ol (⟨some d,.index t (.const (.string s)) y,ty,pos,af,none⟩ :: rest) k := ⟨fun ok ρ hh w sy => by
 obtain ⟨h1,h2,h3⟩ := okR_some rfl ok
 obtain ⟨b,hb,e⟩ := Option.map_eq_some_iff.1 h
 exact Ops.cons (OpW.indexStr ts.h rfl ((cvE (ly.h rfl ((sy.x [y]).fx y (by simp)))).trans (by rw [a1.e])) hb (g.p h3 _ _ _ (sy.set (by rw [<- e]; rfl) h1 (h2 rfl))))⟩
structure Mt (C : Ctx) (n : Nat) (h0 : PH) (w0 : World) (E : EL) (B : List Res) (a : Act) (w : World) : Prop where
 p : ∃ ρ,a = mkX C n ρ /\ ∃ h,Sy h0 w0 [] E B ρ h w
theorem gJ (es : EL) {o : Operand} {b : Bool} {p : Prop} {E : EL} [l : Lu n true loc env o (.cv (.bool b))] [tp : TP b p] [kp : KpE es env kept] [ae : AppL es kept E] (ht : p -> GW P n X ms [] env B x (.cut (Mt X.c n X.h0 X.w0 E B) k)) (hf : ¬ p -> GW P n X ms [] env B y (.cut (Mt X.c n X.h0 X.w0 E B) k)) (g : GX P n X ms [] E B .normal k) : GW P n X ms loc env B (.cond o x y) k := ⟨fun ρ h w s => by
 have key : ∀ c,GW P n X ms [] env B c (.cut (Mt X.c n X.h0 X.w0 E B) k) -> WT X.c P n c (run X.c.round P X.T k) ρ w := fun c gc => by
  refine (gc.p ρ h w ⟨s.gr,trivial,s.en,s.ow⟩).mono fun e a2 w2 hq => ?_
  cases e with
  | normal => obtain ⟨ρ2,rfl,h2,s2⟩ := Mt.p hq; exact g.p _ _ _ s2
  | _ => exact hq
 exact WT.cond (cvE (l.h rfl ((s.x [o]).fx o (by simp)))) (fun e => key _ (ht (tp.h.1 e))) fun e => key _ (hf (fun q => by rw [tp.h.2 q] at e; cases e))⟩
theorem gM {E : EL} {B' : List Res} [me : MtE env E s1] [mb : MtB B B' s2 kb] (h1 : s1 := by first | trivial | ((try dsimp only); (try simp only [List.length_replicate,List.length_set]); repeat' (first | refine And.intro ?_ ?_ | rfl | trivial | omega))) (h2 : s2 := by first | trivial | ((try dsimp only); (try simp only [List.length_replicate,List.length_set]); repeat' (first | refine And.intro ?_ ?_ | rfl | trivial | omega))) : GX P n X ms loc env B .normal (.cut (Mt X.c n X.h0 X.w0 E B') k) := ⟨fun ρ h w sy => ⟨⟨ρ,rfl,h,sy.gr,trivial,me.h h1 sy.en,((mb.h h2).own sy.ow).left⟩⟩⟩
end
end Go.E3
