/- K40: a part of the proof about training through the decoder: how the program's functions run, and what they compute, for every input. -/
import Derived.Test.YtdciabokggfpbaaGreatK39
import Derived.Test.YtdciabokggfpbaaGreatK37
set_option linter.all false
set_option maxHeartbeats 4000000
namespace Go.E3
open Go Go.Ear
section
variable {κ α : Type} {K : KK κ}
def rMp (K : KK κ) (f : α -> SV) (v : Value) (R : List (κ × α) -> Prop) : Res where
 fp := fun i => v = .map (some i)
 pr := fun h w => ∃ l,R l /\ (rM' K f v l).pr h w
 st := fun {h w h' w'} le hw hn ⟨l,m,x⟩ => ⟨l,m,(rM' K f v l).st le hw hn x⟩
 fz := fun _ => True
 fzm := fun _ _ => trivial
 frz := fun {h0 w0 h w} g _ _ => ⟨h,g,PH.le.refl h,fun _ x _ => x,trivial⟩
class PMp (B : List Res) (v : Value) (κ : outParam Type) (K : outParam (KK κ)) (α : outParam Type) (f : outParam (α -> SV)) (R : outParam (List (κ × α) -> Prop)) (B' : outParam (List Res)) : Prop where h : Sb B (rMp K f v R :: B')
variable {f : α -> SV} {v p : Value} {l l' vis vis' : List (κ × α)} {R R' : List (κ × α) -> Prop} {B B' B1 L rest : List Res} {sd : Prop}
instance : PMp (rMp K f v R :: B) v κ K α f R B := ⟨.refl _⟩
instance (priority := 50) {x : Res} [i : PMp B v κ K α f R B'] : PMp (x :: B) v κ K α f R (x :: B') := ⟨(i.h.cons x).trans (.perm (List.Perm.swap ..))⟩
theorem rMp_cl (m : R l) : Sb (rM' K f v l :: B) (rMp K f v R :: B) := ⟨fun o => ⟨⟨l,m,o.1⟩,o.2⟩,fun r hr i hi => by
 rcases List.mem_cons.1 hr with rfl | hr
 · exact ⟨_,List.mem_cons_self ..,hi⟩
 · exact ⟨r,List.mem_cons_of_mem _ hr,hi⟩⟩
theorem rMp_im (m : ∀ l,R l -> R' l) : Sb (rMp K f v R :: B) (rMp K f v R' :: B) := ⟨fun o => ⟨by
 obtain ⟨l,a,b⟩ := o.1
 exact ⟨l,m l a,b⟩,o.2⟩,fun r hr i hi => by
 rcases List.mem_cons.1 hr with rfl | hr
 · exact ⟨_,List.mem_cons_self ..,hi⟩
 · exact ⟨r,List.mem_cons_of_mem _ hr,hi⟩⟩
instance {l0 : List (κ × α)} {s1 s2 : Prop} [pm : PM B v κ K α f l0 B1] [ea : EqA l0 l s1] [i : MtB B1 L s2 rest] : MtB B (rM' K f v l :: L) (s1 /\ s2) rest := ⟨fun x => by rw [<- ea.h x.1]; exact pm.h.more (i.h x.2)⟩
instance {l0 vis0 : List (κ × α)} {s1 s3 s2 : Prop} [pm : PMI B p κ K α f v l0 vis0 B1] [ea : EqA l0 l s1] [eb : EqA vis0 vis s3] [i : MtB B1 L s2 rest] : MtB B (rMI K f p v l vis :: L) (s1 /\ s3 /\ s2) rest := ⟨fun x => by rw [<- ea.h x.1, <- eb.h x.2.1]; exact pm.h.more (i.h x.2.2)⟩
instance {R0 : List (κ × α) -> Prop} {s2 : Prop} [pm : PMp B v κ K α f R0 B1] [i : MtB B1 L s2 rest] : MtB B (rMp K f v R :: L) ((∀ l,R0 l -> R l) /\ s2) rest := ⟨fun x => (pm.h.trans (rMp_im x.1)).more (i.h x.2)⟩
instance (priority := 900) {l0 : List (κ × α)} {s2 : Prop} [pm : PM B v κ K α f l0 B1] [i : MtB B1 L s2 rest] : MtB B (rMp K f v R :: L) (R l0 /\ s2) rest := ⟨fun x => (pm.h.trans (rMp_cl x.1)).more (i.h x.2)⟩
end
section
variable {κ α : Type} {K : KK κ} {f : α -> SV} {p v : Value} {l L vis : List (κ × α)} {B B1 Lr rest : List Res}
instance {L0 vis0 : List (κ × α)} {s1 s3 s2 : Prop} [pm : PKz B p κ K α f L0 vis0 B1] [ea : EqA L0 L s1] [eb : EqA vis0 vis s3] [i : MtB B1 Lr s2 rest] : MtB B (rKz K f p L vis :: Lr) (s1 /\ s3 /\ s2) rest := ⟨fun x => by rw [<- ea.h x.1, <- eb.h x.2.1]; exact pm.h.more (i.h x.2.2)⟩
end
section
variable {P : Program} {n : Nat} {X : Fix} {ms : List Nat} {loc env : EL} {B B1 : List Res} {k : Kt} {c : Code} {κ α : Type} {K : KK κ} {f : α -> SV} {R : List (κ × α) -> Prop}
theorem gSb (s : Sb B B1) (g : GW P n X ms loc env B1 c k) : GW P n X ms loc env B c k := ⟨fun ρ h w sy => g.p ρ h w (sy.sb s)⟩
theorem gOp (v : Value) [pm : PMp B v κ K α f R B1] (g : ∀ l,R l -> GW P n X ms loc env (rM' K f v l :: B1) c k) : GW P n X ms loc env B c k := ⟨fun ρ h w sy => by
 have s' := sy.sb pm.h
 obtain ⟨l,m,x⟩ := s'.ow.1
 exact (g l m).p ρ h w ⟨s'.gr,s'.lo,s'.en,x,s'.ow.2⟩⟩
theorem gCl (v : Value) {l : List (κ × α)} (R : List (κ × α) -> Prop) [pm : PM B v κ K α f l B1] (m : R l) (g : GW P n X ms loc env (rMp K f v R :: B1) c k) : GW P n X ms loc env B c k := gSb (pm.h.trans (rMp_cl m)) g
end
def ifV (t : TypeId) (S : SV) : SV := .kv ⟨fun h x => ∃ v,x = .iface t v /\ den h S v,fun {h x} ⟨v,e,_⟩ => by subst e; rfl,fun le ⟨v,e,u⟩ => ⟨v,e,u.mono le⟩⟩
class TCon (P : Program) (t : TypeId) : Prop where h : ∃ d,IsUnd P t d /\ ∀ ms,d ≠ .interface ms
section
variable {P : Program} {n : Nat} {c : Bool} {loc env : EL} {B : List Res} {ms : List Nat} {d : Nat} {t : TypeId} {x : Operand} {S : SV}
instance [tc : TCon P t] [lx : Lu n c loc env x S] : St P n c loc env B ms d (.makeInterface t x) True (ifV t S) := .p fun q _ _ _ _ _ w s _ _ _ _ _ kk => by
 obtain ⟨td,h1,h2⟩ := tc.h
 refine OpW.valD (v := .iface t (ev n _ x)) (w' := w) ?_ (kk _ ⟨_,rfl,lx.h q (s.f x)⟩)
 simp only [execOp,Instr.makeInterface,Sem.run_bind,h1.run w,Result.andThen]
 cases td <;> first | rfl | exact absurd rfl (h2 _)
class Mth (P : Program) (t : TypeId) (name : String) (f : outParam FuncId) : Prop where h : ∀ (v : Value) (w : World),(method (P.types.size + Made.depth) t v name).run P w = .ok (f,v) w
instance {name : String} {f : FuncId} {S0 R : SV} {xs : List Operand} {Ss : List SV} {ts : Array TypeId} {sd : Prop} [lr : Lu n c loc env x (ifV t S0)] [mt : Mth P t name f] [lx : Lus n c loc env xs Ss] [ct : CtB P f (S0 :: Ss) B sd R] : St P n c loc env B ms d (.call ⟨.invoke x name,xs.toArray,ts⟩) sd R := ⟨fun q hs _ _ ρ _ w s _ _ _ _ _ k => by
 obtain ⟨v,ev_,u⟩ := lr.h q (s.f x)
 have hx := lx.h q fun y hy => s.f y (by simp [Op.operands,Call.operands,hy])
 refine OpW.call (f := f) (args := (v :: xs.map (ev n ρ)).toArray) ?_ (ct.h hs s.gr.sat s.ow (vs := v :: xs.map (ev n ρ)) ⟨u,hx⟩) fun v' h' w' gr u => k v' h' w' gr u
 have h1 := mt.h v w
 have h2 := ct.fn (v :: xs.map (ev n ρ)).toArray w
 simp only [execOp,resolve,Sem.run_bind,Sem.run_pure,Result.andThen,invoke,ev_]
 simp [callMethod,Sem.run_bind,h1,Result.andThen]
 rw [List.take_of_length_le (by rw [List.length_map]; exact Nat.le_refl _)]
 exact h2⟩
theorem CtO.lv {α : Type} {r : Rp α} {e : TypeId} {l : List α} {f : FuncId} {args : List SV} {sd : Prop} (ct : CtO P f args sd (fun g => [rA r e g.v l])) : Ct P f args sd (lv r l) := ⟨ct.fn,fun hs h w vs sat u => (ct.h hs sat u).mono fun e' w' ⟨g,he,h',gr,_,ow⟩ => by
 obtain ⟨h2,g2,le,z,_⟩ := OwnB.freeze (j := 0) gr ow rfl
 exact ⟨g.v,h2,he,g2,z⟩⟩
end
structure FrI where
 d : Nat
 S : Gh -> SV
 B2 : Gh -> List Res
abbrev QI := Option (Nat × (Gh -> SV))
def lcg (res : List QI) (γ : Gh) : EL := (res.reverse.filterMap id).map fun q => (q.1,q.2 γ)
section
variable (P : Program) (n : Nat) (X : Fix) (ms : List Nat) (env : EL) (ol : List Oper) (B : List Res) (k : Kt) (fo : Option FrI) (a m : Nat)
def TriI (B : List Res) (loc : EL) (o : Oper) (d : Nat) (S : SV) : Prop := ∀ ρ h w,Sx X.h0 X.w0 loc env B (looks ol o) ρ h w -> OpG P n ol.toArray o ρ w fun ρ' w' => ∃ v h', ρ' = upd ρ d v /\ den h' S v /\ Gr X.h0 X.w0 h' w' /\ h.le h' /\ OwnB X.w0 B h' w'
def TriG (B : List Res) (loc : EL) (o : Oper) (f : FrI) : Prop := ∀ ρ h w,Sx X.h0 X.w0 loc env B (looks ol o) ρ h w -> OpG P n ol.toArray o ρ w fun ρ' w' => ∃ v γ h', ρ' = upd ρ f.d v /\ den h' (f.S γ) v /\ Gr X.h0 X.w0 h' w' /\ h.le h' /\ OwnB X.w0 (f.B2 γ) h' w'
def EvI (L : Gh -> EL) (i : Nat) (o : Oper) : QI -> Prop
 | some q => i ≠ a /\ o.dst = some q.1 /\ (((∀ γ γ',q.2 γ = q.2 γ') /\ (∀ γ,TriI P n X env ol B (L γ) o q.1 (q.2 γ)) /\ ∀ f,fo = some f -> ∀ γ,TriI P n X env ol (f.B2 γ) (L γ) o q.1 (q.2 γ)) \/
  ∃ f,fo = some f /\ reach ol 9 i a = true /\ ∀ γ,TriI P n X env ol (f.B2 γ) ((f.d,f.S γ) :: L γ) o q.1 (q.2 γ))
 | none => i = a /\ ∃ f,fo = some f /\ o.dst = some f.d /\ ∀ γ,TriG P n X env ol B (L γ) o f
def GIEnd (L : Gh -> EL) (rest : List Oper) : Prop := match fo with
 | none => ∀ γ,GO P n X ms (L γ) env B ol rest k
 | some f => ∀ γ,GO P n X ms ((f.d,f.S γ) :: L γ) env (f.B2 γ) ol rest k
inductive GI : (Gh -> EL) -> Nat -> List Oper -> Prop
 | pure {L i o rest} (q : Nat × (Gh -> SV)) (h : EvI P n X env ol B fo a L i o (some q)) (g : GI (fun γ => (q.1,q.2 γ) :: L γ) (i + 1) rest) : GI L i (o :: rest)
 | ev {L i o rest} (h : EvI P n X env ol B fo a L i o none) (g : GI L (i + 1) rest) : GI L i (o :: rest)
 | fin {L rest} (g : GIEnd P n X ms env ol B k fo L rest) : GI L m rest
end
section
variable {P : Program} {n : Nat} {X : Fix} {ms : List Nat} {env : EL} {ol : List Oper} {B : List Res} {k : Kt} {fo : Option FrI} {a m : Nat}
theorem TriP.i {L : EL} {o : Oper} {d : Nat} {S : SV} (h : TriP P n X env B ol L o d S) : TriI P n X env ol B L o d S := fun ρ h1 w s => (h ρ h1 w s).mono fun ρ' w' ⟨v,h',e,gr,u⟩ => ⟨v,h',e,u,s.gr.trans gr,gr.le,s.ow.grow gr⟩
theorem lcg_some (q : Nat × (Gh -> SV)) (res : List QI) (L : EL) (γ : Gh) : lcg (some q :: res) γ ++ L = lcg res γ ++ ((q.1,q.2 γ) :: L) := by simp [lcg]
theorem lcg_none (res : List QI) (γ : Gh) : lcg (none :: res) γ = lcg res γ := by simp [lcg]
theorem lcg_mem {res : List QI} {γ : Gh} {t : Nat} {S : SV} (h : (t,S) ∈ lcg res γ) : ∃ q : Nat × (Gh -> SV),some q ∈ res /\ q.1 = t /\ q.2 γ = S := by
 unfold lcg at h
 obtain ⟨q,hq,e⟩ := List.mem_map.1 h
 obtain ⟨qo,hm,e2⟩ := List.mem_filterMap.1 hq
 have e2 : qo = some q := e2
 subst e2
 cases e
 exact ⟨q,List.mem_reverse.1 hm,rfl,rfl⟩
theorem GI.sem {L : Gh -> EL} {i : Nat} {rest : List Oper} (g : GI P n X ms env ol B k fo a m L i rest) :
 ∃ res : List QI,i + res.length = m /\ res.length <= rest.length /\ (∀ j e,res[j]? = some e -> ∃ o,rest[j]? = some o /\ EvI P n X env ol B fo a (fun γ => lcg (res.take j) γ ++ L γ) (i + j) o e) /\ GIEnd P n X ms env ol B k fo (fun γ => lcg res γ ++ L γ) (rest.drop res.length) := by
 induction g with
 | @pure L i o rest q h g ih =>
   obtain ⟨res,e,hle,hr,hg⟩ := ih
   refine ⟨some q :: res,by simp only [List.length_cons]; omega,by simp only [List.length_cons]; omega,fun j e hj => ?_,by
    have e2 : (fun γ => lcg (some q :: res) γ ++ L γ) = (fun γ => lcg res γ ++ ((q.1,q.2 γ) :: L γ)) := funext fun γ => lcg_some ..
    rw [e2]; simpa using hg⟩
   cases j with
   | zero => have hj : some q = e := by simpa using hj
             subst hj
             exact ⟨o,rfl,by simpa [lcg] using h⟩
   | succ j =>
     obtain ⟨o',x,y⟩ := hr j e (by simpa using hj)
     refine ⟨o',by simpa using x, ?_⟩
     have e2 : (fun γ => lcg ((some q :: res).take (j + 1)) γ ++ L γ) = (fun γ => lcg (res.take j) γ ++ ((q.1,q.2 γ) :: L γ)) := funext fun γ => by rw [List.take_succ_cons,lcg_some]
     rw [e2,show i + (j + 1) = i + 1 + j by omega]; exact y
 | @ev L i o rest h g ih =>
   obtain ⟨res,e,hle,hr,hg⟩ := ih
   refine ⟨none :: res,by simp only [List.length_cons]; omega,by simp only [List.length_cons]; omega,fun j e hj => ?_,by
    have e2 : (fun γ => lcg (none :: res) γ ++ L γ) = (fun γ => lcg res γ ++ L γ) := funext fun γ => by rw [lcg_none]
    rw [e2]; simpa using hg⟩
   cases j with
   | zero => have hj : none = e := by simpa using hj
             subst hj
             exact ⟨o,rfl,by simpa [lcg] using h⟩
   | succ j =>
     obtain ⟨o',x,y⟩ := hr j e (by simpa using hj)
     refine ⟨o',by simpa using x, ?_⟩
     have e2 : (fun γ => lcg ((none :: res).take (j + 1)) γ ++ L γ) = (fun γ => lcg (res.take j) γ ++ L γ) := funext fun γ => by rw [List.take_succ_cons,lcg_none]
     rw [e2,show i + (j + 1) = i + 1 + j by omega]; exact y
 | @fin L rest g => exact ⟨[],by simp,by simp,fun j e hj => by simp at hj,by simpa [lcg] using g⟩
open Classical in
noncomputable def bI (fo : Option FrI) (a : Nat) (B : List Res) (D : Nat -> Prop) (γ : Gh) : List Res := match fo with
 | some f => if D a then f.B2 γ else B
 | none => B
theorem gi_sound {loc : EL} {idn : Nat} (hmix : P.follows .mixedOrders = true) (hc : dagC ol m (env.map (·.1)) = true) (hnd : ol.all noDefer = true) (ham : ∀ f,fo = some f -> a < m) (g : GI P n X ms env ol B k fo a m (fun _ => []) 0 ol) : GW P n X ms loc env B (.region idn ol.toArray true) k := ⟨fun ρ0 h1 wi si => by
 obtain ⟨res,hm0,hlen,hr,hend⟩ := g.sem
 rw [Nat.zero_add] at hm0
 have hr : ∀ j e,res[j]? = some e -> ∃ o,ol[j]? = some o /\ EvI P n X env ol B fo a (fun γ => lcg (res.take j) γ ++ []) j o e := fun j e hj => by have := hr j e hj; rwa [Nat.zero_add] at this
 unfold dagC at hc
 simp only [Bool.and_eq_true] at hc
 obtain ⟨⟨hok,hall⟩,htl⟩ := hc
 have hall := fun i (hi : i < m) => by have := List.all_eq_true.1 hall i (List.mem_range.2 hi); rw [Bool.and_eq_true,Bool.not_eq_true'] at this; exact this
 have htl := fun i (o : Oper) (ho : ol[i]? = some o) => by
  have := List.all_eq_true.1 htl i (List.mem_range.2 (List.getElem?_eq_some_iff.1 ho).1)
  rw [Bool.and_eq_true,opA_eq ho] at this; exact this
 have F := okR_facts hok
 have hat : ∀ i,i < m -> ∃ e,res[i]? = some e := fun i hi => ⟨_,List.getElem?_eq_getElem (by omega)⟩
 have hA : ∀ f,fo = some f -> ∃ o,ol[a]? = some o /\ o.dst = some f.d := fun f hf => by
  obtain ⟨e,he⟩ := hat a (ham f hf)
  obtain ⟨o,ho,ev⟩ := hr a e he
  cases e with
  | some q => exact absurd rfl ev.1
  | none =>
    obtain ⟨_,f',h1,h2,_⟩ := ev
    rw [hf] at h1; cases h1
    exact ⟨o,ho,h2⟩
 have hne : ∀ (i j : Nat) (o o' : Oper) (d : Nat),i ≠ j -> ol[i]? = some o -> ol[j]? = some o' -> o.dst = some d -> o'.dst ≠ some d := fun i j o o' d hij ho ho' hd hd' => by
  rcases Nat.lt_or_ge i j with a | a
  · exact (F j o' d ho' hd').2.2 i o a ho hd
  · exact (F i o d ho hd).2.2 j o' (by omega) ho' hd'
 have henv : ∀ i o,i < m -> ol[i]? = some o -> ∀ t S,(t,S) ∈ env -> o.dst ≠ some t := fun i o hi ho t S ht e => by
  have a := hall i hi
  rw [opA_eq ho,e] at a
  have := a.1
  simp only at this
  rw [<- Bool.not_eq_true,memN_iff] at this
  exact this (List.mem_map.2 ⟨_,ht,rfl⟩)
 refine WT.draw (K := fun ρ w => run X.c.round P X.T k .normal (mkX X.c n ρ) w) hnd ?_ fun _ _ x => x
 intro t
 unfold Region.schedule Region.linearise
 rw [hmix]
 simp only [Bool.true_or,if_true]
 generalize hw1 : ({ wi with drawn := _ } : World) = w1
 have sy0 : Sy X.h0 X.w0 loc env B ρ0 h1 w1 := by
  subst hw1
  exact si.grow ((Gr.refl si.gr.sat).drew _ (Nat.le_succ _))
 obtain ⟨ls,hl,hwp⟩ := lin_inv (P := P) (n := n) (m := m) (ops := ol.toArray) (Q := onlyN fun ρ w => run X.c.round P X.T k .normal (mkX X.c n ρ) w) (fun D ρ w => ∃ (h : PH) (γ : Gh),(Gr X.h0 X.w0 h w /\ h1.le h) /\ OwnB X.w0 (bI fo a B D γ) h w /\
  (∀ i q,D i -> res[i]? = some (some q) -> den h (q.2 γ) (ρ q.1)) /\ (∀ s,(∀ k o,D k -> ol[k]? = some o -> o.dst ≠ some s) -> ρ s = ρ0 s) /\ (D a -> ∀ f,fo = some f -> den h (f.S γ) (ρ f.d))) (by simpa [<- hm0] using hlen)
  (fun i o ho j hj => by
   have := List.all_eq_true.1 (htl i o (by simpa using ho)).1 j hj
   rw [blt_eq] at this; exact of_decide_eq_true this)
  (fun i o ho hmi j hj => by
   have ho : ol[i]? = some o := by simpa using ho
   have := (htl i o ho).2
   rw [Nat.ble_eq_true_of_le hmi] at this
   have := List.all_eq_true.1 this j (List.mem_range.2 hj)
   obtain ⟨x,hx,hxx⟩ := List.any_eq_true.1 this
   have hx := List.mem_range.1 hx
   have hsz := (List.getElem?_eq_some_iff.1 ho).1
   have ho' : ol[i - x]? = some (ol[i - x]'(by omega)) := List.getElem?_eq_getElem (by omega)
   rw [opA_eq ho'] at hxx
   exact ⟨i - x,ol[i - x]'(by omega),by omega,by omega,by rw [List.getElem?_toArray]; exact ho',by simpa using hxx⟩)
  (by
   rintro D ρ w i o ho him hi hd hcl hD ⟨h, γ,hg,how,hF,hold,hxS⟩
   have ho : ol[i]? = some o := by simpa using ho
   have hcl : ∀ (k : Nat) (o : Oper),ol[k]? = some o -> D k -> ∀ j ∈ deps o,D j := fun k o hk => hcl k o (by simpa using hk)
   have fx0 : ∀ x ∈ looks ol o, ∀ t S,x = .tmp t -> ((t,S) ∈ lcg (res.take i) γ ++ [] \/ (t,S) ∈ env) -> den h S (ρ t) := fun x hx t S hxt hmem => by
    subst hxt
    rcases hmem with hmem | hmem
    · rw [List.append_nil] at hmem
      obtain ⟨q,hqm,rfl,rfl⟩ := lcg_mem hmem
      obtain ⟨j,hj⟩ := List.getElem?_of_mem hqm
      have hji : j < i := by
       rcases Nat.lt_or_ge j i with a | a
       · exact a
       · rw [List.getElem?_eq_none (by simp; omega)] at hj; cases hj
      rw [List.getElem?_take,if_pos hji] at hj
      obtain ⟨oj,hoj,_,hsj,_⟩ := hr j _ hj
      have hr2 := (hall i him).2
      unfold rdOk at hr2
      rw [opA_eq ho] at hr2
      have h2 := List.all_eq_true.1 hr2 _ hx
      simp only at h2
      have h3 := List.all_eq_true.1 h2 j (List.mem_range.2 hji)
      rw [opA_eq hoj,hsj] at h3
      simp only [beq_self,Bool.not_true,Bool.false_or] at h3
      exact hF j _ (hd j (by simpa using h3)) hj
    · rw [hold t fun k o' hk hok' => henv k o' (hD k hk) hok' t S hmem]
      exact (sy0.en.mem hmem).mono hg.2
   obtain ⟨e,he⟩ := hat i him
   obtain ⟨o',ho',ev⟩ := hr i e he
   rw [ho] at ho'; cases ho'
   have hrs : ∀ (d : Nat) (v : Value) (h' : PH),h.le h' -> o.dst = some d -> (∀ j q,D j -> res[j]? = some (some q) -> den h' (q.2 γ) (upd ρ d v q.1)) /\ (∀ sl,(∀ k o',(k = i \/ D k) -> ol[k]? = some o' -> o'.dst ≠ some sl) -> upd ρ d v sl = ρ0 sl) := fun d v h' hle hod => by
    refine ⟨fun j q hDj hq => ?_,fun sl hs' => ?_⟩
    · have hji : i ≠ j := fun e => hi (e ▸ hDj)
      obtain ⟨oj,hoj,_,hsj,_⟩ := hr j _ hq
      rw [upd_ne _ _ fun e => hne i j o oj d hji ho hoj hod (by rw [hsj,e])]
      exact (hF j q hDj hq).mono hle
    · rw [upd_ne _ _ fun e => hs' i o (.inl rfl) ho (by rw [e]; exact hod)]
      exact hold sl fun k o' hk hok' => hs' k o' (.inr hk) hok'
   cases e with
   | some q =>
     obtain ⟨hia,hdq,hT⟩ := ev
     have hbi : bI fo a B (fun k => k = i \/ D k) γ = bI fo a B D γ := by
      unfold bI
      cases fo with
      | none => rfl
      | some f =>
        simp only
        by_cases hDa : D a
        · rw [if_pos (.inr hDa),if_pos hDa]
        · rw [if_neg (fun x => x.elim (fun e => hia e.symm) hDa),if_neg hDa]
     have hTT : OpG P n ol.toArray o ρ w fun ρ' w' => ∃ v h', ρ' = upd ρ q.1 v /\ den h' (q.2 γ) v /\ Gr X.h0 X.w0 h' w' /\ h.le h' /\ OwnB X.w0 (bI fo a B D γ) h' w' := by
      rcases hT with ⟨_,hT1,hT2⟩ | ⟨f,hf,hra,hT2⟩
      · have hT3 : TriI P n X env ol (bI fo a B D γ) (lcg (res.take i) γ ++ []) o q.1 (q.2 γ) := by
         unfold bI
         cases hfo : fo with
         | none => exact hT1 γ
         | some f =>
           simp only
           split
           · exact hT2 f hfo γ
           · exact hT1 γ
        exact hT3 ρ h w ⟨hg.1,fx0,how⟩
      · have hDa : D a := reach_of_deps hcl ho hd hra
        have hb : bI fo a B D γ = f.B2 γ := by unfold bI; rw [hf]; exact if_pos hDa
        rw [hb] at how ⊢
        refine hT2 γ ρ h w ⟨hg.1,fun x hx t S hxt hmem => ?_,how⟩
        rcases hmem with hmem | hmem
        · rcases List.mem_cons.1 hmem with e | hmem
          · cases e; exact hxS hDa f hf
          · exact fx0 x hx t S hxt (.inl hmem)
        · exact fx0 x hx t S hxt (.inr hmem)
     refine hTT.mono ?_
     rintro ρ' w' ⟨v,h',rfl,hv,hgr,hle,hob⟩
     obtain ⟨r1,r2⟩ := hrs q.1 v h' hle hdq
     refine ⟨h', γ,⟨hgr,hg.2.trans hle⟩,by rw [hbi]; exact hob,fun j q' hj hq' => ?_,r2,fun hDa f hf => ?_⟩
     · by_cases hji : j = i
       · subst hji; rw [he] at hq'; cases hq'; rw [upd_at]; exact hv
       · exact r1 j q' (hj.resolve_left hji) hq'
     · obtain ⟨oa,hoa,hda⟩ := hA f hf
       have hne2 : f.d ≠ q.1 := fun e => hne i a o oa q.1 hia ho hoa hdq (by rw [hda,e])
       rw [upd_ne _ _ hne2]
       exact (hxS (hDa.resolve_left fun e => hia e.symm) f hf).mono hle
   | none =>
     obtain ⟨rfl,f,hf,hdq,hT⟩ := ev
     have hb1 : bI fo i B D γ = B := by
      unfold bI; rw [hf]; exact if_neg hi
     rw [hb1] at how
     refine (hT γ ρ h w ⟨hg.1,fx0,how⟩).mono ?_
     rintro ρ' w' ⟨v, γ',h',rfl,hv,gr,le,hob⟩
     obtain ⟨r1,r2⟩ := hrs f.d v h' le hdq
     have hb2 : bI fo i B (fun k => k = i \/ D k) γ' = f.B2 γ' := by
      unfold bI; rw [hf]; exact if_pos (.inl rfl)
     refine ⟨h', γ',⟨gr,hg.2.trans le⟩,by rw [hb2]; exact hob,fun j q hj hq => ?_,r2,fun _ f' hf' => ?_⟩
     · have hji : j ≠ i := fun e => by rw [e,he] at hq; cases hq
       have hDj := hj.resolve_left hji
       have hcst : q.2 γ' = q.2 γ := by
        obtain ⟨oj,hoj,_,_,hTj⟩ := hr j _ hq
        rcases hTj with ⟨hc,_⟩ | ⟨_,_,hra,_⟩
        · exact hc _ _
        · exact absurd (reach_of_deps hcl hoj (hcl j oj hoj hDj) hra) hi
       rw [hcst]
       exact r1 j q hDj hq
     · rw [hf] at hf'; cases hf'
       rw [upd_at]; exact hv)
  (by
   rintro D D' ρ w hDD ⟨h, γ,a,b,c,d⟩
   have : D = D' := funext fun k => propext (hDD k)
   subst this
   exact ⟨h, γ,a,b,c,d⟩)
  (by
   rintro D ρ w hall2 hD ⟨h, γ,hg,how,hF,hold,hxS⟩
   have hloc : EnvOk h ρ (lcg res γ ++ []) := by
    rw [List.append_nil]
    have key : ∀ l : EL,(∀ e ∈ l,den h e.2 (ρ e.1)) -> EnvOk h ρ l := fun l => by
     induction l with
     | nil => exact fun _ => trivial
     | cons q l ih => exact fun a => ⟨a q (List.mem_cons_self ..),ih fun q hq => a q (List.mem_cons_of_mem _ hq)⟩
    refine key _ fun e he => ?_
    obtain ⟨q,hq,e1,e2⟩ := lcg_mem (t := e.1) (S := e.2) he
    rw [<- e1, <- e2]
    obtain ⟨i,hi⟩ := List.getElem?_of_mem hq
    have him : i < m := by rw [<- hm0]; exact (List.getElem?_eq_some_iff.1 hi).1
    exact hF i q (hall2 i him) hi
   have hen : EnvOk h ρ env := (sy0.en.mono hg.2).ext fun p hp => (hold p.1 fun k o' hk hok' => henv k o' (hD k hk) hok' p.1 p.2 hp).symm
   have hds : ∀ (ex : List Nat),(∀ e ∈ ex, ∃ j o,j < m /\ ol[j]? = some o /\ o.dst = some e) -> okR (ol.drop m) (ex ++ (lcg res γ).map (·.1)) (env.map (·.1)) = true := fun ex hex =>
    okR_tail hok (fun e he => by
     rcases List.mem_append.1 he with x | x
     · exact hex e x
     · obtain ⟨e',he',rfl⟩ := List.mem_map.1 x
       obtain ⟨q,hq,e1,_⟩ := lcg_mem (t := e'.1) (S := e'.2) he'
       obtain ⟨j,hj⟩ := List.getElem?_of_mem hq
       obtain ⟨o,ho,_,hod,_⟩ := hr j _ hj
       exact ⟨j,o,by rw [<- hm0]; exact (List.getElem?_eq_some_iff.1 hj).1,ho,by rw [<- e1]; exact hod⟩)
   have close : ∀ {L : EL} {Bx : List Res},GO P n X ms L env Bx ol (ol.drop res.length) k -> okR (ol.drop m) (L.map (·.1)) (env.map (·.1)) = true -> EnvOk h ρ L -> OwnB X.w0 Bx h w -> wpOps P ol.toArray (toQ n (onlyN fun ρ w => run X.c.round P X.T k .normal (mkX X.c n ρ) w)) (List.range' m (ol.toArray.size - m)) (mk n ρ) w := fun {L Bx} hgo hk hL hB => by
    have hG := hgo.p (by rw [hm0]; exact hk) ρ h w ⟨hg.1,hL,hen,hB⟩
    rw [hm0] at hG
    have := wpList_of_Ops (Q := onlyN fun ρ w => run X.c.round P X.T k .normal (mkX X.c n ρ) w) (fun _ _ h => h) (ol.drop m) ρ w hG
    rw [<- wpOps_eq_wpList (ol.drop m) m (by intro j; simp)] at this
    simpa using this
   unfold GIEnd at hend
   cases hf : fo with
   | none =>
     rw [hf] at hend
     have hb : bI fo a B D γ = B := by unfold bI; rw [hf]
     rw [hb] at how
     refine close (hend γ) ?_ hloc how
     have := hds [] fun e he => by cases he
     simpa using this
   | some f =>
     rw [hf] at hend
     have hDa := hall2 a (ham f hf)
     have hb : bI fo a B D γ = f.B2 γ := by unfold bI; rw [hf]; exact if_pos hDa
     rw [hb] at how
     refine close (hend γ) ?_ ⟨hxS hDa f hf,hloc⟩ how
     obtain ⟨oa,hoa,hda⟩ := hA f hf
     have := hds [f.d] fun e he => by rcases List.mem_singleton.1 he with rfl; exact ⟨a,oa,ham f hf,hoa,hda⟩
     simpa using this)
  ol.toArray.size t (Array.replicate ol.toArray.size false) [] (by simp) (by intro i o ho hi; simp [Array.getElem?_replicate] at hi) (by intro i hi; simp [Array.getElem?_replicate] at hi)
  (by unfold left; exact Nat.le_trans (List.length_filter_le _ _) (by simp))
 rw [hl]
 simp only [List.reverse_nil,List.nil_append]
 have hD0 : ∀ i, ¬ (Array.replicate ol.toArray.size false)[i]? = some true := fun i => by rw [Array.getElem?_replicate]; split <;> simp
 refine hwp ρ0 w1 ⟨h1,⟨undef,[]⟩,⟨sy0.gr,PH.le.refl h1⟩,by
  have e1 : bI fo a B (fun i => (Array.replicate ol.toArray.size false)[i]? = some true) ⟨undef,[]⟩ = B := by
   unfold bI
   cases fo with
   | none => rfl
   | some f => exact if_neg (hD0 a)
  rw [e1]; exact sy0.ow,(fun i q hi => absurd hi (hD0 i)),fun _ _ => rfl,fun h => absurd h (hD0 a)⟩⟩
theorem gIn (sz m : Nat) {idn : Nat} {loc : EL} [mx : MixO P] (hs : Nat.beq ol.length sz = true) (c : (dagC ol m (env.map (·.1)) && ol.all noDefer) = true) (g : GI P n X ms env ol B k none m m (fun _ => []) 0 ol) : GW P n X ms loc env B (.region idn ol.toArray true) k := by
 simp only [Bool.and_eq_true] at c
 exact gi_sound mx.h c.1 c.2 (fun f hf => by cases hf) g
theorem gIa (sz a m : Nat) (fr : FrI) {idn : Nat} {loc : EL} [mx : MixO P] (hs : Nat.beq ol.length sz = true) (c : (dagC ol m (env.map (·.1)) && ol.all noDefer && Nat.blt a m) = true) (g : GI P n X ms env ol B k (some fr) a m (fun _ => []) 0 ol) : GW P n X ms loc env B (.region idn ol.toArray true) k := by
 simp only [Bool.and_eq_true] at c
 exact gi_sound mx.h c.1.1 c.1.2 (fun _ _ => ltZ c.2) g
section
variable {L : Gh -> EL} {Ls : EL} {i d : Nat} {op : Op} {t : TypeId} {ty : TypeId} {pos : String} {af : Array Edge} {rest : List Oper} {sd sd2 : Prop} {S : SV} {l : List SV} {fr : FrI}
instance (priority := low) [e0 : RflE (Nat.beq i m) false] [e2 : RflE (Nat.beq i a) false] [st : St P n true Ls env B ms d op sd S] : Nx (GI P n X ms env ol B k none a m (fun _ => Ls) i (⟨some d,op,ty,pos,af,none⟩ :: rest)) sd (GI P n X ms env ol B k none a m (fun _ => (d,S) :: Ls) (i + 1) rest) := ⟨fun hs g => .pure (d,fun _ => S) ⟨neZ e2.h,rfl,.inl ⟨fun _ _ => rfl,fun γ => (triQ (st := st) hs).i,fun _ hf => by cases hf⟩⟩ g⟩
instance (priority := 50) [e0 : RflE (Nat.beq i m) false] [e2 : RflE (Nat.beq i a) false] [st : ∀ γ,St P n true (L γ) env B ms d op sd S] [st2 : ∀ γ,St P n true (L γ) env (fr.B2 γ) ms d op sd2 S] : Nx (GI P n X ms env ol B k (some fr) a m L i (⟨some d,op,ty,pos,af,none⟩ :: rest)) (sd /\ sd2) (GI P n X ms env ol B k (some fr) a m (fun γ => (d,S) :: L γ) (i + 1) rest) := ⟨fun hs g => .pure (d,fun _ => S) ⟨neZ e2.h,rfl,.inl ⟨fun _ _ => rfl,fun γ => (triQ (st := st γ) hs.1).i,fun f hf γ => by cases hf; exact (triQ (st := st2 γ) hs.2).i⟩⟩ g⟩
instance (priority := 20) {SS : Gh -> SV} {sdd : Gh -> Prop} [e0 : RflE (Nat.beq i m) false] [e2 : RflE (Nat.beq i a) false] [st : ∀ γ,St P n true ((fr.d,fr.S γ) :: L γ) env (fr.B2 γ) ms d op (sdd γ) (SS γ)] : Nx (GI P n X ms env ol B k (some fr) a m L i (⟨some d,op,ty,pos,af,none⟩ :: rest)) (reach ol 9 i a = true /\ ∀ γ,sdd γ) (GI P n X ms env ol B k (some fr) a m (fun γ => (d,SS γ) :: L γ) (i + 1) rest) := ⟨fun hs g => .pure (d,SS) ⟨neZ e2.h,rfl,.inr ⟨_,rfl,hs.1,fun γ => (triQ (st := st γ) (hs.2 γ)).i⟩⟩ g⟩
theorem triIc {L : EL} {f : FuncId} {xs : List Operand} {ts : Array TypeId} {Ss : List SV} [lx : Lus n true L env xs Ss] (ct : CtR P f Ss B sd Unit (fun _ => S) (fun _ => B)) (hs : sd) : TriI P n X env ol B L ⟨some d,.call ⟨.value (.func f),xs.toArray,ts⟩,ty,pos,af,none⟩ d S := fun ρ h w s => by
 have s' : Sx X.h0 X.w0 L env B xs ρ h w := s.sub (fun x hx => by simp [looks,Op.operands,Call.operands,hx]) fun _ h => h
 have hx : denL h Ss (xs.map (ev n ρ)) := lx.h rfl fun x hx => s'.fx x hx
 refine OpG.plain (callR (loc := []) (env := []) ct hs ⟨s.gr,trivial,trivial,s.ow⟩ hx fun v h' u w' gr le o dn => ?_)
 exact ⟨v,h',rfl,dn,gr,le,o⟩
instance (priority := high) {f : FuncId} {xs : List Operand} {ts : Array TypeId} {Ss : List SV} [e0 : RflE (Nat.beq i m) false] [lx : Lus n true Ls env xs Ss] [ct : CtR P f Ss B sd Unit (fun _ => S) (fun _ => B)] [e2 : RflE (Nat.beq i a) false] : Nx (GI P n X ms env ol B k none a m (fun _ => Ls) i (⟨some d,.call ⟨.value (.func f),xs.toArray,ts⟩,ty,pos,af,none⟩ :: rest)) sd (GI P n X ms env ol B k none a m (fun _ => (d,S) :: Ls) (i + 1) rest) := ⟨fun hs g => .pure (d,fun _ => S) ⟨neZ e2.h,rfl,.inl ⟨fun _ _ => rfl,fun γ => triIc (lx := lx) ct hs,fun _ hf => by cases hf⟩⟩ g⟩
instance (priority := high) {f : FuncId} {xs : List Operand} {ts : Array TypeId} {Ss : List SV} {sd3 : Gh -> Prop} [e0 : RflE (Nat.beq i m) false] [lx : ∀ γ,Lus n true (L γ) env xs Ss] [ct : CtR P f Ss B sd Unit (fun _ => S) (fun _ => B)] {S3 : Gh -> SV} [ct3 : ∀ γ,CtR P f Ss (fr.B2 γ) (sd3 γ) Unit (fun _ => S3 γ) (fun _ => fr.B2 γ)] [e2 : RflE (Nat.beq i a) false] : Nx (GI P n X ms env ol B k (some fr) a m L i (⟨some d,.call ⟨.value (.func f),xs.toArray,ts⟩,ty,pos,af,none⟩ :: rest)) (sd /\ (∀ γ,sd3 γ) /\ ∀ γ,S3 γ = S) (GI P n X ms env ol B k (some fr) a m (fun γ => (d,S) :: L γ) (i + 1) rest) := ⟨fun hs g => .pure (d,fun _ => S) ⟨neZ e2.h,rfl,.inl ⟨fun _ _ => rfl,fun γ => triIc (lx := lx γ) ct hs.1,fun f' hf γ => by cases hf; have := ct3 γ; rw [hs.2.2 γ] at this; exact triIc (lx := lx γ) this (hs.2.1 γ)⟩⟩ g⟩
instance [zc : ZC P t l] [e0 : RflE (Nat.beq i m) false] [e2 : RflE (Nat.beq i a) true] : Nx (GI P n X ms env ol B k (some ⟨d,fun g => ov g.v,fun g => rV g.v l t :: B⟩) a m L i (⟨some d,.alloc t,ty,pos,af,none⟩ :: rest)) True (GI P n X ms env ol B k (some ⟨d,fun g => ov g.v,fun g => rV g.v l t :: B⟩) a m L (i + 1) rest) := ⟨fun _ g => .ev ⟨Nat.eq_of_beq_eq_true e2.h,_,rfl,rfl,fun γ ρ h w s => by
 obtain ⟨z,hz,hu⟩ := zc.h
 exact OpG.plain (OpW.allocO s.gr.sat hz rfl fun b w' g hn hlo hb => ⟨_,⟨_,[]⟩,h,rfl,⟨rfl,rfl⟩,s.gr.trans g,PH.le.refl h,s.ow.new g s.gr.ext.size ⟨b,_,rfl,hb,hu⟩ fun i hi => by cases hi; exact ⟨hlo,blk_lt hb,hn⟩⟩)⟩ g⟩
instance [e1 : RflE (Nat.beq i m) true] : Nx (GI P n X ms env ol B k none a m (fun _ => Ls) i rest) True (GO P n X ms Ls env B ol rest k) := ⟨fun _ g => by
 have e := Nat.eq_of_beq_eq_true e1.h
 subst e
 exact .fin fun _ => g⟩
instance [e1 : RflE (Nat.beq i m) true] : Nx (GI P n X ms env ol B k (some fr) a m L i rest) True (∀ γ,GO P n X ms ((fr.d,fr.S γ) :: L γ) env (fr.B2 γ) ol rest k) := ⟨fun _ g => by
 have e := Nat.eq_of_beq_eq_true e1.h
 subst e
 exact .fin g⟩
instance (priority := high) {d2 : Nat} [e1 : RflE (Nat.beq i m) true] : Nx (GI P n X ms env ol B k (some ⟨d2,fun g => ov g.v,fun g => rV g.v l t :: B⟩) a m L i rest) True (∀ γ : Gh,GO P n X ms ((d2,.cn true (ov γ.v)) :: L γ) env (rV γ.v l t :: B) ol rest k) := ⟨fun _ g => by
 have e := Nat.eq_of_beq_eq_true e1.h
 subst e
 exact .fin fun γ => ⟨fun ok ρ h w s => (g γ).p ok ρ h w ⟨s.gr,⟨⟨fun _ => s.lo.1,fun e => by cases e⟩,s.lo.2⟩,s.en,s.ow⟩⟩⟩
end
end
class PmP {κ α : Type} (B : List Res) (v : Value) (K : outParam (KK κ)) (f : outParam (α -> SV)) (R : outParam (List (κ × α) -> Prop)) (B' : outParam (List Res)) : Prop where h : B.Perm (rMp K f v R :: B')
section
variable {κ α : Type} {K : KK κ} {f : α -> SV} {v : Value} {R : List (κ × α) -> Prop} {B B' : List Res}
instance : PmP (rMp K f v R :: B) v K f R B := ⟨.refl _⟩
instance (priority := 50) {x : Res} [i : PmP B v K f R B'] : PmP (x :: B) v K f R (x :: B') := ⟨(i.h.cons x).trans (.swap ..)⟩
end
theorem CtR.inv {P : Program} {f : FuncId} {args : List SV} {A B : List Res} {sd : Prop} {S : SV} (p : B.Perm A) (ct : CtR P f args A sd Unit (fun _ => S) (fun _ => A)) : CtR P f args B sd Unit (fun _ => S) (fun _ => B) := ⟨ct.fn,fun hs h0 w0 h w vs gr ow u => (ct.h hs gr (ow.perm p) u).mono fun e w' ⟨v,e1,h',s,a,b,c,d⟩ => ⟨v,e1,h',s,a,b,c.perm p.symm,d⟩⟩
end Go.E3
