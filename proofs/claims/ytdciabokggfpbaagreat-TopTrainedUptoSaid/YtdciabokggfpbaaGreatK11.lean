/- K11: a part of the proof about training through the decoder: how the program's functions run, and what they compute, for every input. -/
import Derived.Test.YtdciabokggfpbaaGreatK10
set_option linter.all false
namespace Go.E3
open Go Go.Ear
section
variable {P : Program} {n m : Nat} {ops : Array Oper}
theorem lin_inv {Q : Exit -> Env -> World -> Prop} (J : (Nat -> Prop) -> Env -> World -> Prop) (hm : m <= ops.size)
 (hback : ∀ (i : Nat) (o : Oper),ops[i]? = some o -> ∀ j ∈ deps o,j < i)
 (htail : ∀ (i : Nat) (o : Oper),ops[i]? = some o -> m <= i -> ∀ j,j < i -> ∃ (k : Nat) (o' : Oper),j < k /\ k <= i /\ ops[k]? = some o' /\ j ∈ deps o')
 (step : ∀ (D : Nat -> Prop) ρ w (i : Nat) (o : Oper),ops[i]? = some o -> i < m -> ¬ D i -> (∀ j ∈ deps o,D j) -> (∀ (k : Nat) (o : Oper),ops[k]? = some o -> D k -> ∀ j ∈ deps o,D j) -> (∀ k,D k -> k < m) -> J D ρ w ->
  OpG P n ops o ρ w fun ρ' w' => J (fun k => k = i \/ D k) ρ' w')
 (hJ : ∀ (D D' : Nat -> Prop) ρ w,(∀ k,D k ↔ D' k) -> J D ρ w -> J D' ρ w)
 (last : ∀ (D : Nat -> Prop) ρ w,(∀ i,i < m -> D i) -> (∀ k,D k -> k < m) -> J D ρ w -> wpOps P ops (toQ n Q) (List.range' m (ops.size - m)) (mk n ρ) w) :
 ∀ (fuel t : Nat) (listed : Array Bool) (acc : List Nat),
   listed.size = ops.size -> (∀ (i : Nat) (o : Oper),ops[i]? = some o -> listed[i]? = some true -> ∀ j ∈ deps o,listed[j]? = some true) ->
   (∀ i,listed[i]? = some true -> i < m) -> left listed <= fuel ->
   ∃ l,Region.linearise.go .any ops fuel t listed acc = acc.reverse ++ l /\
     ∀ ρ w,J (fun i => listed[i]? = some true) ρ w -> wpOps P ops (toQ n Q) l (mk n ρ) w := by
 intro fuel
 induction fuel with
 | zero =>
   intro t listed acc hsz hcl honly hf
   have hall : ∀ i,i < ops.size -> listed[i]? = some true := by
    intro i hi
    have hl : listed[i]? = some (listed[i]'(by omega)) := Array.getElem?_eq_getElem (by omega)
    cases hb : listed[i]'(by omega) with
    | true => rw [hl,hb]
    | false => rw [hb] at hl; have := left_pos hl; omega
   have hz : ops.size - m = 0 := by
    rcases Nat.lt_or_ge m ops.size with h | h
    · have := honly m (hall m h); omega
    · omega
   refine ⟨[],by simp [Region.linearise.go],fun ρ w hI => ?_⟩
   have := last _ ρ w (fun i hi => hall i (by omega)) honly hI
   rwa [hz] at this
 | succ fuel ih =>
   intro t listed acc hsz hcl honly hf
   rcases go_succ ops fuel t listed acc hsz with ⟨i,t',⟨hi,hni,o,ho,hdeps⟩,he⟩ | ⟨hno,he⟩
   · rcases Nat.lt_or_ge i m with him | him
     · obtain ⟨l,hl,hwp⟩ := ih t' (listed.setIfInBounds i true) (i :: acc) (by simpa using hsz)
        (by
         intro k ok hok' hk j hj
         rw [set_iff (by omega)] at hk ⊢
         rcases hk with rfl | hk
         · rw [ho] at hok'; cases hok'
           exact .inr (hdeps j hj)
         · exact .inr (hcl k ok hok' hk j hj))
        (by
         intro k hk
         rw [set_iff (by omega)] at hk
         rcases hk with rfl | hk
         · exact him
         · exact honly k hk)
        (by have := left_set hni; omega)
       refine ⟨i :: l, ?_, ?_⟩
       · rw [he,hl]; simp
       · intro ρ w hJ0
         refine wpOps_of_OpG ho ?_
         refine (step _ ρ w i o ho him (by rw [hni]; intro h; cases h) hdeps hcl honly hJ0).mono ?_
         intro ρ' w' hj
         exact hwp _ _ (hJ _ _ _ _ (fun k => (set_iff (by omega) k).symm) hj)
     · -- the tail begins
       have him' : i = m := by
        rcases Nat.lt_or_ge m i with h | h
        · have := honly m (chain_all (L := fun j => listed[j]? = some true) ho hdeps hcl (htail i o ho him) m h); omega
        · omega
       subst him'
       have hex : ∀ j,j < ops.size -> (listed[j]? = some true ↔ j < i) := fun j _ => ⟨honly j,fun h => chain_all (L := fun j => listed[j]? = some true) ho hdeps hcl (htail i o ho (Nat.le_refl _)) j h⟩
       have hlen : ops.size <= i + (fuel + 1) := by
        have key : ∀ (l : List Bool) (k : Nat),(∀ j,j < l.length -> (l[j]? = some true -> j < k)) -> l.length <= k + (l.filter (! ·)).length := by
         intro l
         induction l with
         | nil => intro k _; simp
         | cons b l ihl =>
           intro k hk
           cases k with
           | zero =>
             have hb : b = false := by
              cases b with
              | false => rfl
              | true => have := hk 0 (by simp) rfl; omega
             subst hb
             have := ihl 0 (fun j hj e => by have := hk (j + 1) (by simp; omega) (by simpa using e); omega)
             simp only [List.filter_cons,Bool.not_false,if_true,List.length_cons]; omega
           | succ k =>
             have := ihl k (fun j hj e => by have := hk (j + 1) (by simp; omega) (by simpa using e); omega)
             cases b <;> simp only [List.filter_cons,Bool.not_true,Bool.not_false,if_true,Bool.false_eq_true,if_false,List.length_cons] <;> omega
        have := key listed.toList i (fun j _ e => honly j (by simpa using e))
        simp only [Array.length_toList] at this
        unfold left at hf
        omega
       refine ⟨List.range' i (ops.size - i),go_tail hback htail _ _ _ _ i hsz (Nat.le_refl _) hm hex hlen,fun ρ w hI => ?_⟩
       exact last _ ρ w (fun j hj => (hex j (by omega)).2 hj) honly hI
   · have hall := exists_ready hsz hback hno
     have hz : ops.size - m = 0 := by
      rcases Nat.lt_or_ge m ops.size with h | h
      · have := honly m (hall m h); omega
      · omega
     refine ⟨[],by simp [he],fun ρ w hI => ?_⟩
     have := last _ ρ w (fun i hi => hall i (by omega)) honly hI
     rwa [hz] at this
end
section
variable (P : Program) (n : Nat) (X : Fix) (ms : List Nat) (env : EL) (B : List Res) (ol : List Oper)
def looks (o : Oper) : List Operand := o.op.operands.toList ++ (match o.guard with
 | some (g,_) => match (ol[g]?).bind (·.dst) with | some s => [.tmp s] | none => []
 | none => [])
def TriP (loc : EL) (o : Oper) (d : Nat) (S : SV) : Prop := ∀ ρ h w,Sx X.h0 X.w0 loc env B (looks ol o) ρ h w -> OpG P n ol.toArray o ρ w fun ρ' w' => ∃ v h', ρ' = upd ρ d v /\ Gr h w h' w' /\ den h' S v
def TriO (loc : EL) (o : Oper) (d : Nat) (T : Gh -> Res) : Prop := ∀ ρ h w,Sx X.h0 X.w0 loc env B (looks ol o) ρ h w -> OpG P n ol.toArray o ρ w fun ρ' w' => ∃ (v : Value) (gl : List Value) (h' : PH), ρ' = upd ρ d v /\ Gr h w h' w' /\ v.oneCell' = true /\ (T ⟨v,gl⟩).pr h' w' /\ ∀ i,(T ⟨v,gl⟩).fp i -> w.heap.size <= i /\ i < w'.heap.size /\ h' i = none
def TriN (loc : EL) (o : Oper) (d : Nat) (S : Gh -> SV) (T : Gh -> Res) : Prop := ∀ ρ h w,Sx X.h0 X.w0 loc env B (looks ol o) ρ h w -> OpG P n ol.toArray o ρ w fun ρ' w' => ∃ (v : Value) (gl : List Value) (h' : PH), ρ' = upd ρ d v /\ Gr h w h' w' /\ den h' (S ⟨v,gl⟩) v /\ (T ⟨v,gl⟩).pr h' w' /\ ∀ i,(T ⟨v,gl⟩).fp i -> w.heap.size <= i /\ i < w'.heap.size /\ h' i = none
def depOk (i e : Nat) : Bool := (List.range i).any fun k => (match ol[k]? with | some o => (match o.dst with | some d => Nat.beq d e | none => false) | none => false) &&
 (match ol[i]? with | some o => (deps o).contains k || (deps o).any (fun j => match ol[j]? with | some o' => (deps o').contains k | none => false) | none => false)
def TriS (loc : EL) (o : Oper) (γ : Gh) (T T' : Gh -> Res) : Prop := ∀ ρ h w,Sx X.h0 X.w0 loc env B (looks ol o) ρ h w -> (T γ).pr h w -> OpG P n ol.toArray o ρ w fun ρ' w' => ρ' = ρ /\ ∃ b ob,Put w w' b ob /\ (T γ).fp b /\ (T' γ).pr h w' /\ ∀ i,(T' γ).fp i -> (T γ).fp i
def rv (B : List Res) (R : List (Nat × (Gh -> Res))) (ν : Nat -> Gh) : List Res := R.map (fun p => p.2 (ν p.1)) ++ B
def TriM (loc : EL) (o : Oper) (x : Option (Nat × SV)) (B2 : List Res) : Prop := ∀ ρ h w,Sx X.h0 X.w0 loc env B (looks ol o) ρ h w -> OpG P n ol.toArray o ρ w fun ρ' w' => ∃ h',(match x with | none => ρ' = ρ | some (d,S) => ∃ v, ρ' = upd ρ d v /\ den h' S v) /\ Gr X.h0 X.w0 h' w' /\ h.le h' /\ (x = none -> w.heap.size <= w'.heap.size) /\ (x = none -> ∀ b,b < w.heap.size -> (∀ r ∈ B, ¬ r.fp b) -> w'.heap[b]? = w.heap[b]? /\ (h b = none -> h' b = none)) /\ OwnB X.w0 B2 h' w'
def TriV (loc : EL) (o : Oper) (x : Option (Nat × (Value -> SV))) (B2 : Value -> List Res) : Prop := ∀ ρ h w,Sx X.h0 X.w0 loc env B (looks ol o) ρ h w -> OpG P n ol.toArray o ρ w fun ρ' w' => ∃ (v : Value) (h' : PH),(match x with | none => ρ' = ρ /\ v = undef | some p => ρ' = upd ρ p.1 v /\ den h' (p.2 v) v) /\ Gr X.h0 X.w0 h' w' /\ h.le h' /\ (x = none -> w.heap.size <= w'.heap.size) /\ (x = none -> ∀ b,b < w.heap.size -> (∀ r ∈ B, ¬ r.fp b) -> w'.heap[b]? = w.heap[b]? /\ (h b = none -> h' b = none)) /\ OwnB X.w0 (B2 v) h' w'
inductive Sw where
 | no
 | own (a : Nat) (T' : Gh -> Res)
 | mem (x : Option (Nat × (Value -> SV))) (B2 : Value -> List Res)
def tt : Sw -> Nat -> (Gh -> Res) -> (Gh -> Res)
 | .own a T',s,T => bif Nat.beq s a then T' else T
 | _,_,T => T
def bS : Sw -> Value -> List Res -> List Res
 | .mem _ B2,v,_ => B2 v
 | _,_,B => B
def xL : Sw -> Value -> EL
 | .mem (some p) _,v => [(p.1,p.2 v)]
 | _,_ => []
def swv : Sw -> Env -> Value
 | .mem (some p) _, ρ => ρ p.1
 | _,_ => undef
def xLc : Option (Nat × SV) -> EL
 | some p => [p]
 | none => []
def eR (st : Sw) (p : Nat × (Gh -> Res)) : Nat × (Gh -> Res) := (p.1,tt st p.1 p.2)
def opA (ol : List Oper) (i : Nat) : Oper := (ol[i]?).getD default
def reach (ol : List Oper) : Nat -> Nat -> Nat -> Bool
 | 0,_,_ => false
 | f + 1,i,j => (deps (opA ol i)).any fun k => Nat.beq k j || reach ol f k j
inductive GD (k : Kt) (late : Nat -> Bool) : ((Nat -> Gh) -> EL) -> List (Nat × (Gh -> Res)) -> Nat -> List Oper -> Nat -> Prop
 | nil {L R i rest} (h : ∀ ν,GO P n X ms (L ν) env (rv B R ν) ol rest k) : GD k late L R i rest 0
 | sto {L R i o rest} (a : Nat) (T T' : Gh -> Res) (hd : o.dst = none) (hm : (a,T) ∈ R) (hdd : depOk ol i a = true) (nb : ∀ γ,(T γ).bor = false) (h : ∀ ν,TriS P n X env B ol (L ν) o (ν a) T T') (g : ∀ ν,GO P n X ms (L ν) env (rv B (R.map (eR (.own a T'))) ν) ol rest k) : GD k late L R i (o :: rest) 1
 | stm {L R i o rest} (x : Option (Nat × SV)) (B2 : List Res) (hd : o.dst = x.map (·.1)) (hx : x = none \/ R = []) (h : ∀ ν,TriM P n X env B ol (L ν) o x B2) (hl : ∀ j,j < i -> reach ol 9 i j = true \/ late j = true) (hf : ∀ r ∈ B2, ∀ i,r.fp i -> ∃ r ∈ B,r.fp i) (g : ∀ ν,GO P n X ms (xLc x ++ L ν) env (rv B2 R ν) ol rest k) : GD k late L R i (o :: rest) 1
 | app {L R i o rest} (d : Nat) (S : Value -> SV) (B2 : Value -> List Res) (hd : o.dst = some d) (hR : R = []) (h : ∀ ν,TriV P n X env B ol (L ν) o (some (d,S)) B2) (hl : ∀ j,j < i -> reach ol 9 i j = true \/ late j = true) (g : ∀ ν v,GO P n X ms ((d,S v) :: L ν) env (rv (B2 v) R ν) ol rest k) : GD k late L R i (o :: rest) 1
 | new {L R i o rest m} (d : Nat) (S : Gh -> SV) (T : Gh -> Res) (hd : o.dst = some d) (h : ∀ ν,TriN P n X env B ol (L ν) o d S T) (hl : late i = false) (g : GD k late (fun ν => (d,S (ν d)) :: L ν) ((d,T) :: R) (i + 1) rest m) : GD k late L R i (o :: rest) (m + 1)
 | st {L R i o rest m} (d : Nat) (SS : (Nat -> Gh) -> SV) (dd : List Nat) (hd : o.dst = some d) (hs : ∀ ν ν',(∀ e ∈ dd, ν e = ν' e) -> SS ν = SS ν') (hdd : dd.all (depOk ol i) = true) (h : ∀ ν,TriP P n X env B ol (L ν) o d (SS ν)) (hl : late i = true -> ∀ B' ν,TriP P n X env B' ol (L ν) o d (SS ν))
  (g : GD k late (fun ν => (d,SS ν) :: L ν) R (i + 1) rest m) : GD k late L R i (o :: rest) (m + 1)
 | own {L R i o rest m} (d : Nat) (T : Gh -> Res) (hd : o.dst = some d) (h : ∀ ν,TriO P n X env B ol (L ν) o d T) (hl : late i = false) (g : GD k late (fun ν => (d,ov (ν d).v) :: L ν) ((d,T) :: R) (i + 1) rest m) : GD k late L R i (o :: rest) (m + 1)
inductive Kd where
 | p (SS : (Nat -> Gh) -> SV) (dd : List Nat)
 | o (S : Gh -> SV) (T : Gh -> Res)
def ent (q : Nat × Kd) (ν : Nat -> Gh) : Nat × SV := match q.2 with
 | .p SS _ => (q.1,SS ν)
 | .o S _ => (q.1,S (ν q.1))
def rsc (q : Nat × Kd) : List (Nat × (Gh -> Res)) := match q.2 with
 | .p .. => []
 | .o _ T => [(q.1,T)]
def rscs (res : List (Nat × Kd)) : List (Nat × (Gh -> Res)) := ((res.map rsc).reverse).flatten
def StepOk (late : Nat -> Bool) (loc : (Nat -> Gh) -> EL) (i : Nat) (o : Oper) (q : Nat × Kd) : Prop := o.dst = some q.1 /\ match q.2 with
 | .p SS dd => (∀ ν ν',(∀ e ∈ dd, ν e = ν' e) -> SS ν = SS ν') /\ dd.all (depOk ol i) = true /\ (∀ ν,TriP P n X env B ol (loc ν) o q.1 (SS ν)) /\ (late i = true -> ∀ B' ν,TriP P n X env B' ol (loc ν) o q.1 (SS ν))
 | .o S T => (∀ ν,TriN P n X env B ol (loc ν) o q.1 S T) /\ late i = false
def FinOk (late : Nat -> Bool) (loc : (Nat -> Gh) -> EL) (R : List (Nat × (Gh -> Res))) (i m0 m : Nat) (rest : List Oper) : Sw -> Prop
 | .no => m = m0
 | .own a T' => m = m0 + 1 /\ ∃ o T,rest[m0]? = some o /\ o.dst = none /\ (a,T) ∈ R /\ depOk ol (i + m0) a = true /\ (∀ γ,(T γ).bor = false) /\ ∀ ν,TriS P n X env B ol (loc ν) o (ν a) T T'
 | .mem x B2 => m = m0 + 1 /\ ∃ o,rest[m0]? = some o /\ o.dst = x.map (·.1) /\ (x = none \/ R = []) /\ (∀ ν,TriV P n X env B ol (loc ν) o x B2) /\ (∀ j,j < i + m0 -> reach ol 9 (i + m0) j = true \/ late j = true) /\ (x = none -> ∀ v, ∀ r ∈ B2 v, ∀ i,r.fp i -> ∃ r ∈ B,r.fp i)
end
section
variable {P : Program} {n : Nat} {X : Fix} {ms : List Nat} {env : EL} {B : List Res} {ol : List Oper} {k : Kt}
theorem TriO.nn {loc : EL} {o : Oper} {d : Nat} {T : Gh -> Res} (h : TriO P n X env B ol loc o d T) : TriN P n X env B ol loc o d (fun g => ov g.v) T := fun ρ h1 w s => (h ρ h1 w s).mono fun ρ' w' ⟨v,gl,h',a,b,c,e⟩ => ⟨v,gl,h',a,b,⟨rfl,c⟩,e⟩
theorem TriM.v {loc : EL} {o : Oper} {x : Option (Nat × SV)} {B2 : List Res} (h : TriM P n X env B ol loc o x B2) : TriV P n X env B ol loc o (x.map fun p => (p.1,fun _ => p.2)) (fun _ => B2) := fun ρ h1 w s => (h ρ h1 w s).mono fun ρ' w' ⟨h',a,b⟩ => by
 cases x with
 | none => exact ⟨undef,h',⟨a,rfl⟩,b.1,b.2.1,fun _ => b.2.2.1 rfl,fun _ => b.2.2.2.1 rfl,b.2.2.2.2⟩
 | some p => obtain ⟨v,e,d⟩ := a; exact ⟨v,h',⟨e,d⟩,b.1,b.2.1,(fun e => by cases e),(fun e => by cases e),b.2.2.2.2⟩
theorem eR_id {f : Sw} (hf : ∀ s T,tt f s T = T) : ∀ R : List (Nat × (Gh -> Res)),R.map (eR f) = R := fun R => by
 have : eR f = id := by funext p; unfold eR; rw [hf]; rfl
 rw [this,List.map_id]
theorem GD.sem {late : Nat -> Bool} {L : (Nat -> Gh) -> EL} {R : List (Nat × (Gh -> Res))} {i : Nat} {rest : List Oper} {m : Nat} (g : GD P n X ms env B ol k late L R i rest m) :
 ∃ (res : List (Nat × Kd)) (sw : Sw),m <= rest.length /\ FinOk P n X env B ol late (fun ν => ((res.map (ent · ν)).reverse ++ L ν)) (rscs res ++ R) i res.length m rest sw /\ (∀ j,j < res.length -> ∃ o q,rest[j]? = some o /\ res[j]? = some q /\ StepOk P n X env B ol late (fun ν => ((res.take j).map (ent · ν)).reverse ++ L ν) (i + j) o q) /\
   ∀ ν v,GO P n X ms (xL sw v ++ ((res.map (ent · ν)).reverse ++ L ν)) env (rv (bS sw v B) ((rscs res ++ R).map (eR sw)) ν) ol (rest.drop m) k := by
 have fin : ∀ {q : Nat × Kd} {L L' : (Nat -> Gh) -> EL} {R R' : List (Nat × (Gh -> Res))} {res : List (Nat × Kd)} {i m : Nat} {o : Oper} {rest : List Oper} {sw : Sw},(∀ ν,L' ν = ent q ν :: L ν) -> R' = rsc q ++ R -> FinOk P n X env B ol late (fun ν => ((res.map (ent · ν)).reverse ++ L' ν)) (rscs res ++ R') (i + 1) res.length m rest sw -> FinOk P n X env B ol late (fun ν => (((q :: res).map (ent · ν)).reverse ++ L ν)) (rscs (q :: res) ++ R) i (q :: res).length (m + 1) (o :: rest) sw := by
  intro q L L' R R' res i m o rest sw hL hR hf
  have e1 : (fun ν => (((q :: res).map (ent · ν)).reverse ++ L ν)) = (fun ν => ((res.map (ent · ν)).reverse ++ L' ν)) := by funext ν; rw [hL]; simp
  have e2 : rscs (q :: res) ++ R = rscs res ++ R' := by rw [hR]; simp [rscs]
  rw [e1,e2]
  cases sw with
  | no => simp only [FinOk,List.length_cons] at hf ⊢; omega
  | own a T' =>
    obtain ⟨e1,o',T,e2,e3,e4,e5,e6,e7⟩ := hf
    exact ⟨by simp only [List.length_cons]; omega,o',T,by simpa using e2,e3,e4,by rw [List.length_cons,show i + (res.length + 1) = i + 1 + res.length by omega]; exact e5,e6,e7⟩
  | mem x B2 =>
    obtain ⟨e1,o',e2,e3,ex,e4,e5⟩ := hf
    exact ⟨by simp only [List.length_cons]; omega,o',by simpa using e2,e3,ex,e4,by rw [List.length_cons,show i + (res.length + 1) = i + 1 + res.length by omega]; exact e5⟩
 induction g with
 | nil h => exact ⟨[],.no,Nat.zero_le _,rfl,fun j hj => by simp at hj,fun ν v => by simpa [rscs,eR_id (f := .no) (fun _ _ => rfl),bS,xL] using h ν⟩
 | @sto L R i o rest a T T' hd hm hdd nb h g => exact ⟨[],.own a T',by simp,⟨rfl,o,T,rfl,hd,by simpa [rscs] using hm,by simpa using hdd,nb,by simpa using h⟩,fun j hj => by simp at hj,fun ν v => by simpa [rscs,bS,xL] using g ν⟩
 | @stm L R i o rest x B2 hd hx h hl hff g =>
   refine ⟨[],.mem (x.map fun p => (p.1,fun _ => p.2)) (fun _ => B2),by simp,⟨rfl,o,rfl, ?_, ?_,fun ν => by simpa using (h ν).v,by simpa using hl,fun _ _ => hff⟩,fun j hj => by simp at hj,fun ν v => ?_⟩
   · rw [hd]; cases x <;> rfl
   · rcases hx with rfl | hx
     · exact .inl rfl
     · exact .inr (by simpa [rscs] using hx)
   · have := g ν
     cases x <;> simpa [rscs,bS,xL,xLc,eR_id (f := .mem _ _) (fun _ _ => rfl)] using this
 | @app L R i o rest d S B2 hd hR h hl g =>
   refine ⟨[],.mem (some (d,S)) B2,by simp,⟨rfl,o,rfl,hd,.inr (by simpa [rscs] using hR),fun ν => by simpa using h ν,by simpa using hl,(fun e => by cases e)⟩,fun j hj => by simp at hj,fun ν v => ?_⟩
   simpa [rscs,bS,xL,eR_id (f := .mem _ _) (fun _ _ => rfl)] using g ν v
 | @st L R i o rest m d SS dd hd hs hdd h hl g ih =>
   obtain ⟨res,sw,h2,hf,h3,h4⟩ := ih
   refine ⟨(d,.p SS dd) :: res,sw,by simp; omega,fin (fun ν => rfl) rfl hf,fun j hj => ?_,fun ν v => by simpa [ent,rsc,rscs] using h4 ν v⟩
   cases j with
   | zero => exact ⟨o,_,rfl,rfl,hd,hs,hdd,by simpa using h,by simpa using hl⟩
   | succ j =>
     obtain ⟨o',q,e1,e2,e3⟩ := h3 j (by simpa using hj)
     refine ⟨o',q,by simpa using e1,by simpa using e2, ?_⟩
     have : (fun ν => ((((d,Kd.p SS dd) :: res).take (j + 1)).map (ent · ν)).reverse ++ L ν) = (fun ν => ((res.take j).map (ent · ν)).reverse ++ ((d,SS ν) :: L ν)) := by funext ν; simp [ent]
     rw [this,show i + (j + 1) = i + 1 + j by omega]; exact e3
 | @own L R i o rest m d T hd h hl g ih =>
   obtain ⟨res,sw,h2,hf,h3,h4⟩ := ih
   refine ⟨(d,.o (fun g => ov g.v) T) :: res,sw,by simp; omega,fin (fun ν => rfl) rfl hf,fun j hj => ?_,fun ν v => by simpa [ent,rsc,rscs] using h4 ν v⟩
   cases j with
   | zero => exact ⟨o,_,rfl,rfl,hd,fun ν => by simpa using (h ν).nn,by simpa using hl⟩
   | succ j =>
     obtain ⟨o',q,e1,e2,e3⟩ := h3 j (by simpa using hj)
     refine ⟨o',q,by simpa using e1,by simpa using e2, ?_⟩
     have : (fun ν => ((((d,Kd.o (fun g => ov g.v) T) :: res).take (j + 1)).map (ent · ν)).reverse ++ L ν) = (fun ν => ((res.take j).map (ent · ν)).reverse ++ ((d,ov (ν d).v) :: L ν)) := by funext ν; simp [ent]
     rw [this,show i + (j + 1) = i + 1 + j by omega]; exact e3
 | @new L R i o rest m d S T hd h hl g ih =>
   obtain ⟨res,sw,h2,hf,h3,h4⟩ := ih
   refine ⟨(d,.o S T) :: res,sw,by simp; omega,fin (fun ν => rfl) rfl hf,fun j hj => ?_,fun ν v => by simpa [ent,rsc,rscs] using h4 ν v⟩
   cases j with
   | zero => exact ⟨o,_,rfl,rfl,hd,by simpa using h,by simpa using hl⟩
   | succ j =>
     obtain ⟨o',q,e1,e2,e3⟩ := h3 j (by simpa using hj)
     refine ⟨o',q,by simpa using e1,by simpa using e2, ?_⟩
     have : (fun ν => ((((d,Kd.o S T) :: res).take (j + 1)).map (ent · ν)).reverse ++ L ν) = (fun ν => ((res.take j).map (ent · ν)).reverse ++ ((d,S (ν d)) :: L ν)) := by funext ν; simp [ent]
     rw [this,show i + (j + 1) = i + 1 + j by omega]; exact e3
def gh (ρ : Env) (g : Nat -> List Value) : Nat -> Gh := fun d => ⟨ρ d,g d⟩
def rdOk (ol : List Oper) (i : Nat) : Bool := (looks ol (opA ol i)).all fun x => match x with
 | .tmp t => (List.range i).all fun k => (match (opA ol k).dst with | some d => !Nat.beq d t | none => true) || (deps (opA ol i)).contains k
 | _ => true
def tailOk (ol : List Oper) (m : Nat) : Bool :=
 (List.range ol.length).all fun i => (deps (opA ol i)).all (fun j => Nat.blt j i) &&
  (bif Nat.ble m i then (List.range i).all fun j => (List.range (i - j)).any fun x => (deps (opA ol (i - x))).contains j else true)
def dagC (ol : List Oper) (m : Nat) (E : List Nat) : Bool :=
 okR ol [] E && ((List.range m).all fun i => !(match (opA ol i).dst with | some d => memN d E | none => false) && rdOk ol i) && tailOk ol m
theorem memN_iff {d : Nat} : ∀ {l : List Nat},memN d l = true ↔ d ∈ l
 | [] => by simp [memN]
 | x :: l => by
   rw [memN,Bool.or_eq_true,memN_iff,List.mem_cons]
   exact or_congr_left ⟨fun h => (Nat.eq_of_beq_eq_true h).symm,fun h => by subst h; exact beq_self _⟩
theorem okR_facts : ∀ {l : List Oper} {L E : List Nat},okR l L E = true -> ∀ (i : Nat) (o : Oper) (d : Nat),l[i]? = some o -> o.dst = some d -> memN d L = false /\ (isAsg o.op = false -> memN d E = false) /\ ∀ (j : Nat) (o' : Oper),j < i -> l[j]? = some o' -> o'.dst ≠ some d
 | [],_,_,_,i,o,d,ho,_ => by simp at ho
 | x :: l,L,E,h,0,o,d,ho,hd => by
   simp at ho; subst ho
   obtain ⟨a,b,_⟩ := okR_some hd h
   exact ⟨a,b,fun j _ hj => by omega⟩
 | x :: l,L,E,h,i + 1,o,d,ho,hd => by
   have ho' : l[i]? = some o := by simpa using ho
   cases hx : x.dst with
   | none =>
     obtain ⟨a,b,c⟩ := okR_facts (okR_none hx h) i o d ho' hd
     refine ⟨a,b,fun j o' hj hjo => ?_⟩
     cases j with
     | zero => simp at hjo; subst hjo; rw [hx]; exact fun e => by cases e
     | succ j => exact c j o' (by omega) (by simpa using hjo)
   | some e =>
     obtain ⟨_,_,h3⟩ := okR_some hx h
     obtain ⟨a,b,c⟩ := okR_facts h3 i o d ho' hd
     simp only [memN,Bool.or_eq_false_iff] at a
     refine ⟨a.2,b,fun j o' hj hjo => ?_⟩
     cases j with
     | zero => simp at hjo; subst hjo; rw [hx]; intro q; cases q; rw [beq_self] at a; exact Bool.noConfusion a.1
     | succ j => exact c j o' (by omega) (by simpa using hjo)
theorem okR_drop : ∀ {l : List Oper} {L E : List Nat} (ds : List Nat),okR l L E = true -> ds.length <= l.length -> (∀ (i : Nat) (d : Nat),ds[i]? = some d -> ∃ o,l[i]? = some o /\ o.dst = some d) -> okR (l.drop ds.length) (ds.reverse ++ L) E = true
 | l,L,E,[],h,_,_ => by simpa using h
 | [],_,_,_ :: _,_,hl,_ => by simp at hl
 | x :: l,L,E,d :: ds,h,hl,hd => by
   obtain ⟨o,ho,hod⟩ := hd 0 d rfl
   simp at ho; subst ho
   have := okR_drop ds (okR_some hod h).2.2 (by simp at hl; omega) fun i e he => by
    obtain ⟨o,a,b⟩ := hd (i + 1) e (by simpa using he)
    exact ⟨o,by simpa using a,b⟩
   simpa using this
theorem OwnB.add {w0 : World} {h : PH} {w : World} : ∀ {rs : List Res} {B : List Res},(∀ r ∈ rs,r.pr h w /\ ∀ i,r.fp i -> h i = none /\ (r.bor = false -> w0.heap.size <= i) /\ i < w.heap.size) -> rs.Pairwise (fun r r' => ∀ i,r.fp i -> ¬ r'.fp i) -> (∀ r ∈ rs, ∀ r' ∈ B, ∀ i,r.fp i -> ¬ r'.fp i) -> OwnB w0 B h w -> OwnB w0 (rs ++ B) h w
 | [],_,_,_,_,o => o
 | r :: rs,B,a,p,q,o => by
   rw [List.pairwise_cons] at p
   refine ⟨(a r (List.mem_cons_self ..)).1,(a r (List.mem_cons_self ..)).2,fun r' hr' => ?_,OwnB.add (fun r hr => a r (List.mem_cons_of_mem _ hr)) p.2 (fun r hr => q r (List.mem_cons_of_mem _ hr)) o⟩
   rcases List.mem_append.1 hr' with m | m
   · exact p.1 r' m
   · exact q r (List.mem_cons_self ..) r' m
def Fact (sw : Sw) (i : Nat) (q : Nat × Kd) (ρ : Env) (g : Nat -> List Value) (h : PH) (lab : Nat -> Option Nat) (w : World) : Prop := match q.2 with
 | .p SS _ => den h (SS (gh ρ g)) (ρ q.1)
 | .o S T => den h (S (gh ρ g q.1)) (ρ q.1) /\ (tt sw q.1 T (gh ρ g q.1)).pr h w /\ ∀ b,(tt sw q.1 T (gh ρ g q.1)).fp b -> lab b = some i
open Classical in
noncomputable def swD (sw : Sw) (m0 : Nat) (D : Nat -> Prop) : Sw := if D m0 then sw else .no
theorem tt_ne {sw : Sw} {m0 s : Nat} {T : Gh -> Res} {D : Nat -> Prop} (h : ∀ a T',sw = .own a T' -> D m0 -> s ≠ a) : tt (swD sw m0 D) s T = T := by
 unfold swD
 split
 · cases sw with
   | no => rfl
   | own a T' => simp only [tt,beq_ne (h a T' rfl (by assumption)),cond_false]
   | mem x B2 => rfl
 · rfl
theorem bS_ne {sw : Sw} {m0 : Nat} {D : Nat -> Prop} {B : List Res} {v : Value} (h : ∀ x B2,sw = .mem x B2 -> ¬ D m0) : bS (swD sw m0 D) v B = B := by
 unfold swD
 split
 · cases sw with
   | no => rfl
   | own a T' => rfl
   | mem x B2 => exact absurd (by assumption) (h x B2 rfl)
 · rfl
theorem dep_of {ol : List Oper} {i e : Nat} (h : depOk ol i e = true) {D : Nat -> Prop} (hi : ∀ o,ol[i]? = some o -> ∀ j ∈ deps o,D j) (hc : ∀ (k : Nat) (o : Oper),ol[k]? = some o -> D k -> ∀ j ∈ deps o,D j) : ∃ k o,D k /\ ol[k]? = some o /\ o.dst = some e /\ k < i := by
 unfold depOk at h
 obtain ⟨k,hk,hb⟩ := List.any_eq_true.1 h
 rw [Bool.and_eq_true] at hb
 cases ho : ol[k]? with
 | none => rw [ho] at hb; cases hb.1
 | some o =>
   rw [ho] at hb
   cases hd : o.dst with
   | none => simp only [hd] at hb; cases hb.1
   | some d =>
     simp only [hd] at hb
     have := Nat.eq_of_beq_eq_true hb.1
     subst this
     refine ⟨k,o, ?_,ho,hd,List.mem_range.1 hk⟩
     cases hoi : ol[i]? with
     | none => rw [hoi] at hb; cases hb.2
     | some oi =>
       rw [hoi] at hb
       have h2 := hb.2
       simp only [Bool.or_eq_true] at h2
       rcases h2 with q | q
       · exact hi oi hoi k (by simpa using q)
       · obtain ⟨j,hj,hq⟩ := List.any_eq_true.1 q
         have dj := hi oi hoi j hj
         cases hoj : ol[j]? with
         | none => rw [hoj] at hq; cases hq
         | some oj => rw [hoj] at hq; exact hc j oj hoj dj k (by simpa using hq)
theorem reach_D {ol : List Oper} {D : Nat -> Prop} (hc : ∀ (k : Nat) (o : Oper),ol[k]? = some o -> D k -> ∀ j ∈ deps o,D j) : ∀ {f i j : Nat},reach ol f i j = true -> D i -> D j
 | f + 1,i,j,h,hi => by
   unfold reach at h
   obtain ⟨k,hk,hkj⟩ := List.any_eq_true.1 h
   have hD : D k := by
    cases ho : ol[i]? with
    | none => unfold opA at hk; rw [ho] at hk; cases hk
    | some o => unfold opA at hk; rw [ho] at hk; exact hc i o ho hi k hk
   rcases Bool.or_eq_true_iff.1 hkj with e | e
   · rw [<- Nat.eq_of_beq_eq_true e]; exact hD
   · exact reach_D hc e hD
theorem opA_eq {ol : List Oper} {i : Nat} {o : Oper} (h : ol[i]? = some o) : opA ol i = o := by unfold opA; rw [h]; rfl
theorem mem_rscs {res : List (Nat × Kd)} {p : Nat × (Gh -> Res)} (h : p ∈ rscs res) : ∃ q ∈ res,q.1 = p.1 /\ ∃ S,q.2 = .o S p.2 := by
 obtain ⟨l,hl,hrl⟩ := List.mem_flatten.1 h
 obtain ⟨q,hq,rfl⟩ := List.mem_map.1 (List.mem_reverse.1 hl)
 unfold rsc at hrl
 cases hk : q.2 with
 | p SS dd => simp only [hk] at hrl; cases hrl
 | o S T => simp only [hk] at hrl; rcases List.mem_singleton.1 hrl with rfl; exact ⟨q,hq,rfl,S,hk⟩
theorem dag_sound {late : Nat -> Bool} {loc : EL} {m id : Nat} (hmix : P.follows .mixedOrders = true) (hc : dagC ol m (env.map (·.1)) = true) (hnd : ol.all noDefer = true) (g : GD P n X ms env B ol k late (fun _ => []) [] 0 ol m) : GW P n X ms loc env B (.region id ol.toArray true) k := ⟨fun ρ0 h1 wi si => by
 obtain ⟨res,sw,hm,hfo,hst,hend⟩ := g.sem
 generalize hm0 : res.length = m0 at hfo hst
 have hmm : m0 <= m /\ m <= m0 + 1 := by cases sw with
  | no => simp only [FinOk] at hfo; omega
  | own a T' => have := hfo.1; omega
  | mem x B2 => have := hfo.1; omega
 unfold dagC at hc
 simp only [Bool.and_eq_true] at hc
 obtain ⟨⟨hok,hall⟩,htl⟩ := hc
 have hall := fun i (hi : i < m) => by have := List.all_eq_true.1 hall i (List.mem_range.2 hi); rw [Bool.and_eq_true,Bool.not_eq_true'] at this; exact this
 have htl := fun i (o : Oper) (ho : ol[i]? = some o) => by
  have := List.all_eq_true.1 htl i (List.mem_range.2 (List.getElem?_eq_some_iff.1 ho).1)
  rw [Bool.and_eq_true,opA_eq ho] at this; exact this
 have F := okR_facts hok
 have hres : ∀ i,i < m0 -> ∃ o q,ol[i]? = some o /\ res[i]? = some q /\ StepOk P n X env B ol late (fun ν => ((res.take i).map (ent · ν)).reverse ++ []) (0 + i) o q := hst
 have hdst : ∀ i o q,i < m0 -> ol[i]? = some o -> res[i]? = some q -> o.dst = some q.1 := fun i o q hi ho hq => by
  obtain ⟨o',q',a,b,c⟩ := hres i hi
  rw [ho] at a; rw [hq] at b; cases a; cases b; exact c.1
 have hrsc : ∀ a T,(a,T) ∈ rscs res ++ [] -> ∃ q ∈ res,q.1 = a /\ ∃ S,q.2 = .o S T := fun a T h => by rw [List.append_nil] at h; exact mem_rscs h
 have hne : ∀ i j o q o' q',i < m0 -> j < m0 -> i ≠ j -> ol[i]? = some o -> res[i]? = some q -> ol[j]? = some o' -> res[j]? = some q' -> q.1 ≠ q'.1 := fun i j o q o' q' hi hj hij ho hq ho' hq' e => by
  have d1 := hdst i o q hi ho hq
  have d2 := hdst j o' q' hj ho' hq'
  rcases Nat.lt_or_ge i j with a | a
  · exact (F j o' q'.1 ho' d2).2.2 i o a ho (by rw [d1,e])
  · exact (F i o q.1 ho d1).2.2 j o' (by omega) ho' (by rw [d2,e])
 have henv : ∀ i o,i < m -> ol[i]? = some o -> ∀ t S,(t,S) ∈ env -> o.dst ≠ some t := fun i o hi ho t S ht e => by
  have a := hall i hi
  rw [opA_eq ho,e] at a
  have := a.1
  simp only at this
  rw [<- Bool.not_eq_true,memN_iff] at this
  exact this (List.mem_map.2 ⟨_,ht,rfl⟩)
 refine WT.draw (K := fun ρ w => run X.c.round P X.T k .normal (mkX X.c n ρ) w) hnd ?_ fun _ _ x => x
 intro t
 unfold Region.schedule Region.linearise
 rw [hmix]
 simp only [Bool.true_or,if_true]
 generalize hw1 : ({ wi with drawn := _ } : World) = w1
 have s : Sy X.h0 X.w0 loc env B ρ0 h1 w1 := by
  subst hw1
  exact si.grow ((Gr.refl si.gr.sat).drew _ (Nat.le_succ _))
 obtain ⟨ls,hl,hwp⟩ := lin_inv (P := P) (n := n) (m := m) (ops := ol.toArray) (Q := onlyN fun ρ w => run X.c.round P X.T k .normal (mkX X.c n ρ) w) (fun D ρ w => ∃ (h : PH) (lab : Nat -> Option Nat) (g : Nat -> List Value),(Gr X.h0 X.w0 h w /\ h1.le h /\ (rscs res ≠ [] -> w1.heap.size <= w.heap.size)) /\ OwnB X.w0 (bS (swD sw m0 D) (swv sw ρ) B) h w /\ (∀ b i,lab b = some i -> w1.heap.size <= b /\ b < w.heap.size /\ h b = none /\ D i /\ i < m0) /\
  (∀ i q,D i -> i < m0 -> res[i]? = some q -> Fact (swD sw m0 D) i q ρ g h lab w) /\ (∀ s,(∀ k o,D k -> ol[k]? = some o -> o.dst ≠ some s) -> ρ s = ρ0 s) /\ (D m0 -> ∀ d S B2,sw = .mem (some (d,S)) B2 -> den h (S (ρ d)) (ρ d))) (by simpa using hm)
  (fun i o ho j hj => by
   have := List.all_eq_true.1 (htl i o (by simpa using ho)).1 j hj
   rw [blt_eq] at this; exact of_decide_eq_true this)
  (fun i o ho hmi j hj => by
   have ho : ol[i]? = some o := by simpa using ho
   have := (htl i o ho).2
   rw [Nat.ble_eq_true_of_le hmi] at this
   have := List.all_eq_true.1 this j (List.mem_range.2 hj)
   obtain ⟨x,hx,hxx⟩ := List.any_eq_true.1 this
   have hx := List.mem_range.1 hx
   have hsz := (List.getElem?_eq_some_iff.1 ho).1
   have ho' : ol[i - x]? = some (ol[i - x]'(by omega)) := List.getElem?_eq_getElem (by omega)
   rw [opA_eq ho'] at hxx
   exact ⟨i - x,ol[i - x]'(by omega),by omega,by omega,by rw [List.getElem?_toArray]; exact ho',by simpa using hxx⟩)
  (by
   rintro D ρ w i o ho him hi hd hcl hD ⟨h,lab,g,hg,how,hlab,hF,hold,hxS⟩
   have ho : ol[i]? = some o := by simpa using ho
   have hcl : ∀ (k : Nat) (o : Oper),ol[k]? = some o -> D k -> ∀ j ∈ deps o,D j := fun k o hk => hcl k o (by simpa using hk)
   have sx : Sx X.h0 X.w0 (((res.take i).map (ent · (gh ρ g))).reverse ++ []) env (bS (swD sw m0 D) (swv sw ρ) B) (looks ol o) ρ h w := by
    refine ⟨hg.1,fun x hx t S hxt hmem => ?_,how⟩
    subst hxt
    rcases hmem with hmem | hmem
    · rw [List.append_nil,List.mem_reverse] at hmem
      obtain ⟨qj,hqm,hent⟩ := List.mem_map.1 hmem
      obtain ⟨j,hj⟩ := List.getElem?_of_mem hqm
      have hji : j < i /\ j < m0 := by
       rcases Nat.lt_or_ge j (min i m0) with a | a
       · omega
       · rw [List.getElem?_eq_none (by simp; omega)] at hj; cases hj
      rw [List.getElem?_take,if_pos hji.1] at hj
      obtain ⟨oj,qj',hoj,hqj',hsj⟩ := hres j hji.2
      rw [hj] at hqj'; cases hqj'
      have ht1 : qj.1 = t := by have := congrArg Prod.fst hent; unfold ent at this; split at this <;> exact this
      have hr := (hall i him).2
      unfold rdOk at hr
      rw [opA_eq ho] at hr
      have h2 := List.all_eq_true.1 hr _ hx
      simp only at h2
      have h3 := List.all_eq_true.1 h2 j (List.mem_range.2 hji.1)
      rw [opA_eq hoj,hsj.1] at h3
      simp only [ht1,beq_self,Bool.not_true,Bool.false_or] at h3
      have hDj := hd j (by simpa using h3)
      have hf := hF j qj hDj hji.2 hj
      unfold Fact at hf
      unfold ent at hent
      cases hk : qj.2 with
      | p SS dd =>
        simp only [hk] at hf hent
        cases hent
        exact hf
      | o S T =>
        simp only [hk] at hf hent
        cases hent
        exact hf.1
    · rw [hold t fun k o' hk hok' => henv k o' (hD k hk) hok' t S hmem]
      exact (s.en.mem hmem).mono hg.2.1
   rcases Nat.lt_or_ge i m0 with him0 | him0
   case inr =>
    have e : i = m0 := by omega
    subst e
    have hbB : ∀ v,bS (swD sw i D) v B = B := fun v => bS_ne fun _ _ _ => hi
    rw [hbB] at how sx
    have htk : res.take i = res := List.take_of_length_le (by omega)
    rw [htk] at sx
    cases hsw : sw with
    | no => rw [hsw] at hfo; simp only [FinOk] at hfo; omega
    | mem x B2 =>
      rw [hsw] at hfo
      obtain ⟨_,o',ho',hod,hxR,hT,hlt,hff⟩ := hfo
      rw [ho] at ho'; cases ho'
      refine (hT (gh ρ g) ρ h w sx).mono ?_
      rintro ρ' w' ⟨v,h',hρ,hgr,hle,hsz,hfr,hob⟩
      have hsw2 : swD (.mem x B2) i (fun k => k = i \/ D k) = .mem x B2 := by unfold swD; rw [if_pos (.inl rfl)]
      have hnD : ∀ T2 : Gh -> Res, ∀ x,tt (swD sw i D) x T2 = T2 := fun T2 x => tt_ne fun _ _ _ hh => absurd hh hi
      rw [hsw2]
      have hD2 : ∀ j2,j2 < i -> (j2 = i \/ D j2) -> D j2 := fun j2 h1 h2 => h2.elim (fun e => by omega) fun x => x
      cases x with
      | none =>
        obtain ⟨rfl,rfl⟩ : ρ' = ρ /\ v = undef := hρ
        have hfrm : ∀ b,w1.heap.size <= b -> b < w.heap.size -> w'.heap[b]? = w.heap[b]? /\ (h b = none -> h' b = none) := fun b h1b h2b => hfr rfl b h2b fun r hr hrb => by have := (s.ow.foot r hr b hrb).2.2; omega
        have hsz := hsz rfl
        refine ⟨h',lab,g,⟨hgr,hg.2.1.trans hle,fun hne => Nat.le_trans (hg.2.2 hne) hsz⟩,hob,fun x y hxy => ?_,fun j2 q2 hj2 hj2m hq2 => ?_,fun sl hs' => hold sl fun k o' hk hok' => hs' k o' (.inr hk) hok',fun _ _ _ _ e => by cases e⟩
        · have l := hlab x y hxy
          exact ⟨l.1,Nat.lt_of_lt_of_le l.2.1 hsz,(hfrm x l.1 l.2.1).2 l.2.2.1,.inr l.2.2.2.1,l.2.2.2.2⟩
        · have hf2 := hF j2 q2 (hD2 j2 hj2m hj2) hj2m hq2
          unfold Fact at hf2 ⊢
          cases hk : q2.2 with
          | p SS dd => simp only [hk] at hf2 ⊢; exact hf2.mono hle
          | o S2 T2 =>
            simp only [hk,hnD] at hf2 ⊢
            exact ⟨hf2.1.mono hle,(T2 _).st hle (fun x hx => (hfrm x (hlab x j2 (hf2.2.2 x hx)).1 (hlab x j2 (hf2.2.2 x hx)).2.1).1) (fun x hx => (hfrm x (hlab x j2 (hf2.2.2 x hx)).1 (hlab x j2 (hf2.2.2 x hx)).2.1).2 (hlab x j2 (hf2.2.2 x hx)).2.2.1) hf2.2.1,hf2.2.2⟩
      | some p =>
        obtain ⟨d,S⟩ := p
        obtain ⟨rfl,hv⟩ : ρ' = upd ρ d v /\ den h' (S v) v := hρ
        have hod : o.dst = some d := hod
        have hR0 : rscs res ++ [] = [] := hxR.resolve_left (by simp)
        rw [List.append_nil] at hR0
        refine ⟨h',fun _ => none,g,⟨hgr,hg.2.1.trans hle,fun hne => absurd hR0 hne⟩,(by show OwnB X.w0 (B2 (upd ρ d v d)) h' w'; rw [upd_at]; exact hob),(fun x y hxy => by cases hxy),fun j2 q2 hj2 hj2m hq2 => ?_,fun sl hs' => ?_,(fun _ d2 S2 B3 e => by cases e; rw [upd_at]; exact hv)⟩
        · have hf2 := hF j2 q2 (hD2 j2 hj2m hj2) hj2m hq2
          obtain ⟨o2,q2',ho2,hq2',hs2⟩ := hres j2 hj2m
          rw [hq2] at hq2'; cases hq2'
          have hd2 := hdst j2 o2 q2 hj2m ho2 hq2
          have hne2 : q2.1 ≠ d := fun e => (F i o d ho hod).2.2 j2 o2 hj2m ho2 (by rw [hd2,e])
          unfold Fact at hf2 ⊢
          cases hk : q2.2 with
          | p SS dd =>
            simp only [hk] at hf2 ⊢
            unfold StepOk at hs2
            simp only [hk] at hs2
            have hinv : SS (gh (upd ρ d v) g) = SS (gh ρ g) := hs2.2.1 _ _ fun e he => by
             have hdo := List.all_eq_true.1 hs2.2.2.1 e he
             rw [Nat.zero_add] at hdo
             obtain ⟨k,ok,hk,hok',hdk,hkj⟩ := dep_of hdo (fun o3 ho3 => by rw [ho2] at ho3; cases ho3; exact hcl j2 o2 ho2 (hD2 j2 hj2m hj2)) hcl
             have hed : e ≠ d := fun e2 => (F i o d ho hod).2.2 k ok (by omega) hok' (by rw [hdk,e2])
             unfold gh; rw [upd_ne _ _ hed]
            rw [upd_ne _ _ hne2,hinv]
            exact hf2.mono hle
          | o S2 T2 =>
            have hm : (q2.1,T2) ∈ rscs res := List.mem_flatten.2 ⟨[(q2.1,T2)],List.mem_reverse.2 (List.mem_map.2 ⟨q2,List.mem_of_getElem? hq2,by unfold rsc; simp only [hk]⟩),List.mem_singleton.2 rfl⟩
            rw [hR0] at hm; cases hm
        · rw [upd_ne _ _ (fun e => hs' i o (.inl rfl) ho (by rw [e]; exact hod))]
          exact hold sl fun k o' hk hok' => hs' k o' (.inr hk) hok'
    | own a T' =>
      rw [hsw] at hfo
      obtain ⟨_,o',T,ho',hod,hmT,hdep,hnb,hT⟩ := hfo
      rw [ho] at ho'; cases ho'
      rw [Nat.zero_add] at hdep
      obtain ⟨j,oj,hDj,hoj,hja,_⟩ := dep_of hdep (fun o' ho' x hx => by rw [ho] at ho'; cases ho'; exact hd x hx) hcl
      have hjm : j < i := by
       have := hD j hDj
       rcases Nat.lt_or_ge j i with x | x
       · exact x
       · have : j = i := by omega
         subst this; rw [ho] at hoj; cases hoj; rw [hod] at hja; cases hja
      obtain ⟨q,hq,hqa,Sq,hqT⟩ := hrsc a T (by simpa using hmT)
      obtain ⟨jq,hjq⟩ := List.getElem?_of_mem hq
      have hjqm : jq < i := by rw [<- hm0]; exact (List.getElem?_eq_some_iff.1 hjq).1
      obtain ⟨oq,q',hoq,hq',_⟩ := hres jq hjqm
      rw [hjq] at hq'; cases hq'
      have ejq : jq = j := Classical.byContradiction fun hne' => by
       obtain ⟨oj',qj,hoj',hqj,_⟩ := hres j hjm
       have := hne jq j oq q oj' qj hjqm hjm hne' hoq hjq hoj' hqj
       rw [hoj] at hoj'; cases hoj'
       have d2 := hdst j oj qj hjm hoj hqj
       rw [hja] at d2; cases d2
       exact this hqa
      subst ejq
      have hfa := hF jq q hDj hjm hjq
      have hnD : ∀ T2 : Gh -> Res, ∀ x,tt (swD sw i D) x T2 = T2 := fun T2 x => tt_ne fun _ _ _ hh => absurd hh hi
      unfold Fact at hfa
      simp only [hqT,hnD] at hfa
      rw [hqa] at hfa
      have hsw2 : swD (.own a T') i (fun k => k = i \/ D k) = .own a T' := by unfold swD; rw [if_pos (.inl rfl)]
      refine (hT (gh ρ g) ρ h w sx hfa.2.1).mono ?_
      rintro ρ' w' ⟨rfl,b,ob,p,hb,hpr,hfp⟩
      have hlb := hlab b jq (hfa.2.2 b hb)
      have sow : OwnB X.w0 (T (gh ρ' g a) :: B) h w := ⟨hfa.2.1,fun x hx => by
       have l := hlab x jq (hfa.2.2 x hx)
       exact ⟨l.2.2.1,fun _ => Nat.le_trans s.gr.ext.size l.1,l.2.1⟩,fun r' hr' x hx hx' => by
       have l := hlab x jq (hfa.2.2 x hx)
       have := (s.ow.foot r' hr' x hx').2.2
       omega,how⟩
      have s2 := own_put (r' := T' (gh ρ' g a)) (loc := []) (env := []) (ρ := ρ') (hnb _) ⟨hg.1,trivial,trivial,sow⟩ p hpr hb hfp
      rw [hsw2]
      refine ⟨h,lab,g,⟨s2.gr,hg.2.1,fun hne => by rw [p.size]; exact hg.2.2 hne⟩,s2.ow.2.2.2,fun x y hxy => ?_,fun j2 q2 hj2 hj2m hq2 => ?_,fun sl hs' => hold sl fun k o' hk hok' => hs' k o' (.inr hk) hok',fun _ _ _ _ e => by cases e⟩
      · have l := hlab x y hxy
        exact ⟨l.1,by rw [p.size]; exact l.2.1,l.2.2.1,.inr l.2.2.2.1,l.2.2.2.2⟩
      · have hj2D : D j2 := by rcases hj2 with rfl | x; · omega
                               · exact x
        have hf2 := hF j2 q2 hj2D hj2m hq2
        unfold Fact at hf2 ⊢
        cases hk : q2.2 with
        | p SS dd => simp only [hk] at hf2 ⊢; exact hf2
        | o S2 T2 =>
          simp only [hk,hnD] at hf2 ⊢
          by_cases hjj : j2 = jq
          · subst hjj
            rw [hjq] at hq2; cases hq2
            rw [hqT] at hk; cases hk
            rw [hqa] at hf2 ⊢
            simp only [tt,beq_self,cond_true]
            exact ⟨hf2.1,hpr,fun x hx => hf2.2.2 x (hfp x hx)⟩
          · obtain ⟨o2,q2',ho2,hq2',_⟩ := hres j2 hj2m
            rw [hq2] at hq2'; cases hq2'
            have hna := hne j2 jq o2 q2 oq q hj2m hjm hjj ho2 hq2 hoq hjq
            rw [hqa] at hna
            simp only [tt,beq_ne hna,cond_false]
            refine ⟨hf2.1,(T2 _).st (PH.le.refl h) (fun x hx => p.other x ?_) (fun x hx => (hlab x j2 (hf2.2.2 x hx)).2.2.1) hf2.2.1,hf2.2.2⟩
            rintro rfl
            have e1 := hf2.2.2 x hx
            rw [hfa.2.2 x hb] at e1
            exact hjj (by simpa using e1.symm)
   obtain ⟨o',q,ho',hq,hs⟩ := hres i him0
   rw [ho] at ho'; cases ho'
   rw [Nat.zero_add] at hs
   have hswD : swD sw m0 (fun k => k = i \/ D k) = swD sw m0 D := by
    unfold swD
    by_cases hh : D m0
    · rw [if_pos hh,if_pos (Or.inr hh)]
    · rw [if_neg hh,if_neg fun x => x.elim (fun e => by omega) hh]
   have hbB : ∀ v,late i = false -> bS (swD sw m0 D) v B = B := fun v hl => bS_ne fun x B2 hsw hD0 => by
    rw [hsw] at hfo
    obtain ⟨_,o',ho',hod,_,_,hlt,_⟩ := hfo
    rcases hlt i (by omega) with h | h
    · exact hi (reach_D hcl (by simpa using h) hD0)
    · rw [hl] at h; cases h
   have keep : ∀ j qj,D j -> j < m0 -> res[j]? = some qj -> qj.1 ≠ q.1 := fun j qj hj hjm hqj => by
    obtain ⟨oj,qj',hoj,hqj',_⟩ := hres j hjm
    exact hne j i oj qj o q hjm him0 (fun e => hi (e ▸ hj)) hoj hqj ho hq
   have inv : ∀ (v : Value) (g' : Nat -> List Value) j (SS : (Nat -> Gh) -> SV) (dd : List Nat),j < m0 -> (∀ x,x ≠ q.1 -> g' x = g x) -> (∀ ν ν',(∀ e ∈ dd, ν e = ν' e) -> SS ν = SS ν') -> dd.all (depOk ol j) = true -> (∀ o,ol[j]? = some o -> ∀ x ∈ deps o,D x) -> SS (gh (upd ρ q.1 v) g') = SS (gh ρ g) := fun v g' j SS dd hjm hgg a b c => by
    refine a _ _ fun e he => ?_
    obtain ⟨k,ok,hk,hok',hdk,hkj⟩ := dep_of (List.all_eq_true.1 b e he) c hcl
    suffices hne : e ≠ q.1 by unfold gh; rw [upd_ne _ _ hne,hgg e hne]
    intro ee
    have hkm : k < m0 := Nat.lt_trans hkj hjm
    obtain ⟨ok2,qk,hok2,hqk,_⟩ := hres k hkm
    rw [hok'] at hok2; cases hok2
    have := hdst k ok qk hkm hok' hqk
    rw [hdk] at this; cases this
    exact keep k qk hk hkm hqk ee
   have hbv : ∀ v,bS (swD sw m0 D) (swv sw (upd ρ q.1 v)) B = bS (swD sw m0 D) (swv sw ρ) B := fun v => by
    by_cases hD0 : D m0
    · have e : swD sw m0 D = sw := by unfold swD; rw [if_pos hD0]
      rw [e]
      cases hsw : sw with
      | no => rfl
      | own a T' => rfl
      | mem x B2 =>
        cases x with
        | none => rfl
        | some p =>
          have hfo2 := hfo
          rw [hsw] at hfo2
          obtain ⟨_,o2,ho2,hod2,_⟩ := hfo2
          have hod2 : o2.dst = some p.1 := hod2
          have hdq : p.1 ≠ q.1 := fun e => (F m0 o2 p.1 ho2 hod2).2.2 i o him0 ho (by rw [hs.1,e])
          show B2 (upd ρ q.1 v p.1) = B2 (ρ p.1)
          rw [upd_ne _ _ hdq]
    · have e : swD sw m0 D = .no := by unfold swD; rw [if_neg hD0]
      rw [e]; rfl
   have done : ∀ v h' w' lab' (g' : Nat -> List Value),(∀ x,x ≠ q.1 -> g' x = g x) -> Gr h w h' w' -> (∀ b j,lab b = some j -> lab' b = some j) -> (∀ b j,lab' b = some j -> w1.heap.size <= b /\ b < w'.heap.size /\ h' b = none /\ (j = i \/ D j) /\ j < m0) -> Fact (swD sw m0 D) i q (upd ρ q.1 v) g' h' lab' w' ->
    ∃ (h2 : PH) (lab2 : Nat -> Option Nat) (g2 : Nat -> List Value),(Gr X.h0 X.w0 h2 w' /\ h1.le h2 /\ (rscs res ≠ [] -> w1.heap.size <= w'.heap.size)) /\ OwnB X.w0 (bS (swD sw m0 (fun k => k = i \/ D k)) (swv sw (upd ρ q.1 v)) B) h2 w' /\ (∀ b j,lab2 b = some j -> w1.heap.size <= b /\ b < w'.heap.size /\ h2 b = none /\ (j = i \/ D j) /\ j < m0) /\ (∀ j qj,(j = i \/ D j) -> j < m0 -> res[j]? = some qj -> Fact (swD sw m0 (fun k => k = i \/ D k)) j qj (upd ρ q.1 v) g2 h2 lab2 w') /\ (∀ s,(∀ k o,(k = i \/ D k) -> ol[k]? = some o -> o.dst ≠ some s) -> upd ρ q.1 v s = ρ0 s) /\ ((m0 = i \/ D m0) -> ∀ d S B2,sw = .mem (some (d,S)) B2 -> den h2 (S (upd ρ q.1 v d)) (upd ρ q.1 v d)) := by
    intro v h' w' lab' g' hgg gr hl1 hl2 hfi
    rw [hswD]
    refine ⟨h',lab',g',⟨hg.1.trans gr,hg.2.1.trans gr.le,fun hne => Nat.le_trans (hg.2.2 hne) gr.ext.size⟩,(by rw [hbv]; exact how.grow gr),hl2,fun j qj hj hjm hqj => ?_,fun s hs' => ?_,fun hD0 d S B2 hsw => ?_⟩
    · rcases hj with rfl | hj
      · rw [hq] at hqj; cases hqj; exact hfi
      · have hf := hF j qj hj hjm hqj
        have hn := keep j qj hj hjm hqj
        obtain ⟨oj,qj',hoj,hqj',hsj⟩ := hres j hjm
        rw [hqj] at hqj'; cases hqj'
        unfold Fact at hf ⊢
        cases hk : qj.2 with
        | p SS dd =>
          simp only [hk] at hf ⊢
          unfold StepOk at hsj
          simp only [hk] at hsj
          rw [upd_ne _ _ hn,inv v g' j SS dd hjm hgg hsj.2.1 (by have := hsj.2.2.1; rwa [Nat.zero_add] at this) (fun o ho => hcl j o ho hj)]
          exact hf.mono gr.le
        | o S T =>
          simp only [hk] at hf ⊢
          have hgh : gh (upd ρ q.1 v) g' qj.1 = gh ρ g qj.1 := by unfold gh; rw [upd_ne _ _ hn,hgg _ hn]
          rw [upd_ne _ _ hn,hgh]
          exact ⟨hf.1.mono gr.le,(tt _ _ T _).st gr.le (fun b hb => gr.ext.block b (hlab b j (hf.2.2 b hb)).2.1) (fun b hb => gr.noneAt (hlab b j (hf.2.2 b hb)).2.1 (hlab b j (hf.2.2 b hb)).2.2.1) hf.2.1,fun b hb => hl1 b j (hf.2.2 b hb)⟩
    · rw [upd_ne _ _ (fun e => hs' i o (.inl rfl) ho (by rw [e]; exact hs.1))]
      exact hold s fun k o' hk hok' => hs' k o' (.inr hk) hok'
    · have hD0 := hD0.resolve_left (by omega)
      have hx0 := hxS hD0 d S B2 hsw
      have hfo2 := hfo
      rw [hsw] at hfo2
      obtain ⟨_,o2,ho2,hod2,_⟩ := hfo2
      have hod2 : o2.dst = some d := hod2
      have hdq : d ≠ q.1 := fun e => (F m0 o2 d ho2 hod2).2.2 i o him0 ho (by rw [hs.1,e])
      rw [upd_ne _ _ hdq]
      exact hx0.mono gr.le
   unfold StepOk at hs
   obtain ⟨hs1,hs2⟩ := hs
   cases hk : q.2 with
   | p SS dd =>
     simp only [hk] at hs2
     have hT : TriP P n X env (bS (swD sw m0 D) (swv sw ρ) B) ol (((res.take i).map (ent · (gh ρ g))).reverse ++ []) o q.1 (SS (gh ρ g)) := by
      cases hl : late i with
      | false => rw [hbB _ hl]; exact hs2.2.2.1 _
      | true => exact hs2.2.2.2 hl _ _
     refine (hT ρ h w sx).mono ?_
     rintro ρ' w' ⟨v,h',rfl,gr,hv⟩
     refine done v h' w' lab g (fun _ _ => rfl) gr (fun _ _ x => x) (fun b j x => ?_) ?_
     · have a := hlab b j x
       exact ⟨a.1,Nat.lt_of_lt_of_le a.2.1 gr.ext.size,gr.noneAt a.2.1 a.2.2.1,.inr a.2.2.2.1,a.2.2.2.2⟩
     · unfold Fact
       simp only [hk]
       rw [upd_at,inv v g i SS dd him0 (fun _ _ => rfl) hs2.1 hs2.2.1 (fun o' ho' j hj => by rw [ho] at ho'; cases ho'; exact hd j hj)]
       exact hv
   | o S T =>
     simp only [hk] at hs2
     rw [hbB _ hs2.2] at sx
     refine (hs2.1 (gh ρ g) ρ h w sx).mono ?_
     rintro ρ' w' ⟨v,gl,h',rfl,gr,h1c,hpr,hfp⟩
     classical
     have hgh : gh (upd ρ q.1 v) (fun x => if x = q.1 then gl else g x) q.1 = ⟨v,gl⟩ := by simp [gh,upd_at]
     refine done v h' w' (fun b => if (T ⟨v,gl⟩).fp b then some i else lab b) (fun x => if x = q.1 then gl else g x) (fun x hx => if_neg hx) gr (fun b j x => ?_) (fun b j x => ?_) ?_
     · have a := hlab b j x
       have : ¬ (T ⟨v,gl⟩).fp b := fun q => by have := (hfp b q).1; omega
       simp only [this,if_false]; exact x
     · by_cases hb : (T ⟨v,gl⟩).fp b
       · simp only [hb,if_true,Option.some.injEq] at x
         have a := hfp b hb
         exact ⟨Nat.le_trans (hg.2.2 (fun e => by
          have hm : (q.1,T) ∈ rscs res := List.mem_flatten.2 ⟨[(q.1,T)],List.mem_reverse.2 (List.mem_map.2 ⟨q,List.mem_of_getElem? hq,by unfold rsc; simp only [hk]⟩),List.mem_singleton.2 rfl⟩
          rw [e] at hm; cases hm)) a.1,a.2.1,a.2.2,.inl x.symm,x ▸ him0⟩
       · simp only [hb,if_false] at x
         have a := hlab b j x
         exact ⟨a.1,Nat.lt_of_lt_of_le a.2.1 gr.ext.size,gr.noneAt a.2.1 a.2.2.1,.inr a.2.2.2.1,a.2.2.2.2⟩
     · unfold Fact
       simp only [hk]
       have htt : tt (swD sw m0 D) q.1 T = T := tt_ne fun a T' hsw hD0 ha => by
        rw [hsw] at hfo
        obtain ⟨_,o',T2,ho',hod,hmT,hdep,_⟩ := hfo
        rw [Nat.zero_add] at hdep
        obtain ⟨j,oj,hDj,hoj,hja,hjm⟩ := dep_of hdep (fun o2 ho2 x hx => by rw [ho'] at ho2; cases ho2; exact hcl m0 o' ho' hD0 x hx) hcl
        obtain ⟨oj',qj,hoj',hqj,_⟩ := hres j hjm
        rw [hoj] at hoj'; cases hoj'
        have d2 := hdst j oj qj hjm hoj hqj
        rw [hja] at d2; cases d2
        exact keep j qj hDj hjm hqj ha.symm
       rw [htt,upd_at,hgh]
       exact ⟨h1c,hpr,fun b hb => by simp [hb]⟩)
  (by
   rintro D D' ρ w hDD ⟨h,lab,g,a,b,c,d,e,f⟩
   have : D = D' := funext fun k => propext (hDD k)
   subst this
   exact ⟨h,lab,g,a,b,c,d,e,f⟩)
  (by
   rintro D ρ w hall2 hD ⟨h,lab,gg,hg,how,hlab,hF,hold,hxS⟩
   have hswf : swD sw m0 D = sw := by
    unfold swD
    cases hsw : sw with
    | no => split <;> rfl
    | own a T' => rw [hsw] at hfo; rw [if_pos (hall2 m0 (by have := hfo.1; omega))]
    | mem x B2 => rw [hsw] at hfo; rw [if_pos (hall2 m0 (by have := hfo.1; omega))]
   rw [hswf] at how
   have hbS : rscs res ++ [] ≠ [] -> ∀ r ∈ bS sw (swv sw ρ) B, ∀ i,r.fp i -> i < w1.heap.size := fun hne r hr i hi => by
    cases hsw : sw with
    | no => rw [hsw] at hr; exact (s.ow.foot r hr i hi).2.2
    | own a T' => rw [hsw] at hr; exact (s.ow.foot r hr i hi).2.2
    | mem x B2 =>
      rw [hsw] at hr hfo
      obtain ⟨_,_,_,_,hxR,_,_,hff⟩ := hfo
      obtain ⟨r2,hr2,hi2⟩ := hff (hxR.resolve_right hne) _ r hr i hi
      exact (s.ow.foot r2 hr2 i hi2).2.2
   rw [hswf] at hF
   have hF := fun i q (hi : i < m0) (hq : res[i]? = some q) => hF i q (hall2 i (by omega)) hi hq
   have hds : ∀ (i : Nat) (d : Nat),(res.map (·.1))[i]? = some d -> ∃ o,ol[i]? = some o /\ o.dst = some d := fun i d e => by
    rw [List.getElem?_map] at e
    obtain ⟨q,hq,rfl⟩ := Option.map_eq_some_iff.1 e
    have hi : i < m0 := by rw [<- hm0]; exact (List.getElem?_eq_some_iff.1 hq).1
    obtain ⟨o,q',ho,hq',_⟩ := hres i hi
    exact ⟨o,ho,hdst i o q hi ho hq⟩
   have hok2 : okR (ol.drop m) ((xL sw (swv sw ρ)).map (·.1) ++ (res.map (·.1)).reverse) (env.map (·.1)) = true := by
    have h2 := okR_drop (res.map (·.1)) hok (by simp; omega) hds
    simp only [List.length_map,hm0,List.append_nil] at h2
    have key : ∀ o',ol[m0]? = some o' -> m = m0 + 1 -> ol.drop m0 = o' :: ol.drop m := fun o' ho' e1 => by
     have hl := (List.getElem?_eq_some_iff.1 ho').1
     rw [List.drop_eq_getElem_cons hl,(List.getElem?_eq_some_iff.1 ho').2,e1]
    cases hsw : sw with
    | no => rw [hsw] at hfo; simp only [FinOk] at hfo; rw [hfo]; exact h2
    | own a T' =>
      rw [hsw] at hfo
      obtain ⟨e1,o',T,ho',hod,_⟩ := hfo
      rw [key o' ho' e1] at h2
      exact okR_none hod h2
    | mem x B2 =>
      rw [hsw] at hfo
      obtain ⟨e1,o',ho',hod,_⟩ := hfo
      rw [key o' ho' e1] at h2
      cases x with
      | none => exact okR_none hod h2
      | some p => obtain ⟨d,S⟩ := p; exact (okR_some hod h2).2.2
   have hent : ∀ q,(ent q (gh ρ gg)).1 = q.1 := fun q => by unfold ent; split <;> rfl
   have hdom : ((xL sw (swv sw ρ) ++ ((res.map (ent · (gh ρ gg))).reverse ++ []) : EL)).map (fun p => p.1) = (xL sw (swv sw ρ)).map (fun p => p.1) ++ (res.map (fun p => p.1)).reverse := by
    rw [List.map_append,List.append_nil,List.map_reverse,List.map_map]; congr 2; exact List.map_congr_left fun q _ => hent q
   have hlo : ∀ l : List (Nat × Kd),(∀ q ∈ l,den h (ent q (gh ρ gg)).2 (ρ q.1)) -> EnvOk h ρ (l.map (ent · (gh ρ gg))) := fun l => by
    induction l with
    | nil => exact fun _ => trivial
    | cons q l ih => exact fun a => ⟨by show den h (ent q (gh ρ gg)).2 (ρ (ent q (gh ρ gg)).1); rw [hent]; exact a q (List.mem_cons_self ..),ih fun q hq => a q (List.mem_cons_of_mem _ hq)⟩
   have hlx : EnvOk h ρ (xL sw (swv sw ρ)) := by
    cases hsw : sw with
    | no => trivial
    | own a T' => trivial
    | mem x B2 =>
      cases x with
      | none => trivial
      | some p =>
        rw [hsw] at hfo
        exact ⟨hxS (hall2 m0 (by have := hfo.1; omega)) p.1 p.2 B2 hsw,trivial⟩
   have sy : Sy X.h0 X.w0 (xL sw (swv sw ρ) ++ ((res.map (ent · (gh ρ gg))).reverse ++ [])) env (rv (bS sw (swv sw ρ) B) ((rscs res ++ []).map (eR sw)) (gh ρ gg)) ρ h w := by
    refine ⟨hg.1, ?_, ?_, ?_⟩
    · refine hlx.app ?_
      rw [List.append_nil, <- List.map_reverse]
      refine hlo _ fun q hq => ?_
      obtain ⟨i,hi⟩ := List.getElem?_of_mem (List.mem_reverse.1 hq)
      have him : i < m0 := by rw [<- hm0]; exact (List.getElem?_eq_some_iff.1 hi).1
      have hf := hF i q him hi
      unfold Fact at hf
      unfold ent
      cases hk : q.2 with
      | p SS dd => simp only [hk] at hf ⊢; exact hf
      | o S T => simp only [hk] at hf ⊢; exact hf.1
    · refine (s.en.mono hg.2.1).ext fun p hp => ?_
      exact (hold p.1 fun k o' hk hok' => henv k o' (hD k hk) hok' p.1 p.2 hp).symm
    · have hft : ∀ i q S T,i < m0 -> res[i]? = some q -> q.2 = .o S T -> (tt sw q.1 T (gh ρ gg q.1)).pr h w /\ ∀ b,(tt sw q.1 T (gh ρ gg q.1)).fp b -> lab b = some i := fun i q S T hi hq hk => by
       have hf := hF i q hi hq
       unfold Fact at hf
       simp only [hk] at hf
       exact hf.2
      have hrs : ∀ r ∈ ((rscs res ++ []).map (eR sw)).map (fun p : Nat × (Gh -> Res) => p.2 (gh ρ gg p.1)), ∃ i q S T,i < m0 /\ res[i]? = some q /\ q.2 = .o S T /\ r = tt sw q.1 T (gh ρ gg q.1) := fun r hr => by
       obtain ⟨p,hp,rfl⟩ := List.mem_map.1 hr
       obtain ⟨p',hp',rfl⟩ := List.mem_map.1 hp
       obtain ⟨q,hq,hqa,Sq,hqT⟩ := hrsc p'.1 p'.2 hp'
       obtain ⟨i,hi⟩ := List.getElem?_of_mem hq
       exact ⟨i,q,Sq,p'.2,by rw [<- hm0]; exact (List.getElem?_eq_some_iff.1 hi).1,hi,hqT,by unfold eR; rw [hqa]⟩
      refine OwnB.add (fun r hr => ?_) ?_ (fun r hr r' hr' i hi hi' => ?_) how
      · obtain ⟨i,q,Sq,T,hi,hq,hk,rfl⟩ := hrs r hr
        have hf := hft i q Sq T hi hq hk
        exact ⟨hf.1,fun b hb => ⟨(hlab b i (hf.2 b hb)).2.2.1,fun _ => Nat.le_trans s.gr.ext.size (hlab b i (hf.2 b hb)).1,(hlab b i (hf.2 b hb)).2.1⟩⟩
      · have key : ∀ (l : List (Nat × Kd)) (off : Nat),(∀ j q,l[j]? = some q -> off + j < m0 /\ res[off + j]? = some q) -> (((rscs l).map (eR sw)).map (fun p : Nat × (Gh -> Res) => p.2 (gh ρ gg p.1))).Pairwise (fun r r' => ∀ i,r.fp i -> ¬ r'.fp i) := by
         intro l
         induction l with
         | nil => intro _ _; simp [rscs]
         | cons q l ih =>
           intro off hl
           have hcons : rscs (q :: l) = rscs l ++ rsc q := by simp [rscs]
           rw [hcons,List.map_append,List.map_append,List.pairwise_append]
           refine ⟨ih (off + 1) fun j q' hj => by rw [show off + 1 + j = off + (j + 1) by omega]; exact hl (j + 1) q' (by simpa using hj), ?_, ?_⟩
           · unfold rsc; cases q.2 <;> simp
           · intro r hr r' hr' b hb hb'
             obtain ⟨p,hp,rfl⟩ := List.mem_map.1 hr
             obtain ⟨p2,hp2,rfl⟩ := List.mem_map.1 hp
             obtain ⟨q2,hq2,hq2a,Sq2,hq2T⟩ := mem_rscs hp2
             obtain ⟨j,hj⟩ := List.getElem?_of_mem hq2
             have h1' := hl (j + 1) q2 (by simpa using hj)
             have h0' := hl 0 q rfl
             unfold rsc at hr'
             cases hk1 : q.2 with
             | p SS dd => simp only [hk1,List.map_nil] at hr'; cases hr'
             | o S1 T1 =>
               simp only [hk1,List.map_cons,List.map_nil] at hr'
               rw [List.mem_singleton.1 hr'] at hb'
               have e1 := (hft _ q2 Sq2 p2.2 h1'.1 h1'.2 hq2T).2 b (by rw [hq2a]; exact hb)
               have e2 := (hft _ q S1 T1 h0'.1 h0'.2 hk1).2 b hb'
               rw [e1] at e2; simp at e2
        have hk0 := key res 0 fun j q hj => ⟨by rw [Nat.zero_add, <- hm0]; exact (List.getElem?_eq_some_iff.1 hj).1,by rw [Nat.zero_add]; exact hj⟩
        rw [List.append_nil]; exact hk0
      · have hne : rscs res ++ [] ≠ [] := fun e => by rw [e] at hr; cases hr
        obtain ⟨j,q,Sq,T,hj,hq,hk,rfl⟩ := hrs r hr
        have hf := hft j q Sq T hj hq hk
        have := (hlab i j (hf.2 i hi)).1
        have := hbS hne r' hr' i hi'
        omega
   have hG := (hend (gh ρ gg) (swv sw ρ)).p (by rw [hdom]; exact hok2) ρ h w sy
   have := wpList_of_Ops (Q := onlyN fun ρ w => run X.c.round P X.T k .normal (mkX X.c n ρ) w) (fun _ _ h => h) (ol.drop m) ρ w hG
   rw [<- wpOps_eq_wpList (ol.drop m) m (by intro j; simp)] at this
   simpa using this)
  ol.toArray.size t (Array.replicate ol.toArray.size false) [] (by simp) (by intro i o ho hi; simp [Array.getElem?_replicate] at hi) (by intro i hi; simp [Array.getElem?_replicate] at hi)
  (by unfold left; exact Nat.le_trans (List.length_filter_le _ _) (by simp))
 rw [hl]
 simp only [List.reverse_nil,List.nil_append]
 refine hwp ρ0 w1 ⟨h1,fun _ => none,fun _ => [],⟨s.gr,PH.le.refl h1,fun _ => Nat.le_refl _⟩,by
  have : swD sw m0 (fun i => (Array.replicate ol.toArray.size false)[i]? = some true) = .no := by unfold swD; rw [if_neg (by simp [Array.getElem?_replicate])]
  rw [this]; exact s.ow,(fun b i e => by cases e),(fun i q hi => by simp [Array.getElem?_replicate] at hi),fun _ _ => rfl,fun hD0 => by simp [Array.getElem?_replicate] at hD0⟩⟩
end
end Go.E3
