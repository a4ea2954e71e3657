/- K37: a part of the proof about training through the decoder: how the program's functions run, and what they compute, for every input. -/
import Derived.Test.YtdciabokggfpbaaGreatK27
set_option linter.all false
namespace Go.E3
open Go Go.Ear
structure FrW where
 d : Nat
 S : Gh -> SV
 T : Gh -> Res
 T' : Gh -> Res
section
variable (P : Program) (n : Nat) (X : Fix) (ms : List Nat) (env : EL) (ol : List Oper) (B : List Res) (k : Kt) (p a s m : Nat) (wo : Option MidW) (fr : FrW)
def EvOk (L : EL) (i : Nat) (o : Oper) : Option (Nat × SV) -> Prop
 | some q => (i ≠ p /\ i ≠ a /\ i ≠ s) /\ o.dst = some q.1 /\ ((TriP P n X env B ol L o q.1 q.2 /\ ∀ w,wo = some w -> p < i -> ∀ v,TriP P n X env (w.B2 v) ol L o q.1 q.2) \/
  ∃ w,wo = some w /\ reach ol 9 i p = true /\ ∀ v,TriP P n X env (w.B2 v) ol ((w.d,w.S v) :: L) o q.1 q.2)
 | none => (i = p /\ i ≠ a /\ i ≠ s /\ ∃ w,wo = some w /\ o.dst = some w.d /\ TriV P n X env B ol L o (some (w.d,w.S)) w.B2 /\ ∀ γ,TriV P n X env (fr.T γ :: B) ol L o (some (w.d,w.S)) (fun v => fr.T γ :: w.B2 v)) \/
   (i = a /\ i ≠ p /\ i ≠ s /\ o.dst = some fr.d /\ TriN P n X env B ol L o fr.d fr.S fr.T /\ ∀ w,wo = some w -> p < i -> ∀ v,TriN P n X env (w.B2 v) ol L o fr.d fr.S fr.T) \/
   (i = s /\ i ≠ p /\ i ≠ a /\ o.dst = none /\ (∀ γ,(fr.T γ).bor = false) /\ (∀ γ,TriS P n X env B ol ((fr.d,fr.S γ) :: L) o γ fr.T fr.T') /\ ∀ w,wo = some w -> p < i -> ∀ v γ,TriS P n X env (w.B2 v) ol ((fr.d,fr.S γ) :: L) o γ fr.T fr.T')
def GZEnd (L : EL) (rest : List Oper) : Prop := match wo with
 | none => ∀ γ,GO P n X ms ((fr.d,fr.S γ) :: L) env (fr.T' γ :: B) ol rest k
 | some w => ∀ γ v,GO P n X ms ((fr.d,fr.S γ) :: (w.d,w.S v) :: L) env (fr.T' γ :: w.B2 v) ol rest k
inductive GZ : EL -> Nat -> List Oper -> Prop
 | pure {L i o rest} (q : Nat × SV) (h : EvOk P n X env ol B p a s wo fr L i o (some q)) (g : GZ (q :: L) (i + 1) rest) : GZ L i (o :: rest)
 | ev {L i o rest} (h : EvOk P n X env ol B p a s wo fr L i o none) (g : GZ L (i + 1) rest) : GZ L i (o :: rest)
 | fin {L rest} (g : GZEnd P n X ms env ol B k wo fr L rest) : GZ L m rest
end
section
variable {P : Program} {n : Nat} {X : Fix} {ms : List Nat} {env : EL} {ol : List Oper} {B : List Res} {k : Kt} {p a s m : Nat} {wo : Option MidW} {fr : FrW}
theorem GZ.sem {L : EL} {i : Nat} {rest : List Oper} (g : GZ P n X ms env ol B k p a s m wo fr L i rest) :
 ∃ res : List (Option (Nat × SV)),i + res.length = m /\ res.length <= rest.length /\ (∀ j e,res[j]? = some e -> ∃ o,rest[j]? = some o /\ EvOk P n X env ol B p a s wo fr (lcs (res.take j) ++ L) (i + j) o e) /\ GZEnd P n X ms env ol B k wo fr (lcs res ++ L) (rest.drop res.length) := by
 induction g with
 | @pure L i o rest q h g ih =>
   obtain ⟨res,e,hle,hr,hg⟩ := ih
   refine ⟨some q :: res,by simp only [List.length_cons]; omega,by simp only [List.length_cons]; omega,fun j e hj => ?_,by rw [lcs_some]; simpa using hg⟩
   cases j with
   | zero => have hj : some q = e := by simpa using hj
             subst hj
             exact ⟨o,rfl,by simpa [lcs] using h⟩
   | succ j =>
     obtain ⟨o',x,y⟩ := hr j e (by simpa using hj)
     refine ⟨o',by simpa using x, ?_⟩
     rw [List.take_succ_cons,lcs_some,show i + (j + 1) = i + 1 + j by omega]; exact y
 | @ev L i o rest h g ih =>
   obtain ⟨res,e,hle,hr,hg⟩ := ih
   refine ⟨none :: res,by simp only [List.length_cons]; omega,by simp only [List.length_cons]; omega,fun j e hj => ?_,by rw [lcs_none]; simpa using hg⟩
   cases j with
   | zero => have hj : none = e := by simpa using hj
             subst hj
             exact ⟨o,rfl,by simpa [lcs] using h⟩
   | succ j =>
     obtain ⟨o',x,y⟩ := hr j e (by simpa using hj)
     refine ⟨o',by simpa using x, ?_⟩
     rw [List.take_succ_cons,lcs_none,show i + (j + 1) = i + 1 + j by omega]; exact y
 | @fin L rest g => exact ⟨[],by simp,by simp,fun j e hj => by simp at hj,by simpa [lcs] using g⟩
theorem reach_of_deps {ol : List Oper} {D : Nat -> Prop} {i j f : Nat} {o : Oper} (hc : ∀ (k : Nat) (o : Oper),ol[k]? = some o -> D k -> ∀ j ∈ deps o,D j) (ho : ol[i]? = some o) (hd : ∀ j ∈ deps o,D j) (h : reach ol (f + 1) i j = true) : D j := by
 unfold reach at h
 obtain ⟨k,hk,hkj⟩ := List.any_eq_true.1 h
 rw [opA_eq ho] at hk
 rcases Bool.or_eq_true_iff.1 hkj with e | e
 · rw [<- Nat.eq_of_beq_eq_true e]; exact hd k hk
 · exact reach_D hc e (hd k hk)
theorem okR_tl : ∀ {l : List Oper} {L E ex : List Nat} {m : Nat},okR l L E = true -> (∀ e ∈ ex,e ∈ L \/ ∃ (j : Nat) (o : Oper),j < m /\ l[j]? = some o /\ o.dst = some e) -> okR (l.drop m) ex E = true
 | l,L,E,ex,0,h,hex => okR_swap (fun e he => by
  rw [<- Bool.not_eq_true,memN_iff] at he ⊢
  intro hm
  rcases hex e hm with x | ⟨j,_,hj,_⟩
  · exact he x
  · omega) (fun _ _ x => x) h
 | [],_,_,_,_ + 1,_,_ => rfl
 | x :: l,L,E,ex,m + 1,h,hex => by
   rw [List.drop_succ_cons]
   cases hd : x.dst with
   | none =>
     refine okR_tl (L := L) (by unfold okR at h; rw [hd] at h; exact h) fun e he => ?_
     rcases hex e he with y | ⟨j,o,hj,hjo,hod⟩
     · exact .inl y
     · cases j with
       | zero => simp at hjo; subst hjo; rw [hd] at hod; cases hod
       | succ j => exact .inr ⟨j,o,by omega,by simpa using hjo,hod⟩
   | some d =>
     refine okR_tl (L := d :: L) (okR_some hd h).2.2 fun e he => ?_
     rcases hex e he with y | ⟨j,o,hj,hjo,hod⟩
     · exact .inl (List.mem_cons_of_mem _ y)
     · cases j with
       | zero => simp at hjo; subst hjo; rw [hd] at hod; cases hod; exact .inl (List.mem_cons_self ..)
       | succ j => exact .inr ⟨j,o,by omega,by simpa using hjo,hod⟩
theorem okR_tail {l : List Oper} {E ex : List Nat} {m : Nat} (h : okR l [] E = true) (hex : ∀ e ∈ ex, ∃ j o,j < m /\ l[j]? = some o /\ o.dst = some e) : okR (l.drop m) ex E = true :=
 okR_tl h fun e he => .inr (hex e he)
open Classical in
noncomputable def bW (wo : Option MidW) (p : Nat) (B : List Res) (D : Nat -> Prop) (ρ : Env) : List Res := match wo with
 | some w => if D p then w.B2 (ρ w.d) else B
 | none => B
open Classical in
noncomputable def bF (fr : FrW) (a s : Nat) (D : Nat -> Prop) (γ : Gh) : List Res := if D a then (if D s then [fr.T' γ] else [fr.T γ]) else []
theorem zdrop {w0 : World} {h : PH} {w : World} {D : Nat -> Prop} {γ : Gh} {Bx : List Res} (o : OwnB w0 (bF fr a s D γ ++ Bx) h w) : OwnB w0 Bx h w := by
 unfold bF at o
 split at o
 · split at o <;> exact o.2.2.2
 · exact o
theorem fs_sound {loc : EL} {idn : Nat} (hmix : P.follows .mixedOrders = true) (hc : dagC ol m (env.map (·.1)) = true) (hnd : ol.all noDefer = true) (ham : a < m) (hsm : s < m) (hpm : ∀ w,wo = some w -> p < m)
 (hpre : ∀ w,wo = some w -> (List.range p).all (reach ol 9 p) = true) (hsa : reach ol 9 s a = true) (hsp : ∀ w,wo = some w -> reach ol 9 s p = true) (g : GZ P n X ms env ol B k p a s m wo fr [] 0 ol) : GW P n X ms loc env B (.region idn ol.toArray true) k := ⟨fun ρ0 h1 wi si => by
 obtain ⟨res,hm0,hlen,hr,hend⟩ := g.sem
 rw [Nat.zero_add] at hm0
 have hr : ∀ j e,res[j]? = some e -> ∃ o,ol[j]? = some o /\ EvOk P n X env ol B p a s wo fr (lcs (res.take j) ++ []) j o e := fun j e hj => by have := hr j e hj; rwa [Nat.zero_add] at this
 unfold dagC at hc
 simp only [Bool.and_eq_true] at hc
 obtain ⟨⟨hok,hall⟩,htl⟩ := hc
 have hall := fun i (hi : i < m) => by have := List.all_eq_true.1 hall i (List.mem_range.2 hi); rw [Bool.and_eq_true,Bool.not_eq_true'] at this; exact this
 have htl := fun i (o : Oper) (ho : ol[i]? = some o) => by
  have := List.all_eq_true.1 htl i (List.mem_range.2 (List.getElem?_eq_some_iff.1 ho).1)
  rw [Bool.and_eq_true,opA_eq ho] at this; exact this
 have F := okR_facts hok
 have hpre := fun w (hw : wo = some w) i (hi : i < p) => List.all_eq_true.1 (hpre w hw) i (List.mem_range.2 hi)
 have hat : ∀ i,i < m -> ∃ e,res[i]? = some e := fun i hi => ⟨_,List.getElem?_eq_getElem (by omega)⟩
 have hA : ∃ o,ol[a]? = some o /\ o.dst = some fr.d := by
  obtain ⟨e,he⟩ := hat a ham
  obtain ⟨o,ho,ev⟩ := hr a e he
  cases e with
  | some q => exact absurd rfl ev.1.2.1
  | none =>
    rcases ev with ⟨_,h,_⟩ | ⟨_,_,_,h,_⟩ | ⟨_,_,h,_⟩
    · exact absurd rfl h
    · exact ⟨o,ho,h⟩
    · exact absurd rfl h
 obtain ⟨oa,hoa,hda⟩ := hA
 have hP : ∀ w,wo = some w -> ∃ o,ol[p]? = some o /\ o.dst = some w.d := fun w hw => by
  obtain ⟨e,he⟩ := hat p (hpm w hw)
  obtain ⟨o,ho,ev⟩ := hr p e he
  cases e with
  | some q => exact absurd rfl ev.1.1
  | none =>
    rcases ev with ⟨_,_,_,w',h1,h2,_⟩ | ⟨_,h,_⟩ | ⟨_,h,_⟩
    · rw [hw] at h1; cases h1; exact ⟨o,ho,h2⟩
    · exact absurd rfl h
    · exact absurd rfl h
 have hne : ∀ (i j : Nat) (o o' : Oper) (d : Nat),i ≠ j -> ol[i]? = some o -> ol[j]? = some o' -> o.dst = some d -> o'.dst ≠ some d := fun i j o o' d hij ho ho' hd hd' => by
  rcases Nat.lt_or_ge i j with a | a
  · exact (F j o' d ho' hd').2.2 i o a ho hd
  · exact (F i o d ho hd).2.2 j o' (by omega) ho' hd'
 have henv : ∀ i o,i < m -> ol[i]? = some o -> ∀ t S,(t,S) ∈ env -> o.dst ≠ some t := fun i o hi ho t S ht e => by
  have a := hall i hi
  rw [opA_eq ho,e] at a
  have := a.1
  simp only at this
  rw [<- Bool.not_eq_true,memN_iff] at this
  exact this (List.mem_map.2 ⟨_,ht,rfl⟩)
 refine WT.draw (K := fun ρ w => run X.c.round P X.T k .normal (mkX X.c n ρ) w) hnd ?_ fun _ _ x => x
 intro t
 unfold Region.schedule Region.linearise
 rw [hmix]
 simp only [Bool.true_or,if_true]
 generalize hw1 : ({ wi with drawn := _ } : World) = w1
 have sy0 : Sy X.h0 X.w0 loc env B ρ0 h1 w1 := by
  subst hw1
  exact si.grow ((Gr.refl si.gr.sat).drew _ (Nat.le_succ _))
 obtain ⟨ls,hl,hwp⟩ := lin_inv (P := P) (n := n) (m := m) (ops := ol.toArray) (Q := onlyN fun ρ w => run X.c.round P X.T k .normal (mkX X.c n ρ) w) (fun D ρ w => ∃ (h : PH) (γ : Gh),(Gr X.h0 X.w0 h w /\ h1.le h) /\ OwnB X.w0 (bF fr a s D γ ++ bW wo p B D ρ) h w /\
  (∀ i q,D i -> res[i]? = some (some q) -> den h q.2 (ρ q.1)) /\ (∀ s,(∀ k o,D k -> ol[k]? = some o -> o.dst ≠ some s) -> ρ s = ρ0 s) /\ (D p -> ∀ w,wo = some w -> den h (w.S (ρ w.d)) (ρ w.d)) /\ (D a -> den h (fr.S γ) (ρ fr.d))) (by simpa [<- hm0] using hlen)
  (fun i o ho j hj => by
   have := List.all_eq_true.1 (htl i o (by simpa using ho)).1 j hj
   rw [blt_eq] at this; exact of_decide_eq_true this)
  (fun i o ho hmi j hj => by
   have ho : ol[i]? = some o := by simpa using ho
   have := (htl i o ho).2
   rw [Nat.ble_eq_true_of_le hmi] at this
   have := List.all_eq_true.1 this j (List.mem_range.2 hj)
   obtain ⟨x,hx,hxx⟩ := List.any_eq_true.1 this
   have hx := List.mem_range.1 hx
   have hsz := (List.getElem?_eq_some_iff.1 ho).1
   have ho' : ol[i - x]? = some (ol[i - x]'(by omega)) := List.getElem?_eq_getElem (by omega)
   rw [opA_eq ho'] at hxx
   exact ⟨i - x,ol[i - x]'(by omega),by omega,by omega,by rw [List.getElem?_toArray]; exact ho',by simpa using hxx⟩)
  (by
   rintro D ρ w i o ho him hi hd hcl hD ⟨h, γ,hg,how,hF,hold,hxS,hxA⟩
   have ho : ol[i]? = some o := by simpa using ho
   have hcl : ∀ (k : Nat) (o : Oper),ol[k]? = some o -> D k -> ∀ j ∈ deps o,D j := fun k o hk => hcl k o (by simpa using hk)
   have hnp : ∀ w,wo = some w -> i < p -> ¬ D p := fun w hw hlt hDp => hi (reach_D hcl (hpre w hw i hlt) hDp)
   have hsa' : D s -> D a := fun h => reach_D hcl hsa h
   have hsp' : ∀ w,wo = some w -> D s -> D p := fun w hw h => reach_D hcl (hsp w hw) h
   have howB : OwnB X.w0 (bW wo p B D ρ) h w := zdrop how
   have fx0 : ∀ x ∈ looks ol o, ∀ t S,x = .tmp t -> ((t,S) ∈ lcs (res.take i) ++ [] \/ (t,S) ∈ env) -> den h S (ρ t) := fun x hx t S hxt hmem => by
    subst hxt
    rcases hmem with hmem | hmem
    · rw [List.append_nil,List.mem_reverse,List.mem_filterMap] at hmem
      obtain ⟨qo,hqm,hent⟩ := hmem
      have hent : qo = some (t,S) := hent
      subst hent
      obtain ⟨j,hj⟩ := List.getElem?_of_mem hqm
      have hji : j < i := by
       rcases Nat.lt_or_ge j i with a | a
       · exact a
       · rw [List.getElem?_eq_none (by simp; omega)] at hj; cases hj
      rw [List.getElem?_take,if_pos hji] at hj
      obtain ⟨oj,hoj,_,hsj,_⟩ := hr j _ hj
      have hr2 := (hall i him).2
      unfold rdOk at hr2
      rw [opA_eq ho] at hr2
      have h2 := List.all_eq_true.1 hr2 _ hx
      simp only at h2
      have h3 := List.all_eq_true.1 h2 j (List.mem_range.2 hji)
      rw [opA_eq hoj,hsj] at h3
      simp only [beq_self,Bool.not_true,Bool.false_or] at h3
      exact hF j _ (hd j (by simpa using h3)) hj
    · rw [hold t fun k o' hk hok' => henv k o' (hD k hk) hok' t S hmem]
      exact (sy0.en.mem hmem).mono hg.2
   have sx : Sx X.h0 X.w0 (lcs (res.take i) ++ []) env (bW wo p B D ρ) (looks ol o) ρ h w := ⟨hg.1,fx0,howB⟩
   obtain ⟨e,he⟩ := hat i him
   obtain ⟨o',ho',ev⟩ := hr i e he
   rw [ho] at ho'; cases ho'
   have hbw : ∀ (d : Nat) (v : Value),i ≠ p -> (∀ w,wo = some w -> w.d ≠ d) -> bW wo p B (fun k => k = i \/ D k) (upd ρ d v) = bW wo p B D ρ := fun d v hip hd => by
    unfold bW
    cases hw : wo with
    | none => rfl
    | some w =>
      have hq := hd w hw
      simp only
      by_cases hDp : D p
      · rw [if_pos (.inr hDp),if_pos hDp,upd_ne _ _ hq]
      · rw [if_neg (fun x => x.elim (fun e => hip e.symm) hDp),if_neg hDp]
   have hbw0 : i ≠ p -> bW wo p B (fun k => k = i \/ D k) ρ = bW wo p B D ρ := fun hip => by
    unfold bW
    cases hw : wo with
    | none => rfl
    | some w =>
      simp only
      by_cases hDp : D p
      · rw [if_pos (.inr hDp),if_pos hDp]
      · rw [if_neg (fun x => x.elim (fun e => hip e.symm) hDp),if_neg hDp]
   have hbf : i ≠ a -> i ≠ s -> bF fr a s (fun k => k = i \/ D k) γ = bF fr a s D γ := fun hia his => by
    unfold bF
    by_cases hDa : D a
    · rw [if_pos (.inr hDa),if_pos hDa]
      by_cases hDs : D s
      · rw [if_pos (.inr hDs),if_pos hDs]
      · rw [if_neg (fun x => x.elim (fun e => his e.symm) hDs),if_neg hDs]
    · rw [if_neg (fun x => x.elim (fun e => hia e.symm) hDa),if_neg hDa]
   have hwd : ∀ (d : Nat),i ≠ p -> o.dst = some d -> ∀ w,wo = some w -> w.d ≠ d := fun d hip hod w hw e => by
    obtain ⟨op,hop,hod2⟩ := hP w hw
    exact hne i p o op d hip ho hop hod (by rw [hod2,e])
   have hrs : ∀ (d : Nat) (v : Value) (h' : PH),h.le h' -> o.dst = some d -> (∀ j q,D j -> res[j]? = some (some q) -> den h' q.2 (upd ρ d v q.1)) /\ (∀ sl,(∀ k o',(k = i \/ D k) -> ol[k]? = some o' -> o'.dst ≠ some sl) -> upd ρ d v sl = ρ0 sl) := fun d v h' hle hod => by
    refine ⟨fun j q hDj hq => ?_,fun sl hs' => ?_⟩
    · have hji : i ≠ j := fun e => hi (e ▸ hDj)
      obtain ⟨oj,hoj,_,hsj,_⟩ := hr j _ hq
      rw [upd_ne _ _ fun e => hne i j o oj d hji ho hoj hod (by rw [hsj,e])]
      exact (hF j q hDj hq).mono hle
    · rw [upd_ne _ _ fun e => hs' i o (.inl rfl) ho (by rw [e]; exact hod)]
      exact hold sl fun k o' hk hok' => hs' k o' (.inr hk) hok'
   have hda' : ∀ (d : Nat),i ≠ a -> o.dst = some d -> fr.d ≠ d := fun d hia hod e => hne i a o oa d hia ho hoa hod (by rw [hda,e])
   cases e with
   | some q =>
     obtain ⟨⟨hip,hia,his⟩,hdq,hTq⟩ := ev
     have hTT : OpG P n ol.toArray o ρ w fun ρ' w' => ∃ v h', ρ' = upd ρ q.1 v /\ Gr h w h' w' /\ den h' q.2 v := by
      rcases hTq with ⟨hT1,hT2⟩ | ⟨wv,hwo,hrp,hT2⟩
      · have hTT : TriP P n X env (bW wo p B D ρ) ol (lcs (res.take i) ++ []) o q.1 q.2 := by
         unfold bW
         cases hw : wo with
         | none => exact hT1
         | some w =>
           simp only
           split
           · rename_i hDp
             exact hT2 w hw (by
              rcases Nat.lt_trichotomy i p with x | x | x
              · exact absurd hDp (hnp w hw x)
              · exact absurd x hip
              · exact x) _
           · exact hT1
        exact hTT ρ h w sx
      · have hDp : D p := reach_of_deps hcl ho hd hrp
        have hbw1 : bW wo p B D ρ = wv.B2 (ρ wv.d) := by unfold bW; rw [hwo]; exact if_pos hDp
        rw [hbw1] at sx
        refine hT2 (ρ wv.d) ρ h w ⟨sx.gr,fun x hx t S hxt hmem => ?_,sx.ow⟩
        rcases hmem with hmem | hmem
        · rcases List.mem_cons.1 hmem with e | hmem
          · cases e; exact hxS hDp wv hwo
          · exact fx0 x hx t S hxt (.inl hmem)
        · exact fx0 x hx t S hxt (.inr hmem)
     refine hTT.mono ?_
     rintro ρ' w' ⟨v,h',rfl,gr,hv⟩
     obtain ⟨r1,r2⟩ := hrs q.1 v h' gr.le hdq
     refine ⟨h', γ,⟨hg.1.trans gr,hg.2.trans gr.le⟩,(by rw [hbw q.1 v hip (hwd q.1 hip hdq),hbf hia his]; exact how.grow gr),fun j q' hj hq' => ?_,r2,fun hDp w hw => ?_,fun hDa => ?_⟩
     · by_cases hji : j = i
       · subst hji; rw [he] at hq'; cases hq'; rw [upd_at]; exact hv
       · exact r1 j q' (hj.resolve_left hji) hq'
     · rw [upd_ne _ _ (hwd q.1 hip hdq w hw)]
       exact (hxS (hDp.resolve_left fun e => hip e.symm) w hw).mono gr.le
     · rw [upd_ne _ _ (hda' q.1 hia hdq)]
       exact (hxA (hDa.resolve_left fun e => hia e.symm)).mono gr.le
   | none =>
     rcases ev with ⟨rfl,hia,his,wv,hwo,hdq,hT1,hT2⟩ | ⟨rfl,hip,his,hdq,hT1,hT2⟩ | ⟨rfl,hip,hia,hdq,hnb,hT1,hT2⟩
     · -- the write
       have hDs : ¬ D s := fun x => hi (hsp' wv hwo x)
       have hbw1 : bW wo i B D ρ = B := by unfold bW; rw [hwo]; exact if_neg hi
       have hbw2 : ∀ v,bW wo i B (fun k => k = i \/ D k) (upd ρ wv.d v) = wv.B2 v := fun v => by unfold bW; rw [hwo]; simp only; rw [if_pos (Or.inl rfl),upd_at]
       rw [hbw1] at how sx
       have fin : ∀ (v : Value) (h' : PH) (w' : World),Gr X.h0 X.w0 h' w' -> h.le h' -> den h' (wv.S v) v -> OwnB X.w0 (bF fr a s D γ ++ wv.B2 v) h' w' -> ∃ (h' : PH) (γ : Gh),(Gr X.h0 X.w0 h' w' /\ h1.le h') /\ OwnB X.w0 (bF fr a s (fun k => k = i \/ D k) γ ++ bW wo i B (fun k => k = i \/ D k) (upd ρ wv.d v)) h' w' /\
        (∀ j q,(j = i \/ D j) -> res[j]? = some (some q) -> den h' q.2 (upd ρ wv.d v q.1)) /\ (∀ s,(∀ k o,(k = i \/ D k) -> ol[k]? = some o -> o.dst ≠ some s) -> upd ρ wv.d v s = ρ0 s) /\ ((i = i \/ D i) -> ∀ w,wo = some w -> den h' (w.S (upd ρ wv.d v w.d)) (upd ρ wv.d v w.d)) /\ ((a = i \/ D a) -> den h' (fr.S γ) (upd ρ wv.d v fr.d)) := fun v h' w' hgr hle hv hob => by
        obtain ⟨r1,r2⟩ := hrs wv.d v h' hle hdq
        refine ⟨h', γ,⟨hgr,hg.2.trans hle⟩,(by rw [hbw2,hbf hia his]; exact hob),fun j q hj hq => ?_,r2,fun _ w hw => ?_,fun hDa => ?_⟩
        · have hji : j ≠ i := fun e => by rw [e,he] at hq; cases hq
          exact r1 j q (hj.resolve_left hji) hq
        · rw [hwo] at hw; cases hw; rw [upd_at]; exact hv
        · rw [upd_ne _ _ (hda' wv.d hia hdq)]
          exact (hxA (hDa.resolve_left fun e => hia e.symm)).mono hle
       by_cases hDa : D a
       · have hb : bF fr a s D γ = [fr.T γ] := by unfold bF; rw [if_pos hDa,if_neg hDs]
         rw [hb] at how fin
         refine (hT2 γ ρ h w ⟨hg.1,sx.fx,how⟩).mono ?_
         rintro ρ' w' ⟨v,h',⟨rfl,hv⟩,hgr,hle,_,_,hob⟩
         exact fin v h' w' hgr hle hv hob
       · have hb : bF fr a s D γ = [] := by unfold bF; rw [if_neg hDa]
         rw [hb] at how fin
         refine (hT1 ρ h w ⟨hg.1,sx.fx,how⟩).mono ?_
         rintro ρ' w' ⟨v,h',⟨rfl,hv⟩,hgr,hle,_,_,hob⟩
         exact fin v h' w' hgr hle hv hob
     · -- the variable is made
       have hDs : ¬ D s := fun x => hi (hsa' x)
       have hb : bF fr i s D γ = [] := by unfold bF; rw [if_neg hi]
       rw [hb] at how
       have hTT : TriN P n X env (bW wo p B D ρ) ol (lcs (res.take i) ++ []) o fr.d fr.S fr.T := by
        unfold bW
        cases hw : wo with
        | none => exact hT1
        | some w =>
          simp only
          split
          · rename_i hDp
            exact hT2 w hw (by
             rcases Nat.lt_trichotomy i p with x | x | x
             · exact absurd hDp (hnp w hw x)
             · exact absurd x hip
             · exact x) _
          · exact hT1
       refine (hTT ρ h w sx).mono ?_
       rintro ρ' w' ⟨v,gl,h',rfl,gr,hv,hpr,hfp⟩
       obtain ⟨r1,r2⟩ := hrs fr.d v h' gr.le hdq
       have hb2 : bF fr i s (fun k => k = i \/ D k) ⟨v,gl⟩ = [fr.T ⟨v,gl⟩] := by
        unfold bF; rw [if_pos (Or.inl rfl),if_neg (fun x => x.elim (fun e => his e.symm) hDs)]
       refine ⟨h',⟨v,gl⟩,⟨hg.1.trans gr,hg.2.trans gr.le⟩,(by rw [hbw fr.d v hip (hwd fr.d hip hdq),hb2]; exact OwnB.new how gr hg.1.ext.size hpr hfp),fun j q hj hq => ?_,r2,fun hDp w hw => ?_,fun _ => ?_⟩
       · have hji : j ≠ i := fun e => by rw [e,he] at hq; cases hq
         exact r1 j q (hj.resolve_left hji) hq
       · rw [upd_ne _ _ (hwd fr.d hip hdq w hw)]
         exact (hxS (hDp.resolve_left fun e => hip e.symm) w hw).mono gr.le
       · rw [upd_at]; exact hv
     · -- it is filled
       have hDa : D a := reach_of_deps hcl ho hd hsa
       have hb : bF fr a i D γ = [fr.T γ] := by unfold bF; rw [if_pos hDa,if_neg hi]
       rw [hb] at how
       have sx2 : Sx X.h0 X.w0 ((fr.d,fr.S γ) :: (lcs (res.take i) ++ [])) env (bW wo p B D ρ) (looks ol o) ρ h w := ⟨hg.1,fun x hx t S hxt hmem => by
        rcases hmem with hmem | hmem
        · rcases List.mem_cons.1 hmem with e | hmem
          · cases e; exact hxA hDa
          · exact fx0 x hx t S hxt (.inl hmem)
        · exact fx0 x hx t S hxt (.inr hmem),howB⟩
       have hTT : TriS P n X env (bW wo p B D ρ) ol ((fr.d,fr.S γ) :: (lcs (res.take i) ++ [])) o γ fr.T fr.T' := by
        unfold bW
        cases hw : wo with
        | none => exact hT1 γ
        | some w =>
          simp only
          split
          · rename_i hDp
            exact hT2 w hw (by
             rcases Nat.lt_trichotomy i p with x | x | x
             · exact absurd hDp (hnp w hw x)
             · exact absurd x hip
             · exact x) _ γ
          · exact hT1 γ
       refine (hTT ρ h w sx2 how.1).mono ?_
       rintro ρ' w' ⟨rfl,b,ob,pt,hb1,hpr,hfp⟩
       have s2 := own_put (r' := fr.T' γ) (loc := []) (env := []) (ρ := ρ') (hnb γ) ⟨hg.1,trivial,trivial,how⟩ pt hpr hb1 hfp
       have hb2 : bF fr a i (fun k => k = i \/ D k) γ = [fr.T' γ] := by
        unfold bF; rw [if_pos (Or.inr hDa),if_pos (Or.inl rfl)]
       refine ⟨h, γ,⟨s2.gr,hg.2⟩,(by rw [hbw0 hip,hb2]; exact s2.ow),fun j q hj hq => ?_,fun sl hs' => hold sl fun k o' hk hok' => hs' k o' (.inr hk) hok',fun hDp w hw => hxS (hDp.resolve_left fun e => hip e.symm) w hw,fun _ => hxA hDa⟩
       have hji : j ≠ i := fun e => by rw [e,he] at hq; cases hq
       exact hF j q (hj.resolve_left hji) hq)
  (by
   rintro D D' ρ w hDD ⟨h, γ,a,b,c,d,e⟩
   have : D = D' := funext fun k => propext (hDD k)
   subst this
   exact ⟨h, γ,a,b,c,d,e⟩)
  (by
   rintro D ρ w hall2 hD ⟨h, γ,hg,how,hF,hold,hxS,hxA⟩
   have hDa := hall2 a ham
   have hDs := hall2 s hsm
   have hb : bF fr a s D γ = [fr.T' γ] := by unfold bF; rw [if_pos hDa,if_pos hDs]
   rw [hb] at how
   have hlo : ∀ l : List (Option (Nat × SV)),(∀ q,some q ∈ l -> den h q.2 (ρ q.1)) -> EnvOk h ρ (l.filterMap id) := fun l => by
    induction l with
    | nil => exact fun _ => trivial
    | cons q l ih =>
      cases q with
      | none => exact fun a => by simpa using ih fun q hq => a q (List.mem_cons_of_mem _ hq)
      | some q =>
        intro a
        show EnvOk h ρ (q :: l.filterMap id)
        exact ⟨a q (List.mem_cons_self ..),ih fun q hq => a q (List.mem_cons_of_mem _ hq)⟩
   have hloc : EnvOk h ρ (lcs res ++ []) := by
    rw [List.append_nil]
    have : lcs res = (res.reverse.filterMap id) := by rw [List.filterMap_reverse]
    rw [this]
    refine hlo _ fun q hq => ?_
    obtain ⟨i,hi⟩ := List.getElem?_of_mem (List.mem_reverse.1 hq)
    have him : i < m := by rw [<- hm0]; exact (List.getElem?_eq_some_iff.1 hi).1
    exact hF i q (hall2 i him) hi
   have hen : EnvOk h ρ env := (sy0.en.mono hg.2).ext fun p hp => (hold p.1 fun k o' hk hok' => henv k o' (hD k hk) hok' p.1 p.2 hp).symm
   have hds : ∀ (ex : List Nat),(∀ e ∈ ex, ∃ j o,j < m /\ ol[j]? = some o /\ o.dst = some e) -> okR (ol.drop m) (ex ++ (lcs res).map (·.1)) (env.map (·.1)) = true := fun ex hex =>
    okR_tail hok (fun e he => by
     rcases List.mem_append.1 he with x | x
     · exact hex e x
     · obtain ⟨q,hq,rfl⟩ := List.mem_map.1 x
       rw [List.mem_reverse,List.mem_filterMap] at hq
       obtain ⟨qo,hqm,hq2⟩ := hq
       have hq2 : qo = some q := hq2
       subst hq2
       obtain ⟨j,hj⟩ := List.getElem?_of_mem hqm
       obtain ⟨o,ho,_,hod,_⟩ := hr j _ hj
       exact ⟨j,o,by rw [<- hm0]; exact (List.getElem?_eq_some_iff.1 hj).1,ho,hod⟩)
   have close : ∀ {L : EL} {Bx : List Res},GO P n X ms L env Bx ol (ol.drop res.length) k -> okR (ol.drop m) (L.map (·.1)) (env.map (·.1)) = true -> EnvOk h ρ L -> OwnB X.w0 Bx h w -> wpOps P ol.toArray (toQ n (onlyN fun ρ w => run X.c.round P X.T k .normal (mkX X.c n ρ) w)) (List.range' m (ol.toArray.size - m)) (mk n ρ) w := fun {L Bx} hgo hk hL hB => by
    have hG := hgo.p (by rw [hm0]; exact hk) ρ h w ⟨hg.1,hL,hen,hB⟩
    rw [hm0] at hG
    have := wpList_of_Ops (Q := onlyN fun ρ w => run X.c.round P X.T k .normal (mkX X.c n ρ) w) (fun _ _ h => h) (ol.drop m) ρ w hG
    rw [<- wpOps_eq_wpList (ol.drop m) m (by intro j; simp)] at this
    simpa using this
   have exa : ∃ j o,j < m /\ ol[j]? = some o /\ o.dst = some fr.d := ⟨a,oa,ham,hoa,hda⟩
   unfold GZEnd at hend
   cases hw : wo with
   | none =>
     rw [hw] at hend how
     refine close (hend γ) ?_ ⟨hxA hDa,hloc⟩ how
     have := hds [fr.d] fun e he => by rcases List.mem_singleton.1 he with rfl; exact exa
     simpa using this
   | some wv =>
     have hDp := hall2 p (hpm wv hw)
     have hbw : bW wo p B D ρ = wv.B2 (ρ wv.d) := by unfold bW; rw [hw]; exact if_pos hDp
     rw [hbw] at how
     rw [hw] at hend
     refine close (hend γ (ρ wv.d)) ?_ ⟨hxA hDa,hxS hDp wv hw,hloc⟩ how
     obtain ⟨op,hop,hod⟩ := hP wv hw
     have := hds [fr.d,wv.d] fun e he => by
      simp only [List.mem_cons,List.not_mem_nil,or_false] at he
      rcases he with rfl | rfl
      · exact exa
      · exact ⟨p,op,hpm wv hw,hop,hod⟩
     simpa using this)
  ol.toArray.size t (Array.replicate ol.toArray.size false) [] (by simp) (by intro i o ho hi; simp [Array.getElem?_replicate] at hi) (by intro i hi; simp [Array.getElem?_replicate] at hi)
  (by unfold left; exact Nat.le_trans (List.length_filter_le _ _) (by simp))
 rw [hl]
 simp only [List.reverse_nil,List.nil_append]
 have hD0 : ∀ i, ¬ (Array.replicate ol.toArray.size false)[i]? = some true := fun i => by rw [Array.getElem?_replicate]; split <;> simp
 refine hwp ρ0 w1 ⟨h1,⟨undef,[]⟩,⟨sy0.gr,PH.le.refl h1⟩,by
  have e1 : bF fr a s (fun i => (Array.replicate ol.toArray.size false)[i]? = some true) ⟨undef,[]⟩ = [] := if_neg (hD0 a)
  have e2 : bW wo p B (fun i => (Array.replicate ol.toArray.size false)[i]? = some true) ρ0 = B := by
   unfold bW
   cases wo with
   | none => rfl
   | some w => exact if_neg (hD0 p)
  rw [e1,e2]; exact sy0.ow,(fun i q hi => absurd hi (hD0 i)),fun _ _ => rfl,fun h => absurd h (hD0 p),fun h => absurd h (hD0 a)⟩⟩
theorem ltZ {a b : Nat} (h : Nat.blt a b = true) : a < b := by rw [blt_eq] at h; exact of_decide_eq_true h
theorem neZ {a b : Nat} (h : Nat.beq a b = false) : a ≠ b := fun e => by subst e; rw [beq_self] at h; exact Bool.noConfusion h
theorem gZs (sz a s m : Nat) (fr : FrW) {idn : Nat} {loc : EL} [mx : MixO P] (hs : Nat.beq ol.length sz = true) (c : (dagC ol m (env.map (·.1)) && ol.all noDefer && Nat.blt a m && Nat.blt s m && reach ol 9 s a) = true) (g : GZ P n X ms env ol B k m a s m none fr [] 0 ol) : GW P n X ms loc env B (.region idn ol.toArray true) k := by
 simp only [Bool.and_eq_true] at c
 exact fs_sound mx.h c.1.1.1.1 c.1.1.1.2 (ltZ c.1.1.2) (ltZ c.1.2) (fun w hw => by cases hw) (fun w hw => by cases hw) c.2 (fun w hw => by cases hw) g
section
variable {L loc : EL} {i d : Nat} {op : Op} {ty : TypeId} {pos : String} {af : Array Edge} {rest : List Oper} {sd : Prop} {S : SV}
theorem triQ [st : St P n true L env B ms d op sd S] (hs : sd) : TriP P n X env B ol L ⟨some d,op,ty,pos,af,none⟩ d S := triP (st := st) hs fun _ h => h
instance [e1 : RflE (Nat.beq i p) false] [e2 : RflE (Nat.beq i a) false] [e3 : RflE (Nat.beq i s) false] [st : St P n true L env B ms d op sd S] : Nx (GZ P n X ms env ol B k p a s m none fr L i (⟨some d,op,ty,pos,af,none⟩ :: rest)) sd (GZ P n X ms env ol B k p a s m none fr ((d,S) :: L) (i + 1) rest) := ⟨fun hs g => .pure (d,S) ⟨⟨neZ e1.h,neZ e2.h,neZ e3.h⟩,rfl,.inl ⟨triQ (st := st) hs,fun w hw => by cases hw⟩⟩ g⟩
end
section
variable {L loc : EL} {i d : Nat} {op : Op} {t et : TypeId} {ty : TypeId} {pos : String} {af : Array Edge} {rest : List Oper} {sd : Prop} {S : SV} {x o2 : Operand} {l l' cs : List SV} {T' : Gh -> Res}
theorem triNa [zc : ZC P t l] : TriN P n X env B ol L ⟨some d,.alloc t,ty,pos,af,none⟩ d (fun g => ov g.v) (fun g => rV g.v l t) := fun ρ h w s => by
 obtain ⟨z,hz,hu⟩ := zc.h
 exact OpG.plain (OpW.allocO s.gr.sat hz rfl fun b w' g hn hlo hb => ⟨_,[],h,rfl,g,⟨rfl,rfl⟩,⟨b,_,rfl,hb,hu⟩,fun i hi => by cases hi; exact ⟨hlo,blk_lt hb,hn⟩⟩)
instance [e1 : RflE (Nat.beq i p) false] [e2 : RflE (Nat.beq i a) true] [e3 : RflE (Nat.beq i s) false] [zc : ZC P t l] : Nx (GZ P n X ms env ol B k p a s m wo ⟨d,fun g => ov g.v,fun g => rV g.v l t,T'⟩ L i (⟨some d,.alloc t,ty,pos,af,none⟩ :: rest)) True (GZ P n X ms env ol B k p a s m wo ⟨d,fun g => ov g.v,fun g => rV g.v l t,T'⟩ L (i + 1) rest) :=
 ⟨fun _ g => .ev (.inr (.inl ⟨Nat.eq_of_beq_eq_true e2.h,neZ e1.h,neZ e3.h,rfl,triNa (zc := zc),fun _ _ _ _ => triNa (zc := zc)⟩)) g⟩
theorem triSt {sz : Nat} {γ : Gh} [bl : RflE (Nat.ble n d) false] [ly : Lu n true L env o2 (.ag cs)] [sp : Spl l 0 cs l'] [tz : TZ P t sz] [ml : RflE cs.length sz] [oc : O1L cs] : TriS P n X env B ol ((d,ov γ.v) :: L) ⟨none,.store t (.tmp d) o2,ty,pos,af,none⟩ γ (fun g => rV g.v l et) (fun g => rV g.v l' et) := fun ρ h w s pr => by
 have hx : (ρ d) = γ.v := (s.fx (.tmp d) (by simp [looks,Op.operands]) d _ rfl (.inl (List.mem_cons_self ..))).1
 obtain ⟨vs,hy,uc⟩ := ly.h rfl ((s.sub (os' := [o2]) (fun x hx => by simp [looks,Op.operands] at hx ⊢; exact .inr hx) fun e he => List.mem_cons_of_mem _ he).fx o2 (by simp))
 obtain ⟨b,arr,ev_,hb,ud⟩ := pr
 have hsz := ud.length
 simp only [Array.length_toList] at hsz
 have hfit := sp.h.2
 have hc := uc.length
 have hm := ml.h
 refine OpG.plain (OpW.storeA tz.h (b := b) (off := 0) (by omega) ?_ hy (uc.one oc.h) hb (by omega) fun w' p => ⟨rfl,b,_,p,ev_,⟨b,_,ev_,p.at_,splice_den ud uc sp.h.1 sp.h.2⟩,fun i hi => hi⟩)
 show ev n ρ (.tmp d) = _
 rw [<- ev_, <- hx]; show (bif Nat.blt d n then ρ d else undef) = ρ d; rw [blt_of bl.h]; rfl
instance {sz : Nat} [e1 : RflE (Nat.beq i p) false] [e2 : RflE (Nat.beq i a) false] [e3 : RflE (Nat.beq i s) true] [bl : RflE (Nat.ble n d) false] [ly : Lu n true L env o2 (.ag cs)] [sp : Spl l 0 cs l'] [tz : TZ P t sz] [ml : RflE cs.length sz] [oc : O1L cs] : Nx (GZ P n X ms env ol B k p a s m wo ⟨d,fun g => ov g.v,fun g => rV g.v l et,fun g => rV g.v l' et⟩ L i (⟨none,.store t (.tmp d) o2,ty,pos,af,none⟩ :: rest)) True (GZ P n X ms env ol B k p a s m wo ⟨d,fun g => ov g.v,fun g => rV g.v l et,fun g => rV g.v l' et⟩ L (i + 1) rest) :=
 ⟨fun _ g => .ev (.inr (.inr ⟨Nat.eq_of_beq_eq_true e3.h,neZ e1.h,neZ e2.h,rfl,fun _ => rfl,fun γ => triSt (bl := bl) (ly := ly) (sp := sp) (tz := tz) (ml := ml) (oc := oc),fun _ _ _ _ γ => triSt (bl := bl) (ly := ly) (sp := sp) (tz := tz) (ml := ml) (oc := oc)⟩)) g⟩
instance (priority := high) {d2 : Nat} [e1 : RflE (Nat.beq i m) true] : Nx (GZ P n X ms env ol B k p a s m none ⟨d2,fun g => ov g.v,fun g => rV g.v l t,fun g => rV g.v l' et⟩ L i rest) True (∀ v,GO P n X ms ((d2,.cn true (ov v)) :: L) env (rV v l' et :: B) ol rest k) := ⟨fun _ g => by
 have e := Nat.eq_of_beq_eq_true e1.h
 subst e
 exact .fin fun γ => ⟨fun ok ρ h w s => (g γ.v).p ok ρ h w ⟨s.gr,⟨⟨fun _ => s.lo.1,fun e => by cases e⟩,s.lo.2⟩,s.en,s.ow⟩⟩⟩
end
end
section
variable {P : Program} {n : Nat} {X : Fix} {ms : List Nat} {loc env : EL} {B : List Res} {k : Kt} {ol rest : List Oper} {d : Nat} {ty : TypeId} {pos : String} {af : Array Edge} {sd : Prop} {g : Option (Nat × Bool)}
end
section
variable (P : Program) (n : Nat) (X : Fix) (ms : List Nat) (env : EL) (ol : List Oper) (B : List Res) (k : Kt) (p m : Nat) (wv : MidW)
end
section
variable {P : Program} {n : Nat} {X : Fix} {ms : List Nat} {env : EL} {ol : List Oper} {B : List Res} {k : Kt} {p m : Nat} {wv : MidW}
section
variable {L loc : EL} {i d : Nat} {op : Op} {t et : TypeId} {ty : TypeId} {pos : String} {af : Array Edge} {rest : List Oper} {sd : Prop} {S : SV} {x o2 : Operand}
end
end
end Go.E3
