/- K28: a part of the proof about training through the decoder: how the program's functions run, and what they compute, for every input. -/
import Derived.Test.YtdciabokggfpbaaGreatK27
import Derived.Test.YtdciabokggfpbaaGreatK26
set_option linter.all false
set_option maxHeartbeats 4000000
namespace Go.E3
open Go Go.Ear
section
variable (P : Program) (n : Nat) (X : Fix) (ms : List Nat) (env : EL) (ol : List Oper)
inductive GU (B : List Res) (k : Kt) (w : MidV) (p r m : Nat) : EL -> Nat -> List Oper -> Prop
 | wr {L o rest} (hd : o.dst = some w.d1) (h : TriV P n X env B ol L o (some (w.d1,w.S1)) w.B1) (g : GU B k w p r m L (p + 1) rest) : GU B k w p r m L p (o :: rest)
 | wr2 {L o rest} (hp : p < r) (hd : o.dst = some w.d2) (h : ∀ v,TriV P n X env (w.B1 v) ol ((w.d1,w.S1 v) :: L) o (some (w.d2,w.S2)) (w.B2 v)) (g : GU B k w p r m L (r + 1) rest) : GU B k w p r m L r (o :: rest)
 | mid {L i o rest} (d : Nat) (S : SV) (hp : i ≠ p) (hr : i ≠ r) (hd : o.dst = some d) (h : TriP P n X env B ol L o d S) (h2 : ∀ v,TriP P n X env (w.B1 v) ol L o d S) (h3 : ∀ v v',TriP P n X env (w.B2 v v') ol L o d S) (g : GU B k w p r m ((d,S) :: L) (i + 1) rest) : GU B k w p r m L i (o :: rest)
 | fin {L rest} (g : ∀ v v',GO P n X ms ((w.d2,w.S2 v') :: (w.d1,w.S1 v) :: L) env (w.B2 v v') ol rest k) : GU B k w p r m L m rest
end
section
variable {P : Program} {n : Nat} {X : Fix} {ms : List Nat} {env : EL} {ol : List Oper} {B : List Res} {k : Kt} {p r m : Nat} {w : MidV}
theorem GU.sem (hpr : p < r) {L : EL} {i : Nat} {rest : List Oper} (g : GU P n X ms env ol B k w p r m L i rest) :
 ∃ (res : List (Option (Nat × SV))),i + res.length = m /\
   (∀ j,res[j]? = some none -> ∃ o,rest[j]? = some o /\ ((i + j = p /\ o.dst = some w.d1 /\ TriV P n X env B ol (lcs (res.take j) ++ L) o (some (w.d1,w.S1)) w.B1) \/ (i + j = r /\ p < r /\ o.dst = some w.d2 /\ ∀ v,TriV P n X env (w.B1 v) ol ((w.d1,w.S1 v) :: (lcs (res.take j) ++ L)) o (some (w.d2,w.S2)) (w.B2 v)))) /\
   (∀ j q,res[j]? = some (some q) -> i + j ≠ p /\ i + j ≠ r /\ ∃ o,rest[j]? = some o /\ o.dst = some q.1 /\ TriP P n X env B ol (lcs (res.take j) ++ L) o q.1 q.2 /\ (True -> (∀ v,TriP P n X env (w.B1 v) ol (lcs (res.take j) ++ L) o q.1 q.2) /\ ∀ v v',TriP P n X env (w.B2 v v') ol (lcs (res.take j) ++ L) o q.1 q.2)) /\
   res.length <= rest.length /\ ∀ v v',GO P n X ms ((w.d2,w.S2 v') :: (w.d1,w.S1 v) :: (lcs res ++ L)) env (w.B2 v v') ol (rest.drop res.length) k := by
 induction g with
 | @wr L o rest hd h g ih =>
   obtain ⟨res,e,hn,hr,hle,hg⟩ := ih
   refine ⟨none :: res,by simp only [List.length_cons]; omega,fun j hj => ?_,fun j q hj => ?_,by simp only [List.length_cons]; omega,fun v v' => by rw [lcs_none]; simpa using hg v v'⟩
   · cases j with
     | zero => exact ⟨o,rfl,.inl ⟨rfl,hd,by simpa [lcs] using h⟩⟩
     | succ j =>
       obtain ⟨o',a,b⟩ := hn j (by simpa using hj)
       refine ⟨o',by simpa using a, ?_⟩
       first | (rw [List.take_succ_cons,lcs_none,show p + (j + 1) = p + 1 + j by omega]; exact b) | (rw [List.take_succ_cons,lcs_none]; exact b)
   · cases j with
     | zero => simp at hj
     | succ j =>
       obtain ⟨x,y,o',a,b⟩ := hr j q (by simpa using hj)
       refine ⟨by omega,by omega,o',by simpa using a, ?_⟩
       first | (rw [List.take_succ_cons,lcs_none,show p + (j + 1) = p + 1 + j by omega]; exact b) | (rw [List.take_succ_cons,lcs_none]; exact b)
 | @wr2 L o rest hp hd h g ih =>
   obtain ⟨res,e,hn,hr,hle,hg⟩ := ih
   refine ⟨none :: res,by simp only [List.length_cons]; omega,fun j hj => ?_,fun j q hj => ?_,by simp only [List.length_cons]; omega,fun v v' => by rw [lcs_none]; simpa using hg v v'⟩
   · cases j with
     | zero => exact ⟨o,rfl,.inr ⟨rfl,hp,hd,by simpa [lcs] using h⟩⟩
     | succ j =>
       obtain ⟨o',a,b⟩ := hn j (by simpa using hj)
       refine ⟨o',by simpa using a, ?_⟩
       first | (rw [List.take_succ_cons,lcs_none,show r + (j + 1) = r + 1 + j by omega]; exact b) | (rw [List.take_succ_cons,lcs_none]; exact b)
   · cases j with
     | zero => simp at hj
     | succ j =>
       obtain ⟨x,y,o',a,b⟩ := hr j q (by simpa using hj)
       refine ⟨by omega,by omega,o',by simpa using a, ?_⟩
       first | (rw [List.take_succ_cons,lcs_none,show r + (j + 1) = r + 1 + j by omega]; exact b) | (rw [List.take_succ_cons,lcs_none]; exact b)
 | @mid L i o rest d S hp hir hd h h2 h3 g ih =>
   obtain ⟨res,e,hn,hr,hle,hg⟩ := ih
   refine ⟨some (d,S) :: res,by simp only [List.length_cons]; omega,fun j hj => ?_,fun j q hj => ?_,by simp only [List.length_cons]; omega,fun v v' => by rw [lcs_some]; simpa using hg v v'⟩
   · cases j with
     | zero => simp at hj
     | succ j =>
       obtain ⟨o',a,b⟩ := hn j (by simpa using hj)
       refine ⟨o',by simpa using a, ?_⟩
       first | (rw [List.take_succ_cons,lcs_some,show i + (j + 1) = i + 1 + j by omega]; exact b) | (rw [List.take_succ_cons,lcs_some]; exact b)
   · cases j with
     | zero =>
       have hj : (d,S) = q := by simpa using hj
       subst hj
       exact ⟨by omega,by omega,o,rfl,hd,by simpa [lcs] using h,fun _ => ⟨fun v => by simpa [lcs] using h2 v,fun v v' => by simpa [lcs] using h3 v v'⟩⟩
     | succ j =>
       obtain ⟨x,y,o',a,b⟩ := hr j q (by simpa using hj)
       refine ⟨by omega,by omega,o',by simpa using a, ?_⟩
       first | (rw [List.take_succ_cons,lcs_some,show i + (j + 1) = i + 1 + j by omega]; exact b) | (rw [List.take_succ_cons,lcs_some]; exact b)
 | @fin L rest g => exact ⟨[],by simp,fun j hj => by simp at hj,fun j q hj => by simp at hj,by simp,fun v v' => by simpa [lcs] using g v v'⟩
theorem two_sound2 {loc : EL} {idn : Nat} (hmix : P.follows .mixedOrders = true) (hc : dagC ol m (env.map (·.1)) = true) (hnd : ol.all noDefer = true) (hpr : p < r) (hrm : r < m) (hrp : reach ol 9 r p = true) (g : GU P n X ms env ol B k w p r m [] 0 ol) : GW P n X ms loc env B (.region idn ol.toArray true) k := ⟨fun ρ0 h1 wi si => by
 obtain ⟨res,hm0,hn,hr,hlen,hend⟩ := g.sem hpr
 rw [Nat.zero_add] at hm0
 have hat : ∀ i,i < m -> ∃ x,res[i]? = some x := fun i hi => ⟨_,List.getElem?_eq_getElem (by omega)⟩
 obtain ⟨op,hop,hod,hT⟩ : ∃ o,ol[p]? = some o /\ o.dst = some w.d1 /\ TriV P n X env B ol (lcs (res.take p) ++ []) o (some (w.d1,w.S1)) w.B1 := by
  obtain ⟨x,hx⟩ := hat p (by omega)
  cases x with
  | some q => exact absurd (Nat.zero_add p) (hr p q hx).1
  | none =>
    obtain ⟨o,a,b⟩ := hn p hx
    rcases b with b | b
    · exact ⟨o,a,b.2⟩
    · have := b.1; omega
 obtain ⟨oq,hoq,hqd,hT2⟩ : ∃ o,ol[r]? = some o /\ o.dst = some w.d2 /\ ∀ v,TriV P n X env (w.B1 v) ol ((w.d1,w.S1 v) :: (lcs (res.take r) ++ [])) o (some (w.d2,w.S2)) (w.B2 v) := by
  obtain ⟨x,hx⟩ := hat r hrm
  cases x with
  | some q => exact absurd (Nat.zero_add r) (hr r q hx).2.1
  | none =>
    obtain ⟨o,a,b⟩ := hn r hx
    rcases b with b | b
    · have := b.1; omega
    · exact ⟨o,a,b.2.2⟩
 have hnone : ∀ i,i = p \/ i = r -> res[i]? = some none := fun i hi => by
  obtain ⟨x,hx⟩ := hat i (by omega)
  cases x with
  | some q => have := hr i q hx; omega
  | none => exact hx
 unfold dagC at hc
 simp only [Bool.and_eq_true] at hc
 obtain ⟨⟨hok,hall⟩,htl⟩ := hc
 have hall := fun i (hi : i < m) => by have := List.all_eq_true.1 hall i (List.mem_range.2 hi); rw [Bool.and_eq_true,Bool.not_eq_true'] at this; exact this
 have htl := fun i (o : Oper) (ho : ol[i]? = some o) => by
  have := List.all_eq_true.1 htl i (List.mem_range.2 (List.getElem?_eq_some_iff.1 ho).1)
  rw [Bool.and_eq_true,opA_eq ho] at this; exact this
 have F := okR_facts hok
 have hne : ∀ (i j : Nat) (o o' : Oper) (d : Nat),i ≠ j -> ol[i]? = some o -> ol[j]? = some o' -> o.dst = some d -> o'.dst ≠ some d := fun i j o o' d hij ho ho' hd hd' => by
  rcases Nat.lt_or_ge i j with a | a
  · exact (F j o' d ho' hd').2.2 i o a ho hd
  · exact (F i o d ho hd).2.2 j o' (by omega) ho' hd'
 have hd12 : w.d1 ≠ w.d2 := fun e => hne p r op oq w.d1 (by omega) hop hoq hod (by rw [hqd,e])
 have henv : ∀ i o,i < m -> ol[i]? = some o -> ∀ t S,(t,S) ∈ env -> o.dst ≠ some t := fun i o hi ho t S ht e => by
  have a := hall i hi
  rw [opA_eq ho,e] at a
  have := a.1
  simp only at this
  rw [<- Bool.not_eq_true,memN_iff] at this
  exact this (List.mem_map.2 ⟨_,ht,rfl⟩)
 refine WT.draw (K := fun ρ w => run X.c.round P X.T k .normal (mkX X.c n ρ) w) hnd ?_ fun _ _ x => x
 intro t
 unfold Region.schedule Region.linearise
 rw [hmix]
 simp only [Bool.true_or,if_true]
 generalize hw1 : ({ wi with drawn := _ } : World) = w1
 have s : Sy X.h0 X.w0 loc env B ρ0 h1 w1 := by
  subst hw1
  exact si.grow ((Gr.refl si.gr.sat).drew _ (Nat.le_succ _))
 obtain ⟨ls,hl,hwp⟩ := lin_inv (P := P) (n := n) (m := m) (ops := ol.toArray) (Q := onlyN fun ρ w => run X.c.round P X.T k .normal (mkX X.c n ρ) w) (fun D ρ w' => ∃ (h : PH),(Gr X.h0 X.w0 h w' /\ h1.le h) /\ OwnB X.w0 (bV w p r B D ρ) h w' /\
  (∀ i q,D i -> res[i]? = some (some q) -> den h q.2 (ρ q.1)) /\ (∀ s,(∀ k o,D k -> ol[k]? = some o -> o.dst ≠ some s) -> ρ s = ρ0 s) /\ (D p -> den h (w.S1 (ρ w.d1)) (ρ w.d1)) /\ (D r -> den h (w.S2 (ρ w.d2)) (ρ w.d2))) (by simpa [<- hm0] using hlen)
  (fun i o ho j hj => by
   have := List.all_eq_true.1 (htl i o (by simpa using ho)).1 j hj
   rw [blt_eq] at this; exact of_decide_eq_true this)
  (fun i o ho hmi j hj => by
   have ho : ol[i]? = some o := by simpa using ho
   have := (htl i o ho).2
   rw [Nat.ble_eq_true_of_le hmi] at this
   have := List.all_eq_true.1 this j (List.mem_range.2 hj)
   obtain ⟨x,hx,hxx⟩ := List.any_eq_true.1 this
   have hx := List.mem_range.1 hx
   have hsz := (List.getElem?_eq_some_iff.1 ho).1
   have ho' : ol[i - x]? = some (ol[i - x]'(by omega)) := List.getElem?_eq_getElem (by omega)
   rw [opA_eq ho'] at hxx
   exact ⟨i - x,ol[i - x]'(by omega),by omega,by omega,by rw [List.getElem?_toArray]; exact ho',by simpa using hxx⟩)
  (by
   rintro D ρ w' i o ho him hi hd hcl hD ⟨h,hg,how,hF,hold,hxS,hxS2⟩
   have ho : ol[i]? = some o := by simpa using ho
   have hcl : ∀ (k : Nat) (o : Oper),ol[k]? = some o -> D k -> ∀ j ∈ deps o,D j := fun k o hk => hcl k o (by simpa using hk)
   have hDrp : D r -> D p := fun e => reach_D hcl hrp e
   have sx : Sx X.h0 X.w0 (lcs (res.take i) ++ []) env (bV w p r B D ρ) (looks ol o) ρ h w' := by
    refine ⟨hg.1,fun x hx t S hxt hmem => ?_,how⟩
    subst hxt
    rcases hmem with hmem | hmem
    · rw [List.append_nil,List.mem_reverse,List.mem_filterMap] at hmem
      obtain ⟨qo,hqm,hent⟩ := hmem
      have hent : qo = some (t,S) := hent
      subst hent
      obtain ⟨j,hj⟩ := List.getElem?_of_mem hqm
      have hji : j < i := by
       rcases Nat.lt_or_ge j i with a | a
       · exact a
       · rw [List.getElem?_eq_none (by simp; omega)] at hj; cases hj
      rw [List.getElem?_take,if_pos hji] at hj
      obtain ⟨_,_,oj,hoj,hsj,_⟩ := hr j _ hj
      have hr2 := (hall i him).2
      unfold rdOk at hr2
      rw [opA_eq ho] at hr2
      have h2 := List.all_eq_true.1 hr2 _ hx
      simp only at h2
      have h3 := List.all_eq_true.1 h2 j (List.mem_range.2 hji)
      rw [opA_eq hoj,hsj] at h3
      simp only [beq_self,Bool.not_true,Bool.false_or] at h3
      exact hF j _ (hd j (by simpa using h3)) hj
    · rw [hold t fun k o' hk hok' => henv k o' (hD k hk) hok' t S hmem]
      exact (s.en.mem hmem).mono hg.2
   by_cases hip : i = p
   · subst hip
     rw [hop] at ho; cases ho
     have hnr : ¬ D r := fun e => hi (hDrp e)
     have hb0 : bV w i r B D ρ = B := by unfold bV; rw [if_neg hnr,if_neg hi]
     rw [hb0] at sx how
     refine (hT ρ h w' sx).mono ?_
     rintro ρ' w'' ⟨v,h',⟨rfl,hv⟩,hgr,hle,_,_,hob⟩
     have hb1 : bV w i r B (fun k => k = i \/ D k) (upd ρ w.d1 v) = w.B1 v := by unfold bV; rw [if_neg (fun x => x.elim (fun e => by omega) hnr),if_pos (.inl rfl),upd_at]
     refine ⟨h',⟨hgr,hg.2.trans hle⟩,(by rw [hb1]; exact hob),fun j q hj hq => ?_,fun sl hs' => ?_,fun _ => by rw [upd_at]; exact hv,fun e => absurd (e.resolve_left (by omega)) hnr⟩
     · have hji : j ≠ i := fun e => by rw [e,hnone i (.inl rfl)] at hq; cases hq
       have hDj : D j := hj.resolve_left hji
       obtain ⟨_,_,oj,hoj,hsj,_⟩ := hr j q hq
       rw [upd_ne _ _ fun e => hne i j op oj w.d1 (fun e => hji e.symm) hop hoj hod (by rw [hsj,e])]
       exact (hF j q hDj hq).mono hle
     · rw [upd_ne _ _ fun e => hs' i op (.inl rfl) hop (by rw [e]; exact hod)]
       exact hold sl fun k o' hk hok' => hs' k o' (.inr hk) hok'
   by_cases hir : i = r
   · subst hir
     rw [hoq] at ho; cases ho
     have hDp : D p := by
      have h0 : reach ol 9 i p = true := hrp
      unfold reach at h0
      obtain ⟨x,hx,hxx⟩ := List.any_eq_true.1 h0
      rw [opA_eq hoq] at hx
      rcases Bool.or_eq_true_iff.1 hxx with e | e
      · rw [<- Nat.eq_of_beq_eq_true e]; exact hd x hx
      · exact reach_D hcl e (hd x hx)
     have hb0 : bV w p i B D ρ = w.B1 (ρ w.d1) := by unfold bV; rw [if_neg hi,if_pos hDp]
     rw [hb0] at sx how
     have sx2 : Sx X.h0 X.w0 ((w.d1,w.S1 (ρ w.d1)) :: (lcs (res.take i) ++ [])) env (w.B1 (ρ w.d1)) (looks ol oq) ρ h w' := ⟨sx.gr,fun x hx t S hxt hmem => by
      rcases hmem with hmem | hmem
      · rcases List.mem_cons.1 hmem with e | hmem
        · cases e; exact hxS hDp
        · exact sx.fx x hx t S hxt (.inl hmem)
      · exact sx.fx x hx t S hxt (.inr hmem),sx.ow⟩
     refine (hT2 (ρ w.d1) ρ h w' sx2).mono ?_
     rintro ρ' w'' ⟨v,h',⟨rfl,hv⟩,hgr,hle,_,_,hob⟩
     have hb1 : bV w p i B (fun k => k = i \/ D k) (upd ρ w.d2 v) = w.B2 (ρ w.d1) v := by unfold bV; rw [if_pos (.inl rfl),upd_at,upd_ne _ _ hd12]
     refine ⟨h',⟨hgr,hg.2.trans hle⟩,(by rw [hb1]; exact hob),fun j q hj hq => ?_,fun sl hs' => ?_,fun _ => by rw [upd_ne _ _ hd12]; exact (hxS hDp).mono hle,fun _ => by rw [upd_at]; exact hv⟩
     · have hji : j ≠ i := fun e => by rw [e,hnone i (.inr rfl)] at hq; cases hq
       have hDj : D j := hj.resolve_left hji
       obtain ⟨_,_,oj,hoj,hsj,_⟩ := hr j q hq
       rw [upd_ne _ _ fun e => hne i j oq oj w.d2 (fun e => hji e.symm) hoq hoj hqd (by rw [hsj,e])]
       exact (hF j q hDj hq).mono hle
     · rw [upd_ne _ _ fun e => hs' i oq (.inl rfl) hoq (by rw [e]; exact hqd)]
       exact hold sl fun k o' hk hok' => hs' k o' (.inr hk) hok'
   obtain ⟨q,hq⟩ : ∃ q,res[i]? = some (some q) := by
    obtain ⟨x,hx⟩ := hat i him
    cases x with
    | some q => exact ⟨q,hx⟩
    | none =>
      obtain ⟨_,_,b⟩ := hn i hx
      rw [Nat.zero_add] at b
      exact (b.elim (fun e => hip e.1) fun e => hir e.1).elim
   obtain ⟨_,_,o',ho',hdq,hT1,hT2'⟩ := hr i q hq
   rw [ho] at ho'; cases ho'
   have hTT : TriP P n X env (bV w p r B D ρ) ol (lcs (res.take i) ++ []) o q.1 q.2 := by
    have key : D p -> True := fun _ => trivial
    unfold bV
    split
    · rename_i hDr
      exact (hT2' (key (hDrp hDr))).2 _ _
    · split
      · rename_i hDp
        exact (hT2' (key hDp)).1 _
      · exact hT1
   refine (hTT ρ h w' sx).mono ?_
   rintro ρ' w'' ⟨v,h',rfl,gr,hv⟩
   have hq1 : w.d1 ≠ q.1 := fun e => hne i p o op q.1 hip ho hop hdq (by rw [hod,e])
   have hq2 : w.d2 ≠ q.1 := fun e => hne i r o oq q.1 hir ho hoq hdq (by rw [hqd,e])
   have hbe : bV w p r B (fun k => k = i \/ D k) (upd ρ q.1 v) = bV w p r B D ρ := by
    unfold bV
    by_cases hDr : D r
    · rw [if_pos (.inr hDr),if_pos hDr,upd_ne _ _ hq1,upd_ne _ _ hq2]
    · rw [if_neg (fun x => x.elim (fun e => hir e.symm) hDr),if_neg hDr]
      by_cases hDp : D p
      · rw [if_pos (.inr hDp),if_pos hDp,upd_ne _ _ hq1]
      · rw [if_neg (fun x => x.elim (fun e => hip e.symm) hDp),if_neg hDp]
   refine ⟨h',⟨hg.1.trans gr,hg.2.trans gr.le⟩,(by rw [hbe]; exact how.grow gr),fun j q' hj hq' => ?_,fun sl hs' => ?_,fun hDp => ?_,fun hDr => ?_⟩
   · by_cases hji : j = i
     · subst hji; rw [hq] at hq'; cases hq'; rw [upd_at]; exact hv
     · have hDj : D j := hj.resolve_left hji
       obtain ⟨_,_,oj,hoj,hsj,_⟩ := hr j q' hq'
       rw [upd_ne _ _ fun e => hne i j o oj q.1 (fun e => hji e.symm) ho hoj hdq (by rw [hsj,e])]
       exact (hF j q' hDj hq').mono gr.le
   · rw [upd_ne _ _ fun e => hs' i o (.inl rfl) ho (by rw [e]; exact hdq)]
     exact hold sl fun k o' hk hok' => hs' k o' (.inr hk) hok'
   · rw [upd_ne _ _ hq1]
     exact (hxS (hDp.resolve_left fun e => hip e.symm)).mono gr.le
   · rw [upd_ne _ _ hq2]
     exact (hxS2 (hDr.resolve_left fun e => hir e.symm)).mono gr.le)
  (by
   rintro D D' ρ w' hDD ⟨h,a,b,c,d,e⟩
   have : D = D' := funext fun k => propext (hDD k)
   subst this
   exact ⟨h,a,b,c,d,e⟩)
  (by
   rintro D ρ w' hall2 hD ⟨h,hg,how,hF,hold,hxS,hxS2⟩
   have hDr := hall2 r hrm
   have hb : bV w p r B D ρ = w.B2 (ρ w.d1) (ρ w.d2) := if_pos hDr
   rw [hb] at how
   have hlo : ∀ l : List (Option (Nat × SV)),(∀ q,some q ∈ l -> den h q.2 (ρ q.1)) -> EnvOk h ρ (l.filterMap id) := fun l => by
    induction l with
    | nil => exact fun _ => trivial
    | cons q l ih =>
      cases q with
      | none => exact fun a => by simpa using ih fun q hq => a q (List.mem_cons_of_mem _ hq)
      | some q =>
        intro a
        show EnvOk h ρ (q :: l.filterMap id)
        exact ⟨a q (List.mem_cons_self ..),ih fun q hq => a q (List.mem_cons_of_mem _ hq)⟩
   have hds : okR (ol.drop m) (w.d2 :: w.d1 :: (lcs res).map (·.1)) (env.map (·.1)) = true := by
    have h2 := okR_drop ((List.range m).map fun i => ((opA ol i).dst).getD 0) hok (by simp; omega) fun i d e => by
     rw [List.getElem?_map] at e
     obtain ⟨j,hj,rfl⟩ := Option.map_eq_some_iff.1 e
     have hjm := List.mem_range.1 (List.mem_of_getElem? hj)
     have hi : i < m := by have := (List.getElem?_eq_some_iff.1 hj).1; simpa using this
     rw [List.getElem?_range hi] at hj
     cases hj
     obtain ⟨x,hx⟩ := hat i hi
     cases x with
     | none =>
       obtain ⟨o,a,b⟩ := hn i hx
       refine ⟨o,a, ?_⟩
       rw [opA_eq a]
       rcases b with b | b
       · rw [b.2.1]; rfl
       · rw [b.2.2.1]; rfl
     | some q =>
       obtain ⟨_,_,o,a,b,_⟩ := hr i q hx
       exact ⟨o,a,by rw [opA_eq a,b]; rfl⟩
    rw [List.length_map,List.length_range] at h2
    refine okR_swap (fun e he => ?_) (fun e _ he => he) h2
    rw [<- Bool.not_eq_true,memN_iff] at he ⊢
    refine fun hme => he ?_
    rw [List.append_nil,List.mem_reverse,List.mem_map]
    rcases List.mem_cons.1 hme with rfl | hme
    · exact ⟨r,List.mem_range.2 hrm,by rw [opA_eq hoq,hqd]; rfl⟩
    rcases List.mem_cons.1 hme with rfl | hme
    · exact ⟨p,List.mem_range.2 (by omega),by rw [opA_eq hop,hod]; rfl⟩
    · obtain ⟨q,hq,rfl⟩ := List.mem_map.1 hme
      rw [List.mem_reverse,List.mem_filterMap] at hq
      obtain ⟨a,ha,rfl⟩ := hq
      obtain ⟨i,hi⟩ := List.getElem?_of_mem ha
      obtain ⟨_,_,o,a,b,_⟩ := hr i q hi
      exact ⟨i,List.mem_range.2 (by rw [<- hm0]; exact (List.getElem?_eq_some_iff.1 hi).1),by rw [opA_eq a,b]; rfl⟩
   have sy : Sy X.h0 X.w0 ((w.d2,w.S2 (ρ w.d2)) :: (w.d1,w.S1 (ρ w.d1)) :: (lcs res ++ [])) env (w.B2 (ρ w.d1) (ρ w.d2)) ρ h w' := by
    refine ⟨hg.1,⟨hxS2 hDr,hxS (hall2 p (by omega)), ?_⟩, ?_,how⟩
    · rw [List.append_nil]
      have : lcs res = (res.reverse.filterMap id) := by rw [List.filterMap_reverse]
      rw [this]
      refine hlo _ fun q hq => ?_
      obtain ⟨i,hi⟩ := List.getElem?_of_mem (List.mem_reverse.1 hq)
      have him : i < m := by rw [<- hm0]; exact (List.getElem?_eq_some_iff.1 hi).1
      exact hF i q (hall2 i him) hi
    · refine (s.en.mono hg.2).ext fun p hp => ?_
      exact (hold p.1 fun k o' hk hok' => henv k o' (hD k hk) hok' p.1 p.2 hp).symm
   have hG := (hend (ρ w.d1) (ρ w.d2)).p (by rw [hm0]; simpa using hds) ρ h w' sy
   rw [hm0] at hG
   have := wpList_of_Ops (Q := onlyN fun ρ w => run X.c.round P X.T k .normal (mkX X.c n ρ) w) (fun _ _ h => h) (ol.drop m) ρ w' hG
   rw [<- wpOps_eq_wpList (ol.drop m) m (by intro j; simp)] at this
   simpa using this)
  ol.toArray.size t (Array.replicate ol.toArray.size false) [] (by simp) (by intro i o ho hi; simp [Array.getElem?_replicate] at hi) (by intro i hi; simp [Array.getElem?_replicate] at hi)
  (by unfold left; exact Nat.le_trans (List.length_filter_le _ _) (by simp))
 rw [hl]
 simp only [List.reverse_nil,List.nil_append]
 refine hwp ρ0 w1 ⟨h1,⟨s.gr,PH.le.refl h1⟩,by
  have : bV w p r B (fun i => (Array.replicate ol.toArray.size false)[i]? = some true) ρ0 = B := by unfold bV; rw [if_neg (by simp [Array.getElem?_replicate]),if_neg (by simp [Array.getElem?_replicate])]
  rw [this]; exact s.ow,(fun i q hi => by simp [Array.getElem?_replicate] at hi),fun _ _ => rfl,(fun hD0 => by simp [Array.getElem?_replicate] at hD0),fun hD0 => by simp [Array.getElem?_replicate] at hD0⟩⟩
end
section
variable {P : Program} {n : Nat} {X : Fix} {ms : List Nat} {loc env : EL} {B Bm : List Res} {k : Kt} {ol rest : List Oper} {d p r m i d1 d2 : Nat} {op : Op} {ty : TypeId} {pos : String} {af : Array Edge} {sd : Prop} {S : SV} {t e : TypeId} {S1 S2 : Value -> SV} {B1 : Value -> List Res} {B2 : Value -> Value -> List Res}
structure GA (P : Program) (n : Nat) (X : Fix) (ms : List Nat) (loc env : EL) (B Bm : List Res) (ol rest : List Oper) (k : Kt) (p r m i : Nat) : Prop where
 p : Sb B Bm -> ∃ w : MidV,((∀ v,Sb (w.B1 v) Bm) /\ ∀ v v',Sb (w.B2 v v') Bm) /\ GU P n X ms env ol B k w p r m loc i rest
structure GA1 (P : Program) (n : Nat) (X : Fix) (ms : List Nat) (loc env : EL) (Bm : List Res) (ol rest : List Oper) (k : Kt) (p r m i d1 : Nat) (S1 : Value -> SV) (B1 : Value -> List Res) : Prop where
 p : ∀ B,Sb B Bm -> (∀ v,Sb (B1 v) Bm) -> ∃ d2 S2 B2,(∀ v v',Sb (B2 v v') Bm) /\ GU P n X ms env ol B k ⟨d1,S1,B1,d2,S2,B2⟩ p r m loc i rest
structure GA2 (P : Program) (n : Nat) (X : Fix) (ms : List Nat) (loc env : EL) (Bm : List Res) (ol rest : List Oper) (k : Kt) (p r m i d1 d2 : Nat) (S1 S2 : Value -> SV) (B1 : Value -> List Res) (B2 : Value -> Value -> List Res) : Prop where
 p : ∀ B,Sb B Bm -> (∀ v,Sb (B1 v) Bm) -> (∀ v v',Sb (B2 v v') Bm) -> GU P n X ms env ol B k ⟨d1,S1,B1,d2,S2,B2⟩ p r m loc i rest
theorem gDw (sz p r m : Nat) {idn : Nat} [mx : MixO P] [ov : OnlyV B Bm] (hs : Nat.beq ol.length sz = true) (c : (dagC ol m (env.map (·.1)) && ol.all noDefer && (Nat.blt p r && Nat.blt r m && reach ol 9 r p)) = true) (g : GA P n X ms [] env B Bm ol ol k p r m 0) : GW P n X ms loc env B (.region idn ol.toArray true) k := by
 simp only [Bool.and_eq_true,blt_eq,decide_eq_true_eq] at c
 obtain ⟨w,_,hw⟩ := g.p ov.h
 exact two_sound2 mx.h c.1.1 c.1.2 c.2.1.1 c.2.1.2 c.2.2 hw
theorem neb {a b : Nat} (h : Nat.beq a b = false) : a ≠ b := fun e => by rw [e,beq_self] at h; cases h
instance [lp : RflE (Nat.beq i p) false] [lr : RflE (Nat.beq i r) false] [lt : RflE (Nat.ble m i) false] [st : St P n true loc env Bm ms d op sd S] : Nx (GA P n X ms loc env B Bm ol (⟨some d,op,ty,pos,af,none⟩ :: rest) k p r m i) sd (GA P n X ms ((d,S) :: loc) env B Bm ol rest k p r m (i + 1)) := ⟨fun hs g => ⟨fun sb => by
 obtain ⟨w,⟨h1,h2⟩,hw⟩ := g.p sb
 have ht : TriP P n X env Bm ol loc ⟨some d,op,ty,pos,af,none⟩ d S := triP (st := st) hs fun _ h => h
 exact ⟨w,⟨h1,h2⟩,.mid d S (neb lp.h) (neb lr.h) rfl (TriP.sb sb ht) (fun v => TriP.sb (h1 v) ht) (fun v v' => TriP.sb (h2 v v') ht) hw⟩⟩⟩
instance (priority := high) [eq : RflE (Nat.beq i p) true] {α : Type} {rp : Rp α} {bb : Nat} {d0 : α} {q' : List α} {o1 o2 : Operand} [ts : TS P t e] [rt : RT P e α rp bb d0] [lx : Lu n true loc env o1 (.cv (.slice none 0 0))] [ly : Lu n true loc env o2 (lv rp q')] : Nx (GA P n X ms loc env B Bm ol (⟨some d,.call ⟨.builtin .append,[o1,o2].toArray,[t,t].toArray⟩,ty,pos,af,none⟩ :: rest) k p r m i) (q'.length <= 9223372036854775807 /\ q'.length * bb <= 140737488355328) (GA1 P n X ms loc env Bm ol rest k p r m (i + 1) d ov (fun v' => rA rp e v' q' :: B)) := ⟨fun hs g => ⟨fun sb => by
 have e0 := Nat.eq_of_beq_eq_true eq.h
 subst e0
 have hb : ∀ v' : Value,Sb (rA rp e v' q' :: B) Bm := fun v' => (Sb.tl _ _).trans sb
 obtain ⟨d2,S2,B2,h2,hw⟩ := g.p B sb hb
 exact ⟨_,⟨hb,h2⟩,.wr rfl (app_triv (q := []) (v := .slice none 0 0) (fun f => cvE (lx.h rfl f)) (fun {w0 h w} o => ⟨OwnL.nil rp 0 h w _,(fun i hi => by cases hi),(fun r' hr' i hi => by cases hi),o⟩) (fun _ h => h) ⟨by simpa using hs.1,by simpa using hs.2⟩) hw⟩⟩⟩
instance [eq : RflE (Nat.beq i p) true] {α : Type} {rp : Rp α} {bb : Nat} {d0 : α} {q q' : List α} {v : Value} {o1 o2 : Operand} {C : List Res} [ts : TS P t e] [rt : RT P e α rp bb d0] [lx : Lu n true loc env o1 (ov v)] [pa : PA B v α rp e q C] [ly : Lu n true loc env o2 (lv rp q')] [b1 : ∀ v',OnlyV (rA rp e v' (q ++ q') :: C) Bm] : Nx (GA P n X ms loc env B Bm ol (⟨some d,.call ⟨.builtin .append,[o1,o2].toArray,[t,t].toArray⟩,ty,pos,af,none⟩ :: rest) k p r m i) (q.length + q'.length <= 9223372036854775807 /\ (q.length + q'.length) * bb <= 140737488355328) (GA1 P n X ms loc env Bm ol rest k p r m (i + 1) d ov (fun v' => rA rp e v' (q ++ q') :: C)) := ⟨fun hs g => ⟨fun sb => by
 have e0 := Nat.eq_of_beq_eq_true eq.h
 subst e0
 obtain ⟨d2,S2,B2,h2,hw⟩ := g.p B sb fun v' => (b1 v').h
 exact ⟨_,⟨fun v' => (b1 v').h,h2⟩,.wr rfl (app_triv (fun f => (lx.h rfl f).1) pa.h.own (fun _ h => h) hs) hw⟩⟩⟩
instance [lp : RflE (Nat.beq i p) false] [lr : RflE (Nat.beq i r) false] [lt : RflE (Nat.ble m i) false] [st : St P n true loc env Bm ms d op sd S] : Nx (GA1 P n X ms loc env Bm ol (⟨some d,op,ty,pos,af,none⟩ :: rest) k p r m i d1 S1 B1) sd (GA1 P n X ms ((d,S) :: loc) env Bm ol rest k p r m (i + 1) d1 S1 B1) := ⟨fun hs g => ⟨fun B sb sb1 => by
 obtain ⟨d2,S2,B2,h2,hw⟩ := g.p B sb sb1
 have ht : TriP P n X env Bm ol loc ⟨some d,op,ty,pos,af,none⟩ d S := triP (st := st) hs fun _ h => h
 exact ⟨d2,S2,B2,h2,.mid d S (neb lp.h) (neb lr.h) rfl (TriP.sb sb ht) (fun v => TriP.sb (sb1 v) ht) (fun v v' => TriP.sb (h2 v v') ht) hw⟩⟩⟩
instance [eq : RflE (Nat.beq i r) true] [lpr : RflE (Nat.ble r p) false] {α : Type} {rp : Rp α} {bb : Nat} {d0 : α} {q q' : List α} {V : Value -> Value} {o1 o2 : Operand} {C : Value -> List Res} [ts : TS P t e] [rt : RT P e α rp bb d0] [lx : ∀ u,Lu n true ((d1,S1 u) :: loc) env o1 (ov (V u))] [pa : ∀ u,PA (B1 u) (V u) α rp e q (C u)] [ly : Lu n true loc env o2 (lv rp q')] [b2 : ∀ u v',OnlyV (rA rp e v' (q ++ q') :: C u) Bm] : Nx (GA1 P n X ms loc env Bm ol (⟨some d,.call ⟨.builtin .append,[o1,o2].toArray,[t,t].toArray⟩,ty,pos,af,none⟩ :: rest) k p r m i d1 S1 B1) (q.length + q'.length <= 9223372036854775807 /\ (q.length + q'.length) * bb <= 140737488355328) (GA2 P n X ms loc env Bm ol rest k p r m (i + 1) d1 d S1 ov B1 (fun u v' => rA rp e v' (q ++ q') :: C u)) := ⟨fun hs g => ⟨fun B sb sb1 => by
 have e0 := Nat.eq_of_beq_eq_true eq.h
 subst e0
 exact ⟨d,ov,_,fun u v' => (b2 u v').h,.wr2 (ltf lpr.h) rfl (fun u => app_triv (fun f => ((lx u).h rfl f).1) (pa u).h.own (fun _ h => List.mem_cons_of_mem _ h) hs) (g.p B sb sb1 fun u v' => (b2 u v').h)⟩⟩⟩
instance [lp : RflE (Nat.beq i p) false] [lr : RflE (Nat.beq i r) false] [lt : RflE (Nat.ble m i) false] [st : St P n true loc env Bm ms d op sd S] : Nx (GA2 P n X ms loc env Bm ol (⟨some d,op,ty,pos,af,none⟩ :: rest) k p r m i d1 d2 S1 S2 B1 B2) sd (GA2 P n X ms ((d,S) :: loc) env Bm ol rest k p r m (i + 1) d1 d2 S1 S2 B1 B2) := ⟨fun hs g => ⟨fun B sb sb1 sb2 => by
 have ht : TriP P n X env Bm ol loc ⟨some d,op,ty,pos,af,none⟩ d S := triP (st := st) hs fun _ h => h
 exact .mid d S (neb lp.h) (neb lr.h) rfl (TriP.sb sb ht) (fun v => TriP.sb (sb1 v) ht) (fun v v' => TriP.sb (sb2 v v') ht) (g.p B sb sb1 sb2)⟩⟩
instance [eq : RflE (Nat.beq i m) true] : Nx (GA2 P n X ms loc env Bm ol rest k p r m i d1 d2 S1 S2 B1 B2) True (∀ v v',GO P n X ms ((d2,S2 v') :: (d1,S1 v) :: loc) env (B2 v v') ol rest k) := ⟨fun _ g => ⟨fun B sb sb1 sb2 => by
 have e0 := Nat.eq_of_beq_eq_true eq.h
 subst e0
 exact .fin g⟩⟩
end
end Go.E3
set_option maxRecDepth 20000
set_option synthInstance.maxSize 1000
namespace Go.E3
open Go Go.Ear Go.Proofs
end Go.E3
namespace Go.E3
open Go Go.Ear Go.Proofs
theorem row_in {l : List (List Fr)} {r : List Fr} {f : Fr} (hr : r ∈ l) (hf : f ∈ r) : f ∈ l.flatten := List.mem_flatten.2 ⟨r,hr,hf⟩
theorem plain_W {m : Md} (ft : FtM m) (hp : plainM m = true) : MdW 2 m := by
 have hm : ∀ f ∈ allW m,bf f <= 2 := fun f hf => plain_le hp hf
 unfold allW at hm
 obtain ⟨f1,f2,f3,f4⟩ := ft.h
 refine MdW.of (by decide) (fun f hf => ?_) (fun r hr f hf => ?_) (fun f hf => ?_) fun r hr f hf => ?_
 · exact Nat.le_trans (f1.bq f hf) (hm f (by simp only [List.mem_append]; exact .inl (.inl (.inl hf))))
 · exact Nat.le_trans ((f2.h r hr).bq f hf) (hm f (by simp only [List.mem_append]; exact .inl (.inr (row_in hr hf))))
 · exact Nat.le_trans (f3.bq f hf) (hm f (by simp only [List.mem_append]; exact .inl (.inl (.inr hf))))
 · exact Nat.le_trans ((f4.h r hr).bq f hf) (hm f (by simp only [List.mem_append]; exact .inr (row_in hr hf)))
structure Good (m : Md) (s : Nat) : Prop where
 v : validM m = true
 l : longM m = false
 s : m.start.length <= s
 s1 : 1 <= m.start.length
 s40 : m.start.length <= 40
 y : symb m <= 64
 mb : MdB 1000 m
 w : MdW 2 m
 b1 : ∀ i,bf (m.start.getD i fr0) <= 2
 b2 : ∀ i,bf (m.fin.getD i fr0) <= 2
 nn : Nn m
 on : Ones m (symb m)
theorem Good.of {m : Md} {s : Nat} (ft : FtM m) (h : smallB m s = true) {data : List (List Int)} (hc : checkE [m] data = 0) : Good m s := by
 have hp := small_plain h
 have hx := checkE_n hc
 have hlen := valid_len hx.2.1
 have h40 : m.start.length <= 40 /\ symb m <= 64 := by
  have := hx.2.2; unfold longM at this; simp only [Bool.or_eq_false_iff,decide_eq_false_iff_not,Bool.and_eq_false_iff] at this; omega
 exact ⟨hx.2.1,hx.2.2,hp.1,hlen.1,h40.1,h40.2,plain_B hp.2.2.2.2 hx.2.1 hx.2.2,plain_W ft hp.2.2.2.2,(plain_bf hp.2.2.2.2).1,(plain_bf hp.2.2.2.2).2,Nn.of hx.2.1,Ones.of hx.2.1⟩
theorem Good.mB {m : Md} {s K : Nat} (g : Good m s) (h : 1000 <= K := by decide) : MdB K m := g.mb.weak h
theorem Good.fw {m : Md} {s : Nat} {o : List Int} (g : Good m s) (n : Nat) (hn : o.length <= n + 1) (hs : 1 <= s) (hb : fB s 2 n <= 300000) : FwB ⟨m,o⟩ := FwB.of (N := n) (t := ⟨m,o⟩) g.w g.s (by decide) hs hn hb
theorem Good.lk {m : Md} {s : Nat} {o : List Int} (g : Good m s) (n : Nat) (hn : o.length <= n + 1) (hs : 1 <= s) : bq (Go.Ear.lk ⟨m,o⟩) <= 1 + s * (fB s 2 n + 2 + 1) := lk_bq (t := ⟨m,o⟩) g.w g.s (by decide) hs hn
section
variable {m : Md} {o path : List Int} {S T U : SV}
end
set_option maxHeartbeats 8000000
theorem bestAt_arg {q : Nat -> Rat} {l : List Fr} : ∀ n,1 <= n -> (∀ j,j < n -> (l.getD j fr0).rat = q j) -> bestAt l n = ((argN q n : Nat) : Int)
 | 1,_,_ => by rw [argN_one,bestAt]; exact if_pos (.inl (by rw [bestAt]; decide))
 | n + 2,_,h => by
   have ih := bestAt_arg (q := q) (l := l) (n + 1) (by omega) fun j hj => h j (by omega)
   have ha := argN_lt (q := q) (k := n + 1) (by omega)
   have h1 := h (argN q (n + 1)) (by omega)
   have h2 := h (n + 1) (by omega)
   rw [bestAt,ih,Int.toNat_natCast,h1,h2]
   by_cases e : q (argN q (n + 1)) < q (n + 1)
   · rw [if_pos (.inr e),argN_t e]
   · rw [if_neg (fun x => x.elim (fun y => by omega) e),argN_f e]
theorem wts_leB {B : Nat} : ∀ {l : List Fr},(∀ f ∈ l,bf f <= B) -> wts l <= (B + 1) * l.length
 | [],_ => Nat.le_refl _
 | f :: l,h => by rw [wts_cons,List.length_cons,Nat.mul_succ]; have := h f (List.mem_cons_self ..); have := wts_leB (B := B) fun g hg => h g (List.mem_cons_of_mem _ hg); omega
section
variable {m : Md} {o : List Int} {S T : SV}
end
section
variable {α : Type}
end
section
variable {row : List Rat} {keep : Int} {S : SV}
end
section
variable {m : Md} {o : List Int} {S T : SV} {keep : Int}
end
section
variable {m : Md} {o : List Int} {S T : SV}
end
section
variable {m : Md} {o : List Int} {S T : SV}
end
section
end
end Go.E3
