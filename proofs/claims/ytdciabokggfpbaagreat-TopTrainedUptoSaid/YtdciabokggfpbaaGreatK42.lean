/- K42: a part of the proof about training through the decoder: how the program's functions run, and what they compute, for every input. -/
import Derived.Test.YtdciabokggfpbaaGreatK41
import Derived.Test.YtdciabokggfpbaaGreatK39
import Derived.Test.YtdciabokggfpbaaGreatK22
set_option linter.all false
set_option maxHeartbeats 4000000
namespace Go.E3
open Go Go.Ear Go.Proofs
section
variable {κ κ2 α : Type} {K : KK κ} {K2 : KK κ2} {f : α -> SV}
abbrev MM (κ κ2 α : Type) := List (κ × Value × List (κ2 × α))
def mmo (L : MM κ κ2 α) : List (κ × Value) := L.map fun p => (p.1,p.2.1)
def mmr (L : MM κ κ2 α) : List (κ × List (κ2 × α)) := L.map fun p => (p.1,p.2.2)
theorem rows_mmr {h : PH} : ∀ {es : List MapEntry} {L : MM κ κ2 α},MRows K (fun x : Value => ov x) h es (mmo L) -> (∀ p ∈ L,den h (kmz K2 f p.2.2) p.2.1) -> MRows K (fun M => kmz K2 f M) h es (mmr L)
 | [],[],_,_ => trivial
 | e :: es,p :: L,u,z => ⟨⟨u.1.1,by
     have hv : e.val = p.2.1 := u.1.2.1
     rw [hv]; exact z p (List.mem_cons_self ..)⟩,rows_mmr u.2 fun q hq => z q (List.mem_cons_of_mem _ hq)⟩
def rMM (K : KK κ) (K2 : KK κ2) (f : α -> SV) (v : Value) (L : MM κ κ2 α) : Res where
 fp := fun i => v = .map (some i) \/ ∃ p ∈ L,p.2.1 = .map (some i)
 pr := fun h w => (∃ b,v = .map (some b) /\ MpOk K (fun x : Value => ov x) h w b (mmo L)) /\ (∀ p ∈ L, ∃ b,p.2.1 = .map (some b) /\ MpOk K2 f h w b p.2.2) /\ (v :: L.map fun p => p.2.1).Nodup
 st := fun {h w h' w'} le hw hn u => by
  obtain ⟨⟨b,e,es,clock,h1,h2,h3⟩,hin,nd⟩ := u
  refine ⟨⟨b,e,es,clock,by rw [hw b (.inl e)]; exact h1,⟨h2.1.mono le,h2.2⟩,h3⟩,fun p hp => ?_,nd⟩
  obtain ⟨b2,e2,es2,clock2,k1,k2,k3⟩ := hin p hp
  exact ⟨b2,e2,es2,clock2,by rw [hw b2 (.inr ⟨p,hp,e2⟩)]; exact k1,⟨k2.1.mono le,k2.2⟩,k3⟩
 fz := fun h => den h (kmz K (fun M => kmz K2 f M) (mmr L)) v
 fzm := fun le u => u.mono le
 frz := fun {h0 w0 h w} g u hf => by
  obtain ⟨⟨b,e,es,clock,h1,h2,h3⟩,hin,nd⟩ := u
  have key : ∀ L' : MM κ κ2 α,(∀ p ∈ L',p ∈ L) -> (L'.map fun p => p.2.1).Nodup -> ∃ h',Gr h0 w0 h' w /\ h.le h' /\ (∀ i,h i = none -> (∀ p ∈ L',p.2.1 ≠ .map (some i)) -> h' i = none) /\ ∀ p ∈ L',den h' (kmz K2 f p.2.2) p.2.1 := fun L' => by
   induction L' with
   | nil => exact fun _ _ => ⟨h,g,PH.le.refl h,fun _ x _ => x,fun p hp => by cases hp⟩
   | cons p L' ih =>
     intro hs hnd
     rw [List.map_cons,List.nodup_cons] at hnd
     obtain ⟨h',g',le,fr,z⟩ := ih (fun q hq => hs q (List.mem_cons_of_mem _ hq)) hnd.2
     have hp := hs p (List.mem_cons_self ..)
     obtain ⟨b2,e2,es2,clock2,k1,k2,k3⟩ := hin p hp
     have hn2 : h' b2 = none := fr b2 (hf b2 (.inr ⟨p,hp,e2⟩)).1 fun q hq e3 => hnd.1 (List.mem_map.2 ⟨q,hq,by rw [e3,e2]⟩)
     obtain ⟨h'',g'',le2,hb2,fr2⟩ := Go.E3.freeze_ex g' k1 hn2 ((hf b2 (.inr ⟨p,hp,e2⟩)).2 rfl)
     refine ⟨h'',g'',le.trans le2,fun i hi hne => fr2 i (fun q => hne p (List.mem_cons_self ..) (by rw [e2,q])) (fr i hi fun q hq => hne q (List.mem_cons_of_mem _ hq)),fun q hq => ?_⟩
     rcases List.mem_cons.1 hq with rfl | hq
     · exact .inr ⟨b2,_,e2,.refl _,es2,clock2,hb2,⟨k2.1.mono (le.trans le2),k2.2⟩,k3⟩
     · exact (z q hq).mono le2
  rw [List.nodup_cons] at nd
  obtain ⟨h',g',le,fr,z⟩ := key L (fun _ hp => hp) nd.2
  have hn : h' b = none := fr b (hf b (.inl e)).1 fun p hp e2 => nd.1 (List.mem_map.2 ⟨p,hp,by rw [e2,e]⟩)
  obtain ⟨h'',g'',le2,hb,fr2⟩ := Go.E3.freeze_ex g' h1 hn ((hf b (.inl e)).2 rfl)
  have hnd : ((mmr L).map (·.1)).Nodup := by
   have : (mmr L).map (·.1) = (mmo L).map (·.1) := by simp [mmr,mmo]
   rw [this]; exact h2.2
  exact ⟨h'',g'',le.trans le2,fun i hi hne => fr2 i (fun q => hne (.inl (by rw [e,q]))) (fr i hi fun p hp e2 => hne (.inr ⟨p,hp,e2⟩)),.inr ⟨b,_,e,.refl _,es,clock,hb,⟨rows_mmr (h2.1.mono (le.trans le2)) fun p hp => (z p hp).mono le2,hnd⟩,h3⟩⟩
class HMM (B : List Res) (v : Value) (κ : outParam Type) (K : outParam (KK κ)) (κ2 : outParam Type) (K2 : outParam (KK κ2)) (α : outParam Type) (f : outParam (α -> SV)) (L : outParam (MM κ κ2 α)) : Prop where h : ∀ {w0 h w},OwnB w0 B h w -> (rMM K K2 f v L).pr h w
class PMM (B : List Res) (v : Value) (κ : outParam Type) (K : outParam (KK κ)) (κ2 : outParam Type) (K2 : outParam (KK κ2)) (α : outParam Type) (f : outParam (α -> SV)) (L : outParam (MM κ κ2 α)) (B' : outParam (List Res)) : Prop where h : Sb B (rMM K K2 f v L :: B')
variable {v w : Value} {L : MM κ κ2 α} {B B' : List Res}
instance : HMM (rMM K K2 f v L :: B) v κ K κ2 K2 α f L := ⟨fun o => o.1⟩
instance (priority := 50) {x : Res} [i : HMM B v κ K κ2 K2 α f L] : HMM (x :: B) v κ K κ2 K2 α f L := ⟨fun o => i.h o.2.2.2⟩
instance : PMM (rMM K K2 f v L :: B) v κ K κ2 K2 α f L B := ⟨.refl _⟩
instance (priority := 50) {x : Res} [i : PMM B v κ K κ2 K2 α f L B'] : PMM (x :: B) v κ K κ2 K2 α f L (x :: B') := ⟨i.h.next⟩
noncomputable def mmw (L : MM κ κ2 α) (k : κ) : Value := (mget (mmo L) k).getD (.map none)
noncomputable def mmc (L : MM κ κ2 α) (k : κ) : List (κ2 × α) := (mget (mmr L) k).getD []
theorem mget_map {β γ δ : Type} (g : β -> γ) (k : δ) : ∀ l : List (δ × β),mget (l.map fun p => (p.1,g p.2)) k = (mget l k).map g
 | [] => rfl
 | y :: l => by
   have ih := mget_map g k l
   unfold mget at ih ⊢
   rw [List.map_cons]
   by_cases e : y.1 = k
   · rw [List.find?_cons_of_pos (by simpa using e),List.find?_cons_of_pos (by simpa using e)]; rfl
   · rw [List.find?_cons_of_neg (by simpa using e),List.find?_cons_of_neg (by simpa using e)]; exact ih
theorem mset_map {β γ δ : Type} (g : β -> γ) (k : δ) (x : β) : ∀ l : List (δ × β),mset (l.map fun p => (p.1,g p.2)) k (g x) = (mset l k x).map fun p => (p.1,g p.2)
 | [] => rfl
 | y :: l => by
   by_cases e : y.1 = k
   · rw [List.map_cons,mset_pos (y := (y.1,g y.2)) e,mset_pos e]; rfl
   · rw [List.map_cons,mset_neg (y := (y.1,g y.2)) e,mset_neg e,List.map_cons,mset_map g k x l]
theorem mmo_eq (L : MM κ κ2 α) (k : κ) : mget (mmo L) k = (mget L k).map (·.1) := mget_map _ k L
theorem mmr_eq (L : MM κ κ2 α) (k : κ) : mget (mmr L) k = (mget L k).map (·.2) := mget_map _ k L
theorem mmo_keys (L : MM κ κ2 α) : (mmo L).map (·.1) = L.map (·.1) := by simp [mmo]
theorem mget_mem' {β δ : Type} {l : List (δ × β)} {k : δ} {a : β} (h : mget l k = some a) : (k,a) ∈ l := by
 unfold mget at h
 obtain ⟨y,hy,e⟩ := Option.map_eq_some_iff.1 h
 have h1 := List.mem_of_find?_eq_some hy
 have h3 : y.1 = k := by simpa using List.find?_some hy
 obtain ⟨y1,y2⟩ := y
 rw [<- h3, <- e]; exact h1
theorem mem_mset {β δ : Type} {l : List (δ × β)} {k : δ} {x : β} {p : δ × β} (h : p ∈ mset l k x) : p = (k,x) \/ p ∈ l := by
 induction l with
 | nil => exact .inl (List.mem_singleton.1 h)
 | cons y l ih =>
   by_cases e : y.1 = k
   · rw [mset_pos e] at h
     rcases List.mem_cons.1 h with h | h
     · exact .inl h
     · exact .inr (List.mem_cons_of_mem _ h)
   · rw [mset_neg e] at h
     rcases List.mem_cons.1 h with h | h
     · exact .inr (h ▸ List.mem_cons_self ..)
     · rcases ih h with h | h
       · exact .inl h
       · exact .inr (List.mem_cons_of_mem _ h)
theorem mset_vals {β δ γ : Type} {l : List (δ × β)} {k : δ} {x x' : β} (g : β -> γ) (hg : mget l k = some x') (e : g x = g x') : (mset l k x).map (fun p => g p.2) = l.map fun p => g p.2 := by
 induction l with
 | nil => unfold mget at hg; simp at hg
 | cons y l ih =>
   unfold mget at hg ih
   by_cases ey : y.1 = k
   · rw [List.find?_cons_of_pos (by simpa using ey)] at hg
     have : y.2 = x' := by simpa using hg
     rw [mset_pos ey,List.map_cons,List.map_cons,this,e]
   · rw [List.find?_cons_of_neg (by simpa using ey)] at hg
     rw [mset_neg ey,List.map_cons,List.map_cons,ih hg]
end
class MpN (P : Program) (t : TypeId) (κ : outParam Type) (K : outParam (KK κ)) : Prop where h : ∃ kt et,IsUnd P t (.map kt et) /\ KyP P kt K /\ IsZero P et (.map none)
class PML {κ κ2 α : Type} (B : List Res) (L : MM κ κ2 α) (v : outParam Value) (K : outParam (KK κ)) (K2 : outParam (KK κ2)) (f : outParam (α -> SV)) (B' : outParam (List Res)) : Prop where h : Sb B (rMM K K2 f v L :: B')
instance {κ κ2 α : Type} {K : KK κ} {K2 : KK κ2} {f : α -> SV} {v : Value} {L : MM κ κ2 α} {B : List Res} : PML (rMM K K2 f v L :: B) L v K K2 f B := ⟨.refl _⟩
instance (priority := 50) {κ κ2 α : Type} {K : KK κ} {K2 : KK κ2} {f : α -> SV} {v : Value} {L : MM κ κ2 α} {B B' : List Res} {x : Res} [i : PML B L v K K2 f B'] : PML (x :: B) L v K K2 f (x :: B') := ⟨i.h.next⟩
section
variable {κ κ2 α : Type} {K : KK κ} {K2 : KK κ2} {f : α -> SV} {L : MM κ κ2 α} {P : Program} {n : Nat} {X : Fix} {ms : List Nat} {c : Bool} {loc env : EL} {B B1 B2 : List Res} {kk : Kt} {ol rest : List Oper} {d : Nat} {ty : TypeId} {pos : String} {af : Array Edge} {x0 a : α} {v w u : Value} {t : TypeId} {x y z : Operand} {s : κ} {s2 : κ2} {S T : SV} {sd : Prop} {i p m : Nat} {Lg : Gh -> EL} {cc : Code}
theorem rMM_new {β : Type} {f' : β -> SV} (K2 : KK κ2) (f : α -> SV) : Sb (rM' K f' v [] :: B) (rMM K K2 f v [] :: B) := by
 have hfp : ∀ i,(rMM K K2 f v ([] : MM κ κ2 α)).fp i -> (rM' K f' v []).fp i := fun i hi => by
  rcases hi with hi | ⟨p,hp,_⟩
  · exact hi
  · cases hp
 refine ⟨fun o => ?_,fun r hr i hi => ?_⟩
 · obtain ⟨⟨b,e,es,clock,h1,h2,h3⟩,o2,o3,o4⟩ := o
   have he : es.toList = [] := List.eq_nil_of_length_eq_zero h2.1.length
   exact ⟨⟨⟨b,e,es,clock,h1,⟨by rw [he]; trivial,by simp [mmo]⟩,h3⟩,(fun p hp => by cases hp),by simp⟩,fun i hi => o2 i (hfp i hi),fun r' hr i hi => o3 r' hr i (hfp i hi),o4⟩
 · rcases List.mem_cons.1 hr with rfl | hr
   · exact ⟨_,List.mem_cons_self ..,hfp i hi⟩
   · exact ⟨r,List.mem_cons_of_mem _ hr,hi⟩
theorem gMMn {β : Type} {f' : β -> SV} (K2 : KK κ2) (f : α -> SV) (v : Value) [pm : PM B v κ K β f' [] B1] (g : GW P n X ms loc env (rMM K K2 f v [] :: B1) cc kk) : GW P n X ms loc env B cc kk := gSb (pm.h.trans (rMM_new K2 f)) g
theorem gMMf (v : Value) [hm : HMM B v κ K κ2 K2 α f L] (g : (∀ p ∈ L, ∃ b,p.2.1 = .map (some b)) -> (L.map (·.1)).Nodup -> (∀ p ∈ L,(p.2.2.map (·.1)).Nodup) -> GW P n X ms loc env B cc kk) : GW P n X ms loc env B cc kk := ⟨fun ρ h w sy => by
 obtain ⟨⟨b,e,es,clock,h1,h2,h3⟩,hin,nd⟩ := hm.h sy.ow
 refine (g (fun p hp => ?_) ?_ fun p hp => ?_).p ρ h w sy
 · obtain ⟨b,e,_⟩ := hin p hp; exact ⟨b,e⟩
 · have := h2.2; rwa [mmo_keys] at this
 · obtain ⟨b,e,es,clock,_,h2,_⟩ := hin p hp; exact h2.2⟩
instance (priority := high) [mt : MpN P t κ K] [lx : Lu n c loc env x (ov v)] [hm : HMM B v κ K κ2 K2 α f L] [ly : Lu n c loc env y T] [kv : KV K T s sd] : St P n c loc env B ms d (.lookup t x y false) sd (ov (mmw L s)) := .p fun q hs _ _ _ _ _ sx _ _ _ _ _ k => by
 obtain ⟨kt,et,h1,h2,h3⟩ := mt.h
 obtain ⟨⟨b,hv,es,clock,hb,⟨rows,nd⟩,hn,hc⟩,_⟩ := hm.h sx.ow
 obtain ⟨gk,ke⟩ := kv.h hs
 have hx := (lx.h q (sx.f x)).1
 refine OpW.lookupM (ok := false) (kt := kt) gk h1 h3 (hx.trans hv) (ke (ly.h q (sx.f y))) hb rows nd (fun v' a' hg2 hd => k _ ?_) (fun hg2 => k _ ?_)
 · have e : mmw L s = a' := by unfold mmw; rw [hg2]; rfl
   rw [e]; exact hd
 · have e : mmw L s = .map none := by unfold mmw; rw [hg2]; rfl
   rw [e]; exact ⟨rfl,rfl⟩
theorem gMk (sz p m d : Nat) (K2 : KK κ2) (f : α -> SV) {idn : Nat} [mx : MixO P] (hs : Nat.beq ol.length sz = true) (c : (dagC ol m (env.map (·.1)) && ol.all noDefer && Nat.blt p m) = true) (g : GI P n X ms env ol B kk (some ⟨d,fun γ => ov γ.v,fun γ => rM' K2 f γ.v [] :: B⟩) p m (fun _ => []) 0 ol) : GW P n X ms loc env B (.region idn ol.toArray true) kk := gIa sz p m _ hs c g
instance (priority := high) [e0 : RflE (Nat.beq i m) false] [e2 : RflE (Nat.beq i p) true] : Nx (GI P n X ms env ol B kk (some ⟨d,fun γ => ov γ.v,fun γ => rM' K2 f γ.v [] :: B⟩) p m Lg i (⟨some d,.makeMap t none,ty,pos,af,none⟩ :: rest)) True (GI P n X ms env ol B kk (some ⟨d,fun γ => ov γ.v,fun γ => rM' K2 f γ.v [] :: B⟩) p m Lg (i + 1) rest) := ⟨fun _ g => .ev ⟨Nat.eq_of_beq_eq_true e2.h,_,rfl,rfl,fun γ ρ h w s => by
 have gr : Gr h w h (newW w (.map #[] 0)) := Gr.new s.gr.sat _
 refine OpG.plain (OpW.makeM ⟨_,⟨.map (some w.heap.size),[]⟩,h,rfl,⟨rfl,rfl⟩,s.gr.trans gr,PH.le.refl h,s.ow.new gr s.gr.ext.size ⟨_,rfl, #[],0,newW_at w _,⟨trivial,by simp⟩,by simp,fun e he => by simp at he⟩ fun i hi => ?_⟩)
 cases hi
 exact ⟨Nat.le_refl _,blk_lt (newW_at w _),s.gr.sat.fresh⟩⟩ g⟩
theorem mset_none {β δ : Type} {l : List (δ × β)} {k : δ} {x : β} (h : mget l k = none) : mset l k x = l ++ [(k,x)] := by
 induction l with
 | nil => rfl
 | cons y l ih =>
   unfold mget at h ih
   by_cases e : y.1 = k
   · rw [List.find?_cons_of_pos (by simpa using e)] at h; cases h
   · rw [List.find?_cons_of_neg (by simpa using e)] at h
     rw [mset_neg e,ih h]; rfl
theorem nodup_inj {β γ : Type} {g : β -> γ} : ∀ {l : List β} {p q : β},(l.map g).Nodup -> p ∈ l -> q ∈ l -> g p = g q -> p = q
 | [],p,q,_,hp,_,_ => by cases hp
 | y :: l,p,q,nd,hp,hq,e => by
   rw [List.map_cons,List.nodup_cons] at nd
   rcases List.mem_cons.1 hp with e1 | hp1 <;> rcases List.mem_cons.1 hq with e2 | hq1
   · rw [e1,e2]
   · exact absurd (List.mem_map.2 ⟨q,hq1,by rw [<- e,e1]⟩) nd.1
   · exact absurd (List.mem_map.2 ⟨p,hp1,by rw [e,e2]⟩) nd.1
   · exact nodup_inj nd.2 hp1 hq1 e
theorem mset_at {β δ : Type} {l : List (δ × β)} {k : δ} {x : β} {p : δ × β} (nd : (l.map (·.1)).Nodup) (h : p ∈ mset l k x) (e : p.1 = k) : p = (k,x) := by
 have h1 : (k,x) ∈ mset l k x := mget_mem' mget_mset
 exact nodup_inj (g := fun p : δ × β => p.1) (mset_nd nd) h h1 e
instance (priority := high) [mt : MpN P t κ K] [lx : Lu n true loc env x (ov v)] [pm : PMM B v κ K κ2 K2 α f L B1] [ly : Lu n true loc env y T] [kv : KV K T s sd] [lz : Lu n true loc env z (ov w)] [pi : PM B1 w κ2 K2 α f [] B2] : Nx (GO P n X ms loc env B ol (⟨none,.mapUpdate t x y z,ty,pos,af,none⟩ :: rest) kk) (sd /\ mget L s = none) (GO P n X ms loc env (rMM K K2 f v (mset L s (w,[])) :: B2) ol rest kk) := ⟨fun hs g => ⟨fun ok ρ h W sy => by
 obtain ⟨kt,et,h1,h2,h3⟩ := mt.h
 have s' := sy.sb (pm.h.trans (pi.h.cons _))
 obtain ⟨⟨⟨b,hv,hok⟩,hin,nd⟩,f1,d1,⟨b2,hw,hok2⟩,f2,d2,o2⟩ := s'.ow
 obtain ⟨gk,ke⟩ := kv.h hs.1
 have hx := (lx.h rfl ((sy.x [x]).fx x (by simp))).1
 have hy := ke (ly.h rfl ((sy.x [y]).fx y (by simp)))
 have hz := lz.h rfl ((sy.x [z]).fx z (by simp))
 have hne : ∀ i,(rMM K K2 f v L).fp i -> i ≠ b2 := fun i hi e => d1 _ (List.mem_cons_self ..) i hi (by rw [e]; exact hw)
 have hbb : b ≠ b2 := hne b (.inl hv)
 refine Ops.cons (OpW.setM (kt := kt) (a := w) (f := fun x : Value => ov x) (h := h) (l := mmo L) gk h1 (hx.trans hv) hy rfl hz hok fun w' o pw hok' => ?_)
 have e1 : mmo (mset L s (w,[])) = mset (mmo L) s w := (mset_map (fun q : Value × List (κ2 × α) => q.1) s (w,[]) L).symm
 have hL := mset_none (x := (w,([] : List (κ2 × α)))) hs.2
 have hkeep : ∀ (i : Nat) {M : List (κ2 × α)},i ≠ b -> MpOk K2 f h W i M -> MpOk K2 f h w' i M := fun i M hi ⟨es,clock,k1,k2,k3⟩ => ⟨es,clock,by rw [pw.other i hi]; exact k1,k2,k3⟩
 rw [List.nodup_cons] at nd
 refine g.p (okR_none rfl ok) _ _ _ ⟨s'.gr.put pw (f1 b (.inl hv)).1 ((f1 b (.inl hv)).2.1 rfl),s'.lo,s'.en,⟨⟨b,hv,by rw [e1]; exact hok'⟩,fun p hp => ?_, ?_⟩,fun i hi => ?_,fun r' hr' i hi => ?_,OwnB.after pw o2 fun r hr q => d1 r (List.mem_cons_of_mem _ hr) b (.inl hv) q⟩
 · rcases mem_mset hp with rfl | hp
   · exact ⟨b2,hw,hkeep b2 (fun e => hbb e.symm) hok2⟩
   · obtain ⟨b3,e3,k3⟩ := hin p hp
     refine ⟨b3,e3,hkeep b3 (fun e => ?_) k3⟩
     exact nd.1 (List.mem_map.2 ⟨p,hp,by rw [e3,hv,e]⟩)
 · rw [hL,List.map_append]
   show (v :: (L.map (fun p => p.2.1) ++ [w])).Nodup
   rw [List.nodup_cons,List.mem_append,List.nodup_append]
   refine ⟨fun h => h.elim nd.1 fun h => ?_,nd.2,by simp,fun q hq r hr e => ?_⟩
   · have := List.mem_singleton.1 h
     rw [hv,hw] at this; cases this; exact hbb rfl
   · rcases List.mem_singleton.1 hr with rfl
     subst e
     obtain ⟨p,hp,e2⟩ := List.mem_map.1 hq
     exact hne b2 (.inr ⟨p,hp,by rw [e2,hw]⟩) rfl
 · have hfi : (rMM K K2 f v L).fp i \/ i = b2 := by
    rcases hi with hi | ⟨p,hp,e⟩
    · exact .inl (.inl hi)
    · rcases mem_mset hp with rfl | hp
      · exact .inr (by rw [hw] at e; cases e; rfl)
      · exact .inl (.inr ⟨p,hp,e⟩)
   rcases hfi with hfi | rfl
   · exact ⟨(f1 i hfi).1,(f1 i hfi).2.1,by rw [pw.size]; exact (f1 i hfi).2.2⟩
   · exact ⟨(f2 i hw).1,(f2 i hw).2.1,by rw [pw.size]; exact (f2 i hw).2.2⟩
 · have hfi : (rMM K K2 f v L).fp i \/ i = b2 := by
    rcases hi with hi | ⟨p,hp,e⟩
    · exact .inl (.inl hi)
    · rcases mem_mset hp with rfl | hp
      · exact .inr (by rw [hw] at e; cases e; rfl)
      · exact .inl (.inr ⟨p,hp,e⟩)
   rcases hfi with hfi | rfl
   · exact d1 r' (List.mem_cons_of_mem _ hr') i hfi
   · exact d2 r' hr' i hw⟩⟩
instance (priority := high) [mt : MpT P t κ2 K2 α f x0] [lx : Lu n true loc env x (ov (mmw L s))] [pm : PML B L v K K2 f B1] [ly : Lu n true loc env y T] [kv : KV K2 T s2 sd] [lz : Lu n true loc env z S] [vw : Vw f S a] : Nx (GO P n X ms loc env B ol (⟨none,.mapUpdate t x y z,ty,pos,af,none⟩ :: rest) kk) (sd /\ mget L s ≠ none) (GO P n X ms loc env (rMM K K2 f v (mset L s (mmw L s,mset (mmc L s) s2 a)) :: B1) ol rest kk) := ⟨fun hs g => ⟨fun ok ρ h W sy => by
 obtain ⟨kt,et,zv,h1,h2,h3,h4⟩ := mt.h
 have s' := sy.sb pm.h
 obtain ⟨⟨⟨b,hv,hok⟩,hin,nd⟩,f1,d1,o2⟩ := s'.ow
 obtain ⟨gk,ke⟩ := kv.h hs.1
 obtain ⟨⟨w0,M0⟩,hg⟩ := Option.ne_none_iff_exists'.1 hs.2
 have ew : mmw L s = w0 := by unfold mmw; rw [mmo_eq,hg]; rfl
 have eM : mmc L s = M0 := by unfold mmc; rw [mmr_eq,hg]; rfl
 have hmem := mget_mem' hg
 obtain ⟨b2,hw,hok2⟩ := hin _ hmem
 have hw : w0 = .map (some b2) := hw
 have hx := (lx.h rfl ((sy.x [x]).fx x (by simp))).1
 have hy := ke (ly.h rfl ((sy.x [y]).fx y (by simp)))
 have hz := vw.h (lz.h rfl ((sy.x [z]).fx z (by simp)))
 rw [List.nodup_cons] at nd
 have hbb : b ≠ b2 := fun e => nd.1 (List.mem_map.2 ⟨_,hmem,by show w0 = v; rw [hw,hv,e]⟩)
 refine Ops.cons (OpW.setM (kt := kt) (a := a) (f := f) (h := h) (l := M0) gk h1 (hx.trans (ew.trans hw)) hy rfl hz hok2 fun w' o pw hok' => ?_)
 rw [ew,eM] at g
 have ev2 := mset_vals (k := s) (x := (w0,mset M0 s2 a)) (x' := (w0,M0)) (l := L) (fun q => q.1) hg rfl
 have emo : mmo (mset L s (w0,mset M0 s2 a)) = mmo L := by
  have := mset_map (fun q : Value × List (κ2 × α) => q.1) s (w0,mset M0 s2 a) L
  have h5 : mset (mmo L) s w0 = mmo L := mset_same (by have := hok; obtain ⟨_,_,_,hr,_⟩ := this; exact hr.2) (by rw [mmo_eq,hg]; rfl)
  exact this.symm.trans h5
 have hfp : ∀ i,(rMM K K2 f v (mset L s (w0,mset M0 s2 a))).fp i -> (rMM K K2 f v L).fp i := fun i hi => by
  rcases hi with hi | ⟨p,hp,e⟩
  · exact .inl hi
  · have : p.2.1 ∈ (mset L s (w0,mset M0 s2 a)).map fun p => p.2.1 := List.mem_map.2 ⟨p,hp,rfl⟩
    rw [ev2] at this
    obtain ⟨q,hq,e2⟩ := List.mem_map.1 this
    exact .inr ⟨q,hq,by rw [e2]; exact e⟩
 have hnk : (L.map (·.1)).Nodup := by obtain ⟨_,_,_,hr,_⟩ := id hok; have := hr.2; rwa [mmo_keys] at this
 have hb2 : (rMM K K2 f v L).fp b2 := .inr ⟨_,hmem,hw⟩
 have s2 := own_put (r' := rMM K K2 f v (mset L s (w0,mset M0 s2 a))) rfl s' pw ⟨⟨b,hv, ?_⟩,fun p hp => ?_,by rw [ev2,List.nodup_cons]; exact nd⟩ hb2 hfp
 · exact g.p (okR_none rfl ok) _ _ _ s2
 · obtain ⟨es,clock,k1,k2,k3⟩ := hok
   rw [emo]
   exact ⟨es,clock,by rw [pw.other b hbb]; exact k1,k2,k3⟩
 · by_cases hps : p.1 = s
   · have := mset_at hnk hp hps
     subst this
     exact ⟨b2,hw,hok'⟩
   · have hp := (mem_mset hp).resolve_left fun e => hps (by rw [e])
     obtain ⟨b3,e3,es,clock,k1,k2,k3⟩ := hin p hp
     by_cases e4 : b3 = b2
     · subst e4
       have e5 : p = (s,(w0,M0)) := nodup_inj (g := fun p : κ × Value × List (κ2 × α) => p.2.1) nd.2 hp hmem (by show p.2.1 = w0; rw [e3,hw])
       exact absurd (by rw [e5]) hps
     · exact ⟨b3,e3,es,clock,by rw [pw.other b3 e4]; exact k1,k2,k3⟩⟩⟩
end
def rQ {α : Type} (F : α -> SV) (vals : List Value) (xs : List α) : Res where
 fp := fun _ => False
 pr := fun h _ => vals.length = xs.length /\ ∀ (j : Nat) (v : Value) (x : α),vals[j]? = some v -> xs[j]? = some x -> den h (F x) v
 st := fun le _ _ u => ⟨u.1,fun j v x a b => (u.2 j v x a b).mono le⟩
 fz := fun _ => True
 fzm := fun _ _ => trivial
 frz := fun {h0 w0 h w} g _ _ => ⟨h,g,PH.le.refl h,fun _ x _ => x,trivial⟩
class PQ {α : Type} (B : List Res) (F : outParam (α -> SV)) (vals : outParam (List Value)) (xs : outParam (List α)) (B' : outParam (List Res)) : Prop where h : Sb B (rQ F vals xs :: B')
section
variable {α : Type} {F : α -> SV} {vals : List Value} {xs : List α} {B B' : List Res}
instance : PQ (rQ F vals xs :: B) F vals xs B := ⟨.refl _⟩
instance (priority := 50) {x : Res} [i : PQ B F vals xs B'] : PQ (x :: B) F vals xs (x :: B') := ⟨i.h.next⟩
end
instance {α : Type} {F : α -> SV} {vals0 vals : List Value} {xs0 xs : List α} {B B1 L rest : List Res} {s1 s3 s2 : Prop} [pm : PQ B F vals0 xs0 B1] [ea : EqA vals0 vals s1] [eb : EqA xs0 xs s3] [i : MtB B1 L s2 rest] : MtB B (rQ F vals xs :: L) (s1 /\ s3 /\ s2) rest := ⟨fun x => by rw [<- ea.h x.1, <- eb.h x.2.1]; exact pm.h.more (i.h x.2.2)⟩
instance {κ κ2 α : Type} {K : KK κ} {K2 : KK κ2} {f : α -> SV} {v : Value} {L0 Lm : MM κ κ2 α} {B B1 L rest : List Res} {s1 s2 : Prop} [pm : PMM B v κ K κ2 K2 α f L0 B1] [ea : EqA L0 Lm s1] [i : MtB B1 L s2 rest] : MtB B (rMM K K2 f v Lm :: L) (s1 /\ s2) rest := ⟨fun x => by rw [<- ea.h x.1]; exact pm.h.more (i.h x.2)⟩
theorem rows_open {α : Type} {r : Rp α} {F : α -> SV} [rc : RpC r fun x => [F x]] {h : PH} : ∀ {css : List (List Value)} {xs : List α},Go.Ear.Rows r h css xs -> ∃ vals : List Value,css = vals.map (fun v => [v]) /\ vals.length = xs.length /\ (∀ (j : Nat) (v : Value) (x : α),vals[j]? = some v -> xs[j]? = some x -> den h (F x) v) /\ ∀ v ∈ vals,v.oneCell' = true
 | [],[],_ => ⟨[],rfl,rfl,fun j v x a => by simp at a,fun v hv => by cases hv⟩
 | cs :: css,x :: xs,u => by
   obtain ⟨vals,e,l,z,o⟩ := rows_open (rc := rc) u.2
   have hd := rc.h.1 u.1
   have h1 := r.one u.1
   match cs,hd,h1 with
   | [v],hd,h1 =>
     refine ⟨v :: vals,by rw [e]; rfl,by simp [l],fun j w y a b => ?_,fun w hw => ?_⟩
     · cases j with
       | zero => simp at a b; subst a; subst b; exact hd.1
       | succ j => exact z j w y (by simpa using a) (by simpa using b)
     · rcases List.mem_cons.1 hw with rfl | hw
       · exact h1 _ (List.mem_cons_self ..)
       · exact o w hw
theorem rows_vals {h : PH} : ∀ {vals : List Value},(∀ v ∈ vals,v.oneCell' = true) -> Go.Ear.Rows rW h (vals.map fun v => [v]) vals
 | [],_ => trivial
 | v :: vals,o => ⟨⟨⟨rfl,o v (List.mem_cons_self ..)⟩,trivial⟩,rows_vals fun w hw => o w (List.mem_cons_of_mem _ hw)⟩
theorem rows_shut {α : Type} {r : Rp α} {F : α -> SV} [rc : RpC r fun x => [F x]] {h : PH} : ∀ {css : List (List Value)} {vals : List Value} {xs : List α},Go.Ear.Rows rW h css vals -> vals.length = xs.length -> (∀ (j : Nat) (v : Value) (x : α),vals[j]? = some v -> xs[j]? = some x -> den h (F x) v) -> Go.Ear.Rows r h css xs
 | [],[],[],_,_,_ => trivial
 | cs :: css,v :: vals,x :: xs,u,l,z => by
   have hd : denL h [ov v] cs := u.1
   match cs,hd with
   | [w],hd =>
     have e : w = v := hd.1.1
     subst e
     exact ⟨rc.h.2 ⟨z 0 _ _ rfl rfl,trivial⟩,rows_shut (rc := rc) u.2 (by simpa using l) fun j v x a b => z (j + 1) v x (by simpa using a) (by simpa using b)⟩
section
variable {α : Type} {r : Rp α} {F : α -> SV} {P : Program} {n : Nat} {X : Fix} {ms : List Nat} {loc env env' : EL} {B B1 B2 : List Res} {c : Code} {k : Kt} {e : TypeId} {xs : List α} {u : Value}
theorem gOpL (u : Value) [pa : PA B u α r e xs B1] [rc : RpC r fun x => [F x]] [r1 : Rk r 1] (g : ∀ vals : List Value,vals.length = xs.length -> GW P n X ms loc env (rA rW e u vals :: rQ F vals xs :: B1) c k) : GW P n X ms loc env B c k := ⟨fun ρ h w sy => by
 have s' := sy.sb pa.h
 obtain ⟨⟨css,o,rr⟩,f1,d1,o2⟩ := s'.ow
 obtain ⟨vals,e1,l,z,one⟩ := rows_open (rc := rc) rr
 have hk : r.k = 1 := r1.h
 refine (g vals l).p ρ h w ⟨s'.gr,s'.lo,s'.en,⟨css,by rw [hk] at o; rw [l]; exact o,by rw [e1]; exact rows_vals one⟩,f1,fun r' hr i hi => ?_,⟨l,z⟩,(fun i hi => hi.elim),(fun r' hr i hi => hi.elim),o2⟩
 rcases List.mem_cons.1 hr with rfl | hr
 · exact fun q => q
 · exact d1 r' hr i hi⟩
theorem gClLx (u : Value) {vals : List Value} [pa : PA B u Value rW e vals B1] [pq : PQ B1 F vals xs B2] (r : Rp α) [rc : RpC r fun x => [F x]] [r1 : Rk r 1] (g : GX P n X ms loc env (rA r e u xs :: B2) .normal k) : GX P n X ms loc env B .normal k := ⟨fun ρ h w sy => by
 have s' := sy.sb (pa.h.trans (pq.h.cons _))
 obtain ⟨⟨css,o,rr⟩,f1,d1,⟨l,z⟩,_,_,o2⟩ := s'.ow
 have hk : r.k = 1 := r1.h
 exact g.p ρ h w ⟨s'.gr,s'.lo,s'.en,⟨css,by rw [hk, <- l]; exact o,rows_shut (rc := rc) rr l z⟩,f1,fun r' hr i hi => d1 r' (List.mem_cons_of_mem _ hr) i hi,o2⟩⟩
theorem gFzMMx {κ κ2 β : Type} {K : KK κ} {K2 : KK κ2} {f : β -> SV} {L : MM κ κ2 β} {vals : List Value} (v : Value) (j : Nat) (x : α) [pm : PMM B v κ K κ2 K2 β f L B1] [pq : PQ B1 F vals xs B2] (hx : ∀ {h},den h (kmz K (fun M => kmz K2 f M) (mmr L)) v -> den h (F x) v) (g : GX P n X ms loc env (rQ F (vals.set j v) (xs.set j x) :: B2) .normal k) : GX P n X ms loc env B .normal k := ⟨fun ρ h w sy => by
 have s' := sy.sb (pm.h.trans (pq.h.cons _))
 obtain ⟨h',g',le,z,o⟩ := OwnB.freeze (j := 0) s'.gr s'.ow rfl
 have z' : den h' (kmz K (fun M => kmz K2 f M) (mmr L)) v := z
 obtain ⟨⟨l,zz⟩,_,_,o2⟩ := o
 refine g.p ρ h' w ⟨g',s'.lo.mono le,s'.en.mono le,⟨by rw [List.length_set,List.length_set]; exact l,fun i w y a b => ?_⟩,(fun i hi => hi.elim),(fun r' hr i hi => hi.elim),o2⟩
 rw [List.getElem?_set] at a b
 by_cases e : j = i
 · subst e
   simp only [if_true] at a b
   split at a
   · split at b
     · cases a; cases b; exact hx z'
     · cases b
   · cases a
 · rw [if_neg e] at a b
   exact zz i w y a b⟩
theorem Sy.fzV {v : Value} {l : List SV} {t : TypeId} {h0 : PH} {w0 : World} {loc' : EL} {B1 B2 : List Res} {ρ : Env} {h : PH} {w : World} [pa : PV B v l t B1] [sl : SbE v (.pk l 0) loc loc'] [se : SbE v (.pk l 0) env env'] [sb : SbB v (.pk l 0) B1 B2] (s : Sy h0 w0 loc env B ρ h w) : ∃ h',Sy h0 w0 loc' env' B2 ρ h' w := by
 have s' := s.sb pa.h
 obtain ⟨h',g,le,z,o⟩ := OwnB.freeze (j := 0) s'.gr s'.ow rfl
 have z' : den h' (.pk l 0) v := z
 have key : ∀ x,x = v -> den h' (.pk l 0) x := fun x e => by subst e; exact z'
 exact ⟨h',g,sl.h key (s.lo.mono le),se.h key (s.en.mono le),(sb.h (fun h2 l2 x e => by subst e; exact z'.mono l2) o).1⟩
theorem gFzV (v : Value) {l : List SV} {t : TypeId} {loc' : EL} {B1 B2 : List Res} [pa : PV B v l t B1] [sl : SbE v (.pk l 0) loc loc'] [se : SbE v (.pk l 0) env env'] [sb : SbB v (.pk l 0) B1 B2] (g : GW P n X ms loc' env' B2 c k) : GW P n X ms loc env B c k := ⟨fun ρ h w s => by
 obtain ⟨h',s'⟩ := s.fzV (v := v) (pa := pa) (sl := sl) (se := se) (sb := sb)
 exact g.p ρ h' w s'⟩
end
set_option maxRecDepth 20000
set_option synthInstance.maxSize 1000
structure Gm where
 ws : List Int
 n : Int
def gm0 : Gm := ⟨[],0⟩
def rGm : Rp Gm := mkRp 2 (fun e => [lv rI e.ws,iv e.n]) (fun _ => rfl) (fun _ => rfl)
instance : RpC rGm (fun e => [lv rI e.ws,iv e.n]) := ⟨Iff.rfl⟩
instance : Rk rGm 2 := ⟨rfl⟩
instance : D0 Gm gm0 := ⟨trivial⟩
structure Tb where
 order : Int
 words : Int
 list : List Gm
structure Lg where
 t : Tb
 by_ : Int
 am : Fr
 mix : List Fr
@[reducible] def tbV (t : Tb) : SV := .ag [iv t.order,iv t.words,lv rGm t.list]
@[reducible] def lgV (l : Lg) : SV := .ag [iv l.t.order,iv l.t.words,lv rGm l.t.list,iv l.by_,bv l.am.neg,lv rU l.am.n,lv rU l.am.d,lv rF l.mix]
def sizedB (o w : Int) : Bool := ((decide (1 <= o) && decide (o <= 4)) && decide (1 <= w)) && decide (w <= 2000)
instance sized_c {o w : Int} : Ct Tryz.prog 170 [iv o,iv w] True (bv (sizedB o w)) := by
 refine (ctI Tryz.call170 Tryz.func170 Tryz.ntmps170 rfl Tryz.results170 rfl [] fun h0 w0 _ => ?_)
 repeat first | refine nx ?_ | intro _
 rfl
instance rSizes_c {o w : Int} : Ct Tryz.prog 47 [iv o,iv w] True (bv (sizedB o w)) := by
 refine (ctI Tryz.call47 Tryz.func47 Tryz.ntmps47 rfl Tryz.results47 rfl [] fun h0 w0 _ => ?_)
 repeat first | refine nx ?_ | intro _
 rfl
def outB (lo hi x : Int) : Bool := decide (x < lo) || decide (hi < x)
def inB (l : List Int) (lo hi : Int) : Bool := !l.any (outB lo hi)
instance within1_c {x lo hi : Int} : Ct Tryz.prog 175 [iv x,.pk [iv lo] 0,.pk [iv hi] 0] True (bv (outB lo hi x)) := by
 refine (ctI Tryz.call175 Tryz.func175 Tryz.ntmps175 rfl Tryz.results175 rfl [] fun h0 w0 _ => ?_)
 repeat first | refine nx ?_ | intro _
 rfl
instance within_c {l : List Int} {lo hi : Int} {S : SV} [j : Vw (lv rI) S l] : Ct Tryz.prog 171 [S,iv lo,iv hi] (l.length <= 1099511627776) (bv (inB l lo hi)) := by
 refine ct1 j (ctI Tryz.call171 Tryz.func171 Tryz.ntmps171 rfl Tryz.results171 rfl [] fun h0 w0 _ => ?_)
 repeat first | refine nx ?_ | intro _
 rfl
instance rFits_c {l : List Int} {hi : Int} {S : SV} [j : Vw (lv rI) S l] : Ct Tryz.prog 48 [S,iv hi] (l.length <= 1099511627776) (bv (inB l 0 hi)) := by
 refine ct1 j (ctI Tryz.call48 Tryz.func48 Tryz.ntmps48 rfl Tryz.results48 rfl [] fun h0 w0 _ => ?_)
 repeat first | refine nx ?_ | intro _
 refine gLp (fun k : Nat => [(5,iv k)]) (fun _ => []) (fun k => k <= l.length /\ (l.take k).any (outB 0 hi) = false) (fun k => l.length - k) 0 ⟨Nat.zero_le _,rfl⟩ fun k ⟨hk,hn⟩ => ?_
 repeat first | refine nx ?_ | intro _
 refine gIf (fun c => ?_) fun c => ?_
 · have hsu : (l.take (k + 1)).any (outB 0 hi) = outB 0 hi (l.getD k 0) := by
    rw [List.take_succ_eq_append_getElem c,List.any_append,hn,List.getD_eq_getElem?_getD,List.getElem?_eq_getElem c]; simp
   repeat first | refine nx ?_ | intro _
   refine gIf (fun c2 => ?_) fun c2 => ?_ <;> repeat first | refine nx ?_ | intro _
   · have hb : outB 0 hi (l.getD k 0) = true := by unfold outB; simpa using c2
     unfold inB
     have : l.any (outB 0 hi) = true := List.any_eq_true.2 ⟨l.getD k 0,by rw [List.getD_eq_getElem?_getD,List.getElem?_eq_getElem c]; exact List.getElem_mem c,hb⟩
     rw [this]; rfl
   · exact gBk (k + 1) ⟨by omega,by rw [hsu]; unfold outB; simpa using c2⟩ (by omega)
 · repeat first | refine nx ?_ | intro _
   rw [List.take_of_length_le (by omega)] at hn
   unfold inB
   rw [hn]; rfl
end Go.E3
