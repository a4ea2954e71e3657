/- K45: a part of the proof about training through the decoder: how the program's functions run, and what they compute, for every input. -/
import Derived.Test.YtdciabokggfpbaaGreatK42
import Derived.Test.YtdciabokggfpbaaGreatK44
set_option linter.all false
set_option maxHeartbeats 4000000
namespace Go.E3
open Go Go.Ear
section
variable {κ α : Type}
theorem mem_mget {l : List (κ × α)} (nd : (l.map (·.1)).Nodup) {p : κ × α} (h : p ∈ l) : mget l p.1 = some p.2 := by
 obtain ⟨j,hj⟩ := List.getElem?_of_mem h
 exact mget_at nd hj
theorem mget_key {l : List (κ × α)} {k : κ} (h : mget l k ≠ none) : k ∈ l.map (·.1) := by
 obtain ⟨x,hx⟩ := Option.ne_none_iff_exists'.1 h
 exact List.mem_map.2 ⟨_,mget_mem' hx,rfl⟩
theorem perm_of_get : ∀ {l l' : List (κ × α)},(l.map (·.1)).Nodup -> (l'.map (·.1)).Nodup -> (∀ k,mget l k = mget l' k) -> l.Perm l'
 | [],l',_,_,h => by
   cases l' with
   | nil => exact .refl _
   | cons y l' =>
     have := h y.1
     rw [show mget ([] : List (κ × α)) y.1 = none from mget_none fun y hy => absurd hy (by simp)] at this
     unfold mget at this
     rw [List.find?_cons_of_pos (by simp)] at this
     cases this
 | p :: l,l',nd,nd',h => by
   have h1 : mget (p :: l) p.1 = some p.2 := mem_mget nd (List.mem_cons_self ..)
   have hm : p ∈ l' := by
    rw [h] at h1
    exact mget_mem' h1
   obtain ⟨s,t,rfl⟩ := List.append_of_mem hm
   refine List.Perm.trans (List.Perm.cons p ?_) List.perm_middle.symm
   rw [List.map_cons,List.nodup_cons] at nd
   have nd2 : (((p :: (s ++ t)).map (·.1))).Nodup := (List.perm_middle.map _).nodup_iff.1 nd'
   have e2 : ∀ k,mget (s ++ p :: t) k = mget (p :: (s ++ t)) k := fun k => mget_perm List.perm_middle nd' k
   rw [List.map_cons,List.nodup_cons] at nd2
   refine perm_of_get nd.2 nd2.2 fun k => ?_
   by_cases e : k = p.1
   · subst e
     have a1 : mget l p.1 = none := by
      cases hh : mget l p.1 with
      | none => rfl
      | some x => exact absurd (mget_key (by rw [hh]; simp)) nd.1
     have a2 : mget (s ++ t) p.1 = none := by
      cases hh : mget (s ++ t) p.1 with
      | none => rfl
      | some x => exact absurd (mget_key (by rw [hh]; simp)) nd2.1
     rw [a1,a2]
   · have hk := h k
     rw [e2] at hk
     unfold mget at hk ⊢
     rw [List.find?_cons_of_neg (by simpa using fun x => e x.symm),List.find?_cons_of_neg (by simpa using fun x => e x.symm)] at hk
     exact hk
theorem mget_fun (g : κ -> α -> α) (k : κ) : ∀ l : List (κ × α),mget (l.map fun p => (p.1,g p.1 p.2)) k = (mget l k).map (g k)
 | [] => rfl
 | y :: l => by
   have ih := mget_fun g k l
   unfold mget at ih ⊢
   rw [List.map_cons]
   by_cases e : y.1 = k
   · rw [List.find?_cons_of_pos (by simpa using e),List.find?_cons_of_pos (by simpa using e)]
     show some (g y.1 y.2) = some (g k y.2)
     rw [e]
   · rw [List.find?_cons_of_neg (by simpa using e),List.find?_cons_of_neg (by simpa using e)]; exact ih
noncomputable def gI (l : List (κ × Int)) (k : κ) : Int := (mget l k).getD 0
def PosL (l : List (κ × Int)) : Prop := ∀ p ∈ l,1 <= p.2
theorem gI_get {l : List (κ × Int)} (hp : PosL l) (k : κ) : mget l k = if gI l k = 0 then none else some (gI l k) := by
 unfold gI
 cases h : mget l k with
 | none => rfl
 | some x =>
   have := hp _ (mget_mem' h)
   have hx : 1 <= x := this
   rw [if_neg (by show ¬ x = 0; omega)]; rfl
theorem perm_of_gI {l l' : List (κ × Int)} (nd : (l.map (·.1)).Nodup) (nd' : (l'.map (·.1)).Nodup) (hp : PosL l) (hp' : PosL l') (h : ∀ k,gI l k = gI l' k) : l.Perm l' := perm_of_get nd nd' fun k => by rw [gI_get hp,gI_get hp',h]
theorem gI_mset {l : List (κ × Int)} {k : κ} {x : Int} (k' : κ) : gI (mset l k x) k' = (open Classical in if k' = k then x else gI l k') := by
 unfold gI
 split
 · rename_i e; rw [e,mget_mset]; rfl
 · rename_i e; rw [mget_mset_ne e]
theorem PosL.mset {l : List (κ × Int)} {k : κ} {x : Int} (h : PosL l) (hx : 1 <= x) : PosL (mset l k x) := fun p hp => by
 rcases mem_mset hp with rfl | hp
 · exact hx
 · exact h p hp
theorem mset_len {l : List (κ × α)} {k : κ} {x : α} : (mset l k x).length <= l.length + 1 := by
 induction l with
 | nil => exact Nat.le_refl _
 | cons y l ih =>
   by_cases e : y.1 = k
   · rw [mset_pos e]; simp
   · rw [mset_neg e]; simpa using ih
end
noncomputable def sb {κ : Type} (φ : κ -> Prop) : List (κ × Int) -> Int
 | [] => 0
 | p :: l => (open Classical in if φ p.1 then p.2 else 0) + sb φ l
theorem sb_perm {κ : Type} {φ : κ -> Prop} {l l' : List (κ × Int)} (p : l.Perm l') : sb φ l = sb φ l' := by
 induction p with
 | nil => rfl
 | cons x _ ih => unfold sb; rw [ih]
 | swap x y l => unfold sb; unfold sb; omega
 | trans _ _ h1 h2 => exact h1.trans h2
theorem sb_pos {κ : Type} {φ : κ -> Prop} {p : κ × Int} {l : List (κ × Int)} (h : φ p.1) : sb φ (p :: l) = p.2 + sb φ l := by rw [sb,if_pos h]
theorem sb_neg {κ : Type} {φ : κ -> Prop} {p : κ × Int} {l : List (κ × Int)} (h : ¬ φ p.1) : sb φ (p :: l) = sb φ l := by rw [sb,if_neg h]; omega
abbrev Sn := List (K4 × Int)
def hzK (n : Nat) (k : K4) : K4 := match n with
 | 1 => ⟨0,k.b,k.c,k.d⟩
 | 2 => ⟨k.a,0,k.c,k.d⟩
 | 3 => ⟨k.a,k.b,0,k.d⟩
 | _ => ⟨k.a,k.b,k.c,0⟩
def atK (n : Nat) (k : K4) : Int := match n with
 | 1 => k.a
 | 2 => k.b
 | 3 => k.c
 | _ => k.d
def shK (n : Nat) (k : K4) : K4 := match n with
 | 1 => ⟨0,0,0,0⟩
 | 2 => ⟨k.b,0,0,0⟩
 | 3 => ⟨k.b,k.c,0,0⟩
 | _ => ⟨k.b,k.c,k.d,0⟩
theorem hz_inj {n : Nat} {k k' : K4} (h : hzK n k = hzK n k') (h2 : atK n k = atK n k') : k = k' := by
 obtain ⟨a,b,c,d⟩ := k
 obtain ⟨a',b',c',d'⟩ := k'
 unfold hzK at h; unfold atK at h2
 split at h <;> simp_all
noncomputable def madd (l : Sn) (k : K4) (c : Int) : Sn := mset l k ((mget l k).getD 0 + c)
noncomputable def nxS (n : Nat) (acc : Sn) (p : K4 × Int) : Sn := madd acc (shK n p.1) p.2
noncomputable def nxL (n : Nat) (l : Sn) : Sn := l.foldl (nxS n) []
noncomputable def stp (n : Nat) (L : Lv) (p : K4 × Int) : Lv := mset L (hzK n p.1) (mset ((mget L (hzK n p.1)).getD []) (atK n p.1 - 1) p.2)
noncomputable def lvl (n : Nat) (l : Sn) : Lv := l.foldl (stp n) []
def totS (l : Sn) : Int := (l.map (·.2)).sum
theorem totS_app (a b : Sn) : totS (a ++ b) = totS a + totS b := by unfold totS; rw [List.map_append,List.sum_append]
theorem totS_nn {l : Sn} (h : PosL l) : 0 <= totS l := by
 induction l with
 | nil => exact Int.le_refl _
 | cons x l ih =>
   have h1 := h x (List.mem_cons_self ..)
   have := ih fun p hp => h p (List.mem_cons_of_mem _ hp)
   show 0 <= x.2 + totS l
   omega
theorem totS_mem {l : Sn} (h : PosL l) {p : K4 × Int} (hp : p ∈ l) : p.2 <= totS l := by
 induction l with
 | nil => cases hp
 | cons x l ih =>
   have h0 : PosL l := fun p hp => h p (List.mem_cons_of_mem _ hp)
   have h1 := h x (List.mem_cons_self ..)
   have h2 := totS_nn h0
   show p.2 <= x.2 + totS l
   rcases List.mem_cons.1 hp with rfl | hp
   · omega
   · have := ih h0 hp; omega
theorem gI_le {l : Sn} (h : PosL l) (k : K4) : 0 <= gI l k /\ gI l k <= totS l := by
 unfold gI
 cases hm : mget l k with
 | none => exact ⟨Int.le_refl _,totS_nn h⟩
 | some x =>
   have := h _ (mget_mem' hm)
   exact ⟨by show 0 <= x; have : 1 <= x := this; omega,totS_mem h (mget_mem' hm)⟩
theorem totS_mset {l : Sn} {k : K4} {x : Int} : totS (mset l k x) = totS l - gI l k + x := by
 induction l with
 | nil => unfold gI; show x + 0 = 0 - ((mget ([] : Sn) k).getD 0) + x; rw [show mget ([] : Sn) k = none from mget_none fun y hy => absurd hy (by simp)]; simp
 | cons y l ih =>
   by_cases e : y.1 = k
   · rw [mset_pos e]
     have : gI (y :: l) k = y.2 := by
      unfold gI mget; rw [List.find?_cons_of_pos (by simpa using e)]; rfl
     rw [this]; show x + totS l = y.2 + totS l - y.2 + x; omega
   · rw [mset_neg e]
     have : gI (y :: l) k = gI l k := by
      unfold gI mget; rw [List.find?_cons_of_neg (by simpa using e)]
     rw [this]; show y.2 + totS (mset l k x) = y.2 + totS l - gI l k + x; omega
theorem totS_madd {l : Sn} {k : K4} {c : Int} : totS (madd l k c) = totS l + c := by
 unfold madd; rw [totS_mset]; show totS l - gI l k + (gI l k + c) = _; omega
theorem totS_perm {a b : Sn} (p : a.Perm b) : totS a = totS b := by
 induction p with
 | nil => rfl
 | cons x _ ih => show x.2 + totS _ = x.2 + totS _; rw [ih]
 | swap x y l => show y.2 + (x.2 + totS l) = x.2 + (y.2 + totS l); omega
 | trans _ _ h1 h2 => exact h1.trans h2
def B4 (k : K4) : Prop := ((0 <= k.a /\ k.a <= 1000001) /\ 0 <= k.b /\ k.b <= 1000001) /\ (0 <= k.c /\ k.c <= 1000001) /\ 0 <= k.d /\ k.d <= 1000001
structure SnS (l : Sn) : Prop where
 nd : (l.map (·.1)).Nodup
 ps : PosL l
 b4 : ∀ p ∈ l,B4 p.1
 tt : totS l <= 100000000000
 ln : l.length <= 10
theorem SnS.perm {l l' : Sn} (s : SnS l) (p : l'.Perm l) : SnS l' := ⟨(p.map _).nodup_iff.2 s.nd,fun q hq => s.ps q (p.mem_iff.1 hq),fun q hq => s.b4 q (p.mem_iff.1 hq),by rw [totS_perm p]; exact s.tt,by rw [p.length_eq]; exact s.ln⟩
theorem B4.sh {n : Nat} {k : K4} (h : B4 k) : B4 (shK n k) := by
 obtain ⟨⟨h1,h2⟩,h3,h4⟩ := h
 have z : (0 : Int) <= 0 /\ (0 : Int) <= 1000001 := by decide
 unfold shK
 split
 · exact ⟨⟨z,z⟩,z,z⟩
 · exact ⟨⟨h2,z⟩,z,z⟩
 · exact ⟨⟨h2,h3⟩,z,z⟩
 · exact ⟨⟨h2,h3⟩,h4,z⟩
theorem B4.hz {n : Nat} {k : K4} (h : B4 k) : B4 (hzK n k) := by
 obtain ⟨⟨h1,h2⟩,h3,h4⟩ := h
 have z : (0 : Int) <= 0 /\ (0 : Int) <= 1000001 := by decide
 unfold hzK
 split
 · exact ⟨⟨z,h2⟩,h3,h4⟩
 · exact ⟨⟨h1,z⟩,h3,h4⟩
 · exact ⟨⟨h1,h2⟩,z,h4⟩
 · exact ⟨⟨h1,h2⟩,h3,z⟩
theorem madd_nd {l : Sn} {k : K4} {c : Int} (h : (l.map (·.1)).Nodup) : ((madd l k c).map (·.1)).Nodup := mset_nd h
theorem madd_ps {l : Sn} {k : K4} {c : Int} (h : PosL l) (hc : 1 <= c) : PosL (madd l k c) := by
 have := (gI_le h k).1
 exact h.mset (by show 1 <= gI l k + c; omega)
theorem nx_facts {n : Nat} : ∀ (vis acc : Sn),(acc.map (·.1)).Nodup -> PosL acc -> PosL vis -> (((vis.foldl (nxS n) acc).map (·.1)).Nodup /\ PosL (vis.foldl (nxS n) acc)) /\ (∀ k,gI (vis.foldl (nxS n) acc) k = gI acc k + sb (fun q => shK n q = k) vis) /\ totS (vis.foldl (nxS n) acc) = totS acc + totS vis /\ (vis.foldl (nxS n) acc).length <= acc.length + vis.length /\ ((∀ p ∈ acc,B4 p.1) -> (∀ p ∈ vis,B4 p.1) -> ∀ p ∈ vis.foldl (nxS n) acc,B4 p.1)
 | [],acc,nd,ps,_ => ⟨⟨nd,ps⟩,fun k => by show gI acc k = gI acc k + 0; omega,by show totS acc = totS acc + 0; omega,Nat.le_refl _,fun h _ => h⟩
 | p :: vis,acc,nd,ps,pv => by
   have hc := pv p (List.mem_cons_self ..)
   obtain ⟨h1,h2,h3,h4,h5⟩ := nx_facts vis (nxS n acc p) (madd_nd nd) (madd_ps ps hc) fun q hq => pv q (List.mem_cons_of_mem _ hq)
   have hlen : (nxS n acc p).length <= acc.length + 1 := mset_len
   refine ⟨h1,fun k => ?_, ?_, ?_,fun ha hv => h5 (fun q hq => ?_) fun q hq => hv q (List.mem_cons_of_mem _ hq)⟩
   · show gI (vis.foldl (nxS n) (nxS n acc p)) k = _
     rw [h2]
     have : gI (nxS n acc p) k = gI acc k + (open Classical in if shK n p.1 = k then p.2 else 0) := by
      unfold nxS madd
      rw [gI_mset]
      by_cases e : k = shK n p.1
      · rw [if_pos e,if_pos e.symm,e]; rfl
      · rw [if_neg e,if_neg fun x => e x.symm]; omega
     rw [this]
     show _ = gI acc k + ((open Classical in if shK n p.1 = k then p.2 else 0) + sb (fun q => shK n q = k) vis)
     omega
   · show totS (vis.foldl (nxS n) (nxS n acc p)) = totS acc + (p.2 + totS vis)
     rw [h3]
     have : totS (nxS n acc p) = totS acc + p.2 := totS_madd
     omega
   · show (vis.foldl (nxS n) (nxS n acc p)).length <= acc.length + (vis.length + 1)
     omega
   · rcases mem_mset hq with rfl | hq
     · exact (hv p (List.mem_cons_self ..)).sh
     · exact ha q hq
theorem nx_S {n : Nat} {l : Sn} (s : SnS l) : SnS (nxL n l) := by
 obtain ⟨⟨h1,h1'⟩,h2,h3,h4,h5⟩ := nx_facts (n := n) l [] List.nodup_nil (fun p hp => by cases hp) s.ps
 have := s.tt
 have := s.ln
 have e0 : totS ([] : Sn) = 0 := rfl
 exact ⟨h1,h1',h5 (fun p hp => by cases hp) s.b4,by unfold nxL; omega,by unfold nxL; simp only [List.length_nil] at h4; omega⟩
theorem nxL_perm {n : Nat} {l l' : Sn} (p : l.Perm l') (s : SnS l') : (nxL n l).Perm (nxL n l') := by
 have s' := s.perm p
 obtain ⟨⟨h1,h1'⟩,h2,_⟩ := nx_facts (n := n) l [] List.nodup_nil (fun p hp => by cases hp) s'.ps
 obtain ⟨⟨k1,k1'⟩,k2,_⟩ := nx_facts (n := n) l' [] List.nodup_nil (fun p hp => by cases hp) s.ps
 exact perm_of_gI h1 k1 h1' k1' fun k => by unfold nxL; rw [h2,k2,sb_perm p]
noncomputable def cN (L : Lv) (h : K4) (i : Int) : Int := gI ((mget L h).getD []) i
def LvK (L : Lv) : Prop := (L.map (·.1)).Nodup /\ ∀ p ∈ L,p.2 ≠ [] /\ (p.2.map (·.1)).Nodup /\ PosL p.2
theorem lv_in {L : Lv} (k : LvK L) (h : K4) : (((mget L h).getD []).map (·.1)).Nodup /\ PosL ((mget L h).getD []) := by
 cases hm : mget L h with
 | none => exact ⟨List.nodup_nil,fun p hp => by cases hp⟩
 | some M => exact (k.2 _ (mget_mem' hm)).2
theorem mset_nn {κ α : Type} {l : List (κ × α)} {k : κ} {x : α} : mset l k x ≠ [] := fun e => by
 have h1 : (k,x) ∈ mset l k x := mget_mem' mget_mset
 rw [e] at h1; cases h1
theorem LvK.stp {n : Nat} {L : Lv} (k : LvK L) {p : K4 × Int} (hp : 1 <= p.2) : LvK (stp n L p) := by
 refine ⟨mset_nd k.1,fun q hq => ?_⟩
 rcases mem_mset hq with rfl | hq
 · exact ⟨mset_nn,mset_nd (lv_in k _).1,(lv_in k _).2.mset hp⟩
 · exact k.2 q hq
theorem cN_stp {n : Nat} {L : Lv} {p : K4 × Int} (h : K4) (i : Int) : cN (stp n L p) h i = (open Classical in if h = hzK n p.1 /\ i = atK n p.1 - 1 then p.2 else cN L h i) := by
 unfold cN stp
 by_cases e : h = hzK n p.1
 · subst e
   rw [mget_mset]
   show gI (mset ((mget L (hzK n p.1)).getD []) (atK n p.1 - 1) p.2) i = _
   rw [gI_mset]
   by_cases e2 : i = atK n p.1 - 1
   · rw [if_pos e2,if_pos ⟨rfl,e2⟩]
   · rw [if_neg e2,if_neg fun x => e2 x.2]
 · rw [mget_mset_ne e,if_neg fun x => e x.1]
theorem lvl_facts {n : Nat} : ∀ (vis : Sn) (acc : Lv),LvK acc -> PosL vis -> (vis.map (·.1)).Nodup -> (∀ p ∈ vis,cN acc (hzK n p.1) (atK n p.1 - 1) = 0) -> LvK (vis.foldl (stp n) acc) /\ (∀ h i,cN (vis.foldl (stp n) acc) h i = cN acc h i + sb (fun q => h = hzK n q /\ i = atK n q - 1) vis)
 | [],acc,k,_,_,_ => ⟨k,fun h i => by show cN acc h i = cN acc h i + 0; omega⟩
 | p :: vis,acc,k,pv,nd,hz => by
   rw [List.map_cons,List.nodup_cons] at nd
   have hc := pv p (List.mem_cons_self ..)
   obtain ⟨h1,h2⟩ := lvl_facts vis (stp n acc p) (k.stp hc) (fun q hq => pv q (List.mem_cons_of_mem _ hq)) nd.2 fun q hq => by
    rw [cN_stp,if_neg fun x => ?_]
    · exact hz q (List.mem_cons_of_mem _ hq)
    · have : q.1 = p.1 := hz_inj x.1 (by have := x.2; omega)
      exact nd.1 (List.mem_map.2 ⟨q,hq,this⟩)
   refine ⟨h1,fun h i => ?_⟩
   show cN (vis.foldl (stp n) (stp n acc p)) h i = _
   rw [h2,cN_stp]
   by_cases e : h = hzK n p.1 /\ i = atK n p.1 - 1
   · rw [if_pos e,sb_pos (φ := fun q => h = hzK n q /\ i = atK n q - 1) e]
     have := hz p (List.mem_cons_self ..)
     rw [e.1,e.2,this]; omega
   · rw [if_neg e,sb_neg (φ := fun q => h = hzK n q /\ i = atK n q - 1) e]
theorem lvl_K {n : Nat} {l : Sn} (s : SnS l) : LvK (lvl n l) /\ ∀ h i,cN (lvl n l) h i = sb (fun q => h = hzK n q /\ i = atK n q - 1) l := by
 have h0 : ∀ h i,cN [] h i = 0 := fun h i => rfl
 obtain ⟨h1,h2⟩ := lvl_facts (n := n) l [] ⟨List.nodup_nil,fun p hp => by cases hp⟩ s.ps s.nd fun p _ => h0 _ _
 exact ⟨h1,fun h i => by unfold lvl; rw [h2,h0]; omega⟩
def LvE (L L' : Lv) : Prop := (L.map fun p => (p.1,(mget L' p.1).getD [])).Perm L' /\ ∀ p ∈ L,p.2.Perm ((mget L' p.1).getD [])
theorem lv_same {L L' : Lv} (o : LvK L) (o' : LvK L') (h : ∀ h i,cN L h i = cN L' h i) : LvE L L' := by
 have key : ∀ {L L' : Lv},LvK L -> (∀ h i,cN L h i = cN L' h i) -> ∀ k,mget L' k = none -> mget L k = none := fun {L L'} o h k hk => by
  cases hm : mget L k with
  | none => rfl
  | some M =>
    obtain ⟨a,b,c⟩ := o.2 _ (mget_mem' hm)
    cases hM : M with
    | nil => exact absurd hM a
    | cons q M' =>
      have hq : q ∈ M := by rw [hM]; exact List.mem_cons_self ..
      have e1 := h k q.1
      unfold cN at e1
      rw [hm,hk] at e1
      have e2 : gI M q.1 = q.2 := by unfold gI; rw [mem_mget b hq]; rfl
      have e3 : (gI ([] : Cn) q.1 : Int) = 0 := rfl
      have e1 : gI M q.1 = gI ([] : Cn) q.1 := e1
      have := c q hq
      omega
 have hin : ∀ p ∈ L,p.2.Perm ((mget L' p.1).getD []) := fun p hp => by
  have hm := mem_mget o.1 hp
  have a := lv_in o p.1
  have b := lv_in o' p.1
  have e := fun i => h p.1 i
  unfold cN at e
  rw [hm] at a e
  exact perm_of_gI a.1 b.1 a.2 b.2 e
 refine ⟨perm_of_get (by rw [List.map_map]; exact o.1) o'.1 fun k => ?_,hin⟩
 rw [mget_fun (fun k _ => (mget L' k).getD []) k L]
 cases hm : mget L k with
 | none => rw [key o' (fun h' i => (h h' i).symm) k hm]; rfl
 | some M =>
   cases hm' : mget L' k with
   | none => rw [key o h k hm'] at hm; cases hm
   | some M' => rfl
theorem cn_perm {M M' : Cn} {h : PH} {v : Value} (p : M.Perm M') (u : den h (cnV M) v) : den h (cnV M') v := by
 rcases u with ⟨e,e2⟩ | ⟨b,l,e,hl,k⟩
 · exact .inl ⟨e,by subst e2; exact List.nil_perm.1 p⟩
 · exact .inr ⟨b,l,e,hl.trans p,k⟩
theorem rows_lv {h : PH} {g : K4 -> Cn} : ∀ {es : List MapEntry} {l : Lv},MRows KA cnV h es l -> (∀ p ∈ l,p.2.Perm (g p.1)) -> MRows KA cnV h es (l.map fun p => (p.1,g p.1))
 | [],[],_,_ => trivial
 | e :: es,p :: l,u,z => ⟨⟨u.1.1,cn_perm (z p (List.mem_cons_self ..)) u.1.2⟩,rows_lv u.2 fun q hq => z q (List.mem_cons_of_mem _ hq)⟩
theorem lv_den {L L' : Lv} (e : LvE L L') {h : PH} {v : Value} (u : den h (lvV L) v) : den h (lvV L') v := by
 rcases u with ⟨e1,e2⟩ | ⟨b,l,e1,hl,es,clock,h1,h2,h3⟩
 · subst e2
   exact .inl ⟨e1,List.nil_perm.1 e.1⟩
 · exact .inr ⟨b,l.map fun p => (p.1,(mget L' p.1).getD []),e1,(hl.map _).trans e.1,es,clock,h1,⟨rows_lv (g := fun k => (mget L' k).getD []) h2.1 fun p hp => e.2 p (hl.mem_iff.1 hp),by rw [List.map_map]; exact h2.2⟩,h3⟩
theorem lvl_perm {n : Nat} {l l' : Sn} (p : l.Perm l') (s : SnS l') : LvE (lvl n l) (lvl n l') := by
 obtain ⟨a,b⟩ := lvl_K (n := n) (s.perm p)
 obtain ⟨a',b'⟩ := lvl_K (n := n) s
 exact lv_same a a' fun h i => by rw [b,b',sb_perm p]
theorem lvl_size {n : Nat} : ∀ (vis : Sn) (acc : Lv) (m : Nat) (C : Int),(∀ p ∈ acc,p.2.length <= m /\ ∀ q ∈ p.2,1 <= q.2 /\ q.2 <= C) -> (∀ p ∈ vis,1 <= p.2 /\ p.2 <= C) -> ∀ p ∈ vis.foldl (stp n) acc,p.2.length <= m + vis.length /\ ∀ q ∈ p.2,1 <= q.2 /\ q.2 <= C
 | [],acc,m,C,h,_ => h
 | x :: vis,acc,m,C,h,hv => by
   have := lvl_size (n := n) vis (stp n acc x) (m + 1) C (fun p hp => ?_) fun p hp => hv p (List.mem_cons_of_mem _ hp)
   · intro p hp
     obtain ⟨a,b⟩ := this p hp
     exact ⟨by rw [List.length_cons]; omega,b⟩
   · rcases mem_mset hp with rfl | hp
     · have hin : ((mget acc (hzK n x.1)).getD []).length <= m /\ ∀ q ∈ (mget acc (hzK n x.1)).getD [],1 <= q.2 /\ q.2 <= C := by
        cases hm : mget acc (hzK n x.1) with
        | none => exact ⟨Nat.zero_le _,fun q hq => by cases hq⟩
        | some M => exact h _ (mget_mem' hm)
       refine ⟨Nat.le_trans mset_len (by omega),fun q hq => ?_⟩
       rcases mem_mset hq with rfl | hq
       · exact hv x (List.mem_cons_self ..)
       · exact hin.2 q hq
     · obtain ⟨a,b⟩ := h p hp
       exact ⟨by omega,b⟩
noncomputable def seenS (acc : Sn) (g : Gm) : Sn := mset acc (key4 g.ws) g.n
noncomputable def seenL (gs : List Gm) : Sn := gs.foldl seenS []
noncomputable def sqD (gs : List Gm) (o : Nat) : Nat -> Sn
 | 0 => seenL gs
 | d + 1 => nxL (o - d) (sqD gs o d)
noncomputable def lvD (gs : List Gm) (o : Nat) (n : Nat) : Lv := if n = 0 then [] else lvl n (sqD gs o (o - n))
noncomputable def outL (gs : List Gm) (o n : Nat) : List Lv := (List.range (o + 1)).map fun j => if n < j then lvD gs o j else []
noncomputable def lvs (gs : List Gm) (o : Nat) : List Lv := (List.range (o + 1)).map (lvD gs o)
theorem outL_zero (gs : List Gm) (o : Nat) : outL gs o 0 = lvs gs o := by
 unfold outL lvs
 refine List.map_congr_left fun j _ => ?_
 split
 · rfl
 · have : j = 0 := by omega
   subst this; rfl
theorem outL_top (gs : List Gm) (o : Nat) : outL gs o o = List.replicate (o + 1) [] := by
 unfold outL
 refine List.eq_replicate_iff.2 ⟨by rw [List.length_map,List.length_range],fun b hb => ?_⟩
 obtain ⟨j,hj,rfl⟩ := List.mem_map.1 hb
 rw [if_neg (by have := List.mem_range.1 hj; omega)]
theorem outL_set (gs : List Gm) {o n : Nat} (h : n + 1 <= o) : (outL gs o (n + 1)).set (n + 1) (lvD gs o (n + 1)) = outL gs o n := by
 unfold outL
 refine List.ext_getElem? fun j => ?_
 rw [List.getElem?_set,List.length_map,List.length_range]
 by_cases e : n + 1 = j
 · subst e
   rw [if_pos rfl,if_pos (by omega),List.getElem?_map,List.getElem?_range (by omega)]
   simp
 · rw [if_neg e]
   by_cases hj : j < o + 1
   · rw [List.getElem?_map,List.getElem?_map,List.getElem?_range hj]
     simp only [Option.map_some]
     congr 1
     by_cases h2 : n + 1 < j
     · rw [if_pos h2,if_pos (by omega)]
     · rw [if_neg h2,if_neg (by omega)]
   · rw [List.getElem?_eq_none (by rw [List.length_map,List.length_range]; omega),List.getElem?_eq_none (by rw [List.length_map,List.length_range]; omega)]
theorem outL_len (gs : List Gm) (o n : Nat) : (outL gs o n).length = o + 1 := by unfold outL; rw [List.length_map,List.length_range]
def GsS (gs : List Gm) : Prop := gs.length <= 10 /\ ∀ g ∈ gs,(g.ws.length <= 4 /\ ∀ x ∈ g.ws,0 <= x /\ x <= 1000000) /\ 1 <= g.n /\ g.n <= 1073741824
theorem kAt_b {ws : List Int} (h : ∀ x ∈ ws,0 <= x /\ x <= 1000000) (i : Nat) : 0 <= kAt ws i /\ kAt ws i <= 1000001 := by
 unfold kAt
 split
 · have := h _ (getD_in 0 (by assumption)); omega
 · omega
theorem key4_b {ws : List Int} (h : ∀ x ∈ ws,0 <= x /\ x <= 1000000) : B4 (key4 ws) := ⟨⟨kAt_b h 0,kAt_b h 1⟩,kAt_b h 2,kAt_b h 3⟩
theorem seen_facts : ∀ (gs : List Gm) (acc : Sn),(acc.map (·.1)).Nodup -> PosL acc -> (∀ p ∈ acc,B4 p.1) -> (∀ g ∈ gs,(g.ws.length <= 4 /\ ∀ x ∈ g.ws,0 <= x /\ x <= 1000000) /\ 1 <= g.n /\ g.n <= 1073741824) -> (((gs.foldl seenS acc).map (·.1)).Nodup /\ PosL (gs.foldl seenS acc)) /\ (∀ p ∈ gs.foldl seenS acc,B4 p.1) /\ totS (gs.foldl seenS acc) <= totS acc + 1073741824 * gs.length /\ (gs.foldl seenS acc).length <= acc.length + gs.length
 | [],acc,nd,ps,hb,_ => ⟨⟨nd,ps⟩,hb,by show totS acc <= totS acc + 1073741824 * (0 : Int); omega,Nat.le_refl _⟩
 | g :: gs,acc,nd,ps,hb,hg => by
   obtain ⟨⟨g1,g2⟩,g3,g4⟩ := hg g (List.mem_cons_self ..)
   obtain ⟨h1,h2,h3,h4⟩ := seen_facts gs (seenS acc g) (mset_nd nd) (ps.mset g3) (fun p hp => by
    rcases mem_mset hp with rfl | hp
    · exact key4_b g2
    · exact hb p hp) fun g hg2 => hg g (List.mem_cons_of_mem _ hg2)
   have e : totS (seenS acc g) = totS acc - gI acc (key4 g.ws) + g.n := totS_mset
   have := (gI_le ps (key4 g.ws)).1
   have hl : (seenS acc g).length <= acc.length + 1 := mset_len
   refine ⟨h1,h2, ?_, ?_⟩
   · show totS (gs.foldl seenS (seenS acc g)) <= _
     rw [List.length_cons]
     omega
   · show (gs.foldl seenS (seenS acc g)).length <= acc.length + (gs.length + 1)
     omega
theorem seenL_S {gs : List Gm} (h : GsS gs) : SnS (seenL gs) := by
 obtain ⟨⟨h1,h2⟩,h3,h4,h5⟩ := seen_facts gs [] List.nodup_nil (fun p hp => by cases hp) (fun p hp => by cases hp) h.2
 have e0 : totS ([] : Sn) = 0 := rfl
 have := h.1
 simp only [List.length_nil] at h5
 exact ⟨h1,h2,h3,by unfold seenL; omega,by unfold seenL; omega⟩
theorem sqD_S {gs : List Gm} (h : GsS gs) (o : Nat) : ∀ d,SnS (sqD gs o d)
 | 0 => seenL_S h
 | d + 1 => nx_S (sqD_S h o d)
theorem lvs_at {gs : List Gm} {o n : Nat} (h : n <= o) : (lvs gs o).getD n [] = lvD gs o n := by
 unfold lvs
 rw [List.getD_eq_getElem?_getD,List.getElem?_map,List.getElem?_range (by omega)]; rfl
theorem mAt_S {gs : List Gm} (hg : GsS gs) {o n : Nat} (h : n <= o) (hist : List Int) : CnS (mAt (lvs gs o) n hist) := by
 unfold mAt
 rw [lvs_at h]
 unfold lvD
 split
 · exact ⟨Nat.zero_le _,fun p hp => by cases hp⟩
 · have s := sqD_S hg o (o - n)
   cases hm : mget (lvl n (sqD gs o (o - n))) (key4 hist) with
   | none => exact ⟨Nat.zero_le _,fun p hp => by cases hp⟩
   | some M =>
     have hz := lvl_size (n := n) (sqD gs o (o - n)) [] 0 100000000000 (fun p hp => by cases hp) (fun p hp => ⟨s.ps p hp,Int.le_trans (totS_mem s.ps hp) s.tt⟩) _ (mget_mem' hm)
     have := s.ln
     have hMl : M.length <= 0 + (sqD gs o (o - n)).length := hz.1
     refine ⟨by show M.length <= _; omega,fun q hq => ?_⟩
     have hq2 : 1 <= q.2 /\ q.2 <= 100000000000 := by
      exact (lvl_size (n := n) (sqD gs o (o - n)) [] 0 100000000000 (fun p hp => by cases hp) (fun p hp => ⟨s.ps p hp,Int.le_trans (totS_mem s.ps hp) s.tt⟩) _ (mget_mem' hm)).2 q hq
     omega
end Go.E3
