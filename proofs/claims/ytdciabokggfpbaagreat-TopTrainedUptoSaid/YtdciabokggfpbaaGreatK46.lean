/- K46: a part of the proof about training through the decoder: how the program's functions run, and what they compute, for every input. -/
import Derived.Test.YtdciabokggfpbaaGreatK45
import Derived.Test.YtdciabokggfpbaaGreatK44
set_option linter.all false
set_option maxRecDepth 20000
set_option maxHeartbeats 8000000
set_option synthInstance.maxSize 1000
namespace Go.E3
open Go Go.Ear Go.Proofs
instance : MpN Tryz.prog 224 K4 KA := ⟨221,225,Tryz.underlying224,inferInstance,Tryz.zeroValue225⟩
instance : IsMp Tryz.prog 225 := ⟨3,3,Tryz.underlying225⟩
instance {i : Int} : Vw (fun x : Int => iv x) (.cv (.int .i64 i)) i := ⟨fun u => u⟩
theorem B4.i {k : K4} (h : B4 k) : I64z k.a /\ I64z k.b /\ I64z k.c /\ I64z k.d := by
 obtain ⟨⟨h1,h2⟩,h3,h4⟩ := h
 refine ⟨⟨?_, ?_⟩,⟨?_, ?_⟩,⟨?_, ?_⟩,⟨?_, ?_⟩⟩ <;> omega
theorem mm_set {Lm : MM K4 Int Int} (h : K4) (w : Value) (M : Cn) : mmr (mset Lm h (w,M)) = mset (mmr Lm) h M := (mset_map (fun q : Value × List (Int × Int) => q.2) h (w,M) Lm).symm
theorem new_mm {Lm : MM K4 Int Int} {n : Nat} {k : K4} (w : Value) (h : mget Lm (hzK n k) = none) : ∃ Lm',mset Lm (hzK n k) (w,([] : Cn)) = Lm' /\ mget Lm' (hzK n k) ≠ none /\ mmc Lm' (hzK n k) = (mget (mmr Lm) (hzK n k)).getD [] /\ ∀ w M,mmr (mset Lm' (hzK n k) (w,M)) = mset (mmr Lm) (hzK n k) M :=
 ⟨_,rfl,by rw [mget_mset]; simp,by unfold mmc; rw [mm_set,mget_mset,mmr_eq,h]; rfl,fun w M => by rw [mm_set,mm_set,mset_mset]⟩
theorem stp_mm {n : Nat} {Lm Lm' : MM K4 Int Int} {k : K4} {a : Int} {vis : Sn} (hm : mmr Lm = lvl n vis) (hmc : mmc Lm' (hzK n k) = (mget (mmr Lm) (hzK n k)).getD []) (hmr : ∀ w M,mmr (mset Lm' (hzK n k) (w,M)) = mset (mmr Lm) (hzK n k) M) : mmr (mset Lm' (hzK n k) (mmw Lm' (hzK n k),mset (mmc Lm' (hzK n k)) (atK n k - 1) a)) = lvl n (vis ++ [(k,a)]) := by
 rw [hmr,hmc,hm]
 unfold lvl
 rw [List.foldl_append]; rfl
theorem nx_app {n : Nat} {k : K4} {a : Int} {vis : Sn} : nxL n (vis ++ [(k,a)]) = mset (nxL n vis) (shK n k) ((mget (nxL n vis) (shK n k)).getD 0 + a) := by
 unfold nxL
 rw [List.foldl_append]; rfl
instance levels_c {o : Nat} {w : Int} {gs : List Gm} : CtO Tryz.prog 173 [.ag [iv (o : Int),iv w,lv rGm gs]] (GsS gs /\ o <= 4) (fun g => [rA rLv 224 g.v (lvs gs o)]) := by
 refine (ctO Tryz.call173 Tryz.func173 Tryz.ntmps173 rfl Tryz.results173 rfl [9,11,12] fun h0 w0 ⟨hg,ho4⟩ => ?_)
 have hgl := hg.1
 repeat first | refine nx ?_ | intro _
 rename_i u sv
 have hF : ∀ k,k <= gs.length -> SnS ((gs.take k).foldl seenS []) := fun k hk => seenL_S (gs := gs.take k) ⟨by rw [List.length_take]; omega,fun g hg2 => hg.2 g (List.mem_of_mem_take hg2)⟩
 refine gLp (fun k : Nat => [(21,iv k)]) (fun k => [rM' KA (fun x : Int => iv x) sv ((gs.take k).foldl seenS [])]) (fun k => k <= gs.length) (fun k => gs.length - k) 0 (Nat.zero_le _) fun k hk => ?_
 repeat first | refine nx ?_ | intro _
 refine gIf (fun c => ?_) fun c => ?_
 · have hgk := hg.2 _ (getD_in gm0 c)
   have hsd : (gs.getD k gm0).ws.length <= 4 /\ ∀ x ∈ (gs.getD k gm0).ws,0 <= x /\ x <= 1000000 := hgk.1
   have hkg : I64z (kAt (gs.getD k gm0).ws 0) /\ I64z (kAt (gs.getD k gm0).ws 1) /\ I64z (kAt (gs.getD k gm0).ws 2) /\ I64z (kAt (gs.getD k gm0).ws 3) := (key4_b hgk.1.2).i
   have hsu : (gs.take (k + 1)).foldl seenS [] = mset ((gs.take k).foldl seenS []) (key4 (gs.getD k gm0).ws) (gs.getD k gm0).n := by
    rw [List.take_succ_eq_append_getElem c,List.foldl_append,List.getD_eq_getElem?_getD,List.getElem?_eq_getElem c]; rfl
   repeat first | refine gDs 7 6 (by rfl) (by kernel_rfl) ?_ | refine nx ?_ | intro _
   exact gBk (k + 1) (by omega) (by omega) (h2 := by rw [hsu]; repeat' (first | rfl | trivial | refine And.intro ?_ ?_))
 · have ek : k = gs.length := by omega
   subst ek
   rw [List.take_length]
   repeat first | refine nx ?_ | intro _
   rw [show List.replicate (o + 1) ([] : Lv) = outL gs o o from (outL_top gs o).symm,show gs.foldl seenS [] = seenL gs from rfl]
   refine gLp (fun s : Nat × Value × Sn => [(7,iv (s.1 : Int)),(4,ov s.2.1)]) (fun s => [rM' KA (fun x : Int => iv x) s.2.1 s.2.2,rA rLv 224 u (outL gs o s.1)]) (fun s => s.1 <= o /\ s.2.2.Perm (sqD gs o (o - s.1))) (fun s => s.1) (o,sv,seenL gs) ⟨Nat.le_refl _,by rw [Nat.sub_self]; exact .refl _⟩ (fun ⟨n,sv,l⟩ ⟨hn,hl⟩ => ?_)
   dsimp only at hn hl ⊢
   repeat first | refine nx ?_ | intro _
   refine gIf (fun c => ?_) fun c => ?_
   · have hS := (sqD_S hg o (o - n)).perm hl
     refine gOpL u fun vals hvl => ?_
     rw [outL_len] at hvl
     repeat first | refine nx ?_ | intro _
     rename_i mv nv p
     obtain ⟨vals1,h1,h2⟩ : ∃ vals1,vals.set n mv = vals1 /\ mv = vals1.getD n vnil := ⟨_,rfl,by rw [getD_set' (by omega),if_pos rfl]⟩
     have hv1 : vals1.length = o + 1 := by rw [<- h1,List.length_set]; exact hvl
     rw [h1]
     subst h2
     refine gMMn KN (fun x : Int => iv x) (vals1.getD n vnil) ?_
     refine gLp (fun _ : Sn × MM K4 Int Int => []) (fun s => [rMI KA (fun x : Int => iv x) p sv l s.1,rMM KA KN (fun x : Int => iv x) (vals1.getD n vnil) s.2,rM' KA (fun x : Int => iv x) nv (nxL n s.1)]) (fun s => (∃ r,(s.1 ++ r).Perm l) /\ mmr s.2 = lvl n s.1) (fun s => l.length - s.1.length) ([],[]) ⟨⟨l,.refl _⟩,rfl⟩ (fun ⟨vis,Lm⟩ ⟨⟨r,hr⟩,hm⟩ => ?_)
     dsimp only at hm hr ⊢
     have hsl : vis.length + r.length = l.length := by rw [<- List.length_append]; exact hr.length_eq
     refine gMMf (vals1.getD n vnil) fun f1 f2 f3 => ?_
     repeat first | refine nx ?_ | intro _
     refine gNxt (fun hd => ?_) fun k a ⟨rr,hrr⟩ => ?_
     · repeat first | refine nx ?_ | intro _
       refine gFzMMx (F := lvV) (vals1.getD n vnil) n (lvD gs o n) (fun {h} u => ?_) ?_
       · rw [hm] at u
         have : lvD gs o n = lvl n (sqD gs o (o - n)) := by unfold lvD; rw [if_neg (by omega)]
         rw [this]
         exact lv_den (lvl_perm (hd.trans hl) (sqD_S hg o _)) u
       rw [h1]
       refine gClLx u rLv ?_
       obtain ⟨n,rfl⟩ : ∃ n',n = n' + 1 := ⟨n - 1,by omega⟩
       have en : (((n + 1 : Nat) : Int) - 1) = (n : Int) := by omega
       rw [en,outL_set gs hn]
       have hsq : sqD gs o (o - n) = nxL (n + 1) (sqD gs o (o - (n + 1))) := by
        rw [show o - n = (o - (n + 1)) + 1 by omega,sqD,show o - (o - (n + 1)) = n + 1 by omega]
       exact gBk (n,nv,nxL (n + 1) vis) ⟨by dsimp only; omega,by dsimp only; rw [hsq]; exact nxL_perm (hd.trans hl) (sqD_S hg o _)⟩ (by dsimp only; omega)
     · have hl3 := hrr.length_eq
       rw [List.length_append,List.length_cons] at hl3
       have hka : (k,a) ∈ l := hrr.mem_iff.1 (by simp)
       have hb4 : B4 k := hS.b4 _ hka
       have ha1 : 1 <= a := hS.ps _ hka
       have ha2 : a <= 100000000000 := Int.le_trans (totS_mem hS.ps hka) hS.tt
       have hmb : (∃ b,mmw Lm (hzK n k) = .map b) /\ (isNM (mmw Lm (hzK n k)) = true -> mget Lm (hzK n k) = none) /\ (¬ isNM (mmw Lm (hzK n k)) = true -> mget Lm (hzK n k) ≠ none) := by
        unfold mmw
        rw [mmo_eq]
        cases hh : mget Lm (hzK n k) with
        | none => exact ⟨⟨none,rfl⟩,fun _ => rfl,fun h => absurd rfl h⟩
        | some q =>
          obtain ⟨b,hb⟩ := f1 _ (mget_mem' hh)
          have hb : q.1 = .map (some b) := hb
          have hq : (Option.map (fun x : Value × List (Int × Int) => x.1) (some q)).getD (Value.map none) = q.1 := rfl
          rw [hq,hb]
          exact ⟨⟨some b,rfl⟩,(fun h => by cases h),fun _ => by simp⟩
       obtain ⟨hmb,hmn,hms⟩ := hmb
       obtain ⟨⟨⟨b1,b2⟩,b3,b4⟩,⟨b5,b6⟩,b7,b8⟩ := id hb4
       have hat : I64z (atK n k - 1) := by unfold I64z atK; split <;> omega
       have hki := hb4.i
       have hpv : PosL vis := fun q hq => hS.ps q (hr.mem_iff.1 (List.mem_append_left _ hq))
       have hg0 : 0 <= (mget (nxL n vis) (shK n k)).getD 0 /\ (mget (nxL n vis) (shK n k)).getD 0 <= 100000000000 := by
        obtain ⟨⟨_,q1⟩,_,q2,_⟩ := nx_facts (n := n) vis [] List.nodup_nil (fun p hp => by cases hp) hpv
        have q3 := gI_le q1 (shK n k)
        have q4 : totS vis + totS r = totS l := by rw [<- totS_app,totS_perm hr]
        have q5 := totS_nn (l := r) fun q hq => hS.ps q (hr.mem_iff.1 (List.mem_append_right _ hq))
        have q6 := hS.tt
        have q7 : totS ([] : Sn) = 0 := rfl
        exact ⟨q3.1,by show gI (nxL n vis) (shK n k) <= _; unfold nxL; omega⟩
       have hsi := (hb4.sh (n := n)).i
       have hhi := (hb4.hz (n := n)).i
       have hn4 : n = 1 \/ n = 2 \/ n = 3 \/ n = 4 := by omega
       rcases hn4 with rfl | rfl | rfl | rfl
       · simp only [hzK] at hmb hmn hms hhi
         simp only [atK] at hat
         simp only [shK] at hsi hg0
         iterate 19 (first | refine nx ?_ | intro _)
         rename_i v9
         refine gFzV v9 ?_
         repeat first | refine gDs 7 7 (by rfl) (by kernel_rfl) ?_ | refine nx ?_ | intro _
         refine gIf (fun hc => ?_) fun hc => ?_
         · have hcn := hmn hc
           iterate 12 (first | refine gMk 7 5 6 66 KN (fun x : Int => iv x) (by rfl) (by kernel_rfl) ?_ | refine nx ?_ | intro _)
           rename_i γ
           obtain ⟨Lm',hLm',hns,hmc,hmr⟩ := new_mm (Lm := Lm) (n := 1) (k := k) γ.v hcn
           simp only [hzK] at hLm' hns
           rw [hLm']
           repeat first | refine gMent 8 5 7 88 nv (⟨0,0,0,0⟩ : K4) 0 (by rfl) (by kernel_rfl) ?_ | refine gDs 13 12 (by rfl) (by kernel_rfl) ?_ | refine gDs 4 3 (by rfl) (by kernel_rfl) ?_ | refine nx ?_ | intro _
           exact gBk (vis ++ [(k,a)],_) ⟨⟨rr,by simpa using hrr⟩,stp_mm (n := 1) hm hmc hmr⟩ (by dsimp only; rw [List.length_append,List.length_singleton]; omega) (h2 := by dsimp only; repeat' (first | rfl | trivial | exact (nx_app (n := 1)).symm | refine And.intro ?_ ?_))
         · have hns := hms hc
           have hmc : mmc Lm (hzK 1 k) = (mget (mmr Lm) (hzK 1 k)).getD [] := rfl
           have hmr := fun w M => mm_set (Lm := Lm) (hzK 1 k) w M
           repeat first | refine gMent 8 5 7 88 nv (⟨0,0,0,0⟩ : K4) 0 (by rfl) (by kernel_rfl) ?_ | refine gDs 13 12 (by rfl) (by kernel_rfl) ?_ | refine gDs 4 3 (by rfl) (by kernel_rfl) ?_ | refine nx ?_ | intro _
           exact gBk (vis ++ [(k,a)],_) ⟨⟨rr,by simpa using hrr⟩,stp_mm (n := 1) hm hmc hmr⟩ (by dsimp only; rw [List.length_append,List.length_singleton]; omega) (h2 := by dsimp only; repeat' (first | rfl | trivial | exact (nx_app (n := 1)).symm | refine And.intro ?_ ?_))
       · simp only [hzK] at hmb hmn hms hhi
         simp only [atK] at hat
         simp only [shK] at hsi hg0
         iterate 19 (first | refine nx ?_ | intro _)
         rename_i v9
         refine gFzV v9 ?_
         repeat first | refine gDs 7 7 (by rfl) (by kernel_rfl) ?_ | refine nx ?_ | intro _
         refine gIf (fun hc => ?_) fun hc => ?_
         · have hcn := hmn hc
           iterate 12 (first | refine gMk 7 5 6 66 KN (fun x : Int => iv x) (by rfl) (by kernel_rfl) ?_ | refine nx ?_ | intro _)
           rename_i γ
           obtain ⟨Lm',hLm',hns,hmc,hmr⟩ := new_mm (Lm := Lm) (n := 2) (k := k) γ.v hcn
           simp only [hzK] at hLm' hns
           rw [hLm']
           repeat first | refine gMent 8 5 7 88 nv (⟨k.b,0,0,0⟩ : K4) 0 (by rfl) (by kernel_rfl) ?_ | refine gDs 13 12 (by rfl) (by kernel_rfl) ?_ | refine gDs 4 3 (by rfl) (by kernel_rfl) ?_ | refine nx ?_ | intro _
           exact gBk (vis ++ [(k,a)],_) ⟨⟨rr,by simpa using hrr⟩,stp_mm (n := 2) hm hmc hmr⟩ (by dsimp only; rw [List.length_append,List.length_singleton]; omega) (h2 := by dsimp only; repeat' (first | rfl | trivial | exact (nx_app (n := 2)).symm | refine And.intro ?_ ?_))
         · have hns := hms hc
           have hmc : mmc Lm (hzK 2 k) = (mget (mmr Lm) (hzK 2 k)).getD [] := rfl
           have hmr := fun w M => mm_set (Lm := Lm) (hzK 2 k) w M
           repeat first | refine gMent 8 5 7 88 nv (⟨k.b,0,0,0⟩ : K4) 0 (by rfl) (by kernel_rfl) ?_ | refine gDs 13 12 (by rfl) (by kernel_rfl) ?_ | refine gDs 4 3 (by rfl) (by kernel_rfl) ?_ | refine nx ?_ | intro _
           exact gBk (vis ++ [(k,a)],_) ⟨⟨rr,by simpa using hrr⟩,stp_mm (n := 2) hm hmc hmr⟩ (by dsimp only; rw [List.length_append,List.length_singleton]; omega) (h2 := by dsimp only; repeat' (first | rfl | trivial | exact (nx_app (n := 2)).symm | refine And.intro ?_ ?_))
       · simp only [hzK] at hmb hmn hms hhi
         simp only [atK] at hat
         simp only [shK] at hsi hg0
         iterate 19 (first | refine nx ?_ | intro _)
         rename_i v9
         refine gFzV v9 ?_
         repeat first | refine gDs 7 7 (by rfl) (by kernel_rfl) ?_ | refine nx ?_ | intro _
         refine gIf (fun hc => ?_) fun hc => ?_
         · have hcn := hmn hc
           iterate 12 (first | refine gMk 7 5 6 66 KN (fun x : Int => iv x) (by rfl) (by kernel_rfl) ?_ | refine nx ?_ | intro _)
           rename_i γ
           obtain ⟨Lm',hLm',hns,hmc,hmr⟩ := new_mm (Lm := Lm) (n := 3) (k := k) γ.v hcn
           simp only [hzK] at hLm' hns
           rw [hLm']
           repeat first | refine gMent 8 5 7 88 nv (⟨k.b,k.c,0,0⟩ : K4) 0 (by rfl) (by kernel_rfl) ?_ | refine gDs 13 12 (by rfl) (by kernel_rfl) ?_ | refine gDs 4 3 (by rfl) (by kernel_rfl) ?_ | refine nx ?_ | intro _
           exact gBk (vis ++ [(k,a)],_) ⟨⟨rr,by simpa using hrr⟩,stp_mm (n := 3) hm hmc hmr⟩ (by dsimp only; rw [List.length_append,List.length_singleton]; omega) (h2 := by dsimp only; repeat' (first | rfl | trivial | exact (nx_app (n := 3)).symm | refine And.intro ?_ ?_))
         · have hns := hms hc
           have hmc : mmc Lm (hzK 3 k) = (mget (mmr Lm) (hzK 3 k)).getD [] := rfl
           have hmr := fun w M => mm_set (Lm := Lm) (hzK 3 k) w M
           repeat first | refine gMent 8 5 7 88 nv (⟨k.b,k.c,0,0⟩ : K4) 0 (by rfl) (by kernel_rfl) ?_ | refine gDs 13 12 (by rfl) (by kernel_rfl) ?_ | refine gDs 4 3 (by rfl) (by kernel_rfl) ?_ | refine nx ?_ | intro _
           exact gBk (vis ++ [(k,a)],_) ⟨⟨rr,by simpa using hrr⟩,stp_mm (n := 3) hm hmc hmr⟩ (by dsimp only; rw [List.length_append,List.length_singleton]; omega) (h2 := by dsimp only; repeat' (first | rfl | trivial | exact (nx_app (n := 3)).symm | refine And.intro ?_ ?_))
       · simp only [hzK] at hmb hmn hms hhi
         simp only [atK] at hat
         simp only [shK] at hsi hg0
         iterate 19 (first | refine nx ?_ | intro _)
         rename_i v9
         refine gFzV v9 ?_
         repeat first | refine gDs 7 7 (by rfl) (by kernel_rfl) ?_ | refine nx ?_ | intro _
         refine gIf (fun hc => ?_) fun hc => ?_
         · have hcn := hmn hc
           iterate 12 (first | refine gMk 7 5 6 66 KN (fun x : Int => iv x) (by rfl) (by kernel_rfl) ?_ | refine nx ?_ | intro _)
           rename_i γ
           obtain ⟨Lm',hLm',hns,hmc,hmr⟩ := new_mm (Lm := Lm) (n := 4) (k := k) γ.v hcn
           simp only [hzK] at hLm' hns
           rw [hLm']
           repeat first | refine gMent 8 5 7 88 nv (⟨k.b,k.c,k.d,0⟩ : K4) 0 (by rfl) (by kernel_rfl) ?_ | refine gDs 13 12 (by rfl) (by kernel_rfl) ?_ | refine gDs 4 3 (by rfl) (by kernel_rfl) ?_ | refine nx ?_ | intro _
           exact gBk (vis ++ [(k,a)],_) ⟨⟨rr,by simpa using hrr⟩,stp_mm (n := 4) hm hmc hmr⟩ (by dsimp only; rw [List.length_append,List.length_singleton]; omega) (h2 := by dsimp only; repeat' (first | rfl | trivial | exact (nx_app (n := 4)).symm | refine And.intro ?_ ?_))
         · have hns := hms hc
           have hmc : mmc Lm (hzK 4 k) = (mget (mmr Lm) (hzK 4 k)).getD [] := rfl
           have hmr := fun w M => mm_set (Lm := Lm) (hzK 4 k) w M
           repeat first | refine gMent 8 5 7 88 nv (⟨k.b,k.c,k.d,0⟩ : K4) 0 (by rfl) (by kernel_rfl) ?_ | refine gDs 13 12 (by rfl) (by kernel_rfl) ?_ | refine gDs 4 3 (by rfl) (by kernel_rfl) ?_ | refine nx ?_ | intro _
           exact gBk (vis ++ [(k,a)],_) ⟨⟨rr,by simpa using hrr⟩,stp_mm (n := 4) hm hmc hmr⟩ (by dsimp only; rw [List.length_append,List.length_singleton]; omega) (h2 := by dsimp only; repeat' (first | rfl | trivial | exact (nx_app (n := 4)).symm | refine And.intro ?_ ?_))
   · obtain rfl : n = 0 := by omega
     rw [outL_zero]
     repeat first | refine nx ?_ | intro _
     trivial
instance levels_k {o : Nat} {w : Int} {gs : List Gm} : Ct Tryz.prog 173 [.ag [iv (o : Int),iv w,lv rGm gs]] (GsS gs /\ o <= 4) (lv rLv (lvs gs o)) := CtO.lv levels_c
@[reducible] def lgO (o w : Nat) (gs : List Gm) (b : Int) (am : Fr) : Lg := ⟨⟨(o : Int),(w : Int),gs⟩,b,am,[]⟩
def LoS (o w : Nat) (gs : List Gm) (am : Fr) : Prop := (GsS gs /\ o <= 4) /\ w <= 9 /\ bf am <= 1000
section
variable {o w : Nat} {gs : List Gm} {b : Int} {am : Fr}
theorem way1 : Ct Tryz.prog 162 [lgV (lgO o w gs 1 am)] (LoS o w gs am) (ifV 218 (adV (lvs gs o) (w + 1) am)) := by
 refine (ctI Tryz.call162 Tryz.func162 Tryz.ntmps162 rfl Tryz.results162 rfl [] fun h0 w0 ⟨h1,h2,h3⟩ => ?_)
 repeat first | refine nx ?_ | intro _
 refine gIf (fun c => absurd c (by decide)) fun c => ?_
 repeat first | refine nx ?_ | intro _
 refine gIf (fun c => absurd c (by decide)) fun c => ?_
 repeat first | refine nx ?_ | intro _
 refine gIf (fun c => absurd c (by decide)) fun c => ?_
 repeat first | refine nx ?_ | intro _
 trivial
theorem way3 : Ct Tryz.prog 162 [lgV (lgO o w gs 3 am)] (LoS o w gs am) (ifV 215 (dsV (lvs gs o) (w + 1) am)) := by
 refine (ctI Tryz.call162 Tryz.func162 Tryz.ntmps162 rfl Tryz.results162 rfl [] fun h0 w0 ⟨h1,h2,h3⟩ => ?_)
 repeat first | refine nx ?_ | intro _
 refine gIf (fun c => absurd c (by decide)) fun c => ?_
 repeat first | refine nx ?_ | intro _
 refine gIf (fun c => ?_) fun c => absurd (show (3 : Nat) = 3 from rfl) c
 repeat first | refine nx ?_ | intro _
 trivial
theorem way4 : Ct Tryz.prog 162 [lgV (lgO o w gs 4 am)] (LoS o w gs am) (ifV 217 (coV (lvs gs o) (w + 1))) := by
 refine (ctI Tryz.call162 Tryz.func162 Tryz.ntmps162 rfl Tryz.results162 rfl [] fun h0 w0 ⟨h1,h2,h3⟩ => ?_)
 repeat first | refine nx ?_ | intro _
 refine gIf (fun c => absurd c (by decide)) fun c => ?_
 repeat first | refine nx ?_ | intro _
 refine gIf (fun c => absurd c (by decide)) fun c => ?_
 repeat first | refine nx ?_ | intro _
 refine gIf (fun c => ?_) fun c => absurd (show (4 : Nat) = 4 from rfl) c
 repeat first | refine nx ?_ | intro _
 trivial
theorem sea_all {o : Nat} {gs : List Gm} (hg : GsS gs) : ∀ (n : Nat) (h : List Int),n <= o -> (h.length <= 4 /\ ∀ x ∈ h,0 <= x /\ x <= 1000000) -> SeA (lvs gs o) n h
 | 0,_,_,_ => trivial
 | n + 1,h,hn,hh => ⟨⟨hh,by unfold lvs; rw [List.length_map,List.length_range]; omega,mAt_S hg hn h⟩,sea_all hg n (h.drop 1) (by omega) ⟨by rw [List.length_drop]; omega,fun x hx => hh.2 x (List.mem_of_mem_drop hx)⟩⟩
noncomputable def rowL (o w : Nat) (gs : List Gm) (b : Int) (am : Rat) (hist : List Int) : List Fr := if b = 1 then addR (mAt (lvs gs o) o hist) (w + 1) am else if b = 3 then dsR (lvs gs o) (w + 1) am o hist else tyR (lvs gs o) (w + 1) o hist
theorem rowL_len {am : Rat} {hist : List Int} : (rowL o w gs b am hist).length = w + 1 := by
 unfold rowL
 split
 · unfold addR; rw [List.length_map,List.length_range]
 split
 · exact dsR_len ..
 · exact tyR_len ..
structure RwS (o w : Nat) (gs : List Gm) (b : Int) (am : Fr) : Prop where
 lo : LoS o w gs am
 lg : LgS (lgO o w gs b am)
 ok : lgE (lgO o w gs b am) = 0
def HsS (o w : Nat) (hist : List Int) : Prop := hist.length + 1 = o /\ ∀ x ∈ hist,0 <= x /\ x <= w
theorem RwS.by (s : RwS o w gs b am) : b = 1 \/ b = 3 \/ b = 4 := by
 have h := s.ok
 unfold lgE at h
 split at h
 · split at h
   · rename_i h2
     unfold lgB at h2
     split at h2
     · exact .inl (by assumption)
     · split at h2
       · exact .inr (.inl (by assumption))
       · split at h2
         · exact .inr (.inr (by assumption))
         · cases h2
   · cases h
 · rename_i h2; exact absurd h h2
theorem HsS.at {hist : List Int} (s : RwS o w gs b am) (h : HsS o w hist) : (hist.length <= 4 /\ ∀ x ∈ hist,0 <= x /\ x <= 1000000) /\ hisE (lgO o w gs b am) hist = 0 := by
 have h4 := s.lo.1.2
 have hw := s.lo.2.1
 refine ⟨⟨by have := h.1; omega,fun x hx => by have := h.2 x hx; omega⟩, ?_⟩
 unfold hisE
 rw [if_pos s.ok,if_pos]
 refine ⟨by show (hist.length : Int) = (o : Int) - 1; have := h.1; omega, ?_⟩
 unfold inB
 rw [Bool.not_eq_true',List.any_eq_false]
 intro x hx
 have := h.2 x hx
 unfold outB
 simp only [Bool.or_eq_true,decide_eq_true_eq]
 show ¬ (x < 0 \/ (w : Int) < x)
 omega
theorem rowL_can {hist : List Int} (s : RwS o w gs b am) (ft : FtF am) (h : HsS o w hist) : Can 2000000 (rowL o w gs b am.rat hist) := by
 obtain ⟨h1,_⟩ := h.at s
 have h4 := s.lo.1.2
 have hw := s.lo.2.1
 have hbq : bq am.rat <= bf am := bq_rat ft.h
 have hb := s.lo.2.2
 have hse := sea_all s.lo.1.1 o hist (Nat.le_refl _) h1
 have up : ∀ {b : Nat} {l : List Fr},Can b l -> b <= 2000000 -> Can 2000000 l := fun c hb f hf => ⟨(c f hf).1,Nat.le_trans (c f hf).2 hb⟩
 unfold rowL
 split
 · refine up (b := 3000) (fun f hf => ?_) (by decide)
   unfold addR at hf
   obtain ⟨i,_,rfl⟩ := List.mem_map.1 hf
   rw [frK_rat]
   refine ⟨rfl, ?_⟩
   have hcs : CnS (mAt (lvs gs o) o hist) := mAt_S s.lo.1.1 (Nat.le_refl _) hist
   have hc := cnt_b hcs i
   have hs := smM_s hcs
   unfold addQ
   have q1 : bq ((cnt (mAt (lvs gs o) o hist) i : Int) : Rat) <= 2 := bq_intc (by omega) (by omega)
   have q2 : bq ((smM (mAt (lvs gs o) o hist) : Int) : Rat) <= 2 := bq_intc (by omega) (by omega)
   have q3 : bq (((w + 1 : Nat) : Int) : Rat) <= 2 := bq_intc (by omega) (by omega)
   have q4 := bq_mul am.rat (((w + 1 : Nat) : Int) : Rat)
   have q5 := bq_add ((smM (mAt (lvs gs o) o hist) : Int) : Rat) (am.rat * (((w + 1 : Nat) : Int) : Rat))
   have q6 := bq_add ((cnt (mAt (lvs gs o) o hist) i : Int) : Rat) am.rat
   have q7 := bq_div (((cnt (mAt (lvs gs o) o hist) i : Int) : Rat) + am.rat) (((smM (mAt (lvs gs o) o hist) : Int) : Rat) + am.rat * (((w + 1 : Nat) : Int) : Rat))
   omega
 split
 · exact up (dsR_can (by omega) (by omega) hse) (bD_le h4)
 · exact up (tyR_can (by omega) hse) (by omega)
theorem row_c (ft : FtF am) (hist : List Int) : Ct Tryz.prog 143 [lgV (lgO o w gs b am),lv rI hist] (RwS o w gs b am /\ HsS o w hist) (.tp [lv rF (rowL o w gs b am.rat hist),iv 0]) := by
 have key : ∀ (s : RwS o w gs b am) (h : HsS o w hist),Ct Tryz.prog 143 [lgV (lgO o w gs b am),lv rI hist] True (.tp [lv rF (rowL o w gs b am.rat hist),iv 0]) := fun s h => by
  have hlo := s.lo
  have hlg := s.lg
  obtain ⟨hh,hz⟩ := h.at s
  have hl : LgS (lgO o w gs b am) /\ hist.length <= 1099511627776 := ⟨hlg,by omega⟩
  have h4 := hlo.1.2
  have hw := hlo.2.1
  have hb := hlo.2.2
  have hse := sea_all hlo.1.1 o hist (Nat.le_refl _) hh
  have hss : SeS (lvs gs o) o hist := ⟨hh,by unfold lvs; rw [List.length_map,List.length_range]; omega,mAt_S hlo.1.1 (Nat.le_refl _) hist⟩
  have hby := s.by
  clear s
  obtain ⟨l,hL⟩ : ∃ l,l = lgO o w gs b am := ⟨_,rfl⟩
  rw [<- hL] at hl hz hlg ⊢
  have ho : l.t.order = (o : Int) := by rw [hL]
  rcases hby with rfl | rfl | rfl
  · haveI i1 : Ct Tryz.prog 162 [lgV l] (LoS o w gs am) (ifV 218 (adV (lvs gs o) (w + 1) am)) := by rw [hL]; exact way1
    haveI i2 : Ct Tryz.prog 202 [(adV (lvs gs o) (w + 1) am),iv l.t.order,lv rI hist] True (lv rF (rowL o w gs 1 am.rat hist)) := by
     rw [ho]
     exact ⟨Tryz.call202,fun _ => (added_c (j := inferInstance)).h ⟨hss,by omega,hb⟩⟩
    refine (ctI Tryz.call143 Tryz.func143 Tryz.ntmps143 rfl Tryz.results143 rfl [] fun h0 w0 _ => ?_)
    repeat first | refine nx ?_ | intro _
    rw [hz]
    refine gIf (fun c => absurd rfl c) fun c => ?_
    repeat first | refine gDs 9 7 (by rfl) (by kernel_rfl) ?_ | refine nx ?_ | intro _
    all_goals trivial
  · haveI i1 : Ct Tryz.prog 162 [lgV l] (LoS o w gs am) (ifV 215 (dsV (lvs gs o) (w + 1) am)) := by rw [hL]; exact way3
    haveI i2 : Ct Tryz.prog 199 [(dsV (lvs gs o) (w + 1) am),iv l.t.order,lv rI hist] True (lv rF (rowL o w gs 3 am.rat hist)) := by
     rw [ho]
     exact ⟨Tryz.call199,fun _ => disc_k.h ⟨h4,hse,by omega,hb⟩⟩
    refine (ctI Tryz.call143 Tryz.func143 Tryz.ntmps143 rfl Tryz.results143 rfl [] fun h0 w0 _ => ?_)
    repeat first | refine nx ?_ | intro _
    rw [hz]
    refine gIf (fun c => absurd rfl c) fun c => ?_
    repeat first | refine gDs 9 7 (by rfl) (by kernel_rfl) ?_ | refine nx ?_ | intro _
    all_goals trivial
  · haveI i1 : Ct Tryz.prog 162 [lgV l] (LoS o w gs am) (ifV 217 (coV (lvs gs o) (w + 1))) := by rw [hL]; exact way4
    haveI i2 : Ct Tryz.prog 201 [(coV (lvs gs o) (w + 1)),iv l.t.order,lv rI hist] True (lv rF (rowL o w gs 4 am.rat hist)) := by
     rw [ho]
     exact ⟨Tryz.call201,fun _ => typed_k.h ⟨h4,hse,by omega⟩⟩
    refine (ctI Tryz.call143 Tryz.func143 Tryz.ntmps143 rfl Tryz.results143 rfl [] fun h0 w0 _ => ?_)
    repeat first | refine nx ?_ | intro _
    rw [hz]
    refine gIf (fun c => absurd rfl c) fun c => ?_
    repeat first | refine gDs 9 7 (by rfl) (by kernel_rfl) ?_ | refine nx ?_ | intro _
    all_goals trivial
 exact ⟨Tryz.call143,fun ⟨s,h⟩ => (key s h).h trivial⟩
end
structure Vr where
 ph : List Int
 f : Fr
def vr0 : Vr := ⟨[],fr0⟩
def rVr : Rp Vr := mkRp 4 (fun e => [lv rI e.ph,bv e.f.neg,lv rU e.f.n,lv rU e.f.d]) (fun _ => rfl) (fun _ => rfl)
instance : RpC rVr (fun e => [lv rI e.ph,bv e.f.neg,lv rU e.f.n,lv rU e.f.d]) := ⟨Iff.rfl⟩
instance : Rk rVr 4 := ⟨rfl⟩
instance : D0 Vr vr0 := ⟨trivial⟩
instance : RT Tryz.prog 91 Vr rVr 80 vr0 := ⟨Tryz.sizeOf91,_,_,⟨Tryz.type91,rfl,rfl,rfl,rfl⟩,fun _ => ⟨nil_lv rfl,rfl,nil_lv rfl,nil_lv rfl,trivial⟩⟩
instance : RT Tryz.prog 92 (List Vr) (rL rVr) 24 [] := ⟨Tryz.sizeOf92,_,_,⟨Tryz.type92,rfl,rfl,rfl,rfl⟩,fun _ => ⟨nil_lv rfl,trivial⟩⟩
@[reducible] def tkV (m : Md) (g : Fr) (l : Lg) : SV := .ag [lv rM [m],lv (rL rVr) [[⟨[1],g⟩]],iv l.t.order,iv l.t.words,lv rGm l.t.list,iv l.by_,bv l.am.neg,lv rU l.am.n,lv rU l.am.d,lv rF l.mix]
@[reducible] def dtC (m : Md) (g : Fr) (l : Lg) (v : Value) (past : Nat) : List SV := [lv rM [m],lv (rL rVr) [[⟨[1],g⟩]],iv l.t.order,iv l.t.words,lv rGm l.t.list,iv l.by_,bv l.am.neg,lv rU l.am.n,lv rU l.am.d,lv rF l.mix,ov v,iv (past : Int)]
@[reducible] def plV (h : K4) (j : Nat) : SV := .ag [iv h.a,iv h.b,iv h.c,iv h.d,iv 1,iv 0,iv 0,iv (j : Int)]
section
variable {m : Md} {g : Fr} {l : Lg} {v k : Value} {past j : Nat} {h : K4} {B : List Res}
instance phones_c : Ct Tryz.prog 147 [.pk (dtC m g l v past) 0,plV h j] True (lv rI [1]) := by
 refine (ctI Tryz.call147 Tryz.func147 Tryz.ntmps147 rfl Tryz.results147 rfl [] fun h0 w0 _ => ?_)
 have h1 : 0 < ([[(⟨[1],g⟩ : Vr)]].getD (1 - 1) []).length := Nat.zero_lt_one
 repeat first | refine gDs 16 15 (by rfl) (by kernel_rfl) ?_ | refine nx ?_ | intro _
 rfl
instance ends_c : Ct Tryz.prog 91 [.pk (dtC m g l v past) 0,plV h j] True (bv true) := by
 refine (ctI Tryz.call91 Tryz.func91 Tryz.ntmps91 rfl Tryz.results91 rfl [] fun h0 w0 _ => ?_)
 repeat first | refine gDs 9 8 (by rfl) (by kernel_rfl) ?_ | refine nx ?_ | intro _
 rfl
instance (priority := high) : IN (([1] : List Int).getD 0 0) 1 := ⟨rfl⟩
instance tmodel_c [ft : FtM m] : Ct Tryz.prog 92 [.pk (dtC m g l v past) 0,plV h j] True (mv m) := by
 refine (ctI Tryz.call92 Tryz.func92 Tryz.ntmps92 rfl Tryz.results92 rfl [] fun h0 w0 _ => ?_)
 repeat first | refine gDs 16 15 (by rfl) (by kernel_rfl) ?_ | refine nx ?_ | intro _
 exact ⟨rfl,rfl,rfl,rfl⟩
def hrB (m : Md) (o : List Int) : Bool := !o.any fun x => decide (x < 0) || decide (((m.say.getD 0 []).length : Int) <= x)
instance heard1_c {x k : Int} {v : Value} {t : TypeId} {B : List Res} [hv : HV B v [iv k] t] : CtB Tryz.prog 141 [iv x,ov v] B True (bv (decide (x < 0) || decide (k <= x))) := by
 refine (ctB Tryz.call141 Tryz.func141 Tryz.ntmps141 rfl Tryz.results141 rfl [] fun h0 w0 _ => ?_)
 repeat first | refine nx ?_ | intro _
 trivial
instance heard_c [ft : FtM m] {o : List Int} {S : SV} [i : Vw (lv rI) S o] : Ct Tryz.prog 85 [tkV m g l,S] (o.length <= 1099511627776 /\ 0 < m.say.length) (bv (hrB m o)) := by
 refine ct2 (v := fun _ : Unit => tkV m g l) (x := ()) ⟨fun u => u⟩ i (ctI Tryz.call85 Tryz.func85 Tryz.ntmps85 rfl Tryz.results85 rfl [] fun h0 w0 ⟨h1,h2⟩ => ?_)
 have hm : 0 < ([m].getD 0 md0).say.length := h2
 repeat first | refine nx ?_ | intro _
 rfl
end
end Go.E3
