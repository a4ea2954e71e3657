/- K49: a part of the proof about training through the decoder: how the program's functions run, and what they compute, for every input. -/
import Derived.Test.YtdciabokggfpbaaGreatK47
import Derived.Test.YtdciabokggfpbaaGreatK48
set_option linter.all false
set_option maxRecDepth 20000
set_option maxHeartbeats 8000000
set_option synthInstance.maxSize 1000
namespace Go.E3
open Go Go.Ear Go.Proofs
structure CtX (P : Program) (f : FuncId) (args : List SV) (H0 : PH) (w0 : World) (B : List Res) (sd : Prop) (σ : Type) (S : σ -> SV) (B' : σ -> List Res) : Prop where
 fn : IsFn P f
 h : sd -> ∀ {h w vs},Gr H0 w0 h w -> OwnB w0 B h w -> denL h args vs -> Calls P f vs.toArray w fun e w' => ∃ v,e = .returned v /\ ∃ (h' : PH) (s : σ),Gr H0 w0 h' w' /\ h.le h' /\ OwnB w0 (B' s) h' w' /\ den h' (S s) v
section
variable {P : Program} {n : Nat} {X : Fix} {ms : List Nat} {loc env : EL} {B B1 : List Res} {c : Code} {k : Kt} {sd : Prop} {ol rest : List Oper} {d : Nat} {ty : TypeId} {pos : String} {af : Array Edge}
theorem ctX {σ : Type} {S : σ -> SV} {B' : σ -> List Res} {f : FuncId} {fn : Func} {args : List SV} {rs : List ResultVar} {H0 : PH} {w0 : World} (call : IsFn P f) (hf : P.funcs[f]? = some fn) (hn : fn.ntmps = n) (hb : fn.body = some c) (hr : fn.results = rs.toArray) (hl : Nat.ble args.length n = true) [ae : ArgE 0 args env] (ms : List Nat) (body : ∀ hE,sd -> ∀ wE,Gr H0 w0 hE wE -> GW P n ⟨fE n (fR P n rs hE w0 S B'),hE,w0,X0⟩ ms [] env B c .fin) : CtX P f args H0 w0 B sd σ S B' := ⟨call,fun hs h w vs gr ow u => by
 subst hn
 refine (callsE hf hb (by rw [u.length]; exact hl) ((body h hs w gr).p (env0 0 vs) h w ⟨Gr.base gr gr (PH.le.refl h),trivial,ae.h u,ow⟩) (R' := fun v w' => ∃ h' s,Gr h w0 h' w' /\ OwnB w0 (B' s) h' w' /\ den h' (S s) v) ?_).mono ?_
 · rintro ρ w' ⟨vs,h',s,hres,x⟩
   exact ⟨_,res_run hr hres,h',s,x⟩
 · rintro e w' ⟨v,rfl,h',s,g,o,d⟩
   exact ⟨v,rfl,h',s,Gr.unbase gr g,g.le,o,d⟩⟩
end
noncomputable def fW (m : Md) (wt : Rat) (x : Nat) (j : Nat) : Rat := wt * (m.start.getD j fr0).rat * ((m.say.getD j []).getD x fr0).rat
noncomputable def stW (m : Md) (wt : Rat) (x : Nat) (n : Nat) : List Nat := (List.range n).filter fun j => decide (0 < sgQ (fW m wt x j))
@[reducible] def stV (h : K4) (j : Nat) (f : Rat) : SV := .ag [iv h.a,iv h.b,iv h.c,iv h.d,iv 1,iv 0,iv 0,iv (j : Int),bv true,bv (frK f).neg,lv rU (frK f).n,lv rU (frK f).d]
def nxH (past : Nat) : K4 := match past with
 | 0 => ⟨0,0,0,0⟩
 | 1 => ⟨1,0,0,0⟩
 | 2 => ⟨0,1,0,0⟩
 | _ => ⟨0,0,1,0⟩
section
variable {m : Md} {l : Lg} {v : Value} {o : Nat} {gs : List Gm} {b : Int} {am : Fr} {B : List Res} {σ : Type} {lp : Nat} {H0 : PH} {w0 : World} {Z : Nat -> σ -> List Res} {I : Nat -> σ -> Prop} {x : Nat}
def YHW (lp : Nat) (H0 : PH) (w0 : World) (len : Nat) (S : Nat -> SV) (Z : Nat -> σ -> List Res) (I : Nat -> σ -> Prop) : Prop :=
 ∀ Fr k s h W v,k < len -> I k s -> Gr H0 w0 h W -> OwnB w0 (Fr ++ Z k s) h W -> den h (S k) v -> YieldAt Fence.wide 0 Tryz.prog lp #[v] W fun e W' => e = .returned (.bool true) /\ ∃ h',Gr H0 w0 h' W' /\ h.le h' /\ ∃ s',I (k + 1) s' /\ OwnB w0 (Fr ++ Z (k + 1) s') h' W'
noncomputable def wtQ (o : Nat) (gs : List Gm) (b : Int) (am : Rat) : Rat := rwQ o 1 gs b am ⟨0,0,0,0⟩ 1
noncomputable def stS (m : Md) (o : Nat) (gs : List Gm) (b : Int) (am : Rat) (x : Nat) (k : Nat) : SV := stV (nxH (o - 1)) ((stW m (wtQ o gs b am) x m.start.length).getD k 0) (fW m (wtQ o gs b am) x ((stW m (wtQ o gs b am) x m.start.length).getD k 0))
noncomputable def stN (m : Md) (o : Nat) (gs : List Gm) (b : Int) (am : Rat) (x : Nat) : Nat := if wtQ o gs b am = 0 then 0 else (stW m (wtQ o gs b am) x m.start.length).length
structure MxS (m : Md) (x : Nat) : Prop where
 t : FtM m
 n : 1 <= m.start.length /\ m.start.length <= 3
 l : m.say.length = m.start.length /\ m.fin.length = m.start.length
 y : ∀ i,i < m.start.length -> x < (m.say.getD i []).length
 b1 : ∀ i,bf (m.start.getD i fr0) <= 2600000
 b2 : ∀ i,bf (m.fin.getD i fr0) <= 2600000
 b3 : ∀ i,bf ((m.say.getD i []).getD x fr0) <= 2600000
instance tmodel_i {g : Fr} {past j : Nat} {h1 h2 h3 h4 ji : Int} [ft : FtM m] [ii : IN ji j] : Ct Tryz.prog 92 [.pk (dtC m g l v past) 0,.ag [iv h1,iv h2,iv h3,iv h4,iv 1,iv 0,iv 0,iv ji]] True (mv m) := by
 rw [ii.e]; exact tmodel_c (h := ⟨h1,h2,h3,h4⟩)
theorem e15 : (([[(⟨[1],frK 1⟩ : Vr)]].getD 0 []).getD 0 vr0).f = frK 1 := rfl
theorem wts4 {q : Rat} {a c : Fr} (h1 : bq q <= 2000000) (h2 : bf a <= 2600000) (h3 : bf c <= 2600000) : wts [frK q,frK 1,a,c] <= 134217724 := by
 have hb : bf (frK q) = bq q := bf_frK q
 have hb1 : bf (frK 1) = bq (1 : Rat) := bf_frK 1
 have hbo : bq (1 : Rat) <= 2 := by have := bq_intc (n := 1) (by decide) (by decide); exact this
 show bf (frK q) + 1 + (bf (frK 1) + 1 + (bf a + 1 + (bf c + 1 + 0))) <= _
 omega
theorem prod4 {q : Rat} {j : Nat} : prodF [frK q,frK 1,m.start.getD j fr0,(m.say.getD j []).getD x fr0] = fW m q x j := by
 unfold fW
 show 1 * (frK q).rat * (frK 1).rat * (m.start.getD j fr0).rat * ((m.say.getD j []).getD x fr0).rat = _
 rw [frK_rat,frK_rat,Rat.one_mul,Rat.mul_one]
theorem fW_b {q : Rat} {j : Nat} (h1 : bq q <= 2000000) (h2 : bf (m.start.getD j fr0) <= 2600000) (h3 : bf ((m.say.getD j []).getD x fr0) <= 2600000) (ft : FtM m) : bq (fW m q x j) <= 7300000 := by
 have b1 := bq_mul q (m.start.getD j fr0).rat
 have b2 := bq_mul (q * (m.start.getD j fr0).rat) ((m.say.getD j []).getD x fr0).rat
 have f1 : FtF (m.start.getD j fr0) := inferInstance
 have f2 : FtF ((m.say.getD j []).getD x fr0) := inferInstance
 have b3 : bq (m.start.getD j fr0).rat <= bf (m.start.getD j fr0) := bq_rat f1.h
 have b4 : bq ((m.say.getD j []).getD x fr0).rat <= bf ((m.say.getD j []).getD x fr0) := bq_rat f2.h
 unfold fW
 omega
theorem stW_succ {wt : Rat} {n : Nat} : stW m wt x (n + 1) = stW m wt x n ++ (if 0 < sgQ (fW m wt x n) then [n] else []) := by
 unfold stW
 rw [List.range_succ,List.filter_append]
 congr 1
 by_cases h : 0 < sgQ (fW m wt x n)
 · rw [if_pos h]; simp [h]
 · rw [if_neg h]; simp [h]
theorem stW_le {wt : Rat} {n k : Nat} (h : n <= k) : ∃ r,stW m wt x k = stW m wt x n ++ r := by
 induction k with
 | zero => exact ⟨[],by rw [show n = 0 by omega,List.append_nil]⟩
 | succ k ih =>
   by_cases e : n = k + 1
   · exact ⟨[],by rw [e,List.append_nil]⟩
   · obtain ⟨r,hr⟩ := ih (by omega)
     exact ⟨r ++ _,by rw [stW_succ,hr,List.append_assoc]⟩
theorem stW_at {wt : Rat} {j n : Nat} (h : j < n) (hf : 0 < sgQ (fW m wt x j)) : (stW m wt x j).length < (stW m wt x n).length /\ (stW m wt x n).getD (stW m wt x j).length 0 = j /\ (stW m wt x (j + 1)).length = (stW m wt x j).length + 1 := by
 have e1 : stW m wt x (j + 1) = stW m wt x j ++ [j] := by rw [stW_succ,if_pos hf]
 obtain ⟨r,hr⟩ := stW_le (m := m) (x := x) (wt := wt) (show j + 1 <= n by omega)
 rw [e1] at hr
 refine ⟨by rw [hr]; simp,by rw [hr,List.getD_eq_getElem?_getD,List.append_assoc,List.getElem?_append_right (Nat.le_refl _),Nat.sub_self]; rfl,by rw [e1]; simp⟩
theorem words_c (ms : MxS m x) (hL : l = lgO o 1 gs b am) (h1 : SyS o 1 gs b am ⟨0,0,0,0⟩) (hY : YHW lp H0 w0 (stN m o gs b am.rat x) (stS m o gs b am.rat x) Z I) (s : σ) :
 CtX Tryz.prog 145 [.pk (dtC m (frK 1) l v (o - 1)) 0,.ag [iv 0,iv 0,iv 0,iv 0],kk 1,iv (x : Int),.cv (.func (.yield lp) #[] #[])] H0 w0 (rRw v o 1 gs b am.rat :: Z 0 s) (I 0 s) {s' : σ // I (stN m o gs b am.rat x) s'} (fun _ => bv true) (fun s' => rRw v o 1 gs b am.rat :: Z (stN m o gs b am.rat x) s'.1) := by
 refine ctX Tryz.call145 Tryz.func145 Tryz.ntmps145 rfl Tryz.results145 rfl [12,13,16] fun hE hI wE g0 => ?_
 haveI := ms.t
 have hsd : SyS o 1 gs b am ⟨0,0,0,0⟩ /\ l = lgO o 1 gs b am /\ 1 <= 1 := ⟨h1,hL,Nat.le_refl _⟩
 have hbw := (rwQ_can h1 1).2
 have ho4 := h1.s.lo.1.2
 repeat first | refine nx ?_ | intro _
 refine gLpB (σ := Option {s' : σ // I (stN m o gs b am.rat x) s'}) (fun t => [(11,iv (match t with | none => 1 | some _ => 2))]) (fun t => rRw v o 1 gs b am.rat :: (match t with | none => Z 0 s | some s' => Z (stN m o gs b am.rat x) s'.1)) (fun _ => True) (fun t => match t with | none => 1 | some _ => 0) none (.refl _) trivial fun t _ => ?_
 cases t with
 | some s' =>
   dsimp only
   repeat first | refine nx ?_ | intro _
   refine gIf (fun c => absurd c (by decide)) fun c => ?_
   repeat first | refine nx ?_ | intro _
   exact gEr s' (h2 := ⟨fun _ x => x,trivial⟩)
 | none =>
   dsimp only
   repeat first | refine nx ?_ | intro _
   refine gIf (fun c => ?_) fun c => absurd (by decide) c
   have hq1 : (1 : Rat) * rwQ o 1 gs b am.rat ⟨0,0,0,0⟩ 1 = wtQ o gs b am.rat := Rat.one_mul _
   have hbo : bq (1 : Rat) <= 2 := by have := bq_intc (n := 1) (by decide) (by decide); exact this
   have hbt : bq (wtQ o gs b am.rat) <= 2000000 := hbw
   iterate 18 (first | refine gAl 8 6 7 12 32 (by rfl) (by kernel_rfl) ?_ | refine nx ?_ | intro _)
   rename_i γ
   rw [hq1]
   refine gFzV γ.v ?_
   have hgen : wtQ o gs b am.rat = wtQ o gs b am.rat := rfl
   repeat first | refine nx ?_ | intro _
   refine gIf (fun c2 => ?_) fun c2 => ?_
   · have hz : wtQ o gs b am.rat = 0 := sgQ_zero.1 c2
     have hN : stN m o gs b am.rat x = 0 := by unfold stN; rw [if_pos hz]
     repeat first | refine nx ?_ | intro _
     exact gBkB (some ⟨s,by rw [hN]; exact hI⟩) (by dsimp only; rw [hN]; exact .refl _) trivial (by dsimp only; omega)
   · have hz : wtQ o gs b am.rat ≠ 0 := fun e => c2 (sgQ_zero.2 e)
     have hN : stN m o gs b am.rat x = (stW m (wtQ o gs b am.rat) x m.start.length).length := by unfold stN; rw [if_neg hz]
     have hp4 : o - 1 = 0 \/ o - 1 = 1 \/ o - 1 = 2 \/ o - 1 = 3 := by omega
     repeat first | refine nx ?_ | intro _
     rename_i v13
     refine gJb [] (rV v13 [iv (nxH (o - 1)).a,iv (nxH (o - 1)).b,iv (nxH (o - 1)).c,iv (nxH (o - 1)).d] 86 :: rRw v o 1 gs b am.rat :: Z 0 s) (fun c3 => ?_) (fun c3 => ?_) ?_
     · rcases hp4 with hp | hp | hp | hp
       · omega
       · rw [hp]
         repeat first | refine gDs 7 6 (by rfl) (by kernel_rfl) ?_ | refine nx ?_ | intro _
         exact gM (h2 := ⟨⟨rfl,rfl,rfl,rfl⟩,fun _ x => x,trivial⟩)
       · rw [hp]
         repeat first | refine gDs 7 6 (by rfl) (by kernel_rfl) ?_ | refine nx ?_ | intro _
         exact gM (h2 := ⟨⟨rfl,rfl,rfl,rfl⟩,fun _ x => x,trivial⟩)
       · rw [hp]
         repeat first | refine gDs 7 6 (by rfl) (by kernel_rfl) ?_ | refine nx ?_ | intro _
         exact gM (h2 := ⟨⟨rfl,rfl,rfl,rfl⟩,fun _ x => x,trivial⟩)
     · have hp : o - 1 = 0 := by omega
       repeat first | refine nx ?_ | intro _
       exact gM (h2 := by rw [hp]; exact ⟨⟨rfl,rfl,rfl,rfl⟩,fun _ x => x,trivial⟩)
     refine nx ?_
     refine gFzV v13 ?_
     repeat first | refine nx ?_ | intro _
     refine gKp [69,68,67,13,12,11,10,7,6,0,1,2,3,4] ?_
     refine gLpB (σ := Option {s' : σ // I (stN m o gs b am.rat x) s'}) (fun t => [(69,iv (match t with | none => 0 | some _ => 1))]) (fun t => rRw v o 1 gs b am.rat :: (match t with | none => Z 0 s | some s' => Z (stN m o gs b am.rat x) s'.1)) (fun _ => True) (fun t => match t with | none => 1 | some _ => 0) none (.refl _) trivial fun t _ => ?_
     cases t with
     | some s' =>
       dsimp only
       repeat first | refine nx ?_ | intro _
       refine gIf (fun c => absurd c (by decide)) fun c => ?_
       repeat first | refine nx ?_ | intro _
       exact gBkB (some s') (.refl _) trivial (by dsimp only; omega)
     | none =>
       dsimp only
       repeat first | refine nx ?_ | intro _
       refine gIf (fun c => ?_) fun c => absurd (by decide) c
       iterate 36 (first | refine nx ?_ | intro _)
       rename_i v15 v16 v17
       rw [e15]
       refine gFzV v17 ?_
       refine gFzV v15 ?_
       repeat first | refine nx ?_ | intro _
       refine gKp [84,83,17,16,15,69,68,67,13,12,11,10,7,6,0,1,2,3,4] ?_
       refine gLpB (fun t : Nat × Int × σ => [(84,iv (t.1 : Int))]) (fun t => rV v16 [iv (nxH (o - 1)).a,iv (nxH (o - 1)).b,iv (nxH (o - 1)).c,iv (nxH (o - 1)).d,iv 1,iv 0,iv 0,iv t.2.1] 88 :: rRw v o 1 gs b am.rat :: Z (stW m (wtQ o gs b am.rat) x t.1).length t.2.2) (fun t => t.1 <= m.start.length /\ I (stW m (wtQ o gs b am.rat) x t.1).length t.2.2) (fun t => m.start.length - t.1) (0,0,s) (.refl _) ⟨Nat.zero_le _,hI⟩ fun ⟨j,cj,s1⟩ ⟨hj,hI1⟩ => ?_
       dsimp only at hj hI1 ⊢
       repeat first | refine nx ?_ | intro _
       refine gIf (fun c4 => ?_) fun c4 => ?_
       · have hy := ms.y j c4
         have hn3 := ms.n.2
         have hsl := ms.l.1
         have hb1 := ms.b1 j
         have hb3 := ms.b3 j
         have hwt : wts [frK (wtQ o gs b am.rat),frK 1,m.start.getD j fr0,(m.say.getD j []).getD x fr0] <= 134217724 := wts4 hbt hb1 hb3
         have hbf : bq (fW m (wtQ o gs b am.rat) x j) <= 7300000 := fW_b hbt hb1 hb3 ms.t
         have hbp : bq (prodF [frK (wtQ o gs b am.rat),frK 1,m.start.getD j fr0,(m.say.getD j []).getD x fr0]) <= 7300000 := by rw [prod4]; exact fW_b hbt hb1 hb3 ms.t
         iterate 43 (first | refine gZs 20 18 19 20 ⟨19,fun γ => ov γ.v,fun γ => rV γ.v [bv false,.cv (.slice none 0 0),.cv (.slice none 0 0)] 32,fun γ => rV γ.v [bv (frK (prodF [frK (wtQ o gs b am.rat),frK 1,m.start.getD j fr0,(m.say.getD j []).getD x fr0])).neg,lv rU (frK (prodF [frK (wtQ o gs b am.rat),frK 1,m.start.getD j fr0,(m.say.getD j []).getD x fr0])).n,lv rU (frK (prodF [frK (wtQ o gs b am.rat),frK 1,m.start.getD j fr0,(m.say.getD j []).getD x fr0])).d] 32⟩ (by rfl) (by kernel_rfl) ?_ | refine nx ?_ | intro _)
         rename_i v19
         rw [prod4]
         by_cases hf : 0 < sgQ (fW m (wtQ o gs b am.rat) x j)
         · have hk := stW_at (m := m) (wt := wtQ o gs b am.rat) (x := x) c4 hf
           have hY1 := hY [rV v19 [bv (frK (fW m (wtQ o gs b am.rat) x j)).neg,lv rU (frK (fW m (wtQ o gs b am.rat) x j)).n,lv rU (frK (fW m (wtQ o gs b am.rat) x j)).d] 32,rV v16 [iv (nxH (o - 1)).a,iv (nxH (o - 1)).b,iv (nxH (o - 1)).c,iv (nxH (o - 1)).d,iv 1,iv 0,iv 0,iv (j : Int)] 88,rRw v o 1 gs b am.rat] (stW m (wtQ o gs b am.rat) x j).length s1
           refine nx ?_
           refine' gYs 8 (by kernel_rfl) ?g1 ?g2
           case g1 =>
            iterate 8 refine nx ?_
            rw [decide_eq_true hf]
            exact gYe
           case g2 =>
            refine gYl (bb := fun _ : {s' : σ // I ((stW m (wtQ o gs b am.rat) x j).length + 1) s'} => true) (B2 := fun s' => rV v19 [bv (frK (fW m (wtQ o gs b am.rat) x j)).neg,lv rU (frK (fW m (wtQ o gs b am.rat) x j)).n,lv rU (frK (fW m (wtQ o gs b am.rat) x j)).d] 32 :: rV v16 [iv (nxH (o - 1)).a,iv (nxH (o - 1)).b,iv (nxH (o - 1)).c,iv (nxH (o - 1)).d,iv 1,iv 0,iv 0,iv (j : Int)] 88 :: rRw v o 1 gs b am.rat :: Z ((stW m (wtQ o gs b am.rat) x j).length + 1) s'.1) (by kernel_rfl) (fun h w v' gr ow hd => ?_) fun s2 => ?_
            · obtain ⟨fn,tmps,assign,body,y1,y2⟩ := hY1 h w v' (by rw [hN]; exact hk.1) hI1 (Gr.unbase g0 gr) ow (by unfold stS; rw [hk.2.1]; exact hd)
              refine ⟨fn,tmps,assign,body,y1,RoundIn.mono y2 ?_⟩
              rintro e w' ⟨rfl,h',g',le',s2,hI2,ob⟩
              exact ⟨⟨s2,hI2⟩,h',rfl,Gr.base g0 g' (gr.le.trans le'),le',ob⟩
            · refine gKl [115,110,84,83,17,16,15,69,68,67,13,12,11,10,7,6,0,1,2,3,4] ?_
              refine gYf (by kernel_rfl) ?_
              repeat first | refine nx ?_ | intro _
              refine gIf (fun c => absurd c (by simp)) fun c => ?_
              repeat first | refine nx ?_ | intro _
              exact gBkB (j + 1,(j : Int),s2.1) (by dsimp only; rw [hk.2.2]; exact Sb.drop1 ..) ⟨by dsimp only; omega,by dsimp only; rw [hk.2.2]; exact s2.2⟩ (by dsimp only; omega)
         · repeat first | refine nx ?_ | intro _
           have hs0 : (stW m (wtQ o gs b am.rat) x (j + 1)) = stW m (wtQ o gs b am.rat) x j := by rw [stW_succ,if_neg hf,List.append_nil]
           rw [decide_eq_false hf]
           repeat first | refine nx ?_ | intro _
           exact gBkB (j + 1,(j : Int),s1) (by dsimp only; rw [hs0]; exact Sb.drop1 ..) ⟨by dsimp only; omega,by dsimp only; rw [hs0]; exact hI1⟩ (by dsimp only; omega)
       · obtain rfl : j = m.start.length := by omega
         repeat first | refine nx ?_ | intro _
         exact gBkB (some ⟨s1,by rw [hN]; exact hI1⟩) (by dsimp only; rw [hN]; exact Sb.drop1 ..) trivial (by dsimp only; omega)
end
class ZArr (P : Program) (t : TypeId) (l : outParam (List SV)) : Prop where h : ∃ m e z,IsUnd P t (.array m e) /\ IsSize P e 1 /\ IsZero P t z /\ ∀ {h},denL h l z.cells.toList
instance : ZArr Tryz.prog 86 [iv 0,iv 0,iv 0,iv 0] := ⟨4,3,_,Tryz.underlying86,Tryz.sizeOf3,Tryz.zeroValue86,⟨rfl,rfl,rfl,rfl,trivial⟩⟩
instance {P : Program} {n : Nat} {c : Bool} {loc env : EL} {B : List Res} {ms : List Nat} {d : Nat} {t : TypeId} {l : List SV} [za : ZArr P t l] : St P n c loc env B ms d (.build t #[]) True (.ag l) := .p fun q _ _ _ _ _ w s _ _ _ _ _ k => by
 obtain ⟨m,e,z,h1,h2,h3,h4⟩ := za.h
 refine OpW.valD (v := .agg z.cells) (w' := w) ?_ (k _ ⟨z.cells.toList,by simp,h4⟩)
 simp only [execOp,Instr.build,Sem.run_bind,h1.run w,h2 w,h3 w,Result.andThen]
 simp [Instr.fill,Sem.run_pure]
theorem gCxf {P : Program} {n : Nat} {ms : List Nat} {loc env : EL} {B : List Res} {k : Kt} {sd : Prop} {ol rest : List Oper} {d : Nat} {ty : TypeId} {pos : String} {af : Array Edge} {σ : Type} {S : σ -> SV} {B' : σ -> List Res} {T : Exit -> Act -> World -> Prop} {hE H0 : PH} {w0 wE : World} {C : Ctx} {f : FuncId} {xs : List Operand} {ts : Array TypeId} {l : List SV} (ct : CtX P f l H0 w0 B sd σ S B') (g0 : Gr H0 w0 hE wE) (hs : sd) [lx : Lus n true loc env xs l]
 (g : ∀ s : σ,GO P n ⟨T,hE,w0,C⟩ ms ((d,S s) :: loc) env (B' s) ol rest k) : GO P n ⟨T,hE,w0,C⟩ ms loc env B ol (⟨some d,.call ⟨.value (.func f),xs.toArray,ts⟩,ty,pos,af,none⟩ :: rest) k := ⟨fun ok ρ h w sy => by
 obtain ⟨h1,h2,h3⟩ := okR_some rfl ok
 have hx := lx.h rfl fun x hx => (sy.x [x]).fx x (by simp)
 refine Ops.cons (OpW.enter (f := f) (args := (xs.map (ev n ρ)).toArray) (w' := w) ?_ (ct.h hs (Gr.unbase g0 sy.gr) sy.ow hx) ?_)
 · simp only [execOp,resolve,ev,Deferred.ofValue,Sem.run_bind,Sem.run_pure,Result.andThen,invoke,List.map_toArray]
   have := ct.fn (#[] ++ (xs.map (ev n ρ)).toArray ++ #[]) w
   simpa using this
 · rintro e w'' ⟨v,rfl,h',s,gr,le,o,u⟩
   exact ⟨v,rfl,(g s).p h3 _ _ _ ⟨Gr.base g0 gr (sy.gr.le.trans le),⟨by show den h' (S s) (upd ρ d v d); rw [upd_at]; exact u,(sy.lo.upd (nIn_of h1)).mono le⟩,(sy.en.upd (nIn_of (h2 rfl))).mono le,o⟩⟩⟩
section
variable {m : Md} {l : Lg} {v : Value} {o : Nat} {gs : List Gm} {b : Int} {am : Fr} {B : List Res} {σ : Type} {lp : Nat} {H0 : PH} {w0 : World} {Z : Nat -> σ -> List Res} {I : Nat -> σ -> Prop} {x : Nat}
@[reducible] def fsF (m : Md) (l : Lg) (v : Value) (past x : Nat) : SV := fnv (.func 144) [] [.pk [.pk (dtC m (frK 1) l v past) 0] 0,.pk [iv (x : Int)] 0]
instance dfirst_c {past : Nat} : Ct Tryz.prog 89 [.pk (dtC m (frK 1) l v past) 0,iv (x : Int)] True (fsF m l v past x) := by
 refine (ctI Tryz.call89 Tryz.func89 Tryz.ntmps89 rfl Tryz.results89 rfl [] fun h0 w0 _ => ?_)
 repeat first | refine nx ?_ | intro _
 all_goals trivial
theorem first1_c (ms : MxS m x) (hL : l = lgO o 1 gs b am) (h1 : SyS o 1 gs b am ⟨0,0,0,0⟩) (hY : YHW lp H0 w0 (stN m o gs b am.rat x) (stS m o gs b am.rat x) Z I) (s : σ) :
 CtX Tryz.prog 144 [.cv (.func (.yield lp) #[] #[]),.pk [.pk (dtC m (frK 1) l v (o - 1)) 0] 0,.pk [iv (x : Int)] 0] H0 w0 (rRw v o 1 gs b am.rat :: Z 0 s) (I 0 s) {s' : σ // I (stN m o gs b am.rat x) s'} (fun _ => .tp []) (fun s' => rRw v o 1 gs b am.rat :: Z (stN m o gs b am.rat x) s'.1) := by
 refine ctX Tryz.call144 Tryz.func144 Tryz.ntmps144 rfl Tryz.results144 rfl [] fun hE hI wE g0 => ?_
 have ct := words_c (v := v) ms hL h1 hY s
 have e1 : ((1 : Int) : Rat) = 1 := rfl
 repeat first | refine gDs 6 5 (by rfl) (by kernel_rfl) ?_ | refine nx ?_ | intro _
 rw [e1]
 refine gCxf ct g0 hI fun s' => ?_
 repeat first | refine nx ?_ | intro _
 exact gEr s' (h2 := ⟨fun _ x => x,trivial⟩)
instance first_it : ItW Tryz.prog (fsF m l v (o - 1) x) (rRw v o 1 gs b am.rat) (stS m o gs b am.rat x) (stN m o gs b am.rat x) (MxS m x /\ l = lgO o 1 gs b am /\ SyS o 1 gs b am ⟨0,0,0,0⟩) := ⟨fun ⟨ms,hL,h1⟩ {h x'} u => by
 obtain ⟨us,ws,e,a1,a2⟩ := u
 match us,ws,a1,a2 with
 | [],[y1,y2],_,a2 =>
   refine ⟨144, #[y1,y2],e,Tryz.call144, ?_⟩
   intro lp σ h0 w0 Z I hY s hs W hI gr ow le
   have gself : Gr hs w0 hs W := Gr.base gr gr (PH.le.refl hs)
   have hY2 : YHW lp hs w0 (stN m o gs b am.rat x) (stS m o gs b am.rat x) Z I := fun Fr k s2 h2 W2 v2 hk hI2 gr2 ow2 hv => by
    obtain ⟨fn,tmps,assign,body,y1,y2⟩ := hY Fr k s2 h2 W2 v2 hk hI2 (Gr.unbase gr gr2) ow2 (le.trans gr2.le) hv
    refine ⟨fn,tmps,assign,body,y1,RoundIn.mono y2 ?_⟩
    rintro e w' ⟨rfl,h',g',le',s',hI',ob⟩
    exact ⟨rfl,h',Gr.base gr g' (gr2.le.trans le'),le',s',hI',ob⟩
   have ct := first1_c (v := v) ms hL h1 hY2 s
   have hc := ct.h hI gself ow (vs := [.func (.yield lp) #[] #[],y1,y2]) ⟨rfl,(a2.1).mono le,(a2.2.1).mono le,trivial⟩
   refine CallsIn.mono ((callsIn_wide (n := 0)).2 hc) ?_
   rintro e w' ⟨v,rfl,h',s',g',le',ob,_⟩
   exact ⟨⟨v,rfl⟩,h',Gr.unbase gr g',le',s'.1,s'.2,ob⟩⟩
end
set_option maxHeartbeats 4000000
structure BkD {σ : Type} (Cs : σ -> Ctx) (n : Nat) (h0 : PH) (w0 : World) (E : σ -> EL) (Bs : σ -> List Res) (I : σ -> Prop) (μ : σ -> Nat) (s : σ) (a : Act) (w : World) : Prop where
 p : ∃ ρ s',a = mkX (Cs s') n ρ /\ I s' /\ μ s' < μ s /\ ∃ h,Sy h0 w0 [] (E s') (Bs s') ρ h w
section
variable {P : Program} {n : Nat} {ms : List Nat} {loc env env' : EL} {B B1 : List Res} {k : Kt} {c : Code} {T : Exit -> Act -> World -> Prop} {h0 : PH} {w0 : World}
theorem gLpD {σ : Type} {kept : EL} {s1 : Prop} {x : Code} (Cs : σ -> Ctx) (es : σ -> EL) (Bs : σ -> List Res) (I : σ -> Prop) (μ : σ -> Nat) (s0 : σ) [kp : KpE (es s0) env kept] [me : MtE env (es s0) s1] {E : σ -> EL} [ae : ∀ s,AppL (es s) kept (E s)] (hr : ∀ s,(Cs s).round = (Cs s0).round) (hB : Sb B (Bs s0))
 (hI : I s0) (round : ∀ s,I s -> GW P n ⟨T,h0,w0,Cs s⟩ ms [] (E s) (Bs s) x (.cut (BkD Cs n h0 w0 E Bs I μ s) k)) (h1 : s1 := by first | trivial | ((try dsimp only); repeat' (first | refine And.intro ?_ ?_ | rfl | trivial | omega))) : GW P n ⟨T,h0,w0,Cs s0⟩ ms loc env B (.loop x) k := ⟨fun ρ h w s => by
 refine wpIn_loop_ghost (fun m a w => ∃ s ρ,a = mkX (Cs s) n ρ /\ (I s /\ ∃ h,Sy h0 w0 [] (E s) (Bs s) ρ h w) /\ μ s = m) (μ s0) ⟨s0, ρ,rfl,⟨hI,h,s.gr,trivial, ?_, ?_⟩,rfl⟩ ?_
 · rw [<- (ae s0).h]; exact (me.h h1 s.en).app (kp.h s.en)
 · exact hB.own s.ow
 · rintro m a w' ⟨s', ρ',rfl,⟨hi,h',sy⟩,rfl⟩
   have hw := (round s' hi).p ρ' h' w' sy
   have e1 : FX (Cs s') = FX (Cs s0) := by show ({ Fence.wide with round := (Cs s').round } : Fence) = { Fence.wide with round := (Cs s0).round }; rw [hr s']
   unfold WT at hw
   rw [e1] at hw
   refine wpIn_mono hw fun e a2 w2 hq => ?_
   dsimp only at hq ⊢
   rw [hr s'] at hq
   cases e with
   | normal =>
     obtain ⟨ρ2,s2,rfl,a1,a2,a3⟩ := BkD.p hq
     exact ⟨μ s2,a2,s2, ρ2,rfl,⟨a1,a3⟩,rfl⟩
   | _ => exact hq⟩
theorem gBkD {C : Ctx} {σ : Type} {s1 : Prop} {Cs : σ -> Ctx} {E : σ -> EL} {Bs : σ -> List Res} {I : σ -> Prop} {μ : σ -> Nat} {s : σ} (s' : σ) [me : MtE env (E s') s1] (hC : C = Cs s') (hB : Sb B (Bs s')) (hI : I s') (hm : μ s' < μ s) (h1 : s1 := by first | trivial | ((try dsimp only); repeat' (first | refine And.intro ?_ ?_ | rfl | trivial | omega))) :
 GX P n ⟨T,h0,w0,C⟩ ms loc env B .normal (.cut (BkD Cs n h0 w0 E Bs I μ s) k) := ⟨fun ρ h w sy => ⟨⟨ρ,s',by rw [hC],hI,hm,h,sy.gr,trivial,me.h h1 sy.en,hB.own sy.ow⟩⟩⟩
end
set_option maxHeartbeats 8000000
instance : RT Tryz.prog 85 Value rW 8 (.map none) := ⟨Tryz.sizeOf85,_,_,⟨Tryz.type85,rfl,rfl,rfl,rfl⟩,fun _ => ⟨⟨rfl,rfl⟩,trivial⟩⟩
@[reducible] def plK (p : Nat) (j : Nat) : K8 := ⟨nxH p,⟨1,0,0,(j : Int)⟩⟩
noncomputable def nowL (m : Md) (o : Nat) (gs : List Gm) (b : Int) (am : Rat) (x k : Nat) : List (K8 × Fr) := ((stW m (wtQ o gs b am) x m.start.length).take k).map fun j => (plK (o - 1) j,frK (fW m (wtQ o gs b am) x j))
section
variable {m : Md} {l : Lg} {v : Value} {o : Nat} {gs : List Gm} {b : Int} {am : Fr} {B : List Res} {x : Nat}
theorem nxH_b (p : Nat) : (0 <= (nxH p).a /\ (nxH p).a <= 1) /\ (0 <= (nxH p).b /\ (nxH p).b <= 1) /\ (0 <= (nxH p).c /\ (nxH p).c <= 1) /\ 0 <= (nxH p).d /\ (nxH p).d <= 1 := by
 unfold nxH; split <;> decide
theorem stW_nd {wt : Rat} {n : Nat} : (stW m wt x n).Nodup := by unfold stW; exact List.Pairwise.filter _ List.nodup_range
theorem stW_lt {wt : Rat} {n j : Nat} (h : j ∈ stW m wt x n) : j < n /\ 0 < sgQ (fW m wt x j) := by
 unfold stW at h
 obtain ⟨a,b⟩ := List.mem_filter.1 h
 exact ⟨List.mem_range.1 a,by simpa using b⟩
theorem stW_len {wt : Rat} {n : Nat} : (stW m wt x n).length <= n := by
 unfold stW
 exact Nat.le_trans (List.length_filter_le _ _) (by rw [List.length_range]; exact Nat.le_refl _)
theorem nowL_new {k : Nat} (h : k < (stW m (wtQ o gs b am.rat) x m.start.length).length) : mget (nowL m o gs b am.rat x k) (plK (o - 1) ((stW m (wtQ o gs b am.rat) x m.start.length).getD k 0)) = none := by
 refine mget_none fun y hy e => ?_
 unfold nowL at hy
 obtain ⟨j,hj,rfl⟩ := List.mem_map.1 hy
 have e2 : j = (stW m (wtQ o gs b am.rat) x m.start.length).getD k 0 := by
  have e3 : (j : Int) = (((stW m (wtQ o gs b am.rat) x m.start.length).getD k 0 : Nat) : Int) := congrArg (fun q : K8 => q.p.d) e
  omega
 obtain ⟨i,hi⟩ := List.getElem?_of_mem hj
 rw [List.getElem?_take] at hi
 split at hi
 · rename_i hik
   have nd := stW_nd (m := m) (x := x) (wt := wtQ o gs b am.rat) (n := m.start.length)
   have h2 : (stW m (wtQ o gs b am.rat) x m.start.length)[k]? = some j := by rw [e2,List.getD_eq_getElem?_getD,List.getElem?_eq_getElem h]; rfl
   have := (List.getElem?_inj (by have := (List.getElem?_eq_some_iff.1 hi).1; exact this) nd).1 (hi.trans h2.symm)
   omega
 · cases hi
theorem nowL_succ {k : Nat} (h : k < (stW m (wtQ o gs b am.rat) x m.start.length).length) : nowL m o gs b am.rat x (k + 1) = mset (nowL m o gs b am.rat x k) (plK (o - 1) ((stW m (wtQ o gs b am.rat) x m.start.length).getD k 0)) (frK (fW m (wtQ o gs b am.rat) x ((stW m (wtQ o gs b am.rat) x m.start.length).getD k 0))) := by
 rw [mset_none (nowL_new h)]
 unfold nowL
 rw [List.take_succ_eq_append_getElem h,List.map_append,List.getD_eq_getElem?_getD,List.getElem?_eq_getElem h]
 rfl
structure FwS (m : Md) (l : Lg) (o : Nat) (gs : List Gm) (b : Int) (am : Fr) (x : Nat) : Prop where
 ms : MxS m x
 l : l = lgO o 1 gs b am
 s : SyS o 1 gs b am ⟨0,0,0,0⟩
theorem FwS.it (h : FwS m l o gs b am x) : MxS m x /\ l = lgO o 1 gs b am /\ SyS o 1 gs b am ⟨0,0,0,0⟩ := ⟨h.ms,h.l,h.s⟩
theorem forward_b : CtR Tryz.prog 37 [.pk (dtC m (frK 1) l v (o - 1)) 0,lv rI [(x : Int)],.cv (.func (.func 38) #[] #[])] (rRw v o 1 gs b am.rat :: B) (FwS m l o gs b am x) (Value × Value) (fun s => .tp [ov s.1,iv 0]) (fun s => rA rW 85 s.1 [s.2] :: rM' KP fv s.2 (nowL m o gs b am.rat x (stN m o gs b am.rat x)) :: rRw v o 1 gs b am.rat :: B) := by
 refine (ctR Tryz.call37 Tryz.func37 Tryz.ntmps37 rfl Tryz.results37 rfl [11] fun h0 w0 hs => ?_)
 have hit := hs.it
 haveI := hs.ms.t
 have hn3 := hs.ms.n.2
 have hbt := (rwQ_can hs.s 1).2
 repeat first | refine nx ?_ | intro _
 refine gLpD (σ := Option (Value × Value × Nat)) (fun t => match t with | none => X0 | some s => ⟨none,[⟨.collected s.2.2, #[]⟩]⟩) (fun t => [(18,iv (match t with | none => 0 | some _ => 1)),(8,match t with | none => .cv (.slice none 0 0) | some s => ov s.1)]) (fun t => match t with | none => rRw v o 1 gs b am.rat :: B | some s => rO s.2.2 (.deferred (some [])) :: rA rW 85 s.1 [s.2.1] :: rM' KP fv s.2.1 (nowL m o gs b am.rat x (stN m o gs b am.rat x)) :: rRw v o 1 gs b am.rat :: B) (fun _ => True) (fun t => match t with | none => 1 | some _ => 0) none (fun t => by cases t <;> rfl) (.refl _) trivial fun t _ => ?_
 cases t with
 | some s =>
   dsimp only
   repeat first | refine nx ?_ | intro _
   refine gIf (fun c => absurd c (by show ¬ 1 < 1; decide)) fun c => ?_
   repeat first | refine nx ?_ | intro _
   exact gEr (s.1,s.2.1) (h2 := by repeat' (first | rfl | trivial | exact fun _ x => x | refine And.intro ?_ ?_))
 | none =>
   dsimp only
   repeat first | refine nx ?_ | intro _
   refine gIf (fun c => ?_) fun c => absurd (show 0 < 1 by decide) c
   repeat first | refine nx ?_ | intro _
   rename_i mp v11
   rw [show ([(x : Int)].getD 0 0) = (x : Int) from rfl]
   refine gIf (fun c2 => ?_) fun c2 => absurd rfl c2
   repeat first | refine nx ?_ | intro _
   refine gRgW (σ := Unit) (rRw v o 1 gs b am.rat) (fun _ _ => True) (fun k _ => [rV v11 [ov mp] 85,rM' KP fv mp (nowL m o gs b am.rat x k)]) () trivial (by rfl) (fun T hr k s lp o1 o2 D hk _ => ?_) (fun D s _ => ?_) (h2 := ?_)
   · have hN : stN m o gs b am.rat x <= (stW m (wtQ o gs b am.rat) x m.start.length).length := by unfold stN; split <;> omega
     have hk2 : k < (stW m (wtQ o gs b am.rat) x m.start.length).length := Nat.lt_of_lt_of_le hk hN
     have hnew := nowL_new (b := b) (gs := gs) (am := am) hk2
     have hsucc := nowL_succ (b := b) (gs := gs) (am := am) hk2
     have hjl := (stW_lt (m := m) (x := x) (wt := wtQ o gs b am.rat) (n := m.start.length) (j := (stW m (wtQ o gs b am.rat) x m.start.length).getD k 0) (by rw [List.getD_eq_getElem?_getD,List.getElem?_eq_getElem hk2]; exact List.getElem_mem hk2)).1
     have hS : stS m o gs b am.rat x k = stV (nxH (o - 1)) ((stW m (wtQ o gs b am.rat) x m.start.length).getD k 0) (fW m (wtQ o gs b am.rat) x ((stW m (wtQ o gs b am.rat) x m.start.length).getD k 0)) := rfl
     rw [hS]
     generalize (stW m (wtQ o gs b am.rat) x m.start.length).getD k 0 = j at hnew hsucc hjl ⊢
     have hbf : bq (fW m (wtQ o gs b am.rat) x j) <= 7300000 := fW_b hbt (hs.ms.b1 j) (hs.ms.b3 j) hs.ms.t
     have hnb := nxH_b (o - 1)
     have hkey : plK (o - 1) j = ⟨nxH (o - 1),⟨1,0,0,(j : Int)⟩⟩ := rfl
     rw [hsucc]
     rw [hkey] at hnew ⊢
     generalize nxH (o - 1) = q at hnb hnew ⊢
     obtain ⟨na,nb,nc,nd⟩ := q
     obtain ⟨⟨n1,n2⟩,⟨n3,n4⟩,⟨n5,n6⟩,n7,n8⟩ := hnb
     haveI : FtF ((mget (nowL m o gs b am.rat x k) (⟨⟨na,nb,nc,nd⟩,⟨1,0,0,(j : Int)⟩⟩ : K8)).getD fr0) := by rw [hnew]; exact (inferInstance : FtF fr0)
     have hb0 : bf ((mget (nowL m o gs b am.rat x k) (⟨⟨na,nb,nc,nd⟩,⟨1,0,0,(j : Int)⟩⟩ : K8)).getD fr0) <= 2 := by rw [hnew]; decide
     have hq0 : frK (((mget (nowL m o gs b am.rat x k) (⟨⟨na,nb,nc,nd⟩,⟨1,0,0,(j : Int)⟩⟩ : K8)).getD fr0).rat + fW m (wtQ o gs b am.rat) x j) = frK (fW m (wtQ o gs b am.rat) x j) := by
      rw [hnew]
      have : (fr0 : Fr).rat = 0 := by decide +kernel
      rw [show ((none : Option Fr).getD fr0).rat = 0 from this,Rat.zero_add]
     clear hnew hsucc
     repeat first | refine gDs 12 11 (by rfl) (by kernel_rfl) ?_ | refine nx ?_ | intro _
     dsimp only
     rw [hq0]
     exact gMe () trivial
   · have hlen : (nowL m o gs b am.rat x (stN m o gs b am.rat x)).length <= 3 := by
      unfold nowL
      rw [List.length_map]
      exact Nat.le_trans (List.length_take_le' _ _) (Nat.le_trans stW_len hn3)
     repeat first | refine nx ?_ | intro _
     refine gIf (fun c3 => by omega) fun c3 => ?_
     repeat first | refine nx ?_ | intro _
     rename_i v8
     exact gBkD (some (v8,mp,D)) rfl ((Sb.perm (.swap _ _ _)).trans (Sb.cons _ (Sb.cons _ ((Sb.cons _ (Sb.drop1 _ _)).trans (.perm (.swap _ _ _)))))) trivial (by exact Nat.zero_lt_one)
   · exact ⟨trivial,rfl,trivial⟩
end
end Go.E3
