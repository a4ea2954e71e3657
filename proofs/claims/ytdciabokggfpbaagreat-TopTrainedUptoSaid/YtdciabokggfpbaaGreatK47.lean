/- K47: a part of the proof about training through the decoder: how the program's functions run, and what they compute, for every input. -/
import Derived.Test.YtdciabokggfpbaaGreatK46
import Derived.Test.YtdciabokggfpbaaGreatK42
set_option linter.all false
set_option maxRecDepth 20000
set_option maxHeartbeats 8000000
set_option synthInstance.maxSize 1000
namespace Go.E3
open Go Go.Ear Go.Proofs
@[reducible] def vrV (e : Vr) : SV := .ag [lv rI e.ph,bv e.f.neg,lv rU e.f.n,lv rU e.f.d]
instance idxVr_c {l : List Vr} {S F : SV} {B : List Res} {sd : Vr -> Prop} {p : Vr -> Bool} [j : Vw (lv rVr) S l] [fv : ∀ (m : Vr),Fv Tryz.prog F [vrV m] B (sd m) (bv (p m))] : CtB Tryz.prog 158 [S,F] B (l.length <= 1099511627776 /\ ∀ m ∈ l,sd m) (iv (idxP p l)) := by
 refine cB2 j (v2 := fun _ : Unit => F) ⟨fun u => u⟩ (ctB Tryz.call158 Tryz.func158 Tryz.ntmps158 rfl Tryz.results158 rfl [] fun h0 w0 ⟨hb,hs⟩ => ?_) (y := ())
 repeat first | refine nx ?_ | intro _
 refine gLp (fun k : Nat => [(8,iv k)]) (fun _ => []) (fun k => k <= l.length /\ (l.take k).any p = false) (fun k => l.length - k) 0 ⟨Nat.zero_le _,rfl⟩ fun k ⟨hk,hn⟩ => ?_
 repeat first | refine nx ?_ | intro _
 refine gIf (fun c => ?_) fun c => ?_
 · have hsd := hs _ (getD_in vr0 c)
   repeat first | refine nx ?_ | intro _
   refine gIf (fun c2 => ?_) fun c2 => ?_ <;> repeat first | refine nx ?_ | intro _
   · exact (idx_found vr0 c hn c2).symm
   · exact gBk (k + 1) ⟨by omega,any_take_succ vr0 c hn (Bool.eq_false_iff.2 c2)⟩ (by omega)
 · repeat first | refine nx ?_ | intro _
   exact (idx_none (by omega) hn).symm
instance cntVr_c {l : List Vr} {S F : SV} {B : List Res} {sd : Vr -> Prop} {p : Vr -> Bool} [j : Vw (lv rVr) S l] [fv : ∀ (m : Vr),Fv Tryz.prog F [vrV m] B (sd m) (bv (p m))] : CtB Tryz.prog 137 [S,F] B (l.length <= 1099511627776 /\ ∀ m ∈ l,sd m) (bv (l.any p)) := by
 refine cB2 j (v2 := fun _ : Unit => F) ⟨fun u => u⟩ (ctB Tryz.call137 Tryz.func137 Tryz.ntmps137 rfl Tryz.results137 rfl [] fun h0 w0 ⟨hb,hs⟩ => ?_) (y := ())
 repeat first | refine nx ?_ | intro _
 exact idx_any
instance idxVV_c {l : List (List Vr)} {S F : SV} {B : List Res} {sd : (List Vr) -> Prop} {p : (List Vr) -> Bool} [j : Vw (lv (rL rVr)) S l] [fv : ∀ (m : (List Vr)),Fv Tryz.prog F [lv rVr m] B (sd m) (bv (p m))] : CtB Tryz.prog 157 [S,F] B (l.length <= 1099511627776 /\ ∀ m ∈ l,sd m) (iv (idxP p l)) := by
 refine cB2 j (v2 := fun _ : Unit => F) ⟨fun u => u⟩ (ctB Tryz.call157 Tryz.func157 Tryz.ntmps157 rfl Tryz.results157 rfl [] fun h0 w0 ⟨hb,hs⟩ => ?_) (y := ())
 repeat first | refine nx ?_ | intro _
 refine gLp (fun k : Nat => [(8,iv k)]) (fun _ => []) (fun k => k <= l.length /\ (l.take k).any p = false) (fun k => l.length - k) 0 ⟨Nat.zero_le _,rfl⟩ fun k ⟨hk,hn⟩ => ?_
 repeat first | refine nx ?_ | intro _
 refine gIf (fun c => ?_) fun c => ?_
 · have hsd := hs _ (getD_in [] c)
   repeat first | refine nx ?_ | intro _
   refine gIf (fun c2 => ?_) fun c2 => ?_ <;> repeat first | refine nx ?_ | intro _
   · exact (idx_found [] c hn c2).symm
   · exact gBk (k + 1) ⟨by omega,any_take_succ [] c hn (Bool.eq_false_iff.2 c2)⟩ (by omega)
 · repeat first | refine nx ?_ | intro _
   exact (idx_none (by omega) hn).symm
instance cntVV_c {l : List (List Vr)} {S F : SV} {B : List Res} {sd : (List Vr) -> Prop} {p : (List Vr) -> Bool} [j : Vw (lv (rL rVr)) S l] [fv : ∀ (m : (List Vr)),Fv Tryz.prog F [lv rVr m] B (sd m) (bv (p m))] : CtB Tryz.prog 135 [S,F] B (l.length <= 1099511627776 /\ ∀ m ∈ l,sd m) (bv (l.any p)) := by
 refine cB2 j (v2 := fun _ : Unit => F) ⟨fun u => u⟩ (ctB Tryz.call135 Tryz.func135 Tryz.ntmps135 rfl Tryz.results135 rfl [] fun h0 w0 ⟨hb,hs⟩ => ?_) (y := ())
 repeat first | refine nx ?_ | intro _
 exact idx_any
def lgP (p : Vr) : Bool := decide (20 < p.ph.length)
instance long21_c {e : Vr} : Ct Tryz.prog 138 [vrV e] True (bv (lgP e)) := by
 refine (ctI Tryz.call138 Tryz.func138 Tryz.ntmps138 rfl Tryz.results138 rfl [] fun h0 w0 _ => ?_)
 repeat first | refine nx ?_ | intro _
 first | rfl | trivial
def lgW (l : List Vr) : Bool := decide (10 < l.length) || l.any lgP
instance long2_c {l : List Vr} {S : SV} [j : Vw (lv rVr) S l] : Ct Tryz.prog 136 [S] (l.length <= 1099511627776) (bv (lgW l)) := by
 refine ct1 j (ctI Tryz.call136 Tryz.func136 Tryz.ntmps136 rfl Tryz.results136 rfl [] fun h0 w0 hl => ?_)
 have hs : l.length <= 1099511627776 /\ ∀ m ∈ l,True := ⟨hl,fun _ _ => trivial⟩
 repeat first | refine nx ?_ | intro _
 first | rfl | trivial
instance long1_c {m : Md} [ft : FtM m] : Ct Tryz.prog 133 [mv m] (MdB 10000000 m) (bv (decide (checkE [m] [] = 5))) := by
 refine (ctI Tryz.call133 Tryz.func133 Tryz.ntmps133 rfl Tryz.results133 rfl [] fun h0 w0 hb => ?_)
 repeat first | refine nx ?_ | intro _
 first | rfl | trivial
instance (priority := low) long1s_c {m : Md} : Ct Tryz.prog 133 [mv m] (FtM m /\ MdB 10000000 m) (bv (decide (checkE [m] [] = 5))) := ⟨Tryz.call133,fun ⟨f,b⟩ => (long1_c (m := m)).h b⟩
def TkS (m : Md) (l : Lg) : Prop := MdB 10000000 m /\ checkE [m] [] = 0 /\ LgS l /\ lgE l = 0 /\ l.t.words = 1
instance long_k {m : Md} {g : Fr} {l : Lg} [ft : FtM m] : Ct Tryz.prog 83 [tkV m g l] (TkS m l) (bv false) := by
 refine (ctI Tryz.call83 Tryz.func83 Tryz.ntmps83 rfl Tryz.results83 rfl [] fun h0 w0 ⟨hb,hc,hs,he,hw⟩ => ?_)
 have ht : tbE l.t = 0 := by
  unfold lgE at he
  split at he
  · assumption
  · exact absurd he (by assumption)
 obtain ⟨_,_,_,_,hl,_⟩ := tbE_sz ht
 haveI : FtX [m] := ⟨fun f hf => by rw [List.mem_singleton.1 hf]; exact ft⟩
 have hs1 : [m].length <= 1099511627776 /\ ∀ x ∈ [m],FtM x /\ MdB 10000000 x := ⟨by show 1 <= 1099511627776; decide,fun x hx => by rw [List.mem_singleton.1 hx]; exact ⟨ft,hb⟩⟩
 have hs2 : [[(⟨[1],g⟩ : Vr)]].length <= 1099511627776 /\ ∀ x ∈ [[(⟨[1],g⟩ : Vr)]],x.length <= 1099511627776 := ⟨by show 1 <= 1099511627776; decide,fun x hx => by rw [List.mem_singleton.1 hx]; show 1 <= 1099511627776; decide⟩
 repeat first | refine nx ?_ | intro _
 refine gIf (fun c => ?_) fun c => ?_
 · exfalso
   have hm : [m].length = 1 := rfl
   omega
 repeat first | refine nx ?_ | intro _
 have hn : ([m].any fun m => decide (checkE [m] [] = 5)) = false := by simp [hc]
 rw [hn]
 refine gIf (fun c => absurd c (by decide)) fun c => ?_
 repeat first | refine nx ?_ | intro _
 rfl
def badP (m : Md) (p : Int) : Bool := decide (p < 1) || decide ((1 : Int) < p)
instance valid1_c {p : Int} {m : Md} {g : Fr} {l : Lg} : Ct Tryz.prog 140 [iv p,.pk [lv rM [m],lv (rL rVr) [[⟨[1],g⟩]],iv l.t.order,iv l.t.words,lv rGm l.t.list,iv l.by_,bv l.am.neg,lv rU l.am.n,lv rU l.am.d,lv rF l.mix] 0] True (bv (badP m p)) := by
 refine (ctI Tryz.call140 Tryz.func140 Tryz.ntmps140 rfl Tryz.results140 rfl [] fun h0 w0 _ => ?_)
 repeat first | refine nx ?_ | intro _
 first | rfl | trivial
instance valid_k {m : Md} {g : Fr} {l : Lg} [ft : FtM m] [fg : FtF g] : Ct Tryz.prog 84 [tkV m g l] ((TkS m l /\ 0 < m.say.length) /\ bf g <= 1000 /\ distF [g] = true) (bv true) := by
 refine (ctI Tryz.call84 Tryz.func84 Tryz.ntmps84 rfl Tryz.results84 rfl [] fun h0 w0 ⟨⟨⟨hb,hc,hs,he,hw⟩,hsy⟩,hbg,hdg⟩ => ?_)
 haveI : FtF l.am := ⟨hs.2.2⟩
 haveI : FtX [m] := ⟨fun f hf => by rw [List.mem_singleton.1 hf]; exact ft⟩
 have hm1 : [m].length = 1 := rfl
 have hv1 : [[(⟨[1],g⟩ : Vr)]].length = 1 := rfl
 repeat first | refine nx ?_ | intro _
 refine gIf (fun c => ?_) fun c => ?_
 · exfalso
   rcases c with (c | c) | c
   · omega
   · omega
   · exact c he
 repeat first | refine nx ?_ | intro _
 refine gLp (fun k : Nat => [(33,iv k)]) (fun _ => []) (fun k => k <= 1) (fun k => 1 - k) 0 (Nat.zero_le _) fun k hk => ?_
 repeat first | refine nx ?_ | intro _
 refine gIf (fun c2 => ?_) fun c2 => ?_
 · have ek : k = 0 := by omega
   subst ek
   have hsy1 : 0 < ([m].getD 0 md0).say.length := hsy
   have hb1 : MdB 10000000 ([m].getD 0 md0) := hb
   have hc1 : checkE [[m].getD 0 md0] [] = 0 := hc
   haveI : FtM ([m].getD 0 md0) := ft
   have hsg : ¬ (checkE [[m].getD 0 md0] [] ≠ 0) -> 0 < ([m].getD 0 md0).say.length := fun _ => hsy
   repeat first | refine gDs 19 19 (by rfl) (by kernel_rfl) ?_ | refine nx ?_ | intro _
   refine gIf (fun c3 => ?_) fun c3 => ?_
   · exact absurd rfl (c3.elim (fun x => absurd hc1 x) fun x => x)
   · repeat first | refine nx ?_ | intro _
     exact gBk 1 (by omega) (by omega)
 · have ek : k = 1 := by omega
   subst ek
   repeat first | refine nx ?_ | intro _
   refine gLp (fun k : Nat => [(60,iv k)]) (fun _ => []) (fun k => k <= 1) (fun k => 1 - k) 0 (Nat.zero_le _) fun k hk2 => ?_
   repeat first | refine nx ?_ | intro _
   refine gIf (fun c4 => ?_) fun c4 => ?_
   · have ek : k = 0 := by omega
     subst ek
     have hi1 : ([[(⟨[1],g⟩ : Vr)]].getD 0 []).length = 1 := rfl
     repeat first | refine nx ?_ | intro _
     refine gNl rF 32 ?_
     refine gLp (fun s : Nat × Value => [(66,iv s.1),(7,ov s.2)]) (fun s => [rA rF 32 s.2 ([g].take s.1)]) (fun s => s.1 <= 1) (fun s => 1 - s.1) (0,.slice none 0 0) (Nat.zero_le _) (fun ⟨k,u⟩ hk3 => ?_)
     dsimp only at hk3 ⊢
     repeat first | refine nx ?_ | intro _
     refine gIf (fun c5 => ?_) fun c5 => ?_
     · have ek : k = 0 := by omega
       subst ek
       haveI : FtF (([[(⟨[1],g⟩ : Vr)]].getD 0 []).getD 0 vr0).f := fg
       have hph : (([[(⟨[1],g⟩ : Vr)]].getD 0 []).getD 0 vr0).ph.length = 1 := rfl
       have hph2 : (([[(⟨[1],g⟩ : Vr)]].getD 0 []).getD 0 vr0).ph.length <= 1099511627776 /\ ∀ x ∈ (([[(⟨[1],g⟩ : Vr)]].getD 0 []).getD 0 vr0).ph,True := ⟨by omega,fun _ _ => trivial⟩
       repeat first | refine nx ?_ | intro _
       have ha : (([[(⟨[1],g⟩ : Vr)]].getD 0 []).getD 0 vr0).ph.any (badP m) = false := rfl
       refine gIf (fun c6 => ?_) fun c6 => ?_
       · exfalso
         rcases c6 with x | x
         · rw [show (([[(⟨[1],g⟩ : Vr)]].getD 0 []).getD 0 vr0).ph.length = 1 from rfl] at x
           omega
         · rw [ha] at x
           exact absurd x (by decide)
       · repeat first | refine nx ?_ | intro _
         rename_i v9 u2
         exact gBk (1,u2) (by dsimp only; omega) (by dsimp only; omega)
     · have ek : k = 1 := by omega
       subst ek
       have hwt : wts ([g].take 1) <= 134000000 := by show bf g + 1 + 0 <= _; omega
       haveI : FtS ([g].take 1) := ⟨fun f hf => by rw [List.mem_singleton.1 (show f ∈ [g] from hf)]; exact fg⟩
       have hdg1 : distF ([g].take 1) = true := hdg
       refine gFz u ?_
       repeat first | refine nx ?_ | intro _
       rw [hdg1]
       refine gIf (fun c6 => absurd c6 (by decide)) fun c6 => ?_
       repeat first | refine nx ?_ | intro _
       exact gBk 1 (by omega) (by omega)
   · repeat first | refine nx ?_ | intro _
     trivial
section
variable {m : Md} {g : Fr} {l : Lg} {B : List Res}
instance started_b : CtR Tryz.prog 86 [tkV m g l] B (1 <= l.t.order /\ l.t.order <= 4) Value (fun v => .pk (dtC m g l v (l.t.order.toNat - 1)) 0) (fun v => rM' KA (fun r : List Fr => lv rF r) v [] :: B) := by
 refine (ctR Tryz.call86 Tryz.func86 Tryz.ntmps86 rfl Tryz.results86 rfl [] fun h0 w0 ⟨h1,h2⟩ => ?_)
 repeat first | refine nx ?_ | intro _
 rename_i v
 have e : l.t.order - 1 = ((l.t.order.toNat - 1 : Nat) : Int) := by omega
 rw [e]
 exact gEr v
instance begin_b [ft : FtM m] [fg : FtF g] {o : List Int} : CtR Tryz.prog 34 [tkV m g l,lv rI o] B (((TkS m l /\ 0 < m.say.length) /\ bf g <= 1000 /\ distF [g] = true) /\ o.length <= 1000 /\ hrB m o = true) Value (fun v => .tp [.pk (dtC m g l v (l.t.order.toNat - 1)) 0,iv 0]) (fun v => rM' KA (fun r : List Fr => lv rF r) v [] :: B) := by
 refine (ctR Tryz.call34 Tryz.func34 Tryz.ntmps34 rfl Tryz.results34 rfl [] fun h0 w0 ⟨⟨⟨hk,hsy⟩,hbg,hdg⟩,ho,hr⟩ => ?_)
 haveI : FtF l.am := ⟨hk.2.2.1.2.2⟩
 have ht : tbE l.t = 0 := by
  have he := hk.2.2.2.1
  unfold lgE at he
  split at he
  · assumption
  · exact absurd he (by assumption)
 have hoo : 1 <= l.t.order /\ l.t.order <= 4 := ⟨(tbE_sz ht).1,(tbE_sz ht).2.1⟩
 have hv : (TkS m l /\ 0 < m.say.length) /\ bf g <= 1000 /\ distF [g] = true := ⟨⟨hk,hsy⟩,hbg,hdg⟩
 repeat first | refine nx ?_ | intro _
 refine gIf (fun c => ?_) fun c => ?_
 · exfalso
   rcases c with c | c
   · exact absurd c (by decide)
   · omega
 repeat first | refine nx ?_ | intro _
 rw [hr]
 refine gIf (fun c => by simp at c) fun c => ?_
 repeat first | refine nx ?_ | intro _
 rename_i v
 exact gEr v
end
set_option maxHeartbeats 4000000
section
variable {P : Program} {n : Nat} {X : Fix} {ms : List Nat} {env : EL} {B B1 : List Res} {ol rest : List Oper} {k : Kt} {lt : Nat -> Bool} {Ls : EL} {L : (Nat -> Gh) -> EL} {R : List (Nat × (Gh -> Res))} {i : Nat} {ty : TypeId} {pos : String} {af : Array Edge} {κ α : Type} {K : KK κ} {f : α -> SV} {x0 a : α} {v : Value} {l : List (κ × α)} {t : TypeId} {x y z : Operand} {s : κ} {S T : SV} {sd : Prop}
instance {R1 R' : (Nat -> Gh) -> List Res} [mt : MpT P t κ K α f x0] [lx : Lu n true Ls env x (ov v)] [ly : Lu n true Ls env y T] [kv : KV K T s sd] [lz : Lu n true Ls env z S] [pm : PM B v κ K α f l B1] [vw : Vw f S a] [rl : ∀ ν,RL (rM' K f v (mset l s a) :: B1) R ν (R1 ν)] [fl : ∀ ν,FlB (R1 ν) (R' ν)] :
 Nx (GE P n X ms Ls env B ol (⟨none,.mapUpdate t x y z,ty,pos,af,none⟩ :: rest) k lt 1 i L R) (((List.range i).all fun j => reach ol 9 i j || lt j) = true /\ sd) (∀ ν,GO P n X ms (L ν) env (R' ν) ol rest k) := ⟨fun hs g => ⟨fun ql => .stm none (rM' K f v (mset l s a) :: B1) rfl (.inl rfl) (fun ν ρ h w sx => by
 obtain ⟨kt,et,zv,h1,h2,h3,h4⟩ := mt.h
 have s' : Sx X.h0 X.w0 Ls env B [x,y,z] ρ h w := sx.sub (fun x hx => by simp [looks,Op.operands] at hx ⊢; exact hx) (ql ν)
 have hx := (lx.h rfl (s'.fx x (by simp))).1
 obtain ⟨gk,ke⟩ := kv.h hs.2
 have hy := ke (ly.h rfl (s'.fx y (by simp)))
 have hz := vw.h (lz.h rfl (s'.fx z (by simp)))
 have sy : Sy X.h0 X.w0 [] [] B ρ h w := ⟨sx.gr,trivial,trivial,sx.ow⟩
 have sb := sy.sb pm.h
 obtain ⟨b,hv,hok⟩ := sb.ow.1
 have hfp : ∃ r ∈ B,r.fp b := pm.h.fp _ (List.mem_cons_self ..) b hv
 refine OpG.plain (OpW.setM (kt := kt) (a := a) (f := f) (h := h) (l := l) gk h1 (hx.trans hv) hy rfl hz hok fun w' o p hok' => ?_)
 have s2 := own_put (r' := rM' K f v (mset l s a)) rfl sb p ⟨b,hv,hok'⟩ hv fun i hi => hi
 exact triM_put sx p (sb.ow.2.1 b hv).1 ((sb.ow.2.1 b hv).2.1 rfl) hfp s2.ow) (fun j hj => by
 have := List.all_eq_true.1 hs.1 j (List.mem_range.2 hj)
 simpa using this) (fun r' hr' i hi => by
 rcases List.mem_cons.1 hr' with rfl | hr'
 · exact pm.h.fp _ (List.mem_cons_self ..) i hi
 · exact pm.h.fp r' (List.mem_cons_of_mem _ hr') i hi) fun ν => ⟨fun ok ρ h w s => (g ν).p ok ρ h w (s.sb (by rw [(rl ν).h]; exact (fl ν).h))⟩⟩⟩
end
class F1 (P : Program) (t : TypeId) (i : Nat) (o : outParam Nat) : Prop where
 h : ∃ (fs : Array Field) (f : Field),IsUnd P t (.struct fs) /\ fs[i]? = some f /\ IsAgg P f.type false /\ f.offset = o
section
variable {P : Program} {n : Nat} {c : Bool} {loc env : EL} {B : List Res} {ms : List Nat} {d : Nat} {t : TypeId} {x : Operand} {l : List SV} {S : SV} {i o : Nat}
instance [f1 : F1 P t i o] [lx : Lu n c loc env x (.ag l)] [nt : Nth l o S] : St P n c loc env B ms d (.field t x i) True S := .p fun q _ _ _ _ _ w s _ _ _ _ _ k => by
 obtain ⟨fs,f,h1,h2,h3,h4⟩ := f1.h
 obtain ⟨vs,e,u⟩ := lx.h q (s.f x)
 obtain ⟨v,hv,hd⟩ := u.at nt.h
 refine OpW.valD (v := v) (w' := w) ?_ (k v hd)
 have hv2 : vs.toArray[f.offset]? = some v := by rw [h4]; simpa using hv
 simp only [execOp,Instr.field,e,Sem.run_bind,h1.run w,Result.andThen,h2,part,asAgg,Sem.run_pure,h3 w,Bool.false_eq_true,if_false,hv2]
end
set_option maxHeartbeats 8000000
class MN {κ α : Type} (l : List (κ × α)) (k : κ) : Prop where h : mget l k = none
class MpS (P : Program) (t : TypeId) (κ : outParam Type) (K : outParam (KK κ)) : Prop where h : ∃ kt et,IsUnd P t (.map kt et) /\ KyP P kt K /\ IsZero P et (.slice none 0 0)
instance : MpS Tryz.prog 180 K4 KA := ⟨86,22,Tryz.underlying180,inferInstance,Tryz.zeroValue22⟩
section
variable {κ α : Type} {K : KK κ} {f : α -> SV} {P : Program} {n : Nat} {c : Bool} {loc env : EL} {B : List Res} {ms : List Nat} {d : Nat} {t e u : TypeId} {x y : Operand} {v : Value} {l : List (κ × α)} {s : κ} {T : SV} {sd : Prop} {r : Rp α} {q : List α} {lc m cp : Nat}
instance (priority := high) [mt : MpS P t κ K] [lx : Lu n c loc env x (ov v)] [hm : HM B v κ K α f l] [ly : Lu n c loc env y T] [kv : KV K T s sd] [mn : MN l s] : St P n c loc env B ms d (.lookup t x y false) sd (.cv (.slice none 0 0)) := .p fun q hs _ _ _ _ _ sx _ _ _ _ _ kk => by
 obtain ⟨kt,et,h1,h2,h3⟩ := mt.h
 obtain ⟨b,hv,es,clock,hb,⟨rows,nd⟩,hn,hc⟩ := hm.h sx.ow
 obtain ⟨gk,ke⟩ := kv.h hs
 have hx := (lx.h q (sx.f x)).1
 refine OpW.lookupM (ok := false) (kt := kt) gk h1 h3 (hx.trans hv) (ke (ly.h q (sx.f y))) hb rows nd (fun v' a' hg2 hd => ?_) (fun hg2 => kk _ rfl)
 rw [mn.h] at hg2; cases hg2
instance [ts : TS P t e] [lx : Lu n c loc env x (.cv (.slice none m cp))] : St P n c loc env B ms d (.binOp .eql t x (.const (.slice none 0 lc)) u) True (.cv (.bool true)) := .p fun q _ _ _ _ _ _ s _ _ _ _ _ kk => OpW.eqlNil ts.h (cvE (lx.h q (s.f x))) rfl rfl (kk _ rfl)
instance [ts : TS P t e] [lx : Lu n c loc env x (lv r q)] : St P n c loc env B ms d (.binOp .eql t x (.const (.slice none 0 lc)) u) (0 < q.length) (.cv (.bool false)) := .p fun qc hs _ _ _ _ _ s _ _ _ _ _ kk => by
 have u : LR r _ _ q := lx.h qc (s.f x)
 obtain ⟨base,cp,e,hc⟩ := u.shape
 rw [e] at u
 refine OpW.eqlNil (r := false) ts.h e rfl ?_ (kk _ rfl)
 cases hb : base.isNone with
 | false => rfl
 | true => have := u.isNone hb; rw [this] at hs; exact absurd hs (by simp)
end
abbrev hiL (k : K4) (n : Nat) : List Int := [k.a,k.b,k.c,k.d].take n
def RwR (o w : Nat) (gs : List Gm) (b : Int) (am : Rat) (L : List (K4 × List Fr)) : Prop := ∀ p ∈ L,p.2 = rowL o w gs b am (hiL p.1 (o - 1))
noncomputable def rwQ (o w : Nat) (gs : List Gm) (b : Int) (am : Rat) (h : K4) (i : Nat) : Rat := ((rowL o w gs b am (hiL h (o - 1))).getD i fr0).rat
abbrev rRw (v : Value) (o w : Nat) (gs : List Gm) (b : Int) (am : Rat) : Res := rMp KA (fun r : List Fr => lv rF r) v (RwR o w gs b am)
structure SyS (o w : Nat) (gs : List Gm) (b : Int) (am : Fr) (h : K4) : Prop where
 s : RwS o w gs b am
 f : FtF am
 hs : HsS o w (hiL h (o - 1))
 i : I64z h.a /\ I64z h.b /\ I64z h.c /\ I64z h.d
theorem rwQ_can {o w : Nat} {gs : List Gm} {b : Int} {am : Fr} {h : K4} (s : SyS o w gs b am h) (i : Nat) : (rowL o w gs b am.rat (hiL h (o - 1))).getD i fr0 = frK (rwQ o w gs b am.rat h i) /\ bq (rwQ o w gs b am.rat h i) <= 2000000 := by
 have hc := rowL_can s.s s.f s.hs
 unfold rwQ
 refine ⟨?_,(hc.getD (by decide) i).1⟩
 by_cases hi : i < (rowL o w gs b am.rat (hiL h (o - 1))).length
 · exact (hc _ (getD_in fr0 hi)).1
 · rw [List.getD_eq_getElem?_getD,List.getElem?_eq_none (by omega)]
   show fr0 = frK fr0.rat
   rw [fr0_rat,frK_zero]
section
variable {m : Md} {g : Fr} {l : Lg} {v : Value} {o w : Nat} {gs : List Gm} {b : Int} {am : Fr} {h : K4} {i : Nat} {B : List Res}
theorem says_b : CtR Tryz.prog 88 [.pk (dtC m g l v (o - 1)) 0,KA.sv h,iv (i : Int)] (rRw v o w gs b am.rat :: B) (SyS o w gs b am h /\ l = lgO o w gs b am /\ i <= w) Unit (fun _ => kk (rwQ o w gs b am.rat h i)) (fun _ => rRw v o w gs b am.rat :: B) := by
 refine (ctR Tryz.call88 Tryz.func88 Tryz.ntmps88 rfl Tryz.results88 rfl [6] fun h0 w0 ⟨hs,hL,hi⟩ => ?_)
 haveI i1 : ∀ hist,Ct Tryz.prog 143 [lgV l,lv rI hist] (RwS o w gs b am /\ HsS o w hist) (.tp [lv rF (rowL o w gs b am.rat hist),iv 0]) := fun hist => by rw [hL]; exact row_c hs.f hist
 have hss : RwS o w gs b am /\ HsS o w (hiL h (o - 1)) := ⟨hs.s,hs.hs⟩
 have hki := hs.i
 have ho4 := hs.s.lo.1.2
 have hrl : (rowL o w gs b am.rat (hiL h (o - 1))).length = w + 1 := rowL_len
 obtain ⟨hcan,hbq⟩ := rwQ_can hs i
 clear hL
 refine gOp v fun L hR => ?_
 cases hm : mget L h with
 | none =>
   haveI : MN L h := ⟨hm⟩
   have hrg : 0 < ((mget (mset L ⟨h.a,h.b,h.c,h.d⟩ (rowL o w gs b am.rat (List.take (o - 1) [h.a,h.b,h.c,h.d]))) ⟨h.a,h.b,h.c,h.d⟩).getD []).length /\ i < ((mget (mset L ⟨h.a,h.b,h.c,h.d⟩ (rowL o w gs b am.rat (List.take (o - 1) [h.a,h.b,h.c,h.d]))) ⟨h.a,h.b,h.c,h.d⟩).getD []).length := by
    rw [mget_mset]
    show 0 < (rowL o w gs b am.rat (hiL h (o - 1))).length /\ i < (rowL o w gs b am.rat (hiL h (o - 1))).length
    omega
   obtain ⟨hr1,hr2⟩ := hrg
   repeat first | refine gDs 7 7 (by rfl) (by kernel_rfl) ?_ | refine gDsL 20 (fun j => Nat.beq j 18) 20 (by rfl) (by kernel_rfl) ?_ | refine gDs 10 9 (by rfl) (by kernel_rfl) ?_ | refine nx ?_ | intro _
   have e : (((mget (mset L ⟨h.a,h.b,h.c,h.d⟩ (rowL o w gs b am.rat (List.take (o - 1) [h.a,h.b,h.c,h.d]))) ⟨h.a,h.b,h.c,h.d⟩).getD []).getD i fr0) = frK (rwQ o w gs b am.rat h i) := by
    rw [mget_mset]; exact hcan
   rw [e]
   refine gEr () (h2 := ?_)
   exact ⟨fun p hp => by
    rcases mem_mset hp with rfl | hp
    · rfl
    · exact hR p hp,trivial⟩
 | some r =>
   have hr : r = rowL o w gs b am.rat (hiL h (o - 1)) := hR _ (mget_mem' hm)
   have hrg : 0 < ((mget L ⟨h.a,h.b,h.c,h.d⟩).getD []).length /\ i < ((mget L ⟨h.a,h.b,h.c,h.d⟩).getD []).length := by
    rw [show mget L ⟨h.a,h.b,h.c,h.d⟩ = some r from hm,hr]
    show 0 < (rowL o w gs b am.rat (hiL h (o - 1))).length /\ i < (rowL o w gs b am.rat (hiL h (o - 1))).length
    omega
   obtain ⟨hr1,hr2⟩ := hrg
   repeat first | refine gDs 7 7 (by rfl) (by kernel_rfl) ?_ | refine gDs 10 9 (by rfl) (by kernel_rfl) ?_ | refine nx ?_ | intro _
   have e : (((mget L ⟨h.a,h.b,h.c,h.d⟩).getD []).getD i fr0) = frK (rwQ o w gs b am.rat h i) := by
    rw [show mget L ⟨h.a,h.b,h.c,h.d⟩ = some r from hm,hr]; exact hcan
   rw [e]
   refine gEr () (h2 := ?_)
   exact ⟨hR,trivial⟩
end
instance : F1 Tryz.prog 25 2 2 := ⟨_,_,Tryz.underlying25,rfl,Tryz.isAgg22,rfl⟩
section
variable {m : Md} {g : Fr} {l : Lg} {v : Value} {o w : Nat} {gs : List Gm} {b : Int} {am : Fr} {h : K4} {i j : Nat} {B B1 : List Res}
instance says_i {h1 h2 h3 h4 wd : Int} [ii : IN wd i] [pm : PmP B v KA (fun r : List Fr => lv rF r) (RwR o w gs b am.rat) B1] : CtR Tryz.prog 88 [.pk (dtC m g l v (o - 1)) 0,.ag [iv h1,iv h2,iv h3,iv h4],iv wd] B (SyS o w gs b am ⟨h1,h2,h3,h4⟩ /\ l = lgO o w gs b am /\ i <= w) Unit (fun _ => kk (rwQ o w gs b am.rat ⟨h1,h2,h3,h4⟩ i)) (fun _ => B) := by
 rw [ii.e]; exact CtR.inv pm.h (says_b (h := ⟨h1,h2,h3,h4⟩))
theorem last_b [ft : FtM m] : CtR Tryz.prog 39 [.pk (dtC m g l v (o - 1)) 0,plV h j] (rRw v o w gs b am.rat :: B) (SyS o w gs b am h /\ l = lgO o w gs b am /\ j < m.fin.length /\ bf (m.fin.getD j fr0) <= 2600000) Unit (fun _ => kk ((m.fin.getD j fr0).rat * rwQ o w gs b am.rat h 0)) (fun _ => rRw v o w gs b am.rat :: B) := by
 refine (ctR Tryz.call39 Tryz.func39 Tryz.ntmps39 rfl Tryz.results39 rfl [4] fun h0 w0 ⟨hs,hL,hj,hb⟩ => ?_)
 have hsd : SyS o w gs b am ⟨h.a,h.b,h.c,h.d⟩ /\ l = lgO o w gs b am /\ 0 <= w := ⟨hs,hL,Nat.zero_le _⟩
 have hbq := (rwQ_can hs 0).2
 have hbq2 : bq (rwQ o w gs b am.rat ⟨h.a,h.b,h.c,h.d⟩ 0) <= 2000000 := hbq
 repeat first | refine gIn 14 13 (by rfl) (by kernel_rfl) ?_ | refine nx ?_ | intro _
 try refine gIf (fun c => absurd c (by decide)) fun c => ?_
 repeat first | refine gIn 14 13 (by rfl) (by kernel_rfl) ?_ | refine nx ?_ | intro _
 exact gEr () (h2 := ⟨fun _ x => x,trivial⟩)
instance last_i {h1 h2 h3 h4 : Int} [ft : FtM m] [pm : PmP B v KA (fun r : List Fr => lv rF r) (RwR o w gs b am.rat) B1] : CtR Tryz.prog 39 [.pk (dtC m g l v (o - 1)) 0,.ag [iv h1,iv h2,iv h3,iv h4,iv 1,iv 0,iv 0,iv (j : Int)]] B (SyS o w gs b am ⟨h1,h2,h3,h4⟩ /\ l = lgO o w gs b am /\ j < m.fin.length /\ bf (m.fin.getD j fr0) <= 2600000) Unit (fun _ => kk ((m.fin.getD j fr0).rat * rwQ o w gs b am.rat ⟨h1,h2,h3,h4⟩ 0)) (fun _ => B) := CtR.inv pm.h (last_b (h := ⟨h1,h2,h3,h4⟩))
end
end Go.E3
