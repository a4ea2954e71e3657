/- K50: a part of the proof about training through the decoder: how the program's functions run, and what they compute, for every input. -/
import Derived.Test.YtdciabokggfpbaaGreatK49
import Derived.Test.YtdciabokggfpbaaGreatK36
import Derived.Test.YtdciabokggfpbaaGreatK28
import Derived.Test.YtdciabokggfpbaaGreatK38
import Derived.Test.YtdciabokggfpbaaGreatK24
import Derived.Test.YtdciabokggfpbaaGreatK25
import Derived.Test.YtdciabokggfpbaaGreatK26
set_option linter.all false
set_option maxRecDepth 20000
set_option maxHeartbeats 8000000
set_option synthInstance.maxSize 1000
namespace Go.E3
open Go Go.Ear Go.Proofs
noncomputable def toS (m : Md) (E : Rat) (l : List (K8 × Fr)) : Rat := l.foldl (fun a p => a + p.2.rat * ((m.fin.getD p.1.p.d.toNat fr0).rat * E)) 0
theorem toS_app (m : Md) (E : Rat) (l : List (K8 × Fr)) (p : K8 × Fr) : toS m E (l ++ [p]) = toS m E l + p.2.rat * ((m.fin.getD p.1.p.d.toNat fr0).rat * E) := by
 unfold toS; rw [List.foldl_append]; rfl
theorem toS_perm {m : Md} {E : Rat} {l l' : List (K8 × Fr)} (h : l.Perm l') : toS m E l = toS m E l' := by
 unfold toS
 exact h.foldl_eq' (fun a _ b _ z => by rw [Rat.add_assoc,Rat.add_comm (a.2.rat * _), <- Rat.add_assoc]) 0
section
variable {m : Md} {l : Lg} {v : Value} {o : Nat} {gs : List Gm} {b : Int} {am : Fr} {B : List Res} {x : Nat}
noncomputable def enQ (o : Nat) (gs : List Gm) (b : Int) (am : Rat) : Rat := rwQ o 1 gs b am (nxH (o - 1)) 0
noncomputable def totQ (m : Md) (o : Nat) (gs : List Gm) (b : Int) (am : Rat) (x : Nat) : Rat := toS m (enQ o gs b am) (nowL m o gs b am x (stN m o gs b am x))
theorem nowL_mem {k : Nat} {p : K8 × Fr} (h : p ∈ nowL m o gs b am.rat x k) : ∃ j,j < m.start.length /\ p = (plK (o - 1) j,frK (fW m (wtQ o gs b am.rat) x j)) := by
 unfold nowL at h
 obtain ⟨j,hj,rfl⟩ := List.mem_map.1 h
 exact ⟨j,(stW_lt (List.mem_of_mem_take hj)).1,rfl⟩
theorem nowL_len {k : Nat} : (nowL m o gs b am.rat x k).length <= m.start.length := by
 unfold nowL
 rw [List.length_map]
 exact Nat.le_trans (List.length_take_le' _ _) stW_len
theorem toS_b {E : Rat} (hE : bq E <= 2000000) {L : List (K8 × Fr)} (h : ∀ p ∈ L,bq p.2.rat <= 7300000 /\ bq (m.fin.getD p.1.p.d.toNat fr0).rat <= 2600000) : bq (toS m E L) <= 12000000 * L.length + 1 := by
 have key : ∀ (L : List (K8 × Fr)) (a : Rat) (W : Nat),bq a <= W -> (∀ p ∈ L,bq p.2.rat <= 7300000 /\ bq (m.fin.getD p.1.p.d.toNat fr0).rat <= 2600000) -> bq (L.foldl (fun a p => a + p.2.rat * ((m.fin.getD p.1.p.d.toNat fr0).rat * E)) a) <= 12000000 * L.length + W := by
  intro L
  induction L with
  | nil => intro a W ha _; show bq a <= _; simpa using ha
  | cons p L ih =>
    intro a W ha h
    have h2 := h p (by simp)
    have b1 := bq_add a (p.2.rat * ((m.fin.getD p.1.p.d.toNat fr0).rat * E))
    have b2 := bq_mul p.2.rat ((m.fin.getD p.1.p.d.toNat fr0).rat * E)
    have b3 := bq_mul (m.fin.getD p.1.p.d.toNat fr0).rat E
    have := ih (a + p.2.rat * ((m.fin.getD p.1.p.d.toNat fr0).rat * E)) (W + 12000000) (by omega) fun q hq => h q (by simp [hq])
    rw [List.foldl_cons,List.length_cons]
    omega
 exact key L 0 1 (by rw [bq_zero]; omega) h
structure ToS (m : Md) (l : Lg) (o : Nat) (gs : List Gm) (b : Int) (am : Fr) (x : Nat) : Prop where
 f : FwS m l o gs b am x
 k : TkS m l
 n : SyS o 1 gs b am (nxH (o - 1))
 o : 1 <= o
theorem CtR.pre {P : Program} {f : FuncId} {args : List SV} {A A' : List Res} {sd : Prop} {σ : Type} {S : σ -> SV} {B' : σ -> List Res} (p : Sb A' A) (ct : CtR P f args A sd σ S B') : CtR P f args A' sd σ S B' := ⟨ct.fn,fun hs h0 w0 h w vs gr ow u => ct.h hs gr (p.own ow) u⟩
instance forward_i {B1 : List Res} [pm : PmP B v KA (fun r : List Fr => lv rF r) (RwR o 1 gs b am.rat) B1] : CtR Tryz.prog 37 [.pk (dtC m (frK 1) l v (o - 1)) 0,lv rI [(x:Int)],.cv (.func (.func 38) #[] #[])] B (FwS m l o gs b am x) (Value × Value) (fun s => .tp [ov s.1,iv 0]) (fun s => rA rW 85 s.1 [s.2] :: rM' KP fv s.2 (nowL m o gs b am.rat x (stN m o gs b am.rat x)) :: rRw v o 1 gs b am.rat :: B1) := CtR.pre (.perm pm.h) forward_b
theorem total_b : Ct Tryz.prog 11 [tkV m (frK 1) l,lv rI [(x : Int)]] (ToS m l o gs b am x) (.tp [kk (totQ m o gs b am.rat x),iv 0]) := by
 refine (ctI Tryz.call11 Tryz.func11 Tryz.ntmps11 rfl Tryz.results11 rfl [4,9] fun h0 w0 ⟨hf,hk,hn,ho⟩ => ?_)
 have hit := hf.it
 haveI := hf.ms.t
 have hb1 : bf (frK 1) <= 1000 := by decide +kernel
 have hd1 : distF [frK 1] = true := by decide +kernel
 have hsy : 0 < m.say.length := by rw [hf.ms.l.1]; exact hf.ms.n.1
 have hhr : hrB m [(x : Int)] = true := by
  unfold hrB
  have h1 := hf.ms.y 0 hf.ms.n.1
  have e1 : decide ((x : Int) < 0) = false := decide_eq_false (by omega)
  have e2 : decide (((m.say.getD 0 []).length : Int) <= (x : Int)) = false := decide_eq_false (by omega)
  rw [List.any_cons,List.any_nil,e1,e2]; rfl
 have hord : l.t.order.toNat - 1 = o - 1 := by rw [hf.l]; rfl
 have hbs : ((TkS m l /\ 0 < m.say.length) /\ bf (frK 1) <= 1000 /\ distF [frK 1] = true) /\ [(x : Int)].length <= 1000 /\ hrB m [(x : Int)] = true := ⟨⟨⟨hk,hsy⟩,hb1,hd1⟩,by show 1 <= 1000; decide,hhr⟩
 repeat first | refine nx ?_ | intro _
 rw [hord]
 rename_i v4 vm
 refine gIf (fun c => absurd rfl c) fun c => ?_
 refine gCl vm (RwR o 1 gs b am.rat) (fun p hp => absurd hp (List.not_mem_nil)) ?_
 repeat first | refine nx ?_ | intro _
 refine gIf (fun c => absurd c (Nat.succ_ne_zero 0)) fun c => ?_
 repeat first | refine nx ?_ | intro _
 rename_i q
 obtain ⟨u,mp⟩ := q
 refine gIf (fun c => absurd rfl c) fun c => ?_
 repeat first | refine nx ?_ | intro _
 refine (show GO Tryz.prog 59 _ [4,9] ((44,ov mp) :: _) _ _ _ _ _ from ?_)
 dsimp only
 repeat first | refine nx ?_ | intro _
 rename_i v9 pp
 have hmem : ∀ q ∈ nowL m o gs b am.rat x (stN m o gs b am.rat x), ∃ j,j < m.start.length /\ q = (plK (o - 1) j,frK (fW m (wtQ o gs b am.rat) x j)) := fun q hq => nowL_mem hq
 have hlen : (nowL m o gs b am.rat x (stN m o gs b am.rat x)).length <= 3 := Nat.le_trans nowL_len hf.ms.n.2
 have htot : totQ m o gs b am.rat x = toS m (enQ o gs b am.rat) (nowL m o gs b am.rat x (stN m o gs b am.rat x)) := rfl
 rw [htot]
 have hbt := (rwQ_can hf.s 1).2
 have hEb : bq (enQ o gs b am.rat) <= 2000000 := (rwQ_can hn 0).2
 have hmb : ∀ j,bq (m.fin.getD j fr0).rat <= 2600000 := fun j => by
  have f1 : FtF (m.fin.getD j fr0) := inferInstance
  exact Nat.le_trans (bq_rat f1.h) (hf.ms.b2 j)
 have hmq : ∀ q ∈ nowL m o gs b am.rat x (stN m o gs b am.rat x),bq q.2.rat <= 7300000 /\ bq (m.fin.getD q.1.p.d.toNat fr0).rat <= 2600000 := fun q hq => by
  obtain ⟨j,hj,rfl⟩ := hmem q hq
  refine ⟨?_,hmb _⟩
  dsimp only
  rw [frK_rat]
  exact fW_b hbt (hf.ms.b1 j) (hf.ms.b3 j) hf.ms.t
 generalize nowL m o gs b am.rat x (stN m o gs b am.rat x) = L at hmem hmq hlen ⊢
 refine gLp (fun _ : List (K8 × Fr) => []) (fun s => [rMI KP fv pp mp L s,rV v9 [bv (frK (toS m (enQ o gs b am.rat) s)).neg,lv rU (frK (toS m (enQ o gs b am.rat) s)).n,lv rU (frK (toS m (enQ o gs b am.rat) s)).d] 32]) (fun s => ∃ r,(s ++ r).Perm L) (fun s => L.length - s.length) [] ⟨L,.refl _⟩ (fun vis ⟨r,hr⟩ => ?_) (h2 := ?_)
 · have hsl : vis.length + r.length = L.length := by rw [<- List.length_append]; exact hr.length_eq
   repeat first | refine nx ?_ | intro _
   refine gNxt (fun hd => ?_) fun k a ⟨rr,hrr⟩ => ?_
   · repeat first | refine nx ?_ | intro _
     rw [toS_perm hd]
     exact ⟨⟨rfl,rfl,rfl⟩,trivial⟩
   · have hl3 := hrr.length_eq
     rw [List.length_append,List.length_cons] at hl3
     obtain ⟨j,hj,hka⟩ := hmem (k,a) (hrr.mem_iff.1 (by simp))
     cases hka
     have hE : enQ o gs b am.rat = rwQ o 1 gs b am.rat ⟨(nxH (o - 1)).a,(nxH (o - 1)).b,(nxH (o - 1)).c,(nxH (o - 1)).d⟩ 0 := rfl
     rw [hE] at hEb ⊢
     have hsd : SyS o 1 gs b am ⟨(nxH (o - 1)).a,(nxH (o - 1)).b,(nxH (o - 1)).c,(nxH (o - 1)).d⟩ /\ l = lgO o 1 gs b am /\ j < m.fin.length /\ bf (m.fin.getD j fr0) <= 2600000 := ⟨hn,hf.l,by rw [hf.ms.l.2]; exact hj,hf.ms.b2 j⟩
     have hbf : bq (fW m (wtQ o gs b am.rat) x j) <= 7300000 := fW_b hbt (hf.ms.b1 j) (hf.ms.b3 j) hf.ms.t
     have hfin := hmb j
     have hbsv := toS_b (m := m) hEb (L := vis) fun q hq => hmq q (hr.mem_iff.1 (List.mem_append_left _ hq))
     have b3 := bq_mul (m.fin.getD j fr0).rat (rwQ o 1 gs b am.rat ⟨(nxH (o - 1)).a,(nxH (o - 1)).b,(nxH (o - 1)).c,(nxH (o - 1)).d⟩ 0)
     have b2 := bq_mul (fW m (wtQ o gs b am.rat) x j) ((m.fin.getD j fr0).rat * rwQ o 1 gs b am.rat ⟨(nxH (o - 1)).a,(nxH (o - 1)).b,(nxH (o - 1)).c,(nxH (o - 1)).d⟩ 0)
     have hS : toS m (rwQ o 1 gs b am.rat ⟨(nxH (o - 1)).a,(nxH (o - 1)).b,(nxH (o - 1)).c,(nxH (o - 1)).d⟩ 0) (vis ++ [(plK (o - 1) j,frK (fW m (wtQ o gs b am.rat) x j))]) = toS m (rwQ o 1 gs b am.rat ⟨(nxH (o - 1)).a,(nxH (o - 1)).b,(nxH (o - 1)).c,(nxH (o - 1)).d⟩ 0) vis + fW m (wtQ o gs b am.rat) x j * ((m.fin.getD j fr0).rat * rwQ o 1 gs b am.rat ⟨(nxH (o - 1)).a,(nxH (o - 1)).b,(nxH (o - 1)).c,(nxH (o - 1)).d⟩ 0) := by
      rw [toS_app]
      show _ + (frK _).rat * _ = _
      rw [frK_rat]; rfl
     repeat first | refine gIn 8 7 (by rfl) (by kernel_rfl) ?_ | refine nx ?_ | intro _
     exact gBk (vis ++ [(plK (o - 1) j,frK (fW m (wtQ o gs b am.rat) x j))]) ⟨rr,by simpa using hrr⟩ (by rw [List.length_append,List.length_singleton]; omega) (h2 := by dsimp only; rw [hS]; repeat' (first | rfl | trivial | exact fun _ h => h | refine And.intro ?_ ?_))
 · rw [show toS m (enQ o gs b am.rat) [] = 0 from rfl,frK_zero]
   exact ⟨trivial,trivial,⟨rfl,rfl,rfl⟩,trivial⟩
end
theorem improves_ok1 {m : Md} {data : List (List Int)} [ft : FtM m] (g : Good m 3) (hE : checkE [m] data = 0) (hF : ∀ o ∈ data,o.length <= 1) (hD : data.length <= 4) : ImpOk m data (reeM (canM m) (cntK (cntD (canM m) data))) /\ ∀ k,k < data.length -> (lk (Go.Ear.trK m data k) = 0 ↔ lk (Go.Ear.trK (reeM (canM m) (cntK (cntD (canM m) data))) data k) = 0) := by
 obtain ⟨r0,s1,s2,s3⟩ := Rec.can (S := 3) g.v g.l g.w g.s
 have cs : symb (canM m) = symb m := (can_VK g.v).symb
 have c0 : checkE [canM m] data = 0 := check_next hE r0.v r0.l cs
 have l0 : (canM m).start.length = m.start.length := ch_n (shrQ_len rfl rfl)
 have hS : (canM m).start.length <= 3 := by have := g.s; omega
 have tok := r0.tok c0
 have hE1 : sz (dA m) + 1 * (sz (dB m) + sz (dC m)) + 2 <= 1254 := by omega
 have hK : 2 + 4 * 1254 <= 5021 := by decide
 have h32 : 1 * 4 < 4294967296 := by decide
 have rc := cnt_rw r0 tok hF hD hE1 hK hS h32 (by decide) (R2 := 60380) (by decide) (by decide)
 have rr := Rec.ree r0 tok hF hD hE1 hK hS h32 (R' := 60380) ⟨by omega,by omega,by omega⟩ (by decide) (by decide) (by decide)
 have rm : RwM 2600000 (canM m) := r0.R.weak (by decide)
 have vk := (ree_ok (c := cntK (cntD (canM m) data)) inferInstance inferInstance r0.v r0.l rm (rc.weak (by decide))).1
 have l1 : (reeM (canM m) (cntK (cntD (canM m) data))).start.length = (canM m).start.length := ch_n (shrQ_len rc.l.1 rfl)
 have mb : MdB 100000 (canM m) := (r0.R.weak (by decide)).mdb
 obtain ⟨r1,z1,z2,z3⟩ := rr
 have nx := nxt_ree (data := data) r0.v l1
 obtain ⟨i1,i2,i3,i4⟩ := improves r0.w r0.p r0.v (Nn.of r1.v) tok nx
 have hc := can_rat g.v
 have hlk : ∀ o,lk ⟨canM m,o⟩ = lk ⟨m,o⟩ := fun o => lk_same l0 (fun i _ => hc.1 i) hc.2.1 hc.2.2.1 hc.2.2.2
 have hP := lkP_congr (data := data) hlk
 generalize hV : reeM (canM m) (cntK (cntD (canM m) data)) = V at *
 have sv : symb V = symb (canM m) := by rw [<- hV]; exact vk.symb
 have cV := check_next c0 r1.v r1.l sv
 have hE2 : sz (nA (canM m) data (dA m) (dB m) (dC m)) + 1 * (sz (nB (canM m) data (dA m) (dB m) (dC m)) + sz (nC (canM m) data (dA m) (dB m) (dC m))) + 2 <= 125535 := by omega
 have hFk : ∀ k,k < data.length -> (data.getD k []).length <= 1 := fun k hk => hF _ (getD_mem' data [] hk)
 have lv : ∀ k,k < data.length -> bq (lk (Go.Ear.trK V data k)) <= 125535 := fun k hk => wh_lk (t := Go.Ear.trK V data k) r1.w r1.v r1.p (hFk k hk) hE2
 have lm : ∀ k,k < data.length -> bq (lk (Go.Ear.trK m data k)) <= 125535 := fun k hk => Nat.le_trans (g.lk 0 (hFk k hk) (by decide)) (by decide)
 refine ⟨?_,fun k hk => by have := i2 k hk; rw [show lk (Go.Ear.trK (canM m) data k) = lk (Go.Ear.trK m data k) from hlk _] at this; exact this⟩
 refine ⟨⟨DOk.wh r0.w r0.p c0 mb r0.W hF hD hE1 (by decide) (by decide) (by decide) h32,rm,rc.weak (by decide),fun h => absurd h (by decide)⟩,r1.v,r1.l,by omega,by omega,r1.R,cV,fun k hk => g.fw 0 (hFk k hk) (by decide) (by decide),fun k hk k' i h => Nat.le_trans (wh_fw (t := Go.Ear.trK V data k) r1.w r1.v r1.p (hFk k hk) hE2 k' i h) (by decide),fun k hk => ?_,fun k hk => ?_,fun k hk => Nat.le_trans (lm k hk) (by decide),fun k hk => Nat.le_trans (lv k hk) (by decide), ?_, ?_, ?_, ?_⟩
 · have := lkP_bq lm k hk
   have := Nat.mul_le_mul_right 125535 (show k <= 4 by omega)
   omega
 · have := lkP_bq lv k hk
   have := Nat.mul_le_mul_right 125535 (show k <= 4 by omega)
   omega
 · refine ⟨by omega,fun i hi h => i1.st i (by omega) ((hc.1 i).trans h),fun i j hi hj h => i1.mv i j (by omega) (by omega) ((hc.2.1 i j hi hj).trans h),fun i hi h => i1.fi i (by omega) ((hc.2.2.1 i hi).trans h),fun i x hi h => i1.sy i x (by omega) ((hc.2.2.2 i x hi).trans h)⟩
 · rw [usK_congr i2,(hP _).2]
 · rw [(hP _).1] at i3; exact i3
 · intro h
   rw [(hP _).1] at i4
   have sw := i4 h
   refine equalM_of (by omega) g.v r1.v (by omega) fun i hi => ?_
   obtain ⟨a,b,c,d⟩ := sw i (by omega)
   refine ⟨a.trans (hc.1 i),b.trans (hc.2.2.1 i hi),fun j hj => (c j (by omega)).trans (hc.2.1 i j hi hj),fun x hx => (d x (by omega)).trans (hc.2.2.2 i x hi)⟩
section
variable {m : Md} {o : Nat} {gs : List Gm} {b : Int} {am : Fr} {x : Nat}
noncomputable def cQ (o : Nat) (gs : List Gm) (b : Int) (am : Rat) : Rat := if 0 < wtQ o gs b am then wtQ o gs b am * enQ o gs b am else 0
noncomputable def l1 (m : Md) (x j : Nat) : Rat := (m.start.getD j fr0).rat * ((m.say.getD j []).getD x fr0).rat * (m.fin.getD j fr0).rat
theorem lk_one : lk ⟨m,[(x : Int)]⟩ = sumTo (l1 m x) m.start.length := by
 rw [lk_fwd (t := ⟨m,[(x : Int)]⟩) (by show 0 < 1; decide)]
 refine sumTo_congr _ fun i hi => ?_
 rw [show ([(x : Int)].length - 1) = 0 from rfl, <- fwd_zero (t := ⟨m,[(x : Int)]⟩) hi]
 rfl
theorem toS_st {wt E : Rat} (hw : 0 < wt) (nn : Nn m) : ∀ k,toS m E ((stW m wt x k).map fun j => (plK (o - 1) j,frK (fW m wt x j))) = wt * E * sumTo (l1 m x) k
 | 0 => by show (0 : Rat) = wt * E * 0; rw [Rat.mul_zero]
 | k + 1 => by
   have ih := toS_st hw nn (E := E) k
   rw [stW_succ,List.map_append,sumTo]
   by_cases h : 0 < sgQ (fW m wt x k)
   · rw [if_pos h,List.map_singleton,toS_app,ih]
     show _ + (frK _).rat * ((m.fin.getD k fr0).rat * E) = _
     rw [frK_rat]
     unfold fW l1
     grind
   · rw [if_neg h,List.map_nil,List.append_nil,ih]
     have h0 : 0 <= (m.start.getD k fr0).rat * ((m.say.getD k []).getD x fr0).rat := Rat.mul_nonneg (nn.st k) (nn.sy k x)
     have hf : ¬ 0 < fW m wt x k := fun e => h (sgQ_pos.2 e)
     have hz : (m.start.getD k fr0).rat * ((m.say.getD k []).getD x fr0).rat = 0 := by
      by_cases e : (m.start.getD k fr0).rat * ((m.say.getD k []).getD x fr0).rat = 0
      · exact e
      · exfalso
        apply hf
        unfold fW
        rw [Rat.mul_assoc]
        exact Rat.mul_pos hw (by grind)
     unfold l1
     rw [hz,Rat.zero_mul,Rat.add_zero]
theorem stW_none {wt : Rat} (hw : ¬ 0 < wt) (nn : Nn m) : ∀ k,stW m wt x k = []
 | 0 => rfl
 | k + 1 => by
   rw [stW_succ,stW_none hw nn k]
   have h0 : 0 <= (m.start.getD k fr0).rat * ((m.say.getD k []).getD x fr0).rat := Rat.mul_nonneg (nn.st k) (nn.sy k x)
   rw [if_neg]
   · rfl
   · intro h
     have h := sgQ_pos.1 h
     unfold fW at h
     rw [Rat.mul_assoc] at h
     have : 0 <= (-wt) * ((m.start.getD k fr0).rat * ((m.say.getD k []).getD x fr0).rat) := Rat.mul_nonneg (by grind) h0
     grind
theorem tot_lk (nn : Nn m) : totQ m o gs b am.rat x = cQ o gs b am.rat * lk ⟨m,[(x : Int)]⟩ := by
 unfold totQ nowL cQ stN
 rw [lk_one]
 by_cases hz : wtQ o gs b am.rat = 0
 · rw [if_pos hz,if_neg (by rw [hz]; exact Rat.lt_irrefl),List.take_zero,Rat.zero_mul]; rfl
 · rw [if_neg hz,List.take_length]
   by_cases hp : 0 < wtQ o gs b am.rat
   · rw [if_pos hp,toS_st hp nn]
   · rw [if_neg hp,stW_none hp nn,Rat.zero_mul]; rfl
end
def tP (f g : Nat -> Rat) : Nat -> Rat
 | 0 => 1
 | k + 1 => if 0 < f k then tP f g k * g k else tP f g k
theorem tP_none {f g : Nat -> Rat} (h : ∀ k, ¬ 0 < f k) : ∀ k,tP f g k = 1
 | 0 => rfl
 | k + 1 => by rw [tP,if_neg (h k),tP_none h k]
theorem tP_lk {m v : Md} {data : List (List Int)} {c : Rat} (hc : 0 < c) (nn : Nn m) : ∀ n,n <= data.length -> (∀ k,k < data.length -> (lk (Go.Ear.trK m data k) = 0 ↔ lk (Go.Ear.trK v data k) = 0)) -> ∃ u : Rat,0 < u /\ tP (fun k => c * lk (Go.Ear.trK m data k)) (fun k => c * lk (Go.Ear.trK m data k)) n = u * lkP m data n /\ tP (fun k => c * lk (Go.Ear.trK m data k)) (fun k => c * lk (Go.Ear.trK v data k)) n = u * lkP v data n
 | 0,_,_ => ⟨1,by decide,by show (1 : Rat) = 1 * 1; rw [Rat.mul_one],by show (1 : Rat) = 1 * 1; rw [Rat.mul_one]⟩
 | n + 1,hn,iff => by
   obtain ⟨u,hu,h1,h2⟩ := tP_lk hc nn (v := v) n (by omega) iff
   have h0 := lk_nn (t := Go.Ear.trK m data n) nn
   have hi := iff n (by omega)
   rw [tP,tP,lkP,lkP,h1,h2]
   by_cases e : lk (Go.Ear.trK m data n) = 0
   · have hx : ¬ 0 < c * lk (Go.Ear.trK m data n) := by rw [e,Rat.mul_zero]; exact Rat.lt_irrefl
     rw [if_neg hx,if_pos e,if_neg hx,if_pos (hi.1 e)]
     exact ⟨u,hu,rfl,rfl⟩
   · have hp : 0 < c * lk (Go.Ear.trK m data n) := Rat.mul_pos hc (by grind)
     rw [if_pos hp,if_neg e,if_pos hp,if_neg fun q => e (hi.2 q)]
     exact ⟨u * c,Rat.mul_pos hu hc,by grind,by grind⟩
theorem tP_le {m v : Md} {data : List (List Int)} {c : Rat} (nn : Nn m) (iff : ∀ k,k < data.length -> (lk (Go.Ear.trK m data k) = 0 ↔ lk (Go.Ear.trK v data k) = 0)) (le : lkP m data data.length <= lkP v data data.length) : tP (fun k => c * lk (Go.Ear.trK m data k)) (fun k => c * lk (Go.Ear.trK m data k)) data.length <= tP (fun k => c * lk (Go.Ear.trK m data k)) (fun k => c * lk (Go.Ear.trK v data k)) data.length := by
 by_cases hc : 0 < c
 · obtain ⟨u,hu,h1,h2⟩ := tP_lk hc nn (v := v) data.length (Nat.le_refl _) iff
   rw [h1,h2]
   exact Rat.mul_le_mul_of_nonneg_left le (Rat.le_of_lt hu)
 · have hn : ∀ k, ¬ 0 < c * lk (Go.Ear.trK m data k) := fun k h => by
    have h0 := lk_nn (t := Go.Ear.trK m data k) nn
    have : 0 <= (-c) * lk (Go.Ear.trK m data k) := Rat.mul_nonneg (by grind) h0
    grind
   rw [tP_none hn,tP_none hn]
   exact Rat.le_refl
theorem tP_bq {f g : Nat -> Rat} {E n : Nat} (h : ∀ k,k < n -> bq (g k) <= E) : ∀ k,k <= n -> bq (tP f g k) <= 2 + k * E
 | 0,_ => by
   have := bq_intc (n := 1) (by decide) (by decide)
   rw [tP]; exact Nat.le_trans this (by omega)
 | k + 1,hk => by
   have ih := tP_bq (f := f) h k (by omega)
   have h1 := h k (by omega)
   have h2 := bq_mul (tP f g k) (g k)
   rw [tP,Nat.succ_mul]
   split <;> omega
section
variable {l : Lg}
theorem lg_eq (h1 : 1 <= l.t.order) (hw : l.t.words = 1) (hm : l.mix = []) : l = lgO l.t.order.toNat 1 l.t.list l.by_ l.am := by
 obtain ⟨⟨od,w,li⟩,by_,am,mix⟩ := l
 dsimp only at h1 hw hm ⊢
 subst hw; subst hm
 unfold lgO
 rw [show ((od.toNat : Nat) : Int) = od by omega]
 rfl
theorem gs_of (h : tbE l.t = 0) (hw : l.t.words = 1) (hl : l.t.list.length <= 10) : GsS l.t.list := by
 obtain ⟨o1,o4,_,_,_,hb⟩ := tbE_sz h
 refine ⟨hl,fun g hg => ?_⟩
 obtain ⟨i,hi,rfl⟩ := List.getElem_of_mem hg
 have hbi : badG l.t i = false := by
  cases hx : badG l.t i with
  | false => rfl
  | true => rw [rng_hit hi hx] at hb; cases hb
 have e : l.t.list.getD i gm0 = l.t.list[i] := by rw [List.getD_eq_getElem?_getD,List.getElem?_eq_getElem hi]; rfl
 unfold badG at hbi
 rw [e] at hbi
 simp only [Bool.or_eq_false_iff,decide_eq_false_iff_not] at hbi
 obtain ⟨⟨⟨⟨a1,a2⟩,a3⟩,a4⟩,_⟩ := hbi
 have hin : inB l.t.list[i].ws 0 l.t.words = true := by simpa using a2
 unfold inB at hin
 have hin : l.t.list[i].ws.any (outB 0 l.t.words) = false := by simpa using hin
 refine ⟨⟨by omega,fun x hx => ?_⟩,by omega,by omega⟩
 have hx := List.any_eq_false.1 hin x hx
 unfold outB at hx
 simp only [Bool.or_eq_true,decide_eq_true_eq,not_or] at hx
 omega
theorem hs_of {o : Nat} {h : K4} (h1 : 1 <= o) (h4 : o <= 4) (hb : (0 <= h.a /\ h.a <= 1) /\ (0 <= h.b /\ h.b <= 1) /\ (0 <= h.c /\ h.c <= 1) /\ 0 <= h.d /\ h.d <= 1) : HsS o 1 (hiL h (o - 1)) := by
 refine ⟨?_,fun x hx => ?_⟩
 · show (([h.a,h.b,h.c,h.d].take (o - 1))).length + 1 = o
   rw [List.length_take]; simp; omega
 · have hx := List.mem_of_mem_take hx
   have h1 : ((1 : Nat) : Int) = 1 := rfl
   simp at hx
   rcases hx with rfl | rfl | rfl | rfl <;> omega
theorem sy_of {h : K4} (hg : LgS l) (hE : lgE l = 0) (hw : l.t.words = 1) (hl : l.t.list.length <= 10) (hb : (0 <= h.a /\ h.a <= 1) /\ (0 <= h.b /\ h.b <= 1) /\ (0 <= h.c /\ h.c <= 1) /\ 0 <= h.d /\ h.d <= 1) : (1 <= l.t.order.toNat /\ l = lgO l.t.order.toNat 1 l.t.list l.by_ l.am) /\ SyS l.t.order.toNat 1 l.t.list l.by_ l.am h := by
 have ht : tbE l.t = 0 := by
  have he := hE
  unfold lgE at he
  split at he
  · assumption
  · exact absurd he (by assumption)
 obtain ⟨o1,o4,_⟩ := tbE_sz ht
 have e := lg_eq o1 hw hg.1.2
 refine ⟨⟨by omega,e⟩,⟨⟨⟨gs_of ht hw hl,by omega⟩,by omega,hg.2.1⟩, ?_, ?_⟩,⟨hg.2.2⟩,hs_of (by omega) (by omega) hb, ?_⟩
 · rw [<- e]; exact hg
 · rw [<- e]; exact hE
 · unfold I64z
   omega
end
theorem to_of {m : Md} {l : Lg} {x : Nat} [ft : FtM m] (hg : LgS l) (hE : lgE l = 0) (hw : l.t.words = 1) (hl : l.t.list.length <= 10) (hb : MdB 10000000 m) (hr : RwM 2000000 m) (hc : checkE [m] [] = 0) (hv : validM m = true) (h3 : m.start.length <= 3) (hx : x < symb m) : ToS m l l.t.order.toNat l.t.list l.by_ l.am x := by
 have n0 := nxH_b 0
 obtain ⟨⟨o1,e⟩,s0⟩ := sy_of (h := ⟨0,0,0,0⟩) hg hE hw hl (by decide)
 have s1 := (sy_of (h := nxH (l.t.order.toNat - 1)) hg hE hw hl (nxH_b _)).2
 have hlen := valid_len hv
 refine ⟨⟨⟨ft,⟨hlen.1,h3⟩,⟨by omega,by omega⟩,fun i hi => ?_,fun i => ?_,fun i => ?_,fun i => ?_⟩,e,s0⟩,⟨hb,hc,hg,hE,hw⟩,s1,o1⟩
 · rw [(valid_row hv hi).2.1]; exact hx
 · exact Nat.le_trans (hr.mdb.sb i) (by decide)
 · exact Nat.le_trans (hr.mdb.fb i) (by decide)
 · exact Nat.le_trans (hr.mdb.syb i x) (by decide)
end Go.E3
set_option maxHeartbeats 4000000
namespace Go.Ear
open Go
section
variable {P : Program} {w : World}
theorem run_appendE {t ty e : TypeId} {i : TypeInfo} {x : Value} {len : Nat} {ys : List Value} {base0 : Option Addr}
 (ht : P.underlying t = some (.slice e)) (hi : P.info? e = some i) (r : Reads w x 0 i.size ys) :
 (Builtin.append_ #[t,t] ty #[.slice base0 len len,x]).run P w = .ok (.slice base0 len len) w := by
 obtain ⟨base,c,rfl,hrx⟩ := r.2
 have hf : (Builtin.firstCells i.size 0 (.slice base 0 c)).run P w = .ok ys.toArray w := run_firstCells (P := P) r
 have hy : ys = [] := List.length_eq_zero_iff.1 (by rw [r.1]; omega)
 subst hy
 cases base0 <;> simp [Builtin.append_,run_underlying ht,sizeOf,typeInfo,hi,Builtin.lenOf,hf,storeCells]
end
end Go.Ear
namespace Go.E3
open Go Go.Ear
section
variable {P : Program} {n : Nat} {X : Fix} {c : Bool} {ms : List Nat} {loc env : EL} {B : List Res} {k : Kt} {ol rest : List Oper} {d : Nat} {ty : TypeId} {pos : String} {af : Array Edge} {α : Type} {r : Rp α} {bb : Nat} {d0 : α} {q q' : List α} {t e : TypeId} {o1 o2 : Operand}
theorem bslF {len : Nat} {xs : List (Nat × Operand)} {ps : List (Nat × SV)} [nn : NotIn d ms] [lx : Lup n c loc env xs ps] [ts : TS P t e] [rt : RT P e α r bb d0] [f : Els r 0 ps q] : St P n c loc env B ms d (.buildSlice t len xs.toArray) (q.length = len /\ Nat.ble (len * r.k) 16777216 = true) (flv r q) := ⟨fun qc sd _ _ ρ _ _ s _ _ _ _ _ k => by
 obtain ⟨e1,e2⟩ := lx.h qc
 obtain ⟨z,i,el,hz⟩ := rt.e
 have hzk : z.cells.size = r.k := el.hc.trans el.hk
 obtain ⟨rr,hf⟩ := f.h (xs := xs.map fun p => (p.1,ev n ρ p.2)) (by rw [List.map_map]; exact e1.symm) (by rw [List.map_map]; exact e2 fun p hp => s.f p.2 (by simp [Op.operands]; exact ⟨_,hp⟩))
 obtain ⟨arr,h1,h2⟩ := hf (sz := z.cells.size) (arr := ((List.replicate len z.cells.toList).flatten).toArray) hzk (by simp [sd.1])
 refine OpW.buildSliceO s.gr.sat ts.h (isZero_of el) (by rw [hzk]; exact rt.k) (by rw [hzk]; exact sd.2) h1 fun b w' gr hn hlo hb => ?_
 obtain ⟨h',g',le,hb',_⟩ := freeze_ex gr hb hn hlo
 refine k _ _ _ g' ⟨?_,_,by rw [sd.1]⟩
 refine LR.own' hb' (css := xs.map fun p => (ev n ρ p.2).cells.toList) ?_ ?_ sd.1 (Nat.le_refl _)
 · apply Array.toList_inj.1
   rw [h2,Nat.zero_mul,Nat.zero_add,sd.1,List.drop_eq_nil_of_le (by simp)]
   simp only [List.take_zero,List.nil_append,List.append_nil,List.map_map]
   rfl
 · have := rr.mono le
   rwa [List.map_map] at this⟩
theorem gApE (q0 : List α) (he : q' = []) [ts : TS P t e] [rt : RT P e α r bb d0] [lx : Lu n true loc env o1 (flv r q)] [ly : Lu n true loc env o2 (lv r q')] (f : GO P n X ms ((d,lv r q) :: loc) env B ol rest k) : GO P n X ms loc env B ol (⟨some d,.call ⟨.builtin .append,[o1,o2].toArray,[t,t].toArray⟩,ty,pos,af,none⟩ :: rest) k := ⟨fun ok ρ h w s => by
 obtain ⟨h1,h2,h3⟩ := okR_some rfl ok
 obtain ⟨z,ti,el,hz⟩ := rt.e
 obtain ⟨hx,a,hxa⟩ := lx.h rfl ((s.x [o1]).fx o1 (by simp))
 have hy := ly.h rfl ((s.x [o2]).fx o2 (by simp))
 subst he
 obtain ⟨css2,s2,rr2⟩ := id hy
 rw [<- el.hk] at s2
 have rd2 := s2.reads s.gr.sat
 rw [rr2.length] at rd2
 refine Ops.cons (OpW.valD (v := .slice a q.length q.length) (w' := w) ?_ ?_)
 · simp only [execOp,resolve,invoke,builtin,Sem.run_bind,Sem.run_pure,Result.andThen,List.map_toArray,List.map_cons,List.map_nil,hxa,run_appendE (P := P) (ty := ty) (len := q.length) (base0 := a) ts.h el.hi rd2]
 · refine f.p h3 _ _ _ ⟨s.gr,⟨?_,s.lo.upd (nIn_of h1)⟩,s.en.upd (nIn_of (h2 rfl)),s.ow⟩
   rw [upd_at, <- hxa]; exact hx⟩
theorem gFzG {env' loc' : EL} {B1 B2 : List Res} (v : Value) [pa : PA B v α r e q B1] [sl : SbE v (lv r q) loc loc'] [se : SbE v (lv r q) env env'] [sb : SbB v (lv r q) B1 B2] [d1 : SameDom loc loc'] [d2 : SameDom env env'] (g : GO P n X ms loc' env' B2 ol rest k) : GO P n X ms loc env B ol rest k := ⟨fun ok ρ h w s => by
 obtain ⟨h',s'⟩ := s.fz (v := v) (r := r) (q := q) (pa := pa) (sl := sl) (se := se) (sb := sb)
 exact g.p (by rw [d1.h,d2.h]; exact ok) ρ h' w s'⟩
end
end Go.E3
set_option maxHeartbeats 8000000
namespace Go.E3
open Go Go.Ear Go.Proofs
def rowsM (m : Md) : List (List Fr) := [m.start,m.fin] ++ (m.move ++ m.say)
def slimB (m : Md) : Bool := decide ((rowsM m).length <= 10) && (rowsM m).all fun r => decide (r.length <= 4) && r.all fun f => !bigW f
section
variable {m : Md} {l : Lg} {S T : SV}
instance rVr_rd {a : List Int} {f : Fr} : Rd rVr (.ag [lv rI a,bv f.neg,lv rU f.n,lv rU f.d]) ⟨a,f⟩ := ⟨fun u => by
 obtain ⟨vs,e,u⟩ := u
 subst e; exact u⟩
instance task_c [ft : FtM m] : Ct Tryz.prog 12 [mv m,lgV l] True (tkV m (frK 1) l) := by
 refine (ctI Tryz.call12 Tryz.func12 Tryz.ntmps12 rfl Tryz.results12 rfl [4] fun h0 w0 _ => ?_)
 repeat first | refine gDs 10 9 (by rfl) (by kernel_rfl) ?_ | refine nx ?_ | intro _
 repeat' (first | trivial | refine And.intro ?_ ?_)
theorem known07_c : Ct Tryz.prog 8 [] True (bv true) := by
 have e0 : leftE 2 2 = 0 := by decide
 have eR : leftR 2 2 = leftMd 2 2 := by unfold leftR; rw [if_pos e0]; rfl
 have hck : checkE [leftMd 2 2] [[0,1,0]] = 0 := by decide +kernel
 have hsm : smallB (leftMd 2 2) 3 = true := by decide +kernel
 haveI ftl : FtM (leftMd 2 2) := by unfold leftMd; infer_instance
 have g : Good (leftMd 2 2) 3 := Good.of ftl hsm hck
 have hlk : likM (leftMd 2 2) [0,1,0] = 1 / 32 := by decide +kernel
 have hside : ([0,1,0] : List Int).length <= 1099511627776 /\ MdB 10000000 (leftMd 2 2) /\ (checkE [leftMd 2 2] [[0,1,0]] = 0 -> MdB 100000 (leftMd 2 2) /\ FwB ⟨leftMd 2 2,[0,1,0]⟩) := ⟨by decide,g.mB,fun _ => ⟨g.mB,g.fw 2 (by decide) (by decide) (by decide)⟩⟩
 have hb1 : bq (likM (leftMd 2 2) [0,1,0]) <= 1000 := by rw [hlk]; decide +kernel
 have hb2 : bq (((1 : Int) : Rat) / ((32 : Int) : Rat)) <= 1000 := by decide +kernel
 have hsame : sameF (frK (likM (leftMd 2 2) [0,1,0])) (frK (((1 : Int) : Rat) / ((32 : Int) : Rat))) = true := by rw [hlk]; decide +kernel
 refine (ctI Tryz.call8 Tryz.func8 Tryz.ntmps8 rfl Tryz.results8 rfl [1,3] fun h0 w0 _ => ?_)
 iterate 9 (first | refine nx ?_ | intro _)
 rw [e0,eR]
 generalize leftMd 2 2 = M at *
 repeat first | refine gDs 12 11 (by rfl) (by kernel_rfl) ?_ | refine nx ?_ | intro _
 rw [hck,hsame]; rfl
instance known07_i : Ct Tryz.prog 8 [] True (bv true) := known07_c
end
end Go.E3
