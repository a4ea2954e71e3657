/- K26: a part of the proof about training through the decoder: how the program's functions run, and what they compute, for every input. -/
import Derived.Test.YtdciabokggfpbaaGreatK25
set_option linter.all false
set_option maxRecDepth 20000
set_option maxHeartbeats 40000000
set_option synthInstance.maxSize 1000
namespace Go.E3
open Go Go.Ear Go.Proofs
theorem lk_def (t : Tr) : likT t (fwdAll t) = lk t := rfl
theorem pM_def (t : Tr) (i k j : Nat) : wM t i k j / lk t = pM t i k j := rfl
theorem sayRow_def (t : Tr) (i k : Nat) : (sayRow t i k).set (t.o.getD k 0).toNat ((sayRow t i k).getD (t.o.getD k 0).toNat 0 + pY t i k) = sayRow t i (k + 1) := rfl
theorem cntM_def (t : Tr) : (List.range t.m.start.length).map (fun i => (mvRow t i (t.o.length - 1)).map frK) = (cntM t).map (·.map frK) := by unfold cntM; rw [List.map_map]; rfl
theorem cntY_def (t : Tr) : (List.range t.m.start.length).map (fun i => (sayRow t i t.o.length).map frK) = (cntY t).map (·.map frK) := by unfold cntY; rw [List.map_map]; rfl
theorem mvRow_zero (t : Tr) (i : Nat) : mvRow t i 0 = List.replicate t.m.start.length 0 := rfl
theorem sayRow_zero (t : Tr) (i : Nat) : sayRow t i 0 = List.replicate (symb t.m) 0 := rfl
theorem cntS_def (t : Tr) : cntS t = (List.range t.m.start.length).map (pS t) := rfl
theorem cntE_def (t : Tr) : cntE t = (List.range t.m.start.length).map (pE t) := rfl
theorem ge_of {a b : Nat} (h : a = b) : b <= a := Nat.le_of_eq h.symm
attribute [local irreducible] bq bf frK wts fwdAll bwdAll fwd bwd lk likT mvRow sayRow cntS cntE cntM cntY pM pY wM Go.Ear.rowAt upTo List.getD sz
@[reducible] def tlK (c : Go.Ear.Ct) (q : Rat) : SV := .pk [lv rF (c.start.map frK),lv (rL rF) (c.move.map (·.map frK)),lv rF (c.fin.map frK),lv (rL rF) (c.say.map (·.map frK)),iv 0,iv 0,bv (frK q).neg,lv rU (frK q).n,lv rU (frK q).d] 0
instance count_c {m : Md} {o : List Int} [ft : FtM m] : Ct Tryz.prog 73 [trK m o] (TOk ⟨m,o⟩ /\ MdB 100000 m /\ FwB ⟨m,o⟩ /\ BwB ⟨m,o⟩ /\ CnB ⟨m,o⟩ /\ symb m <= 1048576) (.tp [bif decide (lk ⟨m,o⟩ = 0) then .cv (.pointer none) else tlK (cntT ⟨m,o⟩) (lk ⟨m,o⟩),bv (!decide (lk ⟨m,o⟩ = 0))]) := by
 refine (ctI Tryz.call73 Tryz.func73 Tryz.ntmps73 rfl Tryz.results73 rfl [] fun h0 w0 ⟨tk,hb,hf,hbw,hcn,hsy⟩ => ?_)
 have hs1 := tk.s1
 have hs40 := tk.s40
 have hn := tk.n
 have hmv := tk.mv
 have hfn := tk.fin
 have hsl := tk.say
 dsimp only at hs1 hs40 hn hmv hfn hsl
 have gmv := ge_of hmv
 have gfn := ge_of hfn
 have gsl := ge_of hsl
 have tw : TW ⟨m,o⟩ := twOf hb
 have hfL := fwdAll_len ⟨m,o⟩
 have hbL := bwdAll_len ⟨m,o⟩
 dsimp only at hfL hbL
 have hsl0 : 0 < m.say.length := by omega
 have a1 : (fwdAll ⟨m,o⟩).length <= 1048576 := by omega
 have a2 : m.start.length <= 1048576 := by omega
 have a4 := lik_len ⟨m,o⟩
 have a5 : ∃ b,(∀ i,i < m.start.length -> bq (((fwdAll ⟨m,o⟩).getD ((fwdAll ⟨m,o⟩).length - 1) []).getD i 0) + bf (m.fin.getD i fr0) <= b) /\ m.start.length * (b + 1) <= 60000000 := ⟨400001,fun i _ => lik_bd hf hb i,by omega⟩
 have hlq : bq (likT ⟨m,o⟩ (fwdAll ⟨m,o⟩)) <= 60000000 := by rw [lk_def]; exact hcn.l
 repeat first | refine nx ?_ | intro _
 rename_i s v6 ν
 obtain ⟨c,a,mm,e,y,vm,vy⟩ := s
 dsimp only
 refine gIf (fun c0 => ?_) fun c0 => ?_
 · have hz : lk ⟨m,o⟩ = 0 := by rw [<- lk_def]; exact sgQ_zero.1 c0
   simp only [decide_eq_true hz,cond_true,Bool.not_true]
   repeat first | refine nx ?_ | intro _
   (repeat' (first | refine And.intro ?_ ?_ | trivial | rfl | omega))
 have hnz : lk ⟨m,o⟩ ≠ 0 := fun e => c0 (by rw [lk_def]; exact sgQ_zero.2 e)
 simp only [decide_eq_false hnz,cond_false,Bool.not_false]
 have hn0 := lk_pos hnz
 dsimp only at hn0
 repeat first | refine nx ?_ | intro _
 rw [lk_def]
 refine gZl vm fun hvm => ?_
 refine gZl vy fun hvy => ?_
 rw [List.length_replicate] at hvm hvy
 have fa := hf.all
 have ba := hbw.all
 have hKF := fun k => len_KR (fwdAll ⟨m,o⟩) k
 have hKB := fun k => len_KR (bwdAll ⟨m,o⟩) k
 have hMF : ((fwdAll ⟨m,o⟩).map (·.map frK)).length = o.length := by rw [List.length_map,hfL]
 have hMB : ((bwdAll ⟨m,o⟩).map (·.map frK)).length = o.length := by rw [List.length_map,hbL]
 have hrF : ∀ k,k < o.length -> (((fwdAll ⟨m,o⟩).map (·.map frK)).getD k []).length = m.start.length := fun k hk => by rw [hKF,fwdRow_len (t := ⟨m,o⟩) hk]
 have hrB : ∀ k,k < o.length -> (((bwdAll ⟨m,o⟩).map (·.map frK)).getD k []).length = m.start.length := fun k hk => by rw [hKB,bwdRow_len (t := ⟨m,o⟩) hk]
 have hSl : True -> (cntS ⟨m,o⟩).length = m.start.length := fun _ => cntS_len ⟨m,o⟩
 have hEl : True -> (cntE ⟨m,o⟩).length = m.start.length := fun _ => cntE_len ⟨m,o⟩
 replace hvm := ge_of hvm
 replace hvy := ge_of hvy
 replace hMF := ge_of hMF
 replace hMB := ge_of hMB
 clear a1 a4 a5 hlq hmv hfn hsl hfL hbL
 refine gKp [47,46,8,7,6,5,4,2,3,0] ?_
 refine gLp (fun s : Nat × List (List Fr) × List (List Fr) => [(47,iv s.1)]) (fun s => [rA rF 32 a (Go.Ear.rowAt ((cntS ⟨m,o⟩).map frK) fr0 m.start.length s.1),rA rF 32 e (Go.Ear.rowAt ((cntE ⟨m,o⟩).map frK) fr0 m.start.length s.1),rZ rF 32 vm s.2.1,rZ rF 32 vy s.2.2]) (fun s => s.1 <= m.start.length /\ RW m.start.length s.1 (fun j => (mvRow ⟨m,o⟩ j (o.length - 1)).map frK) (List.replicate m.start.length fr0) s.2.1 /\ RW m.start.length s.1 (fun j => (sayRow ⟨m,o⟩ j o.length).map frK) (List.replicate (symb m) fr0) s.2.2 /\ FtR s.2.1 /\ FtR s.2.2) (fun s => m.start.length - s.1) (0,List.replicate m.start.length (List.replicate m.start.length fr0),List.replicate m.start.length (List.replicate (symb m) fr0)) ⟨Nat.zero_le _,.start,.start,⟨fun f hf => by rw [(List.mem_replicate.1 hf).2]; infer_instance⟩,⟨fun f hf => by rw [(List.mem_replicate.1 hf).2]; infer_instance⟩⟩ (fun ⟨i,lm,ly⟩ ⟨hi,hm,hy,fm,fy⟩ => ?_) (h2 := by dsimp only; rw [Go.Ear.rowAt_zero,Go.Ear.rowAt_zero]; (repeat' (first | refine And.intro ?_ ?_ | trivial | rfl | omega)))
 dsimp only at hi hm hy fm fy ⊢
 repeat first | refine nx ?_ | intro _
 refine gIf (fun ci => ?_) fun ci => ?_
 · have l1 := ge_of (hrF 0 hn0)
   have l2 := ge_of (hrB 0 hn0)
   have l3 := ge_of (hrF (o.length - 1) (by omega))
   have s1 : bq (((fwdAll ⟨m,o⟩).getD 0 []).getD i 0) + bq (((bwdAll ⟨m,o⟩).getD 0 []).getD i 0) <= 134217000 := by have := fa 0 i; have := ba 0 i; omega
   have s2 : bq (((fwdAll ⟨m,o⟩).getD 0 []).getD i 0 * ((bwdAll ⟨m,o⟩).getD 0 []).getD i 0) + bq (lk ⟨m,o⟩) <= 134217000 := by have := bq_mul (((fwdAll ⟨m,o⟩).getD 0 []).getD i 0) (((bwdAll ⟨m,o⟩).getD 0 []).getD i 0); have := fa 0 i; have := ba 0 i; have := hcn.l; omega
   have s3 : bq (((fwdAll ⟨m,o⟩).getD (o.length - 1) []).getD i 0) + bf (m.fin.getD i fr0) <= 134217000 := by have := fa (o.length - 1) i; have := hb.fb i; omega
   have s4 : bq (((fwdAll ⟨m,o⟩).getD (o.length - 1) []).getD i 0 * (m.fin.getD i fr0).rat) + bq (lk ⟨m,o⟩) <= 134217000 := by have := bq_mul (((fwdAll ⟨m,o⟩).getD (o.length - 1) []).getD i 0) (m.fin.getD i fr0).rat; have := FtS.bqg (l := m.fin) inferInstance i; have := fa (o.length - 1) i; have := hb.fb i; have := hcn.l; omega
   have l4 : m.start.length <= (Go.Ear.rowAt ((cntS ⟨m,o⟩).map frK) fr0 m.start.length i).length := ge_of (Go.Ear.rowAt_len (by rw [List.length_map,hSl trivial]) hi)
   have l5 : m.start.length <= (Go.Ear.rowAt ((cntE ⟨m,o⟩).map frK) fr0 m.start.length i).length := ge_of (Go.Ear.rowAt_len (by rw [List.length_map,hEl trivial]) hi)
   have e1 : (Go.Ear.rowAt ((cntS ⟨m,o⟩).map frK) fr0 m.start.length i).set i (frK (((fwdAll ⟨m,o⟩).getD 0 []).getD i 0 * ((bwdAll ⟨m,o⟩).getD 0 []).getD i 0 / lk ⟨m,o⟩)) = Go.Ear.rowAt ((cntS ⟨m,o⟩).map frK) fr0 m.start.length (i + 1) := Go.Ear.rowAt_set (by rw [List.length_map,hSl trivial]) ci (by rw [getD_K,pS_eq (t := ⟨m,o⟩) hn0]; rw [cntS_def]; exact congrArg frK (range_getD (pS ⟨m,o⟩) _ ci).symm)
   have e2 : (Go.Ear.rowAt ((cntE ⟨m,o⟩).map frK) fr0 m.start.length i).set i (frK (((fwdAll ⟨m,o⟩).getD (o.length - 1) []).getD i 0 * (m.fin.getD i fr0).rat / lk ⟨m,o⟩)) = Go.Ear.rowAt ((cntE ⟨m,o⟩).map frK) fr0 m.start.length (i + 1) := Go.Ear.rowAt_set (by rw [List.length_map,hEl trivial]) ci (by rw [getD_K,pE_eq (t := ⟨m,o⟩) hn0]; rw [cntE_def]; exact congrArg frK (range_getD (pE ⟨m,o⟩) _ ci).symm)
   have hml := ge_of hm.l
   have hyl := ge_of hy.l
   repeat first | refine nx ?_ | intro _
   rw [e1,e2]
   refine gKp [103,102,101,9,47,46,8,7,6,5,4,2,3,0] ?_
   refine gLp (fun k : Nat => [(103,iv k)]) (fun k => [rZ rF 32 vm (lm.set i ((mvRow ⟨m,o⟩ i (min k (o.length - 1))).map frK)),rZ rF 32 vy (ly.set i ((sayRow ⟨m,o⟩ i k).map frK))]) (fun k => k <= o.length) (fun k => o.length - k) 0 (Nat.zero_le _) (fun k hk => ?_) (h2 := by
    rw [Nat.zero_min,show (mvRow ⟨m,o⟩ i 0).map frK = lm.getD i [] by rw [hm.z i (Nat.le_refl _) ci]; rw [mvRow_zero]; simp [frK_zero],show (sayRow ⟨m,o⟩ i 0).map frK = ly.getD i [] by rw [hy.z i (Nat.le_refl _) ci]; rw [sayRow_zero]; simp [frK_zero],set_getD,set_getD]; (repeat' (first | refine And.intro ?_ ?_ | trivial | rfl | omega)))
   haveI := fm.set (x := (mvRow ⟨m,o⟩ i (min k (o.length - 1))).map frK) inferInstance i
   haveI := fy.set (x := (sayRow ⟨m,o⟩ i k).map frK) inferInstance i
   have r1 : (ly.set i ((sayRow ⟨m,o⟩ i k).map frK)).getD i [] = (sayRow ⟨m,o⟩ i k).map frK := by rw [getD_set _ _ _ (by omega),if_pos rfl]
   have r2 : ((ly.set i ((sayRow ⟨m,o⟩ i k).map frK)).getD i []).length = symb m := by rw [r1,List.length_map]; exact sayRow_len ⟨m,o⟩ i k
   repeat first | refine nx ?_ | intro _
   refine gIf (fun ck => ?_) fun ck => ?_
   · have l6 := ge_of (hrF k ck)
     have l7 := ge_of (hrB k ck)
     have hso := tk.sy0 (k := k) ck
     dsimp only at hso
     have s5 : bq (((fwdAll ⟨m,o⟩).getD k []).getD i 0) + bq (((bwdAll ⟨m,o⟩).getD k []).getD i 0) <= 134217000 := by have := fa k i; have := ba k i; omega
     have s6 : bq (((fwdAll ⟨m,o⟩).getD k []).getD i 0 * ((bwdAll ⟨m,o⟩).getD k []).getD i 0) + bq (lk ⟨m,o⟩) <= 134217000 := by have := bq_mul (((fwdAll ⟨m,o⟩).getD k []).getD i 0) (((bwdAll ⟨m,o⟩).getD k []).getD i 0); have := fa k i; have := ba k i; have := hcn.l; omega
     have s7 : bf (((ly.set i ((sayRow ⟨m,o⟩ i k).map frK)).getD i []).getD (o.getD k 0).toNat fr0) + bq (((fwdAll ⟨m,o⟩).getD k []).getD i 0 * ((bwdAll ⟨m,o⟩).getD k []).getD i 0 / lk ⟨m,o⟩) <= 134217000 := by
      have h1 := hcn.pY i k ck
      rw [<- pY_eq (t := ⟨m,o⟩) ck] at h1
      have h2 := hcn.y i k (o.getD k 0).toNat (Nat.le_of_lt ck)
      rw [r1,getD_K,bf_frK]
      exact Nat.le_trans (Nat.add_le_add h2 h1) (by decide)
     have l8 : k + 1 < o.length -> (((bwdAll ⟨m,o⟩).map (·.map frK)).getD (k + 1) []).length = m.start.length := fun h => hrB (k + 1) h
     have b8 := fun j => ba (k + 1) j
     have fk := fun (_ : Unit) => fa k i
     have hwm := fun j => hb.mvb i j
     have hws := fun j => hb.syb j (o.getD (k + 1) 0).toNat
     clear e1 e2 hm hy hKF hKB hrF hrB fa ba l1 l2 l3 l4 l5 s1 s2 s3 s4 hSl hEl c0
     repeat first | refine nx ?_ | intro _
     have ey : (ly.set i ((sayRow ⟨m,o⟩ i k).map frK)).set i (((ly.set i ((sayRow ⟨m,o⟩ i k).map frK)).getD i []).set (o.getD k 0).toNat (frK ((((ly.set i ((sayRow ⟨m,o⟩ i k).map frK)).getD i []).getD (o.getD k 0).toNat fr0).rat + ((fwdAll ⟨m,o⟩).getD k []).getD i 0 * ((bwdAll ⟨m,o⟩).getD k []).getD i 0 / lk ⟨m,o⟩))) = ly.set i ((sayRow ⟨m,o⟩ i (k + 1)).map frK) := by
      rw [r1,getD_K,frK_rat,pY_eq (t := ⟨m,o⟩) ck,List.set_set, <- List.map_set,sayRow_def ⟨m,o⟩ i k]
     rw [ey]
     refine gIf (fun c2 => ?_) fun c2 => ?_
     · have em : min k (o.length - 1) = min (k + 1) (o.length - 1) := by omega
       repeat first | refine nx ?_ | intro _
       rw [em]
       exact gBk (k + 1) (by omega) (by omega)
     have hk1 : k + 1 < o.length := by omega
     have hsi := fun j (hj : j < m.start.length) => tk.sayi j (k + 1) hj hk1
     have l9 := ge_of (l8 hk1)
     have hmi := tk.mvi i ci
     dsimp only at hsi hmi
     have hwb := fun j => wM_bd (t := ⟨m,o⟩) tw hf hbw i j hk1
     have hpm := fun j => hcn.pM i k j ck
     have hcm := fun j => hcn.m i k j (Nat.le_of_lt ck)
     rw [show min k (o.length - 1) = k by omega]
     clear ey r1 r2 s5 s6 s7
     repeat first | refine nx ?_ | intro _
     refine gKp [157,156,10,103,102,101,9,47,46,8,7,6,5,4,2,3,0] ?_
     have hul : ∀ j,(upTo (mvRow ⟨m,o⟩ i (k + 1)) (mvRow ⟨m,o⟩ i k) j).length = m.start.length := fun j => by rw [upTo_len (by rw [mvRow_len,mvRow_len]),mvRow_len]
     refine gLp (fun j : Nat => [(157,iv j)]) (fun j => [rZ rF 32 vm (lm.set i ((upTo (mvRow ⟨m,o⟩ i (k + 1)) (mvRow ⟨m,o⟩ i k) j).map frK))]) (fun j => j <= m.start.length) (fun j => m.start.length - j) 0 (Nat.zero_le _) (fun j hj => ?_) (h2 := by rw [upTo_zero]; (repeat' (first | refine And.intro ?_ ?_ | trivial | rfl | omega)))
     haveI := fm.set (x := (upTo (mvRow ⟨m,o⟩ i (k + 1)) (mvRow ⟨m,o⟩ i k) j).map frK) inferInstance i
     have u1 : (lm.set i ((upTo (mvRow ⟨m,o⟩ i (k + 1)) (mvRow ⟨m,o⟩ i k) j).map frK)).getD i [] = (upTo (mvRow ⟨m,o⟩ i (k + 1)) (mvRow ⟨m,o⟩ i k) j).map frK := by rw [getD_set _ _ _ (by omega),if_pos rfl]
     have u2 : ((lm.set i ((upTo (mvRow ⟨m,o⟩ i (k + 1)) (mvRow ⟨m,o⟩ i k) j).map frK)).getD i []).length = m.start.length := by rw [u1,List.length_map,hul]
     repeat first | refine nx ?_ | intro _
     refine gIf (fun cj => ?_) fun cj => ?_
     · have d4 := hsi j cj
       have hpw : prodF [(((fwdAll ⟨m,o⟩).map (·.map frK)).getD k []).getD i fr0,(m.move.getD i []).getD j fr0,(m.say.getD j []).getD (o.getD (k + 1) 0).toNat fr0,(((bwdAll ⟨m,o⟩).map (·.map frK)).getD (k + 1) []).getD j fr0] = wM ⟨m,o⟩ i k j := by rw [getD_KR,getD_K,getD_KR,getD_K]; exact wM_eq (t := ⟨m,o⟩) hk1
       have d7 : wts [(((fwdAll ⟨m,o⟩).map (·.map frK)).getD k []).getD i fr0,(m.move.getD i []).getD j fr0,(m.say.getD j []).getD (o.getD (k + 1) 0).toNat fr0,(((bwdAll ⟨m,o⟩).map (·.map frK)).getD (k + 1) []).getD j fr0] <= 134217724 := by rw [wts_cons,wts_cons,wts_cons,wts_cons,wts_nil,getD_KR,getD_K,getD_KR,getD_K,bf_frK,bf_frK]; have := hwm j; have := hws j; have := b8 j; have := fk (); omega
       have d8 : bq (prodF [(((fwdAll ⟨m,o⟩).map (·.map frK)).getD k []).getD i fr0,(m.move.getD i []).getD j fr0,(m.say.getD j []).getD (o.getD (k + 1) 0).toNat fr0,(((bwdAll ⟨m,o⟩).map (·.map frK)).getD (k + 1) []).getD j fr0]) + bq (lk ⟨m,o⟩) <= 134217000 := by rw [hpw]; exact Nat.le_trans (Nat.add_le_add (hwb j) hcn.l) (by decide)
       have d9 : bf (((lm.set i ((upTo (mvRow ⟨m,o⟩ i (k + 1)) (mvRow ⟨m,o⟩ i k) j).map frK)).getD i []).getD j fr0) + bq (prodF [(((fwdAll ⟨m,o⟩).map (·.map frK)).getD k []).getD i fr0,(m.move.getD i []).getD j fr0,(m.say.getD j []).getD (o.getD (k + 1) 0).toNat fr0,(((bwdAll ⟨m,o⟩).map (·.map frK)).getD (k + 1) []).getD j fr0] / lk ⟨m,o⟩) <= 134217000 := by
        rw [hpw,pM_def,u1,getD_K,bf_frK,upTo_get (by rw [mvRow_len,mvRow_len]) (by rw [mvRow_len]; exact cj)]; exact Nat.le_trans (Nat.add_le_add (hcm j) (hpm j)) (by decide)
       clear hwm hws b8 hsi hwb hpm hcm hul
       repeat first | refine nx ?_ | intro _
       have em : (lm.set i ((upTo (mvRow ⟨m,o⟩ i (k + 1)) (mvRow ⟨m,o⟩ i k) j).map frK)).set i (((lm.set i ((upTo (mvRow ⟨m,o⟩ i (k + 1)) (mvRow ⟨m,o⟩ i k) j).map frK)).getD i []).set j (frK ((((lm.set i ((upTo (mvRow ⟨m,o⟩ i (k + 1)) (mvRow ⟨m,o⟩ i k) j).map frK)).getD i []).getD j fr0).rat + prodF [(((fwdAll ⟨m,o⟩).map (·.map frK)).getD k []).getD i fr0,(m.move.getD i []).getD j fr0,(m.say.getD j []).getD (o.getD (k + 1) 0).toNat fr0,(((bwdAll ⟨m,o⟩).map (·.map frK)).getD (k + 1) []).getD j fr0] / lk ⟨m,o⟩))) = lm.set i ((upTo (mvRow ⟨m,o⟩ i (k + 1)) (mvRow ⟨m,o⟩ i k) (j + 1)).map frK) := by
        rw [u1,getD_K,frK_rat,hpw,List.set_set, <- List.map_set,upTo_get (by rw [mvRow_len,mvRow_len]) (by rw [mvRow_len]; exact cj),pM_def,mvRow_at (t := ⟨m,o⟩) cj,upTo_set (d := 0) (by rw [mvRow_len,mvRow_len]) (by rw [mvRow_len]; exact cj) rfl]
       rw [em]
       exact gBk (j + 1) (by omega) (by omega)
     · repeat first | refine nx ?_ | intro _
       rw [upTo_end (by rw [mvRow_len,mvRow_len]) (by rw [mvRow_len]; exact Nat.le_of_not_lt cj)]
       exact gBk (k + 1) (by omega) (by omega) (h2 := by rw [show min (k + 1) (o.length - 1) = k + 1 by omega]; (repeat' (first | refine And.intro ?_ ?_ | trivial | rfl | omega)))
   · repeat first | refine nx ?_ | intro _
     have ek : k = o.length := by omega
     rw [show min k (o.length - 1) = o.length - 1 by omega,ek]
     exact gBk (i + 1,lm.set i ((mvRow ⟨m,o⟩ i (o.length - 1)).map frK),ly.set i ((sayRow ⟨m,o⟩ i o.length).map frK)) ⟨by dsimp only; omega,hm.next ci rfl,hy.next ci rfl,fm.set inferInstance i,fy.set inferInstance i⟩ (by dsimp only; omega)
 · rw [Go.Ear.rowAt_end (by rw [List.length_map,hSl trivial]) (by omega),Go.Ear.rowAt_end (by rw [List.length_map,hEl trivial]) (by omega),hm.all (by omega),hy.all (by omega)]
   refine gFz a ?_
   refine gFz e ?_
   refine gFzM mm ?_
   refine gFzM y ?_
   repeat first | refine nx ?_ | intro _
   refine ⟨⟨rfl, ?_,rfl, ?_,trivial,trivial,trivial,trivial,trivial⟩,trivial⟩
   · show _ = List.map _ (cntM _); exact cntM_def ⟨m,o⟩
   · exact cntY_def ⟨m,o⟩
set_option maxHeartbeats 4000000
theorem addF_K (x y : List Rat) : addF (x.map frK) (y.map frK) = (addR x y).map frK := by
 unfold addF addR
 rw [List.length_map,List.map_map]
 refine List.map_congr_left fun i _ => ?_
 rw [getD_K,getD_K,frK_rat,frK_rat]; rfl
theorem addG_K (x y : List (List Rat)) : addG (x.map (·.map frK)) (y.map (·.map frK)) = (addM x y).map (·.map frK) := by
 unfold addG addM
 rw [List.length_map,List.map_map]
 refine List.map_congr_left fun i _ => ?_
 rw [getD_KR,getD_KR,addF_K]; rfl
theorem rep_K (n : Nat) : List.replicate n fr0 = (List.replicate n (0 : Rat)).map frK := by rw [List.map_replicate,frK_zero]
theorem rep_KR (n k : Nat) : List.replicate n (List.replicate k fr0) = (List.replicate n (List.replicate k (0 : Rat))).map (·.map frK) := by rw [List.map_replicate,rep_K]
theorem allT_rows (m : Md) (data : List (List Int)) : ∀ k i,i < m.start.length -> ((allT m data k).move.getD i []).length = m.start.length /\ ((allT m data k).say.getD i []).length = symb m
 | 0,i,hi => by
   rw [allT,ctZ]
   dsimp only
   rw [List.getD_eq_getElem?_getD,List.getElem?_replicate,if_pos hi,List.getD_eq_getElem?_getD,List.getElem?_replicate,if_pos hi]; simp
 | k + 1,i,hi => by
   have ih := allT_rows m data k i hi
   have hl := allT_len m data k
   by_cases h : lk (Go.Ear.trK m data k) = 0
   · rw [allT_t h]; exact ih
   · rw [allT_f h]; dsimp only
     rw [<- addM_at (by omega), <- addM_at (by omega),addR_len,addR_len]; exact ih
theorem okP_K {a b : List Rat} (h : b.length = a.length /\ a.length <= 1048576) (hb : ∀ i,bq (a.getD i 0) + bq (b.getD i 0) <= 134217000) : okP (a.map frK) (b.map frK) :=
 ⟨by rw [List.length_map,List.length_map]; exact h.1,by rw [List.length_map]; exact h.2,fun i _ => by rw [getD_K,getD_K,bf_frK,bf_frK]; exact hb i⟩
theorem okM_K {a b : List (List Rat)} (h : b.length = a.length /\ a.length <= 1048576) (hr : ∀ i,i < a.length -> (b.getD i []).length = (a.getD i []).length /\ (a.getD i []).length <= 1048576) (hb : ∀ i j,bq ((a.getD i []).getD j 0) + bq ((b.getD i []).getD j 0) <= 134217000) : okM (a.map (·.map frK)) (b.map (·.map frK)) :=
 ⟨by rw [List.length_map,List.length_map]; exact h.1,by rw [List.length_map]; exact h.2,fun i hi => by
  rw [List.length_map] at hi
  rw [len_KR,len_KR]
  exact ⟨(hr i hi).1,(hr i hi).2,fun j _ => by rw [getD_KR,getD_KR,getD_K,getD_K,bf_frK,bf_frK]; exact hb i j⟩⟩
@[reducible] def alK (c : Go.Ear.Ct) : SV := .pk [lv rF (c.start.map frK),lv (rL rF) (c.move.map (·.map frK)),lv rF (c.fin.map frK),lv (rL rF) (c.say.map (·.map frK)),iv c.used,iv c.unused,bv false,lv rU [],lv rU []] 0
section
variable {m : Md} {data : List (List Int)} {S T : SV}
instance counted_c [i : VM S m] [j : Vw (lv (rL rI)) T data] : Ct Tryz.prog 29 [S,T] (DOk m data) (alK (cntD m data)) := by
 haveI := i.t
 refine ct2 i.v j (ctI Tryz.call29 Tryz.func29 Tryz.ntmps29 rfl Tryz.results29 rfl [] fun h0 w0 dk => ?_)
 have hn := dk.n
 have hs := dk.s
 have hy := dk.y
 have hmb := dk.mb
 repeat first | refine nx ?_ | intro _
 rename_i s
 obtain ⟨c,a,mm,e,y,vm,vy⟩ := s
 dsimp only [tlR]
 refine gLp (fun k : Nat => [(14,iv k)]) (fun k => [rV c [ov a,ov mm,ov e,ov y,iv (allT m data k).used,iv (allT m data k).unused,bv fr0.neg,lv rU fr0.n,lv rU fr0.d] 69,rA rF 32 a ((allT m data k).start.map frK),rA rW 22 mm vm,rZ rF 32 vm ((allT m data k).move.map (·.map frK)),rA rF 32 e ((allT m data k).fin.map frK),rA rW 22 y vy,rZ rF 32 vy ((allT m data k).say.map (·.map frK))]) (fun k => k <= data.length /\ 0 <= (allT m data k).used /\ (allT m data k).used <= k /\ 0 <= (allT m data k).unused /\ (allT m data k).unused <= k) (fun k => data.length - k) 0 ⟨Nat.zero_le _,Int.le_refl _,Int.le_refl _,Int.le_refl _,Int.le_refl _⟩ (fun k ⟨hk,hu1,hu2,hu3,hu4⟩ => ?_) (h2 := by
  rw [rep_KR,rep_KR,rep_K]; exact ⟨⟨trivial,trivial,trivial,trivial,rfl,rfl,trivial,trivial,trivial⟩,rfl,trivial,rfl,rfl,trivial,rfl,trivial⟩)
 repeat first | refine nx ?_ | intro _
 refine gIf (fun ck => ?_) fun ck => ?_
 · have tk := dk.tok k ck
   have hfw := dk.fw k ck
   have hbw := dk.bw k ck
   have hcn := dk.cn k ck
   unfold Go.Ear.trK at tk hfw hbw hcn
   repeat first | refine nx ?_ | intro _
   refine gIf (fun c0 => ?_) fun c0 => ?_
   · have hz : lk (Go.Ear.trK m data k) = 0 := Classical.not_not.1 c0
     repeat first | refine nx ?_ | intro _
     refine gBk (k + 1) ?_ (by omega) (h2 := ?_)
     · rw [allT_t hz]; dsimp only; omega
     · rw [allT_t hz]; (repeat' (first | refine And.intro ?_ ?_ | trivial | rfl | omega))
   · have hz0 : ¬ lk (Go.Ear.trK m data k) = 0 := fun e => c0 fun h => h e
     have hz := hz0
     unfold Go.Ear.trK at hz
     simp only [decide_eq_false hz,cond_false]
     have h1 : okP ((allT m data k).start.map frK) ((cntT ⟨m,data.getD k []⟩).start.map frK) := okP_K (by have := (allT_len m data k).1; have : (cntT ⟨m,data.getD k []⟩).start.length = m.start.length := cntS_len _; exact ⟨by omega,by omega⟩) fun i => dk.a1 k i ck
     have h2 : okP ((allT m data k).fin.map frK) ((cntT ⟨m,data.getD k []⟩).fin.map frK) := okP_K (by have := (allT_len m data k).2.1; have : (cntT ⟨m,data.getD k []⟩).fin.length = m.start.length := cntE_len _; exact ⟨by omega,by omega⟩) fun i => dk.a2 k i ck
     have h3 : okM ((allT m data k).move.map (·.map frK)) ((cntT ⟨m,data.getD k []⟩).move.map (·.map frK)) := okM_K (by have := (allT_len m data k).2.2.1; have : (cntT ⟨m,data.getD k []⟩).move.length = m.start.length := cntM_len _; exact ⟨by omega,by omega⟩) (fun i hi => by rw [(allT_len m data k).2.2.1] at hi; exact ⟨(cntM_row (t := ⟨m,data.getD k []⟩) hi).trans (allT_rows m data k i hi).1.symm,by rw [(allT_rows m data k i hi).1]; exact hs⟩) fun i j => dk.a3 k i j ck
     have h4 : okM ((allT m data k).say.map (·.map frK)) ((cntT ⟨m,data.getD k []⟩).say.map (·.map frK)) := okM_K (by have := (allT_len m data k).2.2.2.1; have : (cntT ⟨m,data.getD k []⟩).say.length = m.start.length := cntY_len _; exact ⟨by omega,by omega⟩) (fun i hi => by rw [(allT_len m data k).2.2.2.1] at hi; exact ⟨(cntY_row (t := ⟨m,data.getD k []⟩) hi).trans (allT_rows m data k i hi).2.symm,by rw [(allT_rows m data k i hi).2]; exact hy.1⟩) fun i j => dk.a4 k i j ck
     repeat first | refine nx ?_ | intro _
     rw [addF_K,addF_K,addG_K,addG_K]
     refine gBk (k + 1) ?_ (by omega) (h2 := ?_)
     · rw [allT_f hz0]; dsimp only; omega
     · rw [allT_f hz0]; (repeat' (first | refine And.intro ?_ ?_ | trivial | rfl | omega))
 · have ek : k = data.length := by omega
   subst ek
   refine gFz a ?_
   refine gFz e ?_
   refine gFzM mm ?_
   refine gFzM y ?_
   repeat first | refine nx ?_ | intro _
   exact ⟨rfl,rfl,rfl,rfl,rfl,rfl,rfl,rfl,rfl⟩
end
end Go.E3
set_option maxHeartbeats 8000000
namespace Go.E3
open Go Go.Ear Go.Proofs
instance mdK_ft {a c : List Rat} {b d : List (List Rat)} : FtM (Go.Ear.mdK a b c d) := inferInstanceAs (FtM ⟨_,_,_,_⟩)
set_option maxHeartbeats 4000000
theorem long_or (m : Md) : (decide (40 < m.start.length) || decide (64 < symb m)) = longM m := by
 by_cases h : 40 < m.start.length
 · rw [long_t h,decide_eq_true h]; rfl
 · rw [long_s h,decide_eq_false h]; rfl
section
variable {m : Md} {o : List Int} {data : List (List Int)} {S T : SV}
instance rSymbols_c [i : Vw mv S m] : Ct Tryz.prog 6 [S] True (iv (symb m)) := by
 refine ct1 i (ctI Tryz.call6 Tryz.func6 Tryz.ntmps6 rfl Tryz.results6 rfl [] fun h0 w0 _ => ?_)
 repeat first | refine nx ?_ | intro _
 refine gIf (fun c => ?_) fun c => ?_ <;> repeat first | refine nx ?_ | intro _
 · have := symb_none c; (repeat' (first | refine And.intro ?_ ?_ | trivial | rfl | omega))
 · (repeat' (first | refine And.intro ?_ ?_ | trivial | rfl | omega))
instance rLong_c [i : Vw mv S m] : Ct Tryz.prog 16 [S] True (bv (longM m)) := by
 refine ct1 i (ctI Tryz.call16 Tryz.func16 Tryz.ntmps16 rfl Tryz.results16 rfl [] fun h0 w0 _ => ?_)
 repeat first | refine nx ?_ | intro _
 exact long_or m
instance rRows_c {l : List (List Fr)} {n k : Nat} [i : Vw (lv (rL rF)) S l] : Ct Tryz.prog 45 [S,iv (n : Int),iv (k : Int)] (l.length <= 1048576) (bv (rowsB l n k)) := by
 refine ct1 i (ctI Tryz.call45 Tryz.func45 Tryz.ntmps45 rfl Tryz.results45 rfl [] fun h0 w0 hl => ?_)
 repeat first | refine nx ?_ | intro _
 refine gIf (fun c => ?_) fun c => ?_ <;> repeat first | refine nx ?_ | intro _
 · exact (rowsB_f1 c).symm
 refine gLp (fun j : Nat => [(7,iv j)]) (fun _ => []) (fun j => j <= n /\ (l.take j).all (rowK k) = true) (fun j => n - j) 0 ⟨Nat.zero_le _,rfl⟩ fun j ⟨hj,ha⟩ => ?_
 repeat first | refine nx ?_ | intro _
 refine gIf (fun c2 => ?_) fun c2 => ?_ <;> repeat first | refine nx ?_ | intro _
 · refine gIf (fun c3 => ?_) fun c3 => ?_ <;> repeat first | refine nx ?_ | intro _
   · exact (rowsB_f2 (by omega) c3).symm
   · exact gBk (j + 1) ⟨by omega,all_take_succ' [] (by omega) ha (by unfold rowK; exact decide_eq_true (Classical.not_not.1 c3))⟩ (by omega)
 · exact (rowsB_t (by omega) (by rw [<- ha,List.take_of_length_le (by omega)])).symm
instance rleave_c {j : Nat} [i : VM S m] : Ct Tryz.prog 46 [S,iv (j : Int)] (j < m.move.length /\ j < m.fin.length /\ wts (m.move.getD j []) <= 100000000) (lv rF (leaveM m j)) := by
 haveI := i.t
 refine ct1 i.v (ctI Tryz.call46 Tryz.func46 Tryz.ntmps46 rfl Tryz.results46 rfl [] fun h0 w0 ⟨h1,h2,h3⟩ => ?_)
 have hb7 := len_wts (m.move.getD j [])
 repeat first | refine gDr 12 (by kernel_rfl) ?_ | refine nx ?_ | intro _
 rfl
instance leaveM_ft {k : Nat} [FtM m] : FtS (leaveM m k) := by unfold leaveM; infer_instance
instance rValid_c [i : VM S m] : Ct Tryz.prog 17 [S] (MdB 10000000 m /\ m.say.length <= 1048576 /\ m.move.length <= 1048576) (bv (validM m)) := by
 haveI := i.t
 refine ct1 i.v (ctI Tryz.call17 Tryz.func17 Tryz.ntmps17 rfl Tryz.results17 rfl [] fun h0 w0 ⟨hb,h1,h2⟩ => ?_)
 have hbs := hb.start
 have hls := len_wts m.start
 repeat first | refine gDr 5 (by kernel_rfl) ?_ | refine nx ?_ | intro _
 refine gIf (fun c => ?_) fun c => ?_ <;> repeat first | refine nx ?_ | intro _
 · rcases c with ((c | c) | c) | c
   · exact (ref_no1 (by omega)).symm
   · exact (ref_no2 c).symm
   · exact (ref_no3 c).symm
   · exact (ref_no4 c).symm
 have c1 : ¬ ((m.start.length < 1 \/ symb m < 1) \/ m.fin.length ≠ m.start.length) := fun e => c (.inl (.inl (.inl e)))
 have k1 : rowsB m.move m.start.length m.start.length = true := Classical.not_not.1 fun e => c (.inl (.inl (.inr e)))
 have k2 : rowsB m.say m.start.length (symb m) = true := Classical.not_not.1 fun e => c (.inl (.inr e))
 have k3 : distF m.start = true := Classical.not_not.1 fun e => c (.inr e)
 have l1 := (rowsB_iff.1 k1).1
 have l2 := (rowsB_iff.1 k2).1
 clear c
 refine gLp (fun k : Nat => [(5,iv k)]) (fun _ => []) (fun k => k <= m.start.length /\ (List.range k).all (dist2 m) = true) (fun k => m.start.length - k) 0 ⟨Nat.zero_le _,rfl⟩ fun k ⟨hk,ha⟩ => ?_
 have hbm := hb.mv k
 have hby := hb.sy k
 have hbl : wts (leaveM m k) <= _ := hb.lv k
 repeat first | refine nx ?_ | intro _
 refine gIf (fun c2 => ?_) fun c2 => ?_ <;> repeat first | refine nx ?_ | intro _
 · refine gIf (fun c3 => ?_) fun c3 => ?_ <;> repeat first | refine nx ?_ | intro _
   · exact (ref_no5 c2 c3).symm
   · exact gBk (k + 1) ⟨by omega,ref_succ ha (Classical.not_not.1 fun e => c3 (.inl e)) (Classical.not_not.1 fun e => c3 (.inr e))⟩ (by omega)
 · exact (ref_ok (by omega) k1 k2 k3 ha (by omega)).symm
instance rCheck_c [i : VM S m] : Ct Tryz.prog 5 [S] (MdB 10000000 m /\ m.say.length <= 1048576 /\ m.move.length <= 1048576) (iv (checkE [m] [])) := by
 haveI := i.t
 refine ct1 i.v (ctI Tryz.call5 Tryz.func5 Tryz.ntmps5 rfl Tryz.results5 rfl [] fun h0 w0 ⟨hb,h1,h2⟩ => ?_)
 repeat first | refine nx ?_ | intro _
 refine gIf (fun c => ?_) fun c => ?_ <;> repeat first | refine nx ?_ | intro _
 · exact (check_long (.inl c)).symm
 refine gIf (fun c2 => ?_) fun c2 => ?_ <;> repeat first | refine nx ?_ | intro _
 · exact (check_bad c (by decide) rfl c2).symm
 · exact (check_good c (by decide) rfl (Classical.not_not.1 c2) rfl).symm
end
section
variable {m : Md} {o : List Int} {data : List (List Int)} {S T : SV}
structure Blk (m : Md) : Prop where
 n : m.start.length + m.fin.length + totL m.move + totL m.say <= 1048576
 r : m.move.length + m.say.length <= 1048576
abbrev I64s (l : List Int) : Prop := ∀ z ∈ l, -9223372036854775808 <= z /\ z <= 9223372036854775807
structure UpK (m : Md) : Prop where
 b : Blk m
 w : MdB 10000000 m
 t : FtM m
end
end Go.E3
namespace Go.E3
open Go Go.Ear
section
variable {P : Program} {n : Nat} {X : Fix} {ms : List Nat} {loc env : EL} {B B1 : List Res} {k : Kt} {ol rest : List Oper} {d m i : Nat} {ty : TypeId} {pos : String} {af : Array Edge} {t e : TypeId} {L : (Nat -> Gh) -> EL} {R : List (Nat × (Gh -> Res))} {Ls : EL} {lt : Nat -> Bool} {sd : Prop}
instance gapp {α : Type} {r : Rp α} {bb : Nat} {d0 : α} {q q' : List α} {v : Value} {o1 o2 : Operand} [ts : TS P t e] [rt : RT P e α r bb d0] [lx : Lu n true Ls env o1 (ov v)] [pa : PA B v α r e q B1] [ly : Lu n true Ls env o2 (lv r q')] : Nx (GE P n X ms Ls env B ol (⟨some d,.call ⟨.builtin .append,[o1,o2].toArray,[t,t].toArray⟩,ty,pos,af,none⟩ :: rest) k lt 1 i L []) (((List.range i).all fun j => reach ol 9 i j || lt j) = true /\ q.length + q'.length <= 9223372036854775807 /\ (q.length + q'.length) * bb <= 140737488355328) (∀ ν v',GO P n X ms ((d,ov v') :: L ν) env (rA r e v' (q ++ q') :: B1) ol rest k) := ⟨fun hs g => ⟨fun ql => .app d ov (fun v' => rA r e v' (q ++ q') :: B1) rfl rfl (fun ν ρ h w s => by
 obtain ⟨z,ti,el,hz⟩ := rt.e
 have s' : Sx X.h0 X.w0 Ls env B [o1,o2] ρ h w := s.sub (fun x hx => by simp [looks,Op.operands,Call.operands] at hx ⊢; exact hx) (ql ν)
 have hx := lx.h rfl (s'.fx o1 (by simp))
 have hy := ly.h rfl (s'.fx o2 (by simp))
 have sy : Sy X.h0 X.w0 [] [] B ρ h w := ⟨s.gr,trivial,trivial,s.ow⟩
 have sb := sy.sb pa.h
 refine OpG.plain (OpW.appendL (lo := 0) ts.h el.hi el.hz el.hc el.hk s.gr.sat (Nat.zero_le _) hx.1 rfl (sb.ow.at 0 rfl).1 hy hs.2.1 (by rw [el.hb]; exact hs.2.2) fun v' w' own ow hbl => ?_)
 have sn := own_app sb own ow hbl
 exact ⟨v',h,⟨rfl,rfl,own_one own⟩,sn.gr,PH.le.refl h,(fun e => by cases e),(fun e => by cases e),sn.ow⟩) (fun j hj => by
 have := List.all_eq_true.1 hs.1 j (List.mem_range.2 hj)
 simpa using this) fun ν v => by simpa [rv] using g ν v⟩⟩
end
end Go.E3
