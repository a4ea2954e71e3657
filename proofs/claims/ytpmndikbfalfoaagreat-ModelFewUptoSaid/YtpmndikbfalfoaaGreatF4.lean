/- F4: a part of the proofs about package model: how the program's functions run, and what they compute, for every input. -/
import Derived.Test.YtpmndikbfalfoaaGreatF3
import Derived.Test.YtpmndikbfalfoaaGreatK11
set_option linter.all false
set_option linter.unusedVariables false
set_option maxRecDepth 20000
set_option maxHeartbeats 40000000
set_option synthInstance.maxSize 1000
namespace Go.E3
open Go Go.Ear Go.Proofs
attribute [local irreducible] bq bf frK wts rfwN bwPN rfw bwP kT likT kMv kSay ktS ktE ktM ktY kM kY kW mskL Go.Ear.rowAt upTo List.getD sz
@[reducible] def trM (m : Md) (o : List Int) (keep : Int) : SV := .pk [lv rF m.start, lv (rL rF) m.move, lv rF m.fin, lv (rL rF) m.say, lv rI o, lv (rL rB) (mskL ⟨m, o⟩ keep)] 0
instance passF_mk {m : Md} {o : List Int} {keep : Int} [FtM m] : Ct Tryz.prog 93 [trM m o keep, bv false] (TOk ⟨m, o⟩ ∧ MdB 100000 m ∧ RfB ⟨m, o⟩ keep) (lv (rL rF) ((rfwN ⟨m, o⟩ keep o.length).map (·.map frK))) := ctK fun v => passF_m
instance passB_mk {m : Md} {o : List Int} {keep : Int} [FtM m] : Ct Tryz.prog 93 [trM m o keep, bv true] (TOk ⟨m, o⟩ ∧ MdB 100000 m ∧ BpB ⟨m, o⟩ keep) (lv (rL rF) ((bwPN ⟨m, o⟩ keep).map (·.map frK))) := ctK fun v => passB_m
instance lik_mk {m : Md} {o : List Int} {keep : Int} {f : List (List Rat)} [FtM m] : Ct Tryz.prog 92 [trM m o keep, lv (rL rF) (f.map (·.map frK))] (f.length ≤ 1048576 ∧ m.start.length ≤ 1048576 ∧ m.fin.length = m.start.length ∧ (f.length = 0 ∨ (f.getD (f.length - 1) []).length = m.start.length) ∧ ∃ b, (∀ i, i < m.start.length → bq ((f.getD (f.length - 1) []).getD i 0) + bf (m.fin.getD i fr0) ≤ b) ∧ m.start.length * (b + 1) ≤ 60000000) (kk (likT ⟨m, o⟩ f)) := ctK fun v => lik_c
instance (priority := 1) {v : Value} {T : SV} {B : List Res} : SbB v T B B := ⟨fun _ o => ⟨o, fun r h => ⟨r, h, fun _ x => x⟩⟩⟩
class KZ (t : Tr) (keep : Int) : Prop where h : kT t keep = 0
class KN (t : Tr) (keep : Int) : Prop where h : kT t keep ≠ 0
instance count_z {m : Md} {o : List Int} {keep : Int} [ft : FtM m] [kz : KZ ⟨m, o⟩ keep] : Ct Tryz.prog 139 [trM m o keep] (TOk ⟨m, o⟩ ∧ MdB 100000 m ∧ RfB ⟨m, o⟩ keep ∧ BpB ⟨m, o⟩ keep ∧ KnB ⟨m, o⟩ keep ∧ symb m ≤ 1048576) (.tp [.cv (.pointer none), bv false]) := by
  refine (ctI Tryz.call139 Tryz.func139 Tryz.ntmps139 rfl Tryz.results139 rfl [] fun h0 w0 ⟨tk, hb, hf, hbw, hcn, hsy⟩ => ?_)
  have hs1 := tk.s1
  have hs40 := tk.s40
  have hn := tk.n
  have hmv := tk.mv
  have hfn := tk.fin
  have hsl := tk.say
  dsimp only at hs1 hs40 hn hmv hfn hsl
  have gmv := ge_of hmv
  have gfn := ge_of hfn
  have gsl := ge_of hsl
  have tw : TW ⟨m, o⟩ := twOf hb
  have hfL := rfwN_len ⟨m, o⟩ keep o.length
  have hbL := bwPN_len ⟨m, o⟩ keep
  dsimp only at hfL hbL
  have hsl0 : 0 < m.say.length := by omega
  have a1 : (rfwN ⟨m, o⟩ keep o.length).length ≤ 1048576 := by omega
  have a2 : m.start.length ≤ 1048576 := by omega
  have a4 := likK_len ⟨m, o⟩ keep
  have a5 : ∃ b, (∀ i, i < m.start.length → bq (((rfwN ⟨m, o⟩ keep o.length).getD ((rfwN ⟨m, o⟩ keep o.length).length - 1) []).getD i 0) + bf (m.fin.getD i fr0) ≤ b) ∧ m.start.length * (b + 1) ≤ 60000000 := ⟨400001, fun i _ => likK_bd hf hb i, by omega⟩
  have hlq : bq (likT ⟨m, o⟩ (rfwN ⟨m, o⟩ keep o.length)) ≤ 60000000 := by rw [kT_def]; exact hcn.l
  repeat first | refine nx ?_ | intro _
  rename_i s v6 ν
  obtain ⟨c, a, mm, e, y, vm, vy⟩ := s
  dsimp only
  refine gIf (fun c0 => ?_) fun c0 => ?_
  · repeat first | refine nx ?_ | intro _
    (repeat' (first | refine And.intro ?_ ?_ | trivial | rfl | omega))
  · exact absurd (sgQ_zero.2 (show likT ⟨m, o⟩ (rfwN ⟨m, o⟩ keep o.length) = 0 from (kT_def ⟨m, o⟩ keep).trans kz.h)) c0
@[reducible] def tlC (c : Value) (C : Go.Ear.Ct) (u : Int) (q : Rat) : Res := rV c [lv rF (C.start.map frK), lv (rL rF) (C.move.map (·.map frK)), lv rF (C.fin.map frK), lv (rL rF) (C.say.map (·.map frK)), iv u, iv 0, bv (frK q).neg, lv rU (frK q).n, lv rU (frK q).d] 127
instance count_n {m : Md} {o : List Int} {keep : Int} {B : List Res} [ft : FtM m] [kn : KN ⟨m, o⟩ keep] : CtR Tryz.prog 139 [trM m o keep] B (TOk ⟨m, o⟩ ∧ MdB 100000 m ∧ RfB ⟨m, o⟩ keep ∧ BpB ⟨m, o⟩ keep ∧ KnB ⟨m, o⟩ keep ∧ symb m ≤ 1048576) Value (fun c => .tp [ov c, bv true]) (fun c => tlC c (ktT ⟨m, o⟩ keep) 0 (kT ⟨m, o⟩ keep) :: B) := by
  refine (ctR Tryz.call139 Tryz.func139 Tryz.ntmps139 rfl Tryz.results139 rfl [] fun h0 w0 ⟨tk, hb, hf, hbw, hcn, hsy⟩ => ?_)
  have hs1 := tk.s1
  have hs40 := tk.s40
  have hn := tk.n
  have hmv := tk.mv
  have hfn := tk.fin
  have hsl := tk.say
  dsimp only at hs1 hs40 hn hmv hfn hsl
  have gmv := ge_of hmv
  have gfn := ge_of hfn
  have gsl := ge_of hsl
  have tw : TW ⟨m, o⟩ := twOf hb
  have hfL := rfwN_len ⟨m, o⟩ keep o.length
  have hbL := bwPN_len ⟨m, o⟩ keep
  dsimp only at hfL hbL
  have hsl0 : 0 < m.say.length := by omega
  have a1 : (rfwN ⟨m, o⟩ keep o.length).length ≤ 1048576 := by omega
  have a2 : m.start.length ≤ 1048576 := by omega
  have a4 := likK_len ⟨m, o⟩ keep
  have a5 : ∃ b, (∀ i, i < m.start.length → bq (((rfwN ⟨m, o⟩ keep o.length).getD ((rfwN ⟨m, o⟩ keep o.length).length - 1) []).getD i 0) + bf (m.fin.getD i fr0) ≤ b) ∧ m.start.length * (b + 1) ≤ 60000000 := ⟨400001, fun i _ => likK_bd hf hb i, by omega⟩
  have hlq : bq (likT ⟨m, o⟩ (rfwN ⟨m, o⟩ keep o.length)) ≤ 60000000 := by rw [kT_def]; exact hcn.l
  repeat first | refine nx ?_ | intro _
  rename_i s v6 ν
  obtain ⟨c, a, mm, e, y, vm, vy⟩ := s
  dsimp only
  refine gIf (fun c0 => ?_) fun c0 => ?_
  · exact absurd ((kT_def ⟨m, o⟩ keep).symm.trans (sgQ_zero.1 c0)) kn.h
  have hnz := kn.h
  have hn0 := kT_pos hnz
  dsimp only at hn0
  repeat first | refine nx ?_ | intro _
  rw [kT_def]
  refine gZl vm fun hvm => ?_
  refine gZl vy fun hvy => ?_
  rw [List.length_replicate] at hvm hvy
  have fa : ∀ k i, bq (((rfwN ⟨m, o⟩ keep o.length).getD k []).getD i 0) ≤ 300000 := hf.all
  have ba := hbw.all
  have hKF := fun k => len_KR (rfwN ⟨m, o⟩ keep o.length) k
  have hKB := fun k => len_KR (bwPN ⟨m, o⟩ keep) k
  have hMF : ((rfwN ⟨m, o⟩ keep o.length).map (·.map frK)).length = o.length := by rw [List.length_map, hfL]
  have hMB : ((bwPN ⟨m, o⟩ keep).map (·.map frK)).length = o.length := by rw [List.length_map, hbL]
  have hrF : ∀ k, k < o.length → (((rfwN ⟨m, o⟩ keep o.length).map (·.map frK)).getD k []).length = m.start.length := fun k hk => by rw [hKF, rfwRow_len (t := ⟨m, o⟩) hk]
  have hrB : ∀ k, k < o.length → (((bwPN ⟨m, o⟩ keep).map (·.map frK)).getD k []).length = m.start.length := fun k hk => by rw [hKB, bwPRow_len (t := ⟨m, o⟩) hk]
  have hSl : True → (ktS ⟨m, o⟩ keep).length = m.start.length := fun _ => ktS_len ⟨m, o⟩ keep
  have hEl : True → (ktE ⟨m, o⟩ keep).length = m.start.length := fun _ => ktE_len ⟨m, o⟩ keep
  replace hvm := ge_of hvm
  replace hvy := ge_of hvy
  replace hMF := ge_of hMF
  replace hMB := ge_of hMB
  clear a1 a4 a5 hlq hmv hfn hsl hfL hbL
  refine gKp [47, 46, 8, 7, 6, 5, 4, 2, 3, 0] ?_
  refine gLp (fun s : Nat × List (List Fr) × List (List Fr) => [(47, iv s.1)]) (fun s => [rA rF 31 a (Go.Ear.rowAt ((ktS ⟨m, o⟩ keep).map frK) fr0 m.start.length s.1), rA rF 31 e (Go.Ear.rowAt ((ktE ⟨m, o⟩ keep).map frK) fr0 m.start.length s.1), rZ rF 31 vm s.2.1, rZ rF 31 vy s.2.2]) (fun s => s.1 ≤ m.start.length ∧ RW m.start.length s.1 (fun j => (kMv ⟨m, o⟩ keep j (o.length - 1)).map frK) (List.replicate m.start.length fr0) s.2.1 ∧ RW m.start.length s.1 (fun j => (kSay ⟨m, o⟩ keep j o.length).map frK) (List.replicate (symb m) fr0) s.2.2 ∧ FtR s.2.1 ∧ FtR s.2.2) (fun s => m.start.length - s.1) (0, List.replicate m.start.length (List.replicate m.start.length fr0), List.replicate m.start.length (List.replicate (symb m) fr0)) ⟨Nat.zero_le _, .start, .start, ⟨fun f hf => by rw [(List.mem_replicate.1 hf).2]; infer_instance⟩, ⟨fun f hf => by rw [(List.mem_replicate.1 hf).2]; infer_instance⟩⟩ (fun ⟨i, lm, ly⟩ ⟨hi, hm, hy, fm, fy⟩ => ?_) (h2 := by dsimp only; rw [Go.Ear.rowAt_zero, Go.Ear.rowAt_zero]; (repeat' (first | refine And.intro ?_ ?_ | trivial | rfl | omega)))
  dsimp only at hi hm hy fm fy ⊢
  repeat first | refine nx ?_ | intro _
  refine gIf (fun ci => ?_) fun ci => ?_
  · have l1 := ge_of (hrF 0 hn0)
    have l2 := ge_of (hrB 0 hn0)
    have l3 := ge_of (hrF (o.length - 1) (by omega))
    have s1 : bq (((rfwN ⟨m, o⟩ keep o.length).getD 0 []).getD i 0) + bq (((bwPN ⟨m, o⟩ keep).getD 0 []).getD i 0) ≤ 134217000 := by have := fa 0 i; have := ba 0 i; omega
    have s2 : bq (((rfwN ⟨m, o⟩ keep o.length).getD 0 []).getD i 0 * ((bwPN ⟨m, o⟩ keep).getD 0 []).getD i 0) + bq (kT ⟨m, o⟩ keep) ≤ 134217000 := by have := bq_mul (((rfwN ⟨m, o⟩ keep o.length).getD 0 []).getD i 0) (((bwPN ⟨m, o⟩ keep).getD 0 []).getD i 0); have := fa 0 i; have := ba 0 i; have := hcn.l; omega
    have s3 : bq (((rfwN ⟨m, o⟩ keep o.length).getD (o.length - 1) []).getD i 0) + bf (m.fin.getD i fr0) ≤ 134217000 := by have := fa (o.length - 1) i; have := hb.fb i; omega
    have s4 : bq (((rfwN ⟨m, o⟩ keep o.length).getD (o.length - 1) []).getD i 0 * (m.fin.getD i fr0).rat) + bq (kT ⟨m, o⟩ keep) ≤ 134217000 := by have := bq_mul (((rfwN ⟨m, o⟩ keep o.length).getD (o.length - 1) []).getD i 0) (m.fin.getD i fr0).rat; have := FtS.bqg (l := m.fin) inferInstance i; have := fa (o.length - 1) i; have := hb.fb i; have := hcn.l; omega
    have l4 : m.start.length ≤ (Go.Ear.rowAt ((ktS ⟨m, o⟩ keep).map frK) fr0 m.start.length i).length := ge_of (Go.Ear.rowAt_len (by rw [List.length_map, hSl trivial]) hi)
    have l5 : m.start.length ≤ (Go.Ear.rowAt ((ktE ⟨m, o⟩ keep).map frK) fr0 m.start.length i).length := ge_of (Go.Ear.rowAt_len (by rw [List.length_map, hEl trivial]) hi)
    have e1 : (Go.Ear.rowAt ((ktS ⟨m, o⟩ keep).map frK) fr0 m.start.length i).set i (frK (((rfwN ⟨m, o⟩ keep o.length).getD 0 []).getD i 0 * ((bwPN ⟨m, o⟩ keep).getD 0 []).getD i 0 / kT ⟨m, o⟩ keep)) = Go.Ear.rowAt ((ktS ⟨m, o⟩ keep).map frK) fr0 m.start.length (i + 1) := Go.Ear.rowAt_set (by rw [List.length_map, hSl trivial]) ci (by rw [getD_K, kS_eq (t := ⟨m, o⟩) hn0]; rw [ktS_def]; exact congrArg frK (range_getD (kS ⟨m, o⟩ keep) _ ci).symm)
    have e2 : (Go.Ear.rowAt ((ktE ⟨m, o⟩ keep).map frK) fr0 m.start.length i).set i (frK (((rfwN ⟨m, o⟩ keep o.length).getD (o.length - 1) []).getD i 0 * (m.fin.getD i fr0).rat / kT ⟨m, o⟩ keep)) = Go.Ear.rowAt ((ktE ⟨m, o⟩ keep).map frK) fr0 m.start.length (i + 1) := Go.Ear.rowAt_set (by rw [List.length_map, hEl trivial]) ci (by rw [getD_K, kE_eq (t := ⟨m, o⟩) hn0]; rw [ktE_def]; exact congrArg frK (range_getD (kE ⟨m, o⟩ keep) _ ci).symm)
    have hml := ge_of hm.l
    have hyl := ge_of hy.l
    repeat first | refine nx ?_ | intro _
    rw [e1, e2]
    refine gKp [103, 102, 101, 9, 47, 46, 8, 7, 6, 5, 4, 2, 3, 0] ?_
    refine gLp (fun k : Nat => [(103, iv k)]) (fun k => [rZ rF 31 vm (lm.set i ((kMv ⟨m, o⟩ keep i (min k (o.length - 1))).map frK)), rZ rF 31 vy (ly.set i ((kSay ⟨m, o⟩ keep i k).map frK))]) (fun k => k ≤ o.length) (fun k => o.length - k) 0 (Nat.zero_le _) (fun k hk => ?_) (h2 := by
      rw [Nat.zero_min, show (kMv ⟨m, o⟩ keep i 0).map frK = lm.getD i [] by rw [hm.z i (Nat.le_refl _) ci]; rw [kMv_zero]; simp [frK_zero], show (kSay ⟨m, o⟩ keep i 0).map frK = ly.getD i [] by rw [hy.z i (Nat.le_refl _) ci]; rw [kSay_zero]; simp [frK_zero], set_getD, set_getD]; (repeat' (first | refine And.intro ?_ ?_ | trivial | rfl | omega)))
    haveI := fm.set (x := (kMv ⟨m, o⟩ keep i (min k (o.length - 1))).map frK) inferInstance i
    haveI := fy.set (x := (kSay ⟨m, o⟩ keep i k).map frK) inferInstance i
    have r1 : (ly.set i ((kSay ⟨m, o⟩ keep i k).map frK)).getD i [] = (kSay ⟨m, o⟩ keep i k).map frK := by rw [getD_set _ _ _ (by omega), if_pos rfl]
    have r2 : ((ly.set i ((kSay ⟨m, o⟩ keep i k).map frK)).getD i []).length = symb m := by rw [r1, List.length_map]; exact kSay_len ⟨m, o⟩ keep i k
    repeat first | refine nx ?_ | intro _
    refine gIf (fun ck => ?_) fun ck => ?_
    · have l6 := ge_of (hrF k ck)
      have l7 := ge_of (hrB k ck)
      have hso := tk.sy0 (k := k) ck
      dsimp only at hso
      have s5 : bq (((rfwN ⟨m, o⟩ keep o.length).getD k []).getD i 0) + bq (((bwPN ⟨m, o⟩ keep).getD k []).getD i 0) ≤ 134217000 := by have := fa k i; have := ba k i; omega
      have s6 : bq (((rfwN ⟨m, o⟩ keep o.length).getD k []).getD i 0 * ((bwPN ⟨m, o⟩ keep).getD k []).getD i 0) + bq (kT ⟨m, o⟩ keep) ≤ 134217000 := by have := bq_mul (((rfwN ⟨m, o⟩ keep o.length).getD k []).getD i 0) (((bwPN ⟨m, o⟩ keep).getD k []).getD i 0); have := fa k i; have := ba k i; have := hcn.l; omega
      have s7 : bf (((ly.set i ((kSay ⟨m, o⟩ keep i k).map frK)).getD i []).getD (o.getD k 0).toNat fr0) + bq (((rfwN ⟨m, o⟩ keep o.length).getD k []).getD i 0 * ((bwPN ⟨m, o⟩ keep).getD k []).getD i 0 / kT ⟨m, o⟩ keep) ≤ 134217000 := by
        have h1 := hcn.pY i k ck
        rw [← kY_eq (t := ⟨m, o⟩) ck] at h1
        have h2 := hcn.y i k (o.getD k 0).toNat (Nat.le_of_lt ck)
        rw [r1, getD_K, bf_frK]
        exact Nat.le_trans (Nat.add_le_add h2 h1) (by decide)
      have l8 : k + 1 < o.length → (((bwPN ⟨m, o⟩ keep).map (·.map frK)).getD (k + 1) []).length = m.start.length := fun h => hrB (k + 1) h
      have b8 := fun j => ba (k + 1) j
      have fk := fun (_ : Unit) => fa k i
      have hwm := fun j => hb.mvb i j
      have hws := fun j => hb.syb j (o.getD (k + 1) 0).toNat
      clear e1 e2 hm hy hKF hKB hrF hrB fa ba l1 l2 l3 l4 l5 s1 s2 s3 s4 hSl hEl c0
      repeat first | refine nx ?_ | intro _
      have ey : (ly.set i ((kSay ⟨m, o⟩ keep i k).map frK)).set i (((ly.set i ((kSay ⟨m, o⟩ keep i k).map frK)).getD i []).set (o.getD k 0).toNat (frK ((((ly.set i ((kSay ⟨m, o⟩ keep i k).map frK)).getD i []).getD (o.getD k 0).toNat fr0).rat + ((rfwN ⟨m, o⟩ keep o.length).getD k []).getD i 0 * ((bwPN ⟨m, o⟩ keep).getD k []).getD i 0 / kT ⟨m, o⟩ keep))) = ly.set i ((kSay ⟨m, o⟩ keep i (k + 1)).map frK) := by
        rw [r1, getD_K, frK_rat, kY_eq (t := ⟨m, o⟩) ck, List.set_set, ← List.map_set, kSay_def ⟨m, o⟩ keep i k]
      rw [ey]
      refine gIf (fun c2 => ?_) fun c2 => ?_
      · have em : min k (o.length - 1) = min (k + 1) (o.length - 1) := by omega
        repeat first | refine nx ?_ | intro _
        rw [em]
        exact gBk (k + 1) (by omega) (by omega)
      have hk1 : k + 1 < o.length := by omega
      have hsi := fun j (hj : j < m.start.length) => tk.sayi j (k + 1) hj hk1
      have l9 := ge_of (l8 hk1)
      have hmi := tk.mvi i ci
      dsimp only at hsi hmi
      have hwb := fun j => kW_bd (t := ⟨m, o⟩) tw hf hbw i j hk1
      have hpm := fun j => hcn.pM i k j ck
      have hcm := fun j => hcn.m i k j (Nat.le_of_lt ck)
      rw [show min k (o.length - 1) = k by omega]
      clear ey r1 r2 s5 s6 s7
      repeat first | refine nx ?_ | intro _
      refine gKp [157, 156, 10, 103, 102, 101, 9, 47, 46, 8, 7, 6, 5, 4, 2, 3, 0] ?_
      have hul : ∀ j, (upTo (kMv ⟨m, o⟩ keep i (k + 1)) (kMv ⟨m, o⟩ keep i k) j).length = m.start.length := fun j => by rw [upTo_len (by rw [kMv_len, kMv_len]), kMv_len]
      refine gLp (fun j : Nat => [(157, iv j)]) (fun j => [rZ rF 31 vm (lm.set i ((upTo (kMv ⟨m, o⟩ keep i (k + 1)) (kMv ⟨m, o⟩ keep i k) j).map frK))]) (fun j => j ≤ m.start.length) (fun j => m.start.length - j) 0 (Nat.zero_le _) (fun j hj => ?_) (h2 := by rw [upTo_zero]; (repeat' (first | refine And.intro ?_ ?_ | trivial | rfl | omega)))
      haveI := fm.set (x := (upTo (kMv ⟨m, o⟩ keep i (k + 1)) (kMv ⟨m, o⟩ keep i k) j).map frK) inferInstance i
      have u1 : (lm.set i ((upTo (kMv ⟨m, o⟩ keep i (k + 1)) (kMv ⟨m, o⟩ keep i k) j).map frK)).getD i [] = (upTo (kMv ⟨m, o⟩ keep i (k + 1)) (kMv ⟨m, o⟩ keep i k) j).map frK := by rw [getD_set _ _ _ (by omega), if_pos rfl]
      have u2 : ((lm.set i ((upTo (kMv ⟨m, o⟩ keep i (k + 1)) (kMv ⟨m, o⟩ keep i k) j).map frK)).getD i []).length = m.start.length := by rw [u1, List.length_map, hul]
      repeat first | refine nx ?_ | intro _
      refine gIf (fun cj => ?_) fun cj => ?_
      · have d4 := hsi j cj
        have hpw : prodF [(((rfwN ⟨m, o⟩ keep o.length).map (·.map frK)).getD k []).getD i fr0, (m.move.getD i []).getD j fr0, (m.say.getD j []).getD (o.getD (k + 1) 0).toNat fr0, (((bwPN ⟨m, o⟩ keep).map (·.map frK)).getD (k + 1) []).getD j fr0] = kW ⟨m, o⟩ keep i k j := by rw [getD_KR, getD_K, getD_KR, getD_K]; exact kW_eq (t := ⟨m, o⟩) hk1
        have d7 : wts [(((rfwN ⟨m, o⟩ keep o.length).map (·.map frK)).getD k []).getD i fr0, (m.move.getD i []).getD j fr0, (m.say.getD j []).getD (o.getD (k + 1) 0).toNat fr0, (((bwPN ⟨m, o⟩ keep).map (·.map frK)).getD (k + 1) []).getD j fr0] ≤ 134217724 := by rw [wts_cons, wts_cons, wts_cons, wts_cons, wts_nil, getD_KR, getD_K, getD_KR, getD_K, bf_frK, bf_frK]; have := hwm j; have := hws j; have := b8 j; have := fk (); omega
        have d8 : bq (prodF [(((rfwN ⟨m, o⟩ keep o.length).map (·.map frK)).getD k []).getD i fr0, (m.move.getD i []).getD j fr0, (m.say.getD j []).getD (o.getD (k + 1) 0).toNat fr0, (((bwPN ⟨m, o⟩ keep).map (·.map frK)).getD (k + 1) []).getD j fr0]) + bq (kT ⟨m, o⟩ keep) ≤ 134217000 := by rw [hpw]; exact Nat.le_trans (Nat.add_le_add (hwb j) hcn.l) (by decide)
        have d9 : bf (((lm.set i ((upTo (kMv ⟨m, o⟩ keep i (k + 1)) (kMv ⟨m, o⟩ keep i k) j).map frK)).getD i []).getD j fr0) + bq (prodF [(((rfwN ⟨m, o⟩ keep o.length).map (·.map frK)).getD k []).getD i fr0, (m.move.getD i []).getD j fr0, (m.say.getD j []).getD (o.getD (k + 1) 0).toNat fr0, (((bwPN ⟨m, o⟩ keep).map (·.map frK)).getD (k + 1) []).getD j fr0] / kT ⟨m, o⟩ keep) ≤ 134217000 := by
          rw [hpw, kM_def, u1, getD_K, bf_frK, upTo_get (by rw [kMv_len, kMv_len]) (by rw [kMv_len]; exact cj)]; exact Nat.le_trans (Nat.add_le_add (hcm j) (hpm j)) (by decide)
        clear hwm hws b8 hsi hwb hpm hcm hul
        repeat first | refine nx ?_ | intro _
        have em : (lm.set i ((upTo (kMv ⟨m, o⟩ keep i (k + 1)) (kMv ⟨m, o⟩ keep i k) j).map frK)).set i (((lm.set i ((upTo (kMv ⟨m, o⟩ keep i (k + 1)) (kMv ⟨m, o⟩ keep i k) j).map frK)).getD i []).set j (frK ((((lm.set i ((upTo (kMv ⟨m, o⟩ keep i (k + 1)) (kMv ⟨m, o⟩ keep i k) j).map frK)).getD i []).getD j fr0).rat + prodF [(((rfwN ⟨m, o⟩ keep o.length).map (·.map frK)).getD k []).getD i fr0, (m.move.getD i []).getD j fr0, (m.say.getD j []).getD (o.getD (k + 1) 0).toNat fr0, (((bwPN ⟨m, o⟩ keep).map (·.map frK)).getD (k + 1) []).getD j fr0] / kT ⟨m, o⟩ keep))) = lm.set i ((upTo (kMv ⟨m, o⟩ keep i (k + 1)) (kMv ⟨m, o⟩ keep i k) (j + 1)).map frK) := by
          rw [u1, getD_K, frK_rat, hpw, List.set_set, ← List.map_set, upTo_get (by rw [kMv_len, kMv_len]) (by rw [kMv_len]; exact cj), kM_def, kMv_at (t := ⟨m, o⟩) cj, upTo_set (d := 0) (by rw [kMv_len, kMv_len]) (by rw [kMv_len]; exact cj) rfl]
        rw [em]
        exact gBk (j + 1) (by omega) (by omega)
      · repeat first | refine nx ?_ | intro _
        rw [upTo_end (by rw [kMv_len, kMv_len]) (by rw [kMv_len]; exact Nat.le_of_not_lt cj)]
        exact gBk (k + 1) (by omega) (by omega) (h2 := by rw [show min (k + 1) (o.length - 1) = k + 1 by omega]; (repeat' (first | refine And.intro ?_ ?_ | trivial | rfl | omega)))
    · repeat first | refine nx ?_ | intro _
      have ek : k = o.length := by omega
      rw [show min k (o.length - 1) = o.length - 1 by omega, ek]
      exact gBk (i + 1, lm.set i ((kMv ⟨m, o⟩ keep i (o.length - 1)).map frK), ly.set i ((kSay ⟨m, o⟩ keep i o.length).map frK)) ⟨by dsimp only; omega, hm.next ci rfl, hy.next ci rfl, fm.set inferInstance i, fy.set inferInstance i⟩ (by dsimp only; omega)
  · rw [Go.Ear.rowAt_end (by rw [List.length_map, hSl trivial]) (by omega), Go.Ear.rowAt_end (by rw [List.length_map, hEl trivial]) (by omega), hm.all (by omega), hy.all (by omega)]
    refine gFz a ?_
    refine gFz e ?_
    refine gFzM mm ?_
    refine gFzM y ?_
    repeat first | refine nx ?_ | intro _
    rw [ktM_def ⟨m, o⟩ keep, ktY_def ⟨m, o⟩ keep]
    exact gEr c
end Go.E3
