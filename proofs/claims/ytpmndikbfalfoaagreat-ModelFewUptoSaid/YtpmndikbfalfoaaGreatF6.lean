/- F6: a part of the proofs about package model: how the program's functions run, and what they compute, for every input. -/
import Derived.Test.YtpmndikbfalfoaaGreatF7
set_option linter.all false
set_option linter.unusedVariables false
set_option maxRecDepth 20000
set_option maxHeartbeats 8000000
set_option synthInstance.maxSize 1000
namespace Go.E3
open Go Go.Ear Go.Proofs
section
variable {B : List Res} {r : Value} {m : Md} {o : List Int} {K : SV} {vi vl v9 last now : Value} {i : Nat} {L N : List Fr}
instance b1_c {j : Nat} [FtM m] [FtS L] [hi : HC B vi [iv (i : Int)]] [hl : HC B vl [ov last]] [ha : HA B last Fr rF 31 L] [hc : HC B r [lv rF m.start, lv (rL rF) m.move, lv rF m.fin, lv (rL rF) m.say, lv rI o, K]] :
    CtB Tryz.prog 187 [iv (j : Int), ov vl, .pk [ov r] 0, ov vi] B (TOk ⟨m, o⟩ ∧ MdB 100000 m ∧ i < m.start.length ∧ j < m.start.length ∧ j < L.length ∧ bf (L.getD j fr0) ≤ 300000) (kk ((L.getD j fr0).rat * moveT ⟨m, o⟩ j i)) := by
  refine (ctB Tryz.call187 Tryz.func187 Tryz.ntmps187 rfl Tryz.results187 rfl [] fun h0 w0 ⟨tk, hb, hil, hj, h1, h2⟩ => ?_)
  have hmv := tk.mv
  have hmi := tk.mvi j hj
  dsimp only at hmv hmi
  have hwm := hb.mvb j i
  repeat first | refine nx ?_ | intro _
  exact ⟨rfl, rfl, rfl⟩
def cmpS (N : List Fr) (x y : Int) : Int := sgQ ((N.getD y.toNat fr0).rat - (N.getD x.toNat fr0).rat)
instance b2_c {x y : Int} [FtS N] [hl : HC B v9 [ov now]] [ha : HA B now Fr rF 31 N] : CtB Tryz.prog 189 [iv x, iv y, ov v9] B ((0 ≤ x ∧ x.toNat < N.length ∧ bf (N.getD x.toNat fr0) ≤ 300000) ∧ (0 ≤ y ∧ y.toNat < N.length ∧ bf (N.getD y.toNat fr0) ≤ 300000)) (iv (cmpS N x y)) := by
  refine (ctB Tryz.call189 Tryz.func189 Tryz.ntmps189 rfl Tryz.results189 rfl [] fun h0 w0 ⟨⟨h1, h2, h3⟩, h4, h5, h6⟩ => ?_)
  repeat first | refine nx ?_ | intro _
  trivial
end
instance rowAt_ft {l : List Rat} {S i : Nat} : FtS (Go.Ear.rowAt (l.map frK) fr0 S i) := ⟨fun f hf => by
  unfold Go.Ear.rowAt at hf
  rcases List.mem_append.1 hf with h | h
  · obtain ⟨q, _, rfl⟩ := List.mem_map.1 (List.mem_of_mem_take h); infer_instance
  · rw [(List.mem_replicate.1 h).2]; infer_instance⟩
section
variable {B : List Res} {r : Value} {m : Md} {o : List Int} {keep : Int} {K : SV}
instance beam_c [ft : FtM m] [hc : HC B r [lv rF m.start, lv (rL rF) m.move, lv rF m.fin, lv (rL rF) m.say, lv rI o, K]] : CtB Tryz.prog 138 [ov r, iv keep] B (TOk ⟨m, o⟩ ∧ MdB 100000 m ∧ RfB ⟨m, o⟩ keep ∧ m.start.length ≤ 19) (lv (rL rB) (mskL ⟨m, o⟩ keep)) := by
  refine (ctB Tryz.call138 Tryz.func138 Tryz.ntmps138 rfl Tryz.results138 rfl [] fun h0 w0 ⟨tk, hb, hf, h19⟩ => ?_)
  have hs1 := tk.s1
  have hs40 := tk.s40
  have hn := tk.n
  have hmv := tk.mv
  have hsy := tk.say
  dsimp only at hs1 hs40 hn hmv hsy
  repeat first | refine nx ?_ | intro _
  rename_i v5 kp v6 v7
  refine gNl rF 31 ?_
  refine gRg (σ := Value × List Fr × List Value × List (List Bool)) (fun k s => s.2.2.1.length = o.length ∧ s.2.2.2.length = o.length ∧ (∀ j, j < k → s.2.2.2.getD j [] = mskR ⟨m, o⟩ keep j) ∧ FtS s.2.1 ∧ (k ≠ 0 → s.2.1 = (rfw ⟨m, o⟩ keep (k - 1)).map frK)) (fun k s => [rV v7 [ov s.1] 22, rA rF 31 s.1 s.2.1, rA rW 196 kp s.2.2.1, rZ rB 4 s.2.2.1 s.2.2.2]) (.slice none 0 0, [], List.replicate o.length vnil, List.replicate o.length []) ⟨by simp, by simp, fun j hj => by omega, ⟨fun f hf => by cases hf⟩, fun h => absurd rfl h⟩ rfl (fun hr k s l od od' D hk hI => ?_) (fun D s hI => ?_)
  · obtain ⟨vl, L, vs, ls⟩ := s
    obtain ⟨hi1, hi2, hi3, hi4, hi5⟩ := hI
    simp only [Bool.false_eq_true, if_false] at hi1 hi2 hi3 hi4 hi5 ⊢
    repeat first | refine nx ?_ | intro _
    rename_i nw v9 od
    have hrl : ((rawF ⟨m, o⟩ keep k).map frK).length = m.start.length := by rw [List.length_map, rawF_len]
    have hil : ((List.range m.start.length).map fun i => ((i : Nat) : Int)).length = m.start.length := by simp
    refine gLp (fun i : Nat => [(38, iv i)]) (fun i => [rA rF 31 nw (Go.Ear.rowAt ((rawF ⟨m, o⟩ keep k).map frK) fr0 m.start.length i), rA rI 3 od (Go.Ear.rowAt ((List.range m.start.length).map fun i => ((i : Nat) : Int)) 0 m.start.length i)]) (fun i => i ≤ m.start.length) (fun i => m.start.length - i) 0 (Nat.zero_le _) (fun i hi => ?_) (h2 := by rw [Go.Ear.rowAt_zero, Go.Ear.rowAt_zero]; (repeat' (first | refine And.intro ?_ ?_ | trivial | rfl | omega)))
    have hql : (Go.Ear.rowAt ((rawF ⟨m, o⟩ keep k).map frK) fr0 m.start.length i).length = m.start.length := Go.Ear.rowAt_len hrl hi
    have hol : (Go.Ear.rowAt ((List.range m.start.length).map fun i => ((i : Nat) : Int)) 0 m.start.length i).length = m.start.length := Go.Ear.rowAt_len hil hi
    repeat first | refine nx ?_ | intro _
    refine gIf (fun c => ?_) fun c => ?_
    · have hsi := tk.sayi i k c hk
      have hws := hb.syb i (o.getD k 0).toNat
      have hsb := hb.sb i
      have hgq := ge_of hql
      have hgo := ge_of hol
      have hri : (rawF ⟨m, o⟩ keep k).getD i 0 = rawI ⟨m, o⟩ keep k i := range_getD _ _ c
      dsimp only at hsi
      clear hql hol
      have e1 : ((Go.Ear.rowAt ((rawF ⟨m, o⟩ keep k).map frK) fr0 m.start.length i).set i (m.start.getD i fr0)).getD i fr0 = m.start.getD i fr0 := by rw [getD_set _ _ _ (by omega), if_pos rfl]
      haveI f1 : FtS ((Go.Ear.rowAt ((rawF ⟨m, o⟩ keep k).map frK) fr0 m.start.length i).set i (m.start.getD i fr0)) := FtS.set inferInstance inferInstance i
      have b1 : bf (((Go.Ear.rowAt ((rawF ⟨m, o⟩ keep k).map frK) fr0 m.start.length i).set i (m.start.getD i fr0)).getD i fr0) ≤ 100001 := by rw [e1]; exact hsb
      have eo : (Go.Ear.rowAt ((List.range m.start.length).map fun i => ((i : Nat) : Int)) 0 m.start.length i).set i ((i : Nat) : Int) = Go.Ear.rowAt ((List.range m.start.length).map fun i => ((i : Nat) : Int)) 0 m.start.length (i + 1) := Go.Ear.rowAt_set hil c (range_getD _ _ c).symm
      have l1 : m.start.length ≤ ((Go.Ear.rowAt ((rawF ⟨m, o⟩ keep k).map frK) fr0 m.start.length i).set i (m.start.getD i fr0)).length := by rw [List.length_set]; exact hgq
      have en : ∀ q : Rat, q = rawI ⟨m, o⟩ keep k i → (Go.Ear.rowAt ((rawF ⟨m, o⟩ keep k).map frK) fr0 m.start.length i).set i (frK q) = Go.Ear.rowAt ((rawF ⟨m, o⟩ keep k).map frK) fr0 m.start.length (i + 1) := fun q hq => Go.Ear.rowAt_set hrl c (by rw [getD_K, hri, hq])
      repeat first | refine nx ?_ | intro _
      refine gIf (fun ck => ?_) fun ck => ?_
      · have hL := hi5 (by omega)
        have tw : TW ⟨m, o⟩ := twOf hb
        have hpb := fun j => hf.w (k - 1) j (show k - 1 < o.length by omega)
        have hsb2 := bq_sumF' tk tw hpb i
        have hbk := bq_f2 tw hpb
        have hLl : L.length = m.start.length := by rw [hL, List.length_map, rfw_len]
        have hq2 : (fun j => (L.getD j fr0).rat * moveT ⟨m, o⟩ j i) = fun j => (rfw ⟨m, o⟩ keep (k - 1)).getD j 0 * moveT ⟨m, o⟩ j i := by funext j; rw [hL, getD_K, frK_rat]
        have hsd : ∀ j, j < m.start.length → TOk ⟨m, o⟩ ∧ MdB 100000 m ∧ i < m.start.length ∧ j < m.start.length ∧ j < L.length ∧ bf (L.getD j fr0) ≤ 300000 := fun j hj => ⟨tk, hb, c, hj, by omega, by rw [hL, getD_K, bf_frK]; exact hpb j⟩
        have hbb : ∃ b, (∀ j, j < m.start.length → bq ((L.getD j fr0).rat * moveT ⟨m, o⟩ j i) ≤ b) ∧ m.start.length * (b + 1) ≤ 60000000 := ⟨500000, fun j _ => by rw [congrFun hq2 j]; exact hbk j i, by omega⟩
        have hrw : sumTo (fun j => (L.getD j fr0).rat * moveT ⟨m, o⟩ j i) m.start.length * ((m.say.getD i []).getD (o.getD k 0).toNat fr0).rat = rawI ⟨m, o⟩ keep k i := by rw [hq2]; unfold rawI; rw [if_neg (by omega)]; rfl
        have hs3 : bq (sumTo (fun j => (L.getD j fr0).rat * moveT ⟨m, o⟩ j i) m.start.length) ≤ 30000000 := by rw [hq2]; exact hsb2
        have e2 : (((Go.Ear.rowAt ((rawF ⟨m, o⟩ keep k).map frK) fr0 m.start.length i).set i (m.start.getD i fr0)).set i (frK (sumTo (fun j => (L.getD j fr0).rat * moveT ⟨m, o⟩ j i) m.start.length))).getD i fr0 = frK (sumTo (fun j => (L.getD j fr0).rat * moveT ⟨m, o⟩ j i) m.start.length) := by rw [getD_set _ _ _ (by omega), if_pos rfl]
        haveI f2 : FtS (((Go.Ear.rowAt ((rawF ⟨m, o⟩ keep k).map frK) fr0 m.start.length i).set i (m.start.getD i fr0)).set i (frK (sumTo (fun j => (L.getD j fr0).rat * moveT ⟨m, o⟩ j i) m.start.length))) := FtS.set f1 inferInstance i
        have b2 : bf ((((Go.Ear.rowAt ((rawF ⟨m, o⟩ keep k).map frK) fr0 m.start.length i).set i (m.start.getD i fr0)).set i (frK (sumTo (fun j => (L.getD j fr0).rat * moveT ⟨m, o⟩ j i) m.start.length))).getD i fr0) ≤ 30000000 := by rw [e2, bf_frK]; exact hs3
        have l2 : m.start.length ≤ (((Go.Ear.rowAt ((rawF ⟨m, o⟩ keep k).map frK) fr0 m.start.length i).set i (m.start.getD i fr0)).set i (frK (sumTo (fun j => (L.getD j fr0).rat * moveT ⟨m, o⟩ j i) m.start.length))).length := by rw [List.length_set]; exact l1
        clear hsb2 hbk hq2 hs3 hpb hi5
        repeat first | refine nx ?_ | intro _
        rw [e2, frK_rat, List.set_set, List.set_set, hrw, en _ rfl, eo]
        exact gBk (i + 1) (by omega) (by omega)
      · have hrw : (m.start.getD i fr0).rat * ((m.say.getD i []).getD (o.getD k 0).toNat fr0).rat = rawI ⟨m, o⟩ keep k i := by unfold rawI; rw [if_pos (by omega)]; rfl
        repeat first | refine nx ?_ | intro _
        rw [e1, List.set_set, en _ hrw, eo]
        exact gBk (i + 1) (by omega) (by omega)
    · have ei : i = m.start.length := by omega
      subst ei
      rw [Go.Ear.rowAt_end hrl (Nat.le_refl _), Go.Ear.rowAt_end hil (Nat.le_refl _)]
      have hsr : ((List.range m.start.length).map fun i => ((i : Nat) : Int)).length ≤ 19 ∧ ∀ x ∈ (List.range m.start.length).map fun i => ((i : Nat) : Int), 0 ≤ x ∧ x.toNat < ((rawF ⟨m, o⟩ keep k).map frK).length ∧ bf (((rawF ⟨m, o⟩ keep k).map frK).getD x.toNat fr0) ≤ 300000 := ⟨by rw [hil]; exact h19, fun x hx => by
        obtain ⟨a, ha, rfl⟩ := List.mem_map.1 hx
        have := List.mem_range.1 ha
        refine ⟨by omega, by rw [hrl]; omega, ?_⟩
        rw [getD_K, bf_frK]; exact hf k _ hk⟩
      repeat first | refine nx ?_ | intro _
      rename_i ν lv
      rw [hil]
      have hcm : ∀ x y : Int, y.toNat < x.toNat → (cmpS ((rawF ⟨m, o⟩ keep k).map frK) x y < 0 ↔ (rawF ⟨m, o⟩ keep k).getD y.toNat 0 < (rawF ⟨m, o⟩ keep k).getD x.toNat 0) := fun x y _ => by
        unfold cmpS; rw [getD_K, getD_K, frK_rat, frK_rat, sgQ_neg]; exact ⟨fun h => by grind, fun h => by grind⟩
      have ho1 : (iS (cmpS ((rawF ⟨m, o⟩ keep k).map frK)) ((List.range m.start.length).map fun i => ((i : Nat) : Int)) (m.start.length - 1)).length = m.start.length := by rw [iS_len]; exact hil
      have ho2 := fun q (hq : q < m.start.length) => ord_at hcm hq
      have hm := fun n (hn : n < m.start.length) => mkN_next hcm hn
      have hl := fun n (hn : n < m.start.length) => lsN_next hcm hn
      have hmk := fun n => mkN_len (rawF ⟨m, o⟩ keep k) m.start.length n
      have hlk := fun n => lsN_len (rawF ⟨m, o⟩ keep k) m.start.length n
      have hrw : (rawF ⟨m, o⟩ keep k).length = m.start.length := rawF_len _ _ _
      have hme := fun (n : Nat) h1 h2 => mk_end (n := n) (keep := keep) hrw h1 h2
      have hmz := mkN_zero (rawF ⟨m, o⟩ keep k) m.start.length
      have hlz := lsN_zero (rawF ⟨m, o⟩ keep k) m.start.length
      have hrk := rfw_raw ⟨m, o⟩ keep k
      have hfr : ∀ i, bf (((rawF ⟨m, o⟩ keep k).map frK).getD i fr0) ≤ 300000 := fun i => by rw [getD_K, bf_frK]; exact hf k i hk
      have hmr : mskR ⟨m, o⟩ keep k = (List.range m.start.length).map (fun i => decide ((befN (rawF ⟨m, o⟩ keep k) i (rawF ⟨m, o⟩ keep k).length : Int) < keep)) := rfl
      generalize iS (cmpS ((rawF ⟨m, o⟩ keep k).map frK)) ((List.range m.start.length).map fun i => ((i : Nat) : Int)) (m.start.length - 1) = od2 at *
      generalize rawF ⟨m, o⟩ keep k = raw at *
      have hfin : ∀ n : Nat, (n = 0 ∨ (n : Int) ≤ keep) → (n = m.start.length ∨ keep ≤ (n : Int)) → (vs.set k (ν 96).v).length = o.length ∧ (ls.set k (mkN raw m.start.length n)).length = o.length ∧ (∀ j, j < k + 1 → (ls.set k (mkN raw m.start.length n)).getD j [] = mskR ⟨m, o⟩ keep j) ∧ FtS ((lsN raw m.start.length n).map frK) ∧ (k + 1 ≠ 0 → (lsN raw m.start.length n).map frK = (rfw ⟨m, o⟩ keep (k + 1 - 1)).map frK) := fun n h1 h2 => by
        obtain ⟨e1, e2⟩ := hme n h1 h2
        refine ⟨by simp [hi1], by simp [hi2], fun j hj => ?_, inferInstance, fun _ => ?_⟩
        · rw [getD_set _ _ _ (by omega)]
          by_cases e : j = k
          · rw [if_pos e, e, e1, hmr]
          · rw [if_neg e]; exact hi3 j (by omega)
        · rw [Nat.add_sub_cancel, e2, hrk]
      refine gLp (fun n : Nat => [(102, iv n)]) (fun n => [rA rF 31 lv ((lsN raw m.start.length n).map frK), rZ rB 4 (vs.set k (ν 96).v) (ls.set k (mkN raw m.start.length n))]) (fun n => n ≤ m.start.length ∧ (n = 0 ∨ (n : Int) ≤ keep)) (fun n => m.start.length - n) 0 ⟨Nat.zero_le _, .inl rfl⟩ (fun n ⟨hn, hnk⟩ => ?_) (h2 := by rw [hmz, hlz, List.map_replicate, frK_zero]; (repeat' (first | refine And.intro ?_ ?_ | trivial | rfl | omega)))
      repeat first | refine nx ?_ | intro _
      refine gIf (fun cn => ?_) fun cn => ?_
      · repeat first | refine nx ?_ | intro _
        refine gIf (fun cq => ?_) fun cq => ?_
        · repeat first | refine nx ?_ | intro _
          exact gMe (lv, (lsN raw m.start.length n).map frK, vs.set k (ν 96).v, ls.set k (mkN raw m.start.length n)) (hfin n hnk (.inr cq))
        · have hcn : n < m.start.length := by omega
          obtain ⟨o1, o2⟩ := ho2 n hcn
          have hfo := hfr (od2.getD n 0).toNat
          have e1 : (ls.set k (mkN raw m.start.length n)).getD k [] = mkN raw m.start.length n := by rw [getD_set _ _ _ (by omega), if_pos rfl]
          have e2 : (vs.set k (ν 96).v).getD k vnil = (ν 96).v := by rw [getD_set _ _ _ (by omega), if_pos rfl]
          have l1 : (od2.getD n 0).toNat < ((ls.set k (mkN raw m.start.length n)).getD k []).length := by rw [e1, hmk]; exact o2
          have l2 : (od2.getD n 0).toNat < ((lsN raw m.start.length n).map frK).length := by rw [List.length_map, hlk]; exact o2
          have l3 : (od2.getD n 0).toNat < (raw.map frK).length := by rw [hrl]; exact o2
          repeat first | refine gLt (fun B' => HC B' v7 [ov lv]) (fun j => Nat.beq (Nat.div (Nat.add j 1) 2) 3) 13 inferInstance (by kernel_rfl) ?_ | refine nx ?_ | intro _
          refine gLl (ov lv) (fun B' hB => by haveI := hB; infer_instance) inferInstance ?_
          repeat first | refine nx ?_ | intro _
          refine nx ?_ (hs := ⟨by kernel_rfl, l1, inferInstance⟩)
          repeat first | refine nx ?_ | intro _
          rw [getD_K, ← List.map_set, hl n hcn, List.set_set, e1, hm n hcn]
          exact gBk (n + 1) ⟨by omega, .inr (by omega)⟩ (by omega)
      · have en : n = m.start.length := by omega
        repeat first | refine nx ?_ | intro _
        exact gMe (lv, (lsN raw m.start.length n).map frK, vs.set k (ν 96).v, ls.set k (mkN raw m.start.length n)) (hfin n hnk (.inl en))
  · obtain ⟨vl, L, vs, ls⟩ := s
    obtain ⟨hi1, hi2, hi3, _, _⟩ := hI
    dsimp only at hi1 hi2 hi3 ⊢
    have hall : ls = mskL ⟨m, o⟩ keep := ext_getD [] (by rw [hi2, mskL_len]) fun j hj => by rw [hi3 j (by omega), mskL_row (t := ⟨m, o⟩) (by show j < o.length; omega)]
    repeat first | refine nx ?_ | intro _
    rw [hall]
end
end Go.E3
