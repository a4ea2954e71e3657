/- F1: a part of the proofs about package model: how the program's functions run, and what they compute, for every input. -/
import Derived.Test.YtpmndikbfalfoaaGreatF0
import Derived.Test.YtpmndikbfalfoaaGreatK10
set_option linter.all false
set_option linter.unusedVariables false
set_option maxRecDepth 20000
set_option maxHeartbeats 8000000
set_option synthInstance.maxSize 1000
namespace Go.E3
open Go Go.Ear Go.Proofs
section
variable {B : List Res} {r : Value} {m : Md} {o : List Int} {keep : Int}
instance open_m {a b c d e : SV} {kb : List (List Bool)} {t i : Nat} [hc : HC B r [a, b, c, d, e, lv (rL rB) kb]] : CtB Tryz.prog 158 [ov r, iv (t : Int), iv (i : Int)] B (t < kb.length ∧ i < (kb.getD t []).length) (bv ((kb.getD t []).getD i false)) := by
  refine (ctB Tryz.call158 Tryz.func158 Tryz.ntmps158 rfl Tryz.results158 rfl [] fun h0 w0 ⟨h1, h2⟩ => ?_)
  repeat first | refine nx ?_ | intro _
  rename_i b hb
  have : b = false := by
    cases b with
    | false => rfl
    | true => have := hb rfl; rw [this] at h1; exact absurd h1 (Nat.not_lt_zero _)
  rw [this, Bool.false_or]
instance passF_m [FtM m] [hc : HC B r [lv rF m.start, lv (rL rF) m.move, lv rF m.fin, lv (rL rF) m.say, lv rI o, lv (rL rB) (mskL ⟨m, o⟩ keep)]] : CtB Tryz.prog 93 [ov r, bv false] B (TOk ⟨m, o⟩ ∧ MdB 100000 m ∧ RfB ⟨m, o⟩ keep) (lv (rL rF) ((rfwN ⟨m, o⟩ keep o.length).map (·.map frK))) := by
  refine (ctB Tryz.call93 Tryz.func93 Tryz.ntmps93 rfl Tryz.results93 rfl [] fun h0 w0 ⟨tk, hb, hf⟩ => ?_)
  have hs1 := tk.s1
  have hs40 := tk.s40
  have hn := tk.n
  have hmv := tk.mv
  have hfn := tk.fin
  have hsy := tk.say
  dsimp only at hs1 hs40 hn hmv hfn hsy
  repeat first | refine gDr 14 (by kernel_rfl) ?_ | refine nx ?_ | intro _
  rename_i ν out vo
  refine gRg (σ := List Value × List (List Fr)) (fun k s => s.1.length = o.length ∧ s.2.length = o.length ∧ (∀ j, j < k → s.2.getD j [] = (rfw ⟨m, o⟩ keep j).map frK) ∧ FtR s.2) (fun k s => [rA rW 22 out s.1, rZ rF 31 s.1 s.2]) (List.replicate o.length vnil, List.replicate o.length []) ⟨by simp, by simp, fun j hj => by omega, inferInstance⟩ rfl (fun hr k s l od od' D hk hI => ?_) (fun D s hI => ?_)
  · obtain ⟨vs, ls⟩ := s
    obtain ⟨hi1, hi2, hi3, hi4⟩ := hI
    simp only [Bool.false_eq_true, if_false] at hi1 hi2 hi3 hi4 ⊢
    repeat first | refine nx ?_ | intro _
    rename_i vt ν2
    refine gLp (fun s : Nat × List (List Fr) => [(33, iv s.1)]) (fun s => [rZ rF 31 (vs.set k (ν2 30).v) s.2]) (fun s => PI o.length m.start.length k (· < k) (rfw ⟨m, o⟩ keep) s.2 s.1) (fun s => m.start.length - s.1) (0, ls.set k (List.replicate m.start.length fr0)) (.start hi2 hk hi3 (by omega) hi4) (fun ⟨i, ls2⟩ hI2 => ?_)
    dsimp only at hI2 ⊢
    have hI2i := hI2.il
    have hft := hI2.t
    repeat first | refine nx ?_ | intro _
    refine gIf (fun c => ?_) fun c => ?_
    · have hsi := tk.sayi i k c hk
      have hwm := hb.sb i
      have hws := hb.syb i (o.getD k 0).toNat
      dsimp only at hsi
      have hml : k < (mskL ⟨m, o⟩ keep).length ∧ i < ((mskL ⟨m, o⟩ keep).getD k []).length := by rw [mskL_row (t := ⟨m, o⟩) hk, mskL_len, mskR_len]; exact ⟨hk, c⟩
      have hmk := mskL_at (t := ⟨m, o⟩) (keep := keep) hk c
      have hrf := rfw_at (t := ⟨m, o⟩) (keep := keep) (k := k) c
      repeat first | refine nx ?_ | intro _
      rw [hmk]
      refine gIf (fun cm => ?_) fun cm => ?_
      · rw [if_neg cm] at hrf
        repeat first | refine nx ?_ | intro _
        exact gBk (i + 1, ls2) (hI2.skip c (rfw_len _ _ _) hrf) (by dsimp only; omega)
      rw [if_pos (Classical.not_not.1 cm)] at hrf
      unfold rawI at hrf
      repeat first | refine nx ?_ | intro _
      have hq : ls2.getD k [] = _ := hI2.r
      have hql : (ls2.getD k []).length = m.start.length := by rw [hq]; exact Go.Ear.rowAt_len (by simp [rfw_len]) hI2i
      refine gIf (fun c0 => ?_) fun c0 => ?_
      · have hz : (m.start.getD i fr0).rat * ((m.say.getD i []).getD (o.getD k 0).toNat fr0).rat = (rfw ⟨m, o⟩ keep k).getD i 0 := by rw [hrf, if_pos (by omega)]; rfl
        repeat first | refine nx ?_ | intro _
        exact gBk (i + 1, ls2.set k ((ls2.getD k []).set i (frK ((m.start.getD i fr0).rat * ((m.say.getD i []).getD (o.getD k 0).toNat fr0).rat)))) (hI2.next hk (by omega) c (rfw_len _ _ _) hz) (by dsimp only; omega)
      · have hpr := hI2.b (k - 1) (by omega)
        have tw : TW ⟨m, o⟩ := twOf hb
        have hpb := fun j => hf.w (k - 1) j (show k - 1 < o.length by omega)
        have hpl := rfw_len ⟨m, o⟩ keep (k - 1)
        have hz : ((m.say.getD i []).getD (o.getD k 0).toNat fr0).rat * sumTo (fun j => (rfw ⟨m, o⟩ keep (k - 1)).getD j 0 * moveT ⟨m, o⟩ j i) m.start.length = (rfw ⟨m, o⟩ keep k).getD i 0 := by rw [hrf, if_neg (by omega), Rat.mul_comm]; rfl
        have hsb := bq_sumF' tk tw hpb i
        have hbk := bq_f2 tw hpb
        dsimp only at hpl hsb
        generalize rfw ⟨m, o⟩ keep (k - 1) = pr at hpr hpb hpl hz hsb hbk
        have hsd : ∀ j, j < m.start.length → TOk ⟨m, o⟩ ∧ MdB 100000 m ∧ i < m.start.length ∧ j < m.start.length ∧ (1 ≤ k ∧ k ≤ 1000) ∧ k ≤ (vs.set k (ν2 30).v).length ∧ j < (ls2.getD (k - 1) []).length ∧ bf ((ls2.getD (k - 1) []).getD j fr0) ≤ 300000 := fun j hj => ⟨tk, hb, c, hj, by omega, by simp; omega, by rw [hpr]; simp; omega, by rw [hpr, getD_K, bf_frK]; exact hpb j⟩
        have hq2 : (fun j => ((ls2.getD (k - 1) []).getD j fr0).rat * moveT ⟨m, o⟩ j i) = fun j => pr.getD j 0 * moveT ⟨m, o⟩ j i := by funext j; rw [hpr, getD_K, frK_rat]
        have hbb : ∃ b, (∀ j, j < m.start.length → bq (((ls2.getD (k - 1) []).getD j fr0).rat * moveT ⟨m, o⟩ j i) ≤ b) ∧ m.start.length * (b + 1) ≤ 60000000 := ⟨500000, fun j _ => by rw [congrFun hq2 j]; exact hbk j i, by omega⟩
        rw [← hq2] at hz hsb
        repeat first | refine nx ?_ | intro _
        exact gBk (i + 1, ls2.set k ((ls2.getD k []).set i (frK (((m.say.getD i []).getD (o.getD k 0).toNat fr0).rat * sumTo (fun j => ((ls2.getD (k - 1) []).getD j fr0).rat * moveT ⟨m, o⟩ j i) m.start.length)))) (hI2.next hk (by omega) c (rfw_len _ _ _) hz) (by dsimp only; omega)
    · repeat first | refine nx ?_ | intro _
      have ei : i = m.start.length := by omega
      refine gMe (vs.set k (ν2 30).v, ls2) ⟨by simp [hi1], hI2.l, fun j hj => ?_, hft⟩
      rcases Nat.lt_or_ge j k with hjk | hjk
      · exact hI2.b j hjk
      · have : j = k := by omega
        subst this; rw [hI2.r]; exact Go.Ear.rowAt_end (by simp [rfw_len]) (by omega)
  · obtain ⟨vs, ls⟩ := s
    obtain ⟨hi1, hi2, hi3, _⟩ := hI
    dsimp only at hi1 hi2 hi3 ⊢
    have hall := rows_all hi2 hi3
    repeat first | refine nx ?_ | intro _
    rw [hall]; unfold rfwN; rw [List.map_map]; rfl
end
end Go.E3
