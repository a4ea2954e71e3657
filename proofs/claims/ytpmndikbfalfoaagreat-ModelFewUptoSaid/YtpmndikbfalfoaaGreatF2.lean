/- F2: a part of the proofs about package model: how the program's functions run, and what they compute, for every input. -/
import Derived.Test.YtpmndikbfalfoaaGreatF1
set_option linter.all false
set_option linter.unusedVariables false
set_option maxRecDepth 20000
set_option maxHeartbeats 8000000
set_option synthInstance.maxSize 1000
namespace Go.E3
open Go Go.Ear Go.Proofs
section
variable {B : List Res} {r : Value} {m : Md} {o : List Int} {keep : Int}
instance passB_m [FtM m] [hc : HC B r [lv rF m.start, lv (rL rF) m.move, lv rF m.fin, lv (rL rF) m.say, lv rI o, lv (rL rB) (mskL ⟨m, o⟩ keep)]] : CtB Tryz.prog 93 [ov r, bv true] B (TOk ⟨m, o⟩ ∧ MdB 100000 m ∧ BpB ⟨m, o⟩ keep) (lv (rL rF) ((bwPN ⟨m, o⟩ keep).map (·.map frK))) := by
  refine (ctB Tryz.call93 Tryz.func93 Tryz.ntmps93 rfl Tryz.results93 rfl [] fun h0 w0 ⟨tk, hb, hf⟩ => ?_)
  have hs1 := tk.s1
  have hs40 := tk.s40
  have hn := tk.n
  have hmv := tk.mv
  have hfn := tk.fin
  have hsy := tk.say
  dsimp only at hs1 hs40 hn hmv hfn hsy
  repeat first | refine gDr 14 (by kernel_rfl) ?_ | refine nx ?_ | intro _
  rename_i ν out vo
  refine gRg (σ := List Value × List (List Fr)) (fun k s => s.1.length = o.length ∧ s.2.length = o.length ∧ (∀ j, j < o.length ∧ o.length ≤ j + k → s.2.getD j [] = (bwP ⟨m, o⟩ keep (o.length - 1 - j)).map frK) ∧ FtR s.2) (fun k s => [rA rW 22 out s.1, rZ rF 31 s.1 s.2]) (List.replicate o.length vnil, List.replicate o.length []) ⟨by simp, by simp, fun j hj => by omega, inferInstance⟩ rfl (fun hr k s l od od' D hk hI => ?_) (fun D s hI => ?_)
  · obtain ⟨vs, ls⟩ := s
    obtain ⟨hi1, hi2, hi3, hi4⟩ := hI
    simp only [if_true] at hi1 hi2 hi3 hi4 ⊢
    have hp := show o.length - 1 - k < o.length by omega
    have hkp : o.length - 1 - (o.length - 1 - k) = k := by omega
    have hnx : ∀ j, j < o.length → o.length ≤ j + (k + 1) → o.length ≤ j + k ∨ j = o.length - 1 - k := fun j _ hj => by omega
    have hnb : ¬ (o.length - 1 - k < o.length ∧ o.length ≤ o.length - 1 - k + k) := by omega
    have hpb : 1 ≤ k → o.length - 1 - k + 1 < o.length ∧ o.length ≤ o.length - 1 - k + 1 + k ∧ o.length - 1 - (o.length - 1 - k + 1) = k - 1 := by omega
    have hk0 : o.length - 1 - k = o.length - 1 ↔ k = 0 := by omega
    generalize hpe : o.length - 1 - k = p at *
    repeat first | refine nx ?_ | intro _
    rename_i vt ν2
    refine gLp (fun s : Nat × List (List Fr) => [(33, iv s.1)]) (fun s => [rZ rF 31 (vs.set p (ν2 30).v) s.2]) (fun s => PI o.length m.start.length p (fun j => j < o.length ∧ o.length ≤ j + k) (fun j => bwP ⟨m, o⟩ keep (o.length - 1 - j)) s.2 s.1) (fun s => m.start.length - s.1) (0, ls.set p (List.replicate m.start.length fr0)) (.start hi2 hp hi3 hnb hi4) (fun ⟨i, ls2⟩ hI2 => ?_)
    dsimp only at hI2 ⊢
    have hI2i := hI2.il
    have hft := hI2.t
    repeat first | refine nx ?_ | intro _
    refine gIf (fun c => ?_) fun c => ?_
    · have hwm := hb.fb i
      have hml : p < (mskL ⟨m, o⟩ keep).length ∧ i < ((mskL ⟨m, o⟩ keep).getD p []).length := by rw [mskL_row (t := ⟨m, o⟩) hp, mskL_len, mskR_len]; exact ⟨hp, c⟩
      have hmk := mskL_at (t := ⟨m, o⟩) (keep := keep) hp c
      repeat first | refine nx ?_ | intro _
      rw [hmk]
      refine gIf (fun cm => ?_) fun cm => ?_
      · repeat first | refine nx ?_ | intro _
        exact gBk (i + 1, ls2) (hI2.skip c (bwP_len _ _ _) (by rw [hkp]; exact bwP_n c (by rw [show (Tr.mk m o).o.length - 1 - k = p from hpe]; exact cm))) (by dsimp only; omega)
      have cm := Classical.not_not.1 cm
      have hkp2 : kpB ⟨m, o⟩ keep ((Tr.mk m o).o.length - 1 - k) i = true := by rw [show (Tr.mk m o).o.length - 1 - k = p from hpe]; exact cm
      repeat first | refine nx ?_ | intro _
      have hq : ls2.getD p [] = _ := hI2.r
      have hql : (ls2.getD p []).length = m.start.length := by rw [hq]; exact Go.Ear.rowAt_len (by simp [bwP_len]) hI2i
      repeat first | refine nx ?_ | intro _
      refine gIf (fun c0 => ?_) fun c0 => ?_
      · have hz := bwP_z (t := ⟨m, o⟩) (hk0.1 (by omega)) c hkp2
        dsimp only at hz
        repeat first | refine nx ?_ | intro _
        exact gBk (i + 1, ls2.set p ((ls2.getD p []).set i (frK (m.fin.getD i fr0).rat))) (hI2.next hp hnb c (bwP_len _ _ _) (by rw [hkp]; exact hz)) (by dsimp only; omega)
      · have hk1 : 1 ≤ k := Nat.pos_of_ne_zero fun e => c0 ⟨trivial, by have := hk0.2 e; omega⟩
        obtain ⟨hp1, hp2, hp3⟩ := hpb hk1
        have hpr := hI2.b (p + 1) ⟨hp1, hp2⟩
        rw [hp3] at hpr
        have tw : TW ⟨m, o⟩ := twOf hb
        have hpb := fun j => hf (k - 1) j (show k - 1 < o.length by omega)
        have hpl := bwP_len ⟨m, o⟩ keep (k - 1)
        have hz := bwP_s (t := ⟨m, o⟩) (i := i) hk1 hk c hkp2
        dsimp only at hz
        rw [hpe] at hz
        have hsb := bq_sumB tk tw hpb i (p + 1)
        have hbk := bq_b3 tw hpb
        dsimp only at hpl hsb
        generalize bwP ⟨m, o⟩ keep (k - 1) = pr at hpr hpb hpl hz hsb hbk
        have hsd : ∀ j, j < m.start.length → TOk ⟨m, o⟩ ∧ MdB 100000 m ∧ i < m.start.length ∧ j < m.start.length ∧ p + 1 < o.length ∧ p + 1 < (vs.set p (ν2 30).v).length ∧ j < (ls2.getD (p + 1) []).length ∧ bf ((ls2.getD (p + 1) []).getD j fr0) ≤ 300000 := fun j hj => ⟨tk, hb, c, hj, by omega, by simp; omega, by rw [hpr]; simp; omega, by rw [hpr, getD_K, bf_frK]; exact hpb j⟩
        have hq2 : (fun j => moveT ⟨m, o⟩ i j * sayT ⟨m, o⟩ j (p + 1) * ((ls2.getD (p + 1) []).getD j fr0).rat) = fun j => moveT ⟨m, o⟩ i j * sayT ⟨m, o⟩ j (p + 1) * pr.getD j 0 := by funext j; rw [hpr, getD_K, frK_rat]
        have hbb : ∃ b, (∀ j, j < m.start.length → bq (moveT ⟨m, o⟩ i j * sayT ⟨m, o⟩ j (p + 1) * ((ls2.getD (p + 1) []).getD j fr0).rat) ≤ b) ∧ m.start.length * (b + 1) ≤ 60000000 := ⟨600000, fun j _ => by rw [congrFun hq2 j]; exact hbk i j (p + 1), by omega⟩
        rw [← hq2] at hz hsb
        repeat first | refine nx ?_ | intro _
        exact gBk (i + 1, ls2.set p ((ls2.getD p []).set i (frK (sumTo (fun j => moveT ⟨m, o⟩ i j * sayT ⟨m, o⟩ j (p + 1) * ((ls2.getD (p + 1) []).getD j fr0).rat) m.start.length)))) (hI2.next hp hnb c (bwP_len _ _ _) (by rw [hkp]; exact hz)) (by dsimp only; omega)
    · repeat first | refine nx ?_ | intro _
      have ei : i = m.start.length := by omega
      refine gMe (vs.set p (ν2 30).v, ls2) ⟨by simp [hi1], hI2.l, fun j hj => ?_, hft⟩
      rcases hnx j hj.1 hj.2 with h | h
      · exact hI2.b j ⟨hj.1, h⟩
      · subst h; rw [hI2.r]; exact Go.Ear.rowAt_end (by simp [bwP_len]) (by omega)
  · obtain ⟨vs, ls⟩ := s
    obtain ⟨hi1, hi2, hi3, _⟩ := hI
    dsimp only at hi1 hi2 hi3 ⊢
    have hall := rows_all hi2 (fun j hj => hi3 j ⟨hj, by omega⟩)
    repeat first | refine nx ?_ | intro _
    rw [hall]; unfold bwPN; rw [List.map_map]; rfl
end
end Go.E3
