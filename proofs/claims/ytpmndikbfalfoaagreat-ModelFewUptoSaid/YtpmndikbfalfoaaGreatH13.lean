/- H13: a part of the proofs about package model: how the program's functions run, and what they compute, for every input. -/
import Derived.Test.YtpmndikbfalfoaaGreatH12
set_option linter.all false
set_option linter.unusedVariables false
set_option maxRecDepth 20000
set_option maxHeartbeats 8000000
set_option synthInstance.maxSize 1000
namespace Go.E3
open Go Go.Ear Go.Proofs
def rbwAll (t : Tr) (F : Nat → List Rat) : List (List Rat) := (List.range t.o.length).map fun p => rbw t F (t.o.length - 1 - p)
def RbB (t : Tr) (F : Nat → List Rat) : Prop := ∀ k i, k < t.o.length → bq ((rbw t F k).getD i 0) ≤ 300000
section
variable {m : Md} {o : List Int} {F : List (List Rat)} {S T U : SV}
instance rBackward_m [i : VM S m] [j : Vw (lv rI) T o] [kf : Vw kkR U F] : Ct Tryz.prog 43 [S, T, U] (TOk ⟨m, o⟩ ∧ MdB 100000 m ∧ MdW 5000 m ∧ RbB ⟨m, o⟩ (fun k => F.getD k []) ∧ F.length = o.length ∧ ∀ k, k < o.length → (F.getD k []).length = m.start.length ∧ ∀ j, bq ((F.getD k []).getD j 0) ≤ 300000) (kkR (rbwAll ⟨m, o⟩ (fun k => F.getD k []))) := by
  haveI := i.t
  refine ct3 i.v j kf (ctI Tryz.call43 Tryz.func43 Tryz.ntmps43 rfl Tryz.results43 rfl [29] fun h0 w0 ⟨tk, hb, hw, hf, hFl, hFr⟩ => ?_)
  generalize hM : (fun k => F.getD k []) = M at hf ⊢
  have hMf : ∀ k, F.getD k [] = M k := fun k => congrFun hM k
  have hml : (F.map (·.map frK)).length = F.length := List.length_map _
  have hs1 := tk.s1
  have hn := tk.n
  have h40 := tk.s40
  have hmv := ge_of tk.mv
  have hfn := ge_of tk.fin
  have hsy := ge_of tk.say
  dsimp only at hs1 hn h40 hmv hfn hsy
  repeat first | refine nx ?_ | intro _
  rename_i out
  refine gLp (fun s : Nat × List Value × List (List Fr) => [(9, iv ((o.length : Int) - 1 - (s.1 : Int)))]) (fun s => [rA rW 22 out s.2.1, rZ rF 31 s.2.1 s.2.2]) (fun s => s.1 ≤ o.length ∧ s.2.1.length = o.length ∧ s.2.2.length = o.length ∧ (∀ j, j < o.length ∧ o.length ≤ j + s.1 → s.2.2.getD j [] = (rbw ⟨m, o⟩ M (o.length - 1 - j)).map frK) ∧ FtR s.2.2) (fun s => o.length - s.1) (0, List.replicate o.length vnil, List.replicate o.length []) ⟨Nat.zero_le _, by simp, by simp, fun j hj => by omega, inferInstance⟩ (fun ⟨k, vs, ls⟩ ⟨hk, hi1, hi2, hi3, hi4⟩ => ?_)
  dsimp only at hk hi1 hi2 hi3 hi4 ⊢
  repeat first | refine nx ?_ | intro _
  refine gIf (fun c => ?_) fun c => ?_
  · have hkn : k < o.length := by omega
    have ep : (o.length : Int) - 1 - (k : Int) = ((o.length - 1 - k : Nat) : Int) := by omega
    rw [ep]
    have hp := show o.length - 1 - k < o.length by omega
    have hkp : o.length - 1 - (o.length - 1 - k) = k := by omega
    have hnx : ∀ j, j < o.length → o.length ≤ j + (k + 1) → o.length ≤ j + k ∨ j = o.length - 1 - k := fun j _ hj => by omega
    have hnb : ¬ (o.length - 1 - k < o.length ∧ o.length ≤ o.length - 1 - k + k) := by omega
    have hpb : 1 ≤ k → o.length - 1 - k + 1 < o.length ∧ o.length ≤ o.length - 1 - k + 1 + k ∧ o.length - 1 - (o.length - 1 - k + 1) = k - 1 := by omega
    have hk0 : o.length - 1 - k = o.length - 1 ↔ k = 0 := by omega
    generalize hpe : o.length - 1 - k = p at *
    repeat first | refine nx ?_ | intro _
    rename_i γ
    refine gLp (fun s : Nat × List (List Fr) => [(10, iv s.1)]) (fun s => [rZ rF 31 (vs.set p γ.v) s.2]) (fun s => PI o.length m.start.length p (fun j => j < o.length ∧ o.length ≤ j + k) (fun j => rbw ⟨m, o⟩ M (o.length - 1 - j)) s.2 s.1) (fun s => m.start.length - s.1) (0, ls.set p (List.replicate m.start.length fr0)) (.start hi2 hp hi3 hnb hi4) (fun ⟨i, ls2⟩ hI2 => ?_)
    dsimp only at hI2 ⊢
    have hI2i := hI2.il
    have hft := hI2.t
    repeat first | refine nx ?_ | intro _
    refine gIf (fun c1 => ?_) fun c1 => ?_
    · have hwm := hb.fb i
      have hq : ls2.getD p [] = _ := hI2.r
      have hql : m.start.length ≤ (ls2.getD p []).length := ge_of (by rw [hq]; exact Go.Ear.rowAt_len (by rw [List.length_map, rbw_len]) hI2i)
      have hll := hI2.l
      repeat first | refine nx ?_ | intro _
      refine gIf (fun c0 => ?_) fun c0 => ?_
      · have hz := rbw_z (t := ⟨m, o⟩) (F := M) (k := k) (hk0.1 (by omega)) c1
        dsimp only at hz
        repeat first | refine nx ?_ | intro _
        exact gBk (i + 1, ls2.set p ((ls2.getD p []).set i (frK (m.fin.getD i fr0).rat))) (hI2.next hp hnb c1 (rbw_len _ _ _) (by rw [hkp]; exact hz)) (by dsimp only; omega)
      · have hk1 : 1 ≤ k := Nat.pos_of_ne_zero fun e => c0 (by have := hk0.2 e; omega)
        obtain ⟨hp1, hp2, hp3⟩ := hpb hk1
        have hpr := hI2.b (p + 1) ⟨hp1, hp2⟩
        rw [hp3] at hpr
        have hpb := fun j => hf (k - 1) j (show k - 1 < o.length by omega)
        have hz := rbw_s (t := ⟨m, o⟩) (F := M) (i := i) hk1 hkn c1
        dsimp only at hz
        rw [hpe] at hz
        have hmi := ge_of (tk.mvi i c1)
        have hsi := fun j (hj : j < m.start.length) => tk.sayi j (p + 1) hj hp1
        dsimp only at hmi hsi
        have hr1 : m.start.length ≤ (ls2.getD (p + 1) []).length := by rw [hpr, List.length_map, rbw_len]; exact Nat.le_refl _
        generalize hQ : rbI ⟨m, o⟩ M i (p + 1) (k - 1) = q at hz
        have hFp := hFr (p + 1) hp1
        repeat first | refine nx ?_ | intro _
        rename_i v11
        refine gLp (fun j : Nat => [(12, iv j)]) (fun j => [rV v11 [bv (frK (sumTo q j)).neg, lv rU (frK (sumTo q j)).n, lv rU (frK (sumTo q j)).d] 31]) (fun j => j ≤ m.start.length ∧ bq (sumTo q j) ≤ 1 + j * 310001) (fun j => m.start.length - j) 0 ⟨Nat.zero_le _, by show bq 0 ≤ _; rw [bq_zero]; decide⟩ (fun j ⟨hj, hqb⟩ => ?_) (h2 := by rw [show sumTo q 0 = 0 from rfl, frK_zero]; (repeat' (first | refine And.intro ?_ ?_ | trivial | rfl | omega)))
        repeat first | refine nx ?_ | intro _
        refine gIf (fun c3 => ?_) fun c3 => ?_
        · have hsj := hsi j c3
          have hwv := hb.mvb i j
          have hws := hb.syb j (o.getD (p + 1) 0).toNat
          have hm1 := hw.mv i j
          have hm2 := hw.sy j (o.getD (p + 1) 0).toNat
          have hm3 : bf ((ls2.getD (p + 1) []).getD j fr0) ≤ 300000 := by rw [hpr, getD_K, bf_frK]; exact hpb j
          have hmm := Nat.le_trans (bq_mul ((m.move.getD i []).getD j fr0).rat ((m.say.getD j []).getD (o.getD (p + 1) 0).toNat fr0).rat) (Nat.add_le_add hm1 hm2)
          have hqv : q j = if (M (p + 1)).getD j 0 = 0 then 0 else ((m.move.getD i []).getD j fr0).rat * ((m.say.getD j []).getD (o.getD (p + 1) 0).toNat fr0).rat * ((ls2.getD (p + 1) []).getD j fr0).rat := by rw [← hQ, hpr, getD_K, frK_rat]; rfl
          have hqq : bq (((m.move.getD i []).getD j fr0).rat * ((m.say.getD j []).getD (o.getD (p + 1) 0).toNat fr0).rat * ((ls2.getD (p + 1) []).getD j fr0).rat) ≤ 310000 := by rw [hpr, getD_K, frK_rat]; exact Nat.le_trans (bq_mul _ _) (Nat.add_le_add hmm (hpb j))
          have hFj := hFp.2 j
          have hFl2 : m.start.length ≤ (F.getD (p + 1) []).length := ge_of hFp.1
          have hFl3 : p + 1 < F.length := by omega
          have hFl4 : m.start.length ≤ ((F.map (·.map frK)).getD (p + 1) []).length := by rw [len_KR]; exact hFl2
          clear hsi hm1 hm2
          repeat first | refine nx ?_ | intro _
          rename_i b hbn
          have hb0 : b = false := by
            cases b with
            | false => rfl
            | true => have h0 : F.length = 0 := (by rw [← hml, hbn rfl]; rfl); omega
          subst hb0
          repeat first | refine nx ?_ | intro _
          have hMj : (F.getD (p + 1) []).getD j 0 = (M (p + 1)).getD j 0 := by rw [hMf]
          refine gIf (fun c4 => ?_) fun c4 => ?_
          · have hnz : ¬ (M (p + 1)).getD j 0 = 0 := fun e => c4.elim (fun x => by cases x) fun x => x (sgQ_zero.2 (by rw [hMj]; exact e))
            rw [if_neg hnz] at hqv
            have hqb : bq (q j) ≤ 310000 := by rw [hqv]; exact hqq
            have hba := bq_add (sumTo q j) (q j)
            have hbn : bq (sumTo q (j + 1)) ≤ 1 + (j + 1) * 310001 := by rw [sumTo_succ]; omega
            clear hba
            repeat first | refine nx ?_ | intro _
            rw [← hqv, ← sumTo_succ]
            exact gBk (j + 1) ⟨by omega, hbn⟩ (by omega)
          · have hz0 : (M (p + 1)).getD j 0 = 0 := by rw [← hMj]; exact sgQ_zero.1 (Classical.not_not.1 fun x => c4 (.inr x))
            rw [if_pos hz0] at hqv
            repeat first | refine nx ?_ | intro _
            exact gBk (j + 1) ⟨by omega, by rw [sumTo_skip hqv]; exact Nat.le_trans hqb (Nat.add_le_add_left (Nat.mul_le_mul_right _ (Nat.le_succ j)) 1)⟩ (by omega) (h2 := by rw [sumTo_skip hqv]; (repeat' (first | refine And.intro ?_ ?_ | trivial | rfl | omega)))
        · have ej : j = m.start.length := by omega
          subst ej
          repeat first | refine nx ?_ | intro _
          rw [hz]
          exact gBk (i + 1, ls2.set p ((ls2.getD p []).set i (frK ((rbw ⟨m, o⟩ M k).getD i 0)))) (hI2.next hp hnb c1 (rbw_len _ _ _) (by rw [hkp])) (by dsimp only; omega)
    · repeat first | refine nx ?_ | intro _
      have ei : i = m.start.length := by omega
      refine gBk (k + 1, vs.set p γ.v, ls2) ⟨by dsimp only; omega, by simp [hi1], hI2.l, fun j hj => ?_, hft⟩ (by dsimp only; omega)
      rcases hnx j hj.1 hj.2 with h | h
      · exact hI2.b j ⟨hj.1, h⟩
      · subst h; dsimp only; rw [hI2.r]; exact Go.Ear.rowAt_end (by rw [List.length_map, rbw_len]) (by omega)
  · have hall := rows_all hi2 fun j hj => hi3 j ⟨hj, by omega⟩
    repeat first | refine nx ?_ | intro _
    rw [hall]; unfold rbwAll; rw [List.map_map]; rfl
end
end Go.E3
