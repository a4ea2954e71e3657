/- A38: a part of the proofs about what is clipped and stored: how the program's functions run, and what they compute, for every input. -/
import Derived.Test.YthlpenhbcmbgoaaGreatDoorA37
set_option linter.all false
set_option linter.unusedVariables false
set_option maxRecDepth 20000
set_option maxHeartbeats 4000000
set_option synthInstance.maxSize 1000
namespace Go.E3
open Go Go.Ear Go.Proofs
theorem dstI_succ {l : List En} {k : Nat} (h : k < l.length) : putI (dstI (phsL (l.take k))) (l.getD k en0).ph = dstI (phsL (l.take (k + 1))) := by
  rw [phsL_succ h, ← putsI_dst, ← putsI_dst, putsI_snoc]
instance rHomophones_c {l : List En} {S : SV} [i : Vw lxv S l] : Ct Tryz.prog 41 [S] (l.length ≤ 2000 ∧ ∀ e ∈ l, e.ph.length ≤ 100) (lv (rL rQ) (hmL l (dstI (phsL l)))) := by
  refine ct1 i (ctI Tryz.call41 Tryz.func41 Tryz.ntmps41 rfl Tryz.results41 rfl [57, 64] fun h0 w0 hpl => ?_)
  obtain ⟨hl, he⟩ := id hpl
  have hph : ∀ k, (l.getD k en0).ph.length ≤ 100 := fun k => by
    by_cases hk : k < l.length
    · exact hpl.2 _ (getD_in en0 hk)
    · rw [List.getD_eq_getElem?_getD, List.getElem?_eq_none (by omega)]; exact Nat.zero_le _
  repeat first | refine nx ?_ | intro _
  refine gLp (fun k : Nat => [(4, iv k), (3, lv (rL rI) (dstI (phsL (l.take k))))]) (fun _ => []) (fun k => k ≤ l.length) (fun k => l.length - k) 0 (Nat.zero_le _) (fun k hk => ?_)
  have hK : (dstI (phsL (l.take k))).length ≤ 2000 := by
    have h1 := dstI_len (phsL (l.take k))
    have h2 : (phsL (l.take k)).length = (l.take k).length := List.length_map _
    rw [List.length_take] at h2; omega
  have hKl := phs_ls (l := l.take k) (K := dstI (phsL (l.take k))) (fun x h => dstI_mem.1 h) (fun e h => he e (List.mem_of_mem_take h))
  repeat first | refine nx ?_ | intro _
  refine gIf (fun c => ?_) fun c => ?_
  · have hd := dstI_succ c
    have hsd : LiS (dstI (phsL (l.take k))) ∧ (l.getD k en0).ph.length ≤ 1000000 := ⟨⟨by omega, fun j => by have := hKl j; omega⟩, by have := hph k; omega⟩
    repeat first | refine nx ?_ | intro _
    rw [hd]
    exact gBk (k + 1) (by omega) (by omega)
  · rw [List.take_of_length_le (by omega)] at hK hKl ⊢
    generalize dstI (phsL l) = K at hK hKl ⊢
    repeat first | refine nx ?_ | intro _
    refine gNl (rL rQ) 25 ?_
    refine gLp (fun s : Nat × Value => [(6, iv s.1), (5, ov s.2)]) (fun s => [rA (rL rQ) 25 s.2 (hmL l (K.take s.1))]) (fun s => s.1 ≤ K.length) (fun s => K.length - s.1) (0, .slice none 0 0) (Nat.zero_le _) (fun ⟨k, u⟩ hk => ?_) (h2 := by dsimp only; exact ⟨rfl, trivial⟩)
    dsimp only at hk ⊢
    repeat first | refine nx ?_ | intro _
    refine gIf (fun c => ?_) fun c => ?_
    · have hkl := hKl k
      have hml : (hmL l (K.take k)).length ≤ 2000 := Nat.le_trans (hmL_len _ _) (by rw [List.length_take]; omega)
      repeat first | refine nx ?_ | intro _
      refine gNl rQ 9 ?_
      refine gLp (fun s : Nat × Value => [(8, iv s.1), (7, ov s.2)]) (fun s => [rA rQ 9 s.2 (wsP (l.take s.1) (K.getD k []))]) (fun s => s.1 ≤ l.length) (fun s => l.length - s.1) (0, .slice none 0 0) (Nat.zero_le _) (fun ⟨j, u2⟩ hj => ?_) (h2 := by dsimp only; exact ⟨rfl, trivial⟩)
      dsimp only at hj ⊢
      have hwl := wsP_len (l.take j) (K.getD k [])
      have hwl2 : (l.take j).length ≤ 2000 := by rw [List.length_take]; omega
      repeat first | refine nx ?_ | intro _
      refine gIf (fun c2 => ?_) fun c2 => ?_
      · have hpj := hph j
        have hsu := wsP_succ (q := K.getD k []) c2
        repeat first | refine gDs 12 12 (by rfl) (by kernel_rfl) ?_ | refine nx ?_ | intro _
        refine gIf (fun c3 => ?_) fun c3 => ?_
        · repeat first | refine nx ?_ | intro _
          rename_i u3
          rw [if_pos (ordI_to.eq _ _ c3)] at hsu
          rw [← hsu]
          exact gBk (j + 1, u3) (by dsimp only; omega) (by dsimp only; omega)
        · repeat first | refine nx ?_ | intro _
          rw [if_neg (fun e => c3 (by rw [e]; exact ordI_to.self _)), List.append_nil] at hsu
          rw [← hsu]
          exact gBk (j + 1, u2) (by dsimp only; omega) (by dsimp only; omega)
      · rw [List.take_of_length_le (by omega : l.length ≤ j)] at hwl ⊢
        refine gFz u2 ?_
        have hsu := hmL_succ (l := l) c
        repeat first | refine nx ?_ | intro _
        refine gIf (fun c3 => ?_) fun c3 => ?_
        · repeat first | refine nx ?_ | intro _
          rename_i u3
          rw [if_pos (by omega)] at hsu
          rw [← hsu]
          exact gBk (k + 1, u3) (by dsimp only; omega) (by dsimp only; omega)
        · repeat first | refine nx ?_ | intro _
          rw [if_neg (by omega), List.append_nil] at hsu
          rw [← hsu]
          exact gBk (k + 1, u) (by dsimp only; omega) (by dsimp only; omega)
    · rw [List.take_of_length_le (by omega)]
      repeat first | refine nx ?_ | intro _
      trivial
end Go.E3
