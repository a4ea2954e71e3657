/- A36: a part of the proofs about what is clipped and stored: how the program's functions run, and what they compute, for every input. -/
import Derived.Test.YthlpenhbcmbgoaaGreatDoorA35
set_option linter.all false
set_option linter.unusedVariables false
set_option maxRecDepth 20000
set_option maxHeartbeats 4000000
set_option synthInstance.maxSize 1000
namespace Go.E3
open Go Go.Ear Go.Proofs
instance : RT Tryz.prog 25 (List ByteArray) (rL rQ) 24 [] := ⟨Tryz.sizeOf25, _, _, ⟨Tryz.type25, rfl, rfl, rfl, rfl⟩, fun _ => ⟨nil_lv rfl, trivial⟩⟩
def wsP (l : List En) (q : List Int) : List ByteArray := (l.filter fun e => decide (e.ph = q)).map (·.w)
def hmL (l : List En) (ks : List (List Int)) : List (List ByteArray) := (ks.map (wsP l)).filter fun w => decide (1 < w.length)
theorem wsP_succ {l : List En} {k : Nat} {q : List Int} (h : k < l.length) : wsP (l.take (k + 1)) q = wsP (l.take k) q ++ if (l.getD k en0).ph = q then [(l.getD k en0).w] else [] := by
  unfold wsP
  rw [List.take_succ_eq_append_getElem h, List.filter_append, List.map_append, List.getD_eq_getElem?_getD, List.getElem?_eq_getElem h]
  simp only [Option.getD_some, List.filter_cons, List.filter_nil, decide_eq_true_eq]
  split <;> rfl
theorem wsP_len (l : List En) (q : List Int) : (wsP l q).length ≤ l.length := by
  unfold wsP
  rw [List.length_map]; exact List.length_filter_le _ _
theorem hmL_succ {l : List En} {ks : List (List Int)} {k : Nat} (h : k < ks.length) : hmL l (ks.take (k + 1)) = hmL l (ks.take k) ++ if 1 < (wsP l (ks.getD k [])).length then [wsP l (ks.getD k [])] else [] := by
  unfold hmL
  rw [List.take_succ_eq_append_getElem h, List.map_append, List.filter_append, List.getD_eq_getElem?_getD, List.getElem?_eq_getElem h]
  simp only [Option.getD_some, List.map_cons, List.map_nil, List.filter_cons, List.filter_nil, decide_eq_true_eq]
theorem hmL_len (l : List En) (ks : List (List Int)) : (hmL l ks).length ≤ ks.length := by
  unfold hmL
  have := List.length_filter_le (fun w : List ByteArray => decide (1 < w.length)) (ks.map (wsP l))
  rwa [List.length_map] at this
theorem phs_ls {l : List En} {K : List (List Int)} (h1 : ∀ x, x ∈ K → x ∈ phsL l) (he : ∀ e ∈ l, e.ph.length ≤ 100) (k : Nat) : (K.getD k []).length ≤ 100 := by
  by_cases hk : k < K.length
  · obtain ⟨e, h2, h3⟩ := List.mem_map.1 (h1 _ (getD_in [] hk))
    rw [← h3]; exact he e h2
  · rw [List.getD_eq_getElem?_getD, List.getElem?_eq_none (by omega)]; exact Nat.zero_le _
def hoL (l : List En) : List (List ByteArray) := if valB l = true then hmL l (dstI (phsL l)) else []
instance Homophones_c {l : List En} {S : SV} {B : List Res} [i : Vw lxv S l] [hg : HG B] : CtB Tryz.prog 40 [S] B (LxS l) (.tp [lv (rL rQ) (hoL l), iv (if valB l = true then 0 else 2)]) := by
  refine cB1 i (ctB Tryz.call40 Tryz.func40 Tryz.ntmps40 rfl Tryz.results40 rfl [35, 43] fun h0 w0 hlx => ?_)
  repeat first | refine nx ?_ | intro _
  refine gIf (fun c => ?_) fun c => ?_
  · have hc : ¬ valB l = true := by simpa using c
    repeat first | refine nx ?_ | intro _
    unfold hoL
    rw [if_neg hc, if_neg hc]
    exact ⟨rfl, rfl⟩
  · have hc : valB l = true := by simpa using c
    obtain ⟨v1, v2⟩ := val_ent hc
    have hpl : l.length ≤ 2000 ∧ ∀ e ∈ l, e.ph.length ≤ 100 := ⟨by omega, fun e he => by have := (phB_gd (v2 e he).1).2; omega⟩
    have hph : ∀ k, (l.getD k en0).ph.length ≤ 100 := fun k => by
      by_cases hk : k < l.length
      · exact hpl.2 _ (getD_in en0 hk)
      · rw [List.getD_eq_getElem?_getD, List.getElem?_eq_none (by omega)]; exact Nat.zero_le _
    unfold hoL
    rw [if_pos hc, if_pos hc]
    repeat first | refine nx ?_ | intro _
    have hK : (dstI (phsL l)).length ≤ 2000 := by
      have h1 := dstI_len (phsL l)
      have h2 : (phsL l).length = l.length := List.length_map _
      omega
    have hKl := phs_ls (l := l) (K := dstI (phsL l)) (fun x h => dstI_mem.1 h) hpl.2
    generalize dstI (phsL l) = K at hK hKl ⊢
    refine gNl (rL rQ) 25 ?_
    refine gLp (fun s : Nat × Value => [(16, iv s.1), (4, ov s.2)]) (fun s => [rA (rL rQ) 25 s.2 (hmL l (K.take s.1))]) (fun s => s.1 ≤ K.length) (fun s => K.length - s.1) (0, .slice none 0 0) (Nat.zero_le _) (fun ⟨k, u⟩ hk => ?_) (h2 := by dsimp only; exact ⟨rfl, trivial⟩)
    dsimp only at hk ⊢
    repeat first | refine nx ?_ | intro _
    refine gIf (fun c => ?_) fun c => ?_
    · have hkl := hKl k
      have hml : (hmL l (K.take k)).length ≤ 2000 := Nat.le_trans (hmL_len _ _) (by rw [List.length_take]; omega)
      repeat first | refine nx ?_ | intro _
      refine gNl rQ 9 ?_
      refine gLp (fun s : Nat × Value => [(23, iv s.1), (7, ov s.2)]) (fun s => [rA rQ 9 s.2 (wsP (l.take s.1) (K.getD k []))]) (fun s => s.1 ≤ l.length) (fun s => l.length - s.1) (0, .slice none 0 0) (Nat.zero_le _) (fun ⟨j, u2⟩ hj => ?_) (h2 := by dsimp only; exact ⟨rfl, trivial⟩)
      dsimp only at hj ⊢
      have hwl := wsP_len (l.take j) (K.getD k [])
      have hwl2 : (l.take j).length ≤ 2000 := by rw [List.length_take]; omega
      repeat first | refine nx ?_ | intro _
      refine gIf (fun c2 => ?_) fun c2 => ?_
      · have hpj := hph j
        have hsu := wsP_succ (q := K.getD k []) c2
        repeat first | refine nx ?_ | intro _
        refine gIf (fun c3 => ?_) fun c3 => ?_
        · repeat first | refine nx ?_ | intro _
          rename_i u3
          rw [if_pos (by simpa using c3)] at hsu
          rw [← hsu]
          exact gBk (j + 1, u3) (by dsimp only; omega) (by dsimp only; omega)
        · repeat first | refine nx ?_ | intro _
          rw [if_neg (by simpa using c3), List.append_nil] at hsu
          rw [← hsu]
          exact gBk (j + 1, u2) (by dsimp only; omega) (by dsimp only; omega)
      · rw [List.take_of_length_le (by omega : l.length ≤ j)] at hwl ⊢
        refine gFz u2 ?_
        have hsu := hmL_succ (l := l) c
        repeat first | refine nx ?_ | intro _
        refine gIf (fun c3 => ?_) fun c3 => ?_
        · repeat first | refine nx ?_ | intro _
          rename_i u3
          rw [if_pos (by omega)] at hsu
          rw [← hsu]
          exact gBk (k + 1, u3) (by dsimp only; omega) (by dsimp only; omega)
        · repeat first | refine nx ?_ | intro _
          rw [if_neg (by omega), List.append_nil] at hsu
          rw [← hsu]
          exact gBk (k + 1, u) (by dsimp only; omega) (by dsimp only; omega)
    · rw [List.take_of_length_le (by omega)]
      repeat first | refine nx ?_ | intro _
      trivial
end Go.E3
