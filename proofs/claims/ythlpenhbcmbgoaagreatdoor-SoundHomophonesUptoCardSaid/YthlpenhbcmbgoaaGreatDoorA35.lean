/- A35: a part of the proofs about what is clipped and stored: how the program's functions run, and what they compute, for every input. -/
import Derived.Test.YthlpenhbcmbgoaaGreatDoorA34
import Derived.Test.YthlpenhbcmbgoaaGreatDoorA33
set_option linter.all false
set_option linter.unusedVariables false
set_option maxRecDepth 20000
set_option maxHeartbeats 4000000
set_option synthInstance.maxSize 1000
namespace Go.E3
open Go Go.Ear Go.Proofs
def phsL (l : List En) : List (List Int) := l.map (·.ph)
theorem phsL_succ {l : List En} {k : Nat} (h : k < l.length) : phsL (l.take (k + 1)) = phsL (l.take k) ++ [(l.getD k en0).ph] := by
  unfold phsL
  rw [List.take_succ_eq_append_getElem h, List.map_append, List.getD_eq_getElem?_getD, List.getElem?_eq_getElem h]; rfl
instance spellings_c {l : List En} {S : SV} {B : List Res} [i : Vw lxv S l] [hg : HG B] : CtB Tryz.prog 95 [S] B (l.length ≤ 2000 ∧ ∀ e ∈ l, e.ph.length ≤ 100) (lv (rL rI) (dstI (phsL l))) := by
  refine cB1 i (ctB Tryz.call95 Tryz.func95 Tryz.ntmps95 rfl Tryz.results95 rfl [17] fun h0 w0 ⟨hl, he⟩ => ?_)
  repeat first | refine nx ?_ | intro _
  have hlen : (phsL l).length = l.length := List.length_map _
  refine gNl (rL rI) 26 ?_
  refine gLp (fun s : Nat × Value => [(9, iv s.1), (3, ov s.2)]) (fun s => [rA (rL rI) 26 s.2 (phsL (l.take s.1))]) (fun s => s.1 ≤ l.length) (fun s => l.length - s.1) (0, .slice none 0 0) (Nat.zero_le _) (fun ⟨k, u⟩ hk => ?_) (h2 := by dsimp only; exact ⟨rfl, trivial⟩)
  dsimp only at hk ⊢
  repeat first | refine nx ?_ | intro _
  refine gIf (fun c => ?_) fun c => ?_
  · have hkl : (phsL (l.take k)).length = k := by unfold phsL; rw [List.length_map, List.length_take]; omega
    repeat first | refine nx ?_ | intro _
    rename_i u3
    rw [← phsL_succ c]
    exact gBk (k + 1, u3) (by dsimp only; omega) (by dsimp only; omega)
  · rw [List.take_of_length_le (by omega)]
    have hsd : (phsL l).length ≤ 1099511627776 ∧ ∀ x ∈ (phsL l), x.length ≤ 1099511627776 := ⟨by omega, fun x hx => by
      obtain ⟨e, h1, rfl⟩ := List.mem_map.1 hx
      have := he e h1
      omega⟩
    repeat first | refine nx ?_ | intro _
    rename_i s
    rw [srtd_I s]
    have hpm : (srtI (phsL l)).Perm (phsL l) := srtS_perm _
    have hls : LiS (srtI (phsL l)) := ⟨by rw [hpm.length_eq]; omega, fun k => by
      by_cases hk : k < (srtI (phsL l)).length
      · obtain ⟨e, h1, h3⟩ := List.mem_map.1 (hpm.mem_iff.1 (getD_in [] hk))
        have := he e h1
        rw [← h3]; omega
      · rw [List.getD_eq_getElem?_getD, List.getElem?_eq_none (by omega)]; exact Nat.zero_le _⟩
    repeat first | refine nx ?_ | intro _
    trivial
end Go.E3
