/- A34: a part of the proofs about what is clipped and stored: how the program's functions run, and what they compute, for every input. -/
import Derived.Test.YthlpenhbcmbgoaaGreatDoorA30
import Derived.Test.YthlpenhbcmbgoaaGreatDoorK12
import Derived.Test.YthlpenhbcmbgoaaGreatDoorEarM17
set_option linter.all false
set_option linter.unusedVariables false
set_option maxRecDepth 20000
set_option maxHeartbeats 4000000
set_option synthInstance.maxSize 1000
namespace Go.E3
open Go Go.Ear Go.Proofs
section
variable {α : Type} {P : Program} {n : Nat} {c : Bool} {loc env : EL} {B : List Res} {ms : List Nat} {d : Nat} {t e : TypeId}
instance {r : Rp α} {bb : Nat} {d0 : α} {q : List α} {o2 : Operand} [ts : TS P t e] [rt : RT P e α r bb d0] [ly : Lu n c loc env o2 (lv r q)] : St P n c loc env B ms d (.call ⟨.builtin .append, [.const (.slice none 0 0), o2].toArray, [t, t].toArray⟩) (q.length ≤ 9223372036854775807 ∧ q.length * bb ≤ 140737488355328) (lv r q) := ⟨fun qc sd _ _ ρ h w s _ _ _ _ _ k => by
  obtain ⟨z, ti, el, hz⟩ := rt.e
  have hy := ly.h qc (s.fx o2 (by simp [Op.operands, Call.operands]))
  refine OpW.appendL (lo := w.heap.size) (v := .slice none 0 0) (l := []) ts.h el.hi el.hz el.hc el.hk s.gr.sat (Nat.le_refl _) rfl rfl (OwnL.nil ..) hy (by simpa using sd.1) (by rw [el.hb]; simpa using sd.2) fun v' w' own ow hbl => ?_
  rw [List.nil_append] at own
  obtain ⟨h', g', le, hl⟩ := own.freeze ((Gr.refl s.gr.sat).ow ow (fun i hi => by cases hi)) (Nat.le_refl _)
  exact k _ _ _ g' hl.2⟩
end
def befI (ls : List (List Int)) (l : List Int) : Nat := (ls.takeWhile fun x => decide (ordI x l < 0)).length
def putI (ls : List (List Int)) (l : List Int) : List (List Int) := if befI ls l < ls.length ∧ ordI (ls.getD (befI ls l) []) l = 0 then ls else ls.take (befI ls l) ++ [l] ++ ls.drop (befI ls l)
theorem befI_eq {ls : List (List Int)} {l : List Int} {k : Nat} (hk : k ≤ ls.length) (h1 : ∀ j, j < k → ordI (ls.getD j []) l < 0) (h2 : k < ls.length → ¬ ordI (ls.getD k []) l < 0) : befI ls l = k := by
  unfold befI
  induction ls generalizing k with
  | nil => simp at hk ⊢; omega
  | cons x ls ih =>
    cases k with
    | zero =>
      have := h2 (by simp)
      rw [List.takeWhile_cons, if_neg (by simpa using this)]; rfl
    | succ k =>
      have h0 : ordI x l < 0 := h1 0 (by omega)
      rw [List.takeWhile_cons, if_pos (decide_eq_true h0), List.length_cons, ih (k := k) (by simpa using hk) (fun j hj => h1 (j + 1) (by omega)) (fun hk => h2 (by simpa using hk))]
instance put_c {ls : List (List Int)} {l : List Int} {S T : SV} [i : Vw (lv (rL rI)) S ls] [j : Vw (lv rI) T l] : Ct Tryz.prog 97 [S, T] (LiS ls ∧ l.length ≤ 1000000) (lv (rL rI) (putI ls l)) := by
  refine ct2 i j (ctI Tryz.call97 Tryz.func97 Tryz.ntmps97 rfl Tryz.results97 rfl [38, 42, 46] fun h0 w0 ⟨hs, hl⟩ => ?_)
  have hs1 := hs.1
  repeat first | refine nx ?_ | intro _
  refine gLp (fun k : Nat => [(5, iv k)]) (fun _ => []) (fun k => k ≤ ls.length ∧ ∀ j, j < k → ordI (ls.getD j []) l < 0) (fun k => ls.length - k) 0 ⟨Nat.zero_le _, fun j h => absurd h (Nat.not_lt_zero _)⟩ (fun k ⟨hk, hn⟩ => ?_)
  have hk2 := hs.2 k
  repeat first | refine nx ?_ | intro _
  refine gIf (fun c => ?_) fun c => ?_
  · repeat first | refine nx ?_ | intro _
    refine gBk (k + 1) ⟨by omega, fun j hj => ?_⟩ (by omega)
    by_cases e : j = k
    · rw [e]; exact c.2
    · exact hn j (by omega)
  · have e := befI_eq hk hn fun h h2 => c ⟨h, h2⟩
    repeat first | refine nx ?_ | intro _
    refine gIf (fun c2 => ?_) fun c2 => ?_
    · repeat first | refine nx ?_ | intro _
      unfold putI
      rw [e, if_pos c2]
    · have e2 : putI ls l = ls.take k ++ [l] ++ ls.drop k := by
        unfold putI
        rw [e, if_neg c2]
      rw [e2]
      have htl : (ls.take k).length ≤ 1000000 := by rw [List.length_take]; omega
      repeat first | refine gDc 13 3 7 11 ⟨38, 42, fun v => rA (rL rI) 26 v (ls.take k), fun v => rA (rL rI) 26 v (ls.take k ++ [l])⟩ (by rfl) (by kernel_rfl) ?_ | refine nx ?_ | intro _
      refine gCn rfl (by omega) ?_
      repeat first | refine nx ?_ | intro _
      refine gCb rfl ⟨by simp; omega, by simp; omega⟩ ?_
      repeat first | refine nx ?_ | intro _
      refine gCe rfl fun v42 => ?_
      repeat first | refine nx ?_ | intro _
      trivial
end Go.E3
