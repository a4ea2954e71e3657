/- T5: a part of the proofs about package model: how the program's functions run, and what they compute, for every input. -/
import Derived.Test.YtpmndikbfalfoaaGreatT4
set_option linter.all false
set_option linter.unusedVariables false
set_option maxRecDepth 20000
set_option maxHeartbeats 8000000
set_option synthInstance.maxSize 1000
namespace Go.E3
open Go Go.Ear Go.Proofs
section
variable {m : Md} {c : CtF} {d : Int} {S T : SV}
instance rCoarsen_c [i : VM S m] : Ct Tryz.prog 73 [S, iv d] (RwM 2600000 m ∧ 1 ≤ d ∧ d ≤ 9223372036854775807) (mv (coaM m d)) := by
  haveI := i.t
  refine ct1 i.v (ctI Tryz.call73 Tryz.func73 Tryz.ntmps73 rfl Tryz.results73 rfl [] fun h0 w0 ⟨r, d1, d2⟩ => ?_)
  have hn := r.n
  have hl := r.l
  have hs := r.s
  have h5 : ∀ i, i < m.start.length → (coaQ (lvM m i) d).length = m.start.length + 1 ∧ wts (m.move.getD i []) ≤ 100000000 ∧ (0 < (lvM m i).length ∧ wts (lvM m i) ≤ 5400000) ∧ (0 < (m.say.getD i []).length ∧ wts (m.say.getD i []) ≤ 5400000) := fun i hi => by
    have h1 := r.lv hi; have h2 := r.mv i hi; have h3 := r.y i hi
    exact ⟨by unfold coaQ flrQ; rw [List.length_set, List.length_map]; exact h1.1, by omega, ⟨by omega, by omega⟩, by omega, by omega⟩
  repeat first | refine nx ?_ | intro _
  refine gNl (rL rF) 22 ?_
  refine gNl (rL rF) 22 ?_
  refine gNl rF 31 ?_
  rename_i v4 v5
  refine gLp (fun s : Nat × Value × Value × Value => [(6, iv s.1)]) (fun s => [rV v5 [lv rF ((coaQ m.start d).map frK), ov s.2.1, ov s.2.2.1, ov s.2.2.2] 25, rA (rL rF) 22 s.2.1 ((List.range s.1).map fun i => ((coaQ (lvM m i) d).map frK).take m.start.length), rA rF 31 s.2.2.1 ((List.range s.1).map fun i => ((coaQ (lvM m i) d).map frK).getD m.start.length fr0), rA (rL rF) 22 s.2.2.2 ((List.range s.1).map fun i => (coaQ (m.say.getD i []) d).map frK)]) (fun s => s.1 ≤ m.start.length) (fun s => m.start.length - s.1) (0, .slice none 0 0, .slice none 0 0, .slice none 0 0) (Nat.zero_le _) fun ⟨k, v1, v2, v3⟩ hk => ?_
  dsimp only at *
  repeat first | refine nx ?_ | intro _
  refine gIf (fun c => ?_) fun c => ?_
  · obtain ⟨h7, h8, h9, h10⟩ := h5 k c
    have hl1 : ((List.range k).map fun i => ((coaQ (lvM m i) d).map frK).take m.start.length).length = k := by simp
    have hl2 : ((List.range k).map fun i => ((coaQ (lvM m i) d).map frK).getD m.start.length fr0).length = k := by simp
    have hl3 : ((List.range k).map fun i => (coaQ (m.say.getD i []) d).map frK).length = k := by simp
    have hl4 : ((coaQ (lvM m k) d).map frK).length = m.start.length + 1 := by rw [List.length_map]; exact h7
    have hlm : leaveM m k = lvM m k := rfl
    repeat first | refine nx ?_ | intro _
    rw [hlm]
    repeat first | refine gDs 11 9 (by rfl) (by kernel_rfl) ?_ | refine gDs 12 10 (by rfl) (by kernel_rfl) ?_ | refine gDs 13 11 (by rfl) (by kernel_rfl) ?_ | refine nx ?_ | intro _
    rename_i _ w1 _ w2 _ w3
    rw [hl4, show m.start.length + 1 - 1 = m.start.length from rfl, range_take_succ fun i => ((coaQ (lvM m i) d).map frK).take m.start.length, range_take_succ fun i => ((coaQ (lvM m i) d).map frK).getD m.start.length fr0, range_take_succ fun i => (coaQ (m.say.getD i []) d).map frK]
    exact gBk (k + 1, w1, w2, w3) (by dsimp only; omega) (by dsimp only; omega)
  · have ek : k = m.start.length := by omega
    subst ek
    refine gFz v1 ?_
    refine gFz v2 ?_
    refine gFz v3 ?_
    repeat first | refine nx ?_ | intro _
    exact ⟨rfl, chM_mv, chM_fn, chM_sy⟩
structure NnC (m : Md) (c : CtF) : Prop where
  s : c.start.any negF = false
  l : ∀ i, i < m.start.length → (lvC c i).any negF = false
  y : ∀ i, i < m.start.length → (c.say.getD i []).any negF = false
instance rReestimate_c [i : VM S m] [j : VC T c] : Ct Tryz.prog 71 [S, T] (RwM 2600000 m ∧ RwC 2600000 m c ∧ NnC m c ∧ ∀ i, i < m.start.length → (m.say.getD i []).length ≤ 1048576) (mv (reeM m c)) := by
  haveI := i.t
  haveI := j.t
  refine ct2 i.v j.v (ctI Tryz.call71 Tryz.func71 Tryz.ntmps71 rfl Tryz.results71 rfl [] fun h0 w0 ⟨r, q, z, ylen⟩ => ?_)
  have hn := r.n
  have hl := r.l
  have hs := r.s
  have ql := q.l
  have qs := q.s
  have zs := z.s
  have h5 : ∀ i, i < m.start.length → (shrQ (lvC c i) (lvM m i)).length = m.start.length + 1 ∧ wts (m.move.getD i []) ≤ 100000000 ∧ (((lvC c i).any negF = false ∧ (lvC c i).length = (lvM m i).length ∧ (lvC c i).length ≤ 1048576) ∧ wts (lvC c i) ≤ 60000000 ∧ wts (lvM m i) ≤ 60000000) ∧ (((c.say.getD i []).any negF = false ∧ (c.say.getD i []).length = (m.say.getD i []).length ∧ (c.say.getD i []).length ≤ 1048576) ∧ wts (c.say.getD i []) ≤ 60000000 ∧ wts (m.say.getD i []) ≤ 60000000) := fun i hi => by
    have h1 := r.lv hi; have h2 := r.mv i hi; have h3 := r.y i hi; have q1 := q.lv hi; have q2 := q.mv i hi; have q3 := q.y i hi; have q4 := ylen i hi
    exact ⟨shrQ_len q1.1 h1.1, by omega, ⟨⟨z.l i hi, by omega, by omega⟩, by omega, by omega⟩, ⟨z.y i hi, by omega, by omega⟩, by omega, by omega⟩
  repeat first | refine nx ?_ | intro _
  refine gNl (rL rF) 22 ?_
  refine gNl (rL rF) 22 ?_
  refine gNl rF 31 ?_
  rename_i v4 v5
  refine gLp (fun s : Nat × Value × Value × Value => [(6, iv s.1)]) (fun s => [rV v5 [lv rF ((shrQ c.start m.start).map frK), ov s.2.1, ov s.2.2.1, ov s.2.2.2] 25, rA (rL rF) 22 s.2.1 ((List.range s.1).map fun i => ((shrQ (lvC c i) (lvM m i)).map frK).take m.start.length), rA rF 31 s.2.2.1 ((List.range s.1).map fun i => ((shrQ (lvC c i) (lvM m i)).map frK).getD m.start.length fr0), rA (rL rF) 22 s.2.2.2 ((List.range s.1).map fun i => (shrQ (c.say.getD i []) (m.say.getD i [])).map frK)]) (fun s => s.1 ≤ m.start.length) (fun s => m.start.length - s.1) (0, .slice none 0 0, .slice none 0 0, .slice none 0 0) (Nat.zero_le _) fun ⟨k, v1, v2, v3⟩ hk => ?_
  dsimp only at *
  repeat first | refine nx ?_ | intro _
  refine gIf (fun ck => ?_) fun ck => ?_
  · obtain ⟨h7, h8, h9, h10⟩ := h5 k ck
    have hl1 : ((List.range k).map fun i => ((shrQ (lvC c i) (lvM m i)).map frK).take m.start.length).length = k := by simp
    have hl2 : ((List.range k).map fun i => ((shrQ (lvC c i) (lvM m i)).map frK).getD m.start.length fr0).length = k := by simp
    have hl3 : ((List.range k).map fun i => (shrQ (c.say.getD i []) (m.say.getD i [])).map frK).length = k := by simp
    have hl4 : ((shrQ (lvC c k) (lvM m k)).map frK).length = m.start.length + 1 := by rw [List.length_map]; exact h7
    have hl5 : (c.move.getD k []).length = m.start.length := (q.mv k ck).1
    have hlm : leaveM m k = lvM m k := rfl
    have hlc : c.move.getD k [] ++ [c.fin.getD k fr0] = lvC c k := rfl
    repeat first | refine gDv 18 5 12 16 (by rfl) (by kernel_rfl) ?_ | refine nx ?_ | intro _
    rw [hlc, hlm]
    repeat first | refine gDs 11 9 (by rfl) (by kernel_rfl) ?_ | refine gDs 12 10 (by rfl) (by kernel_rfl) ?_ | refine gDs 17 15 (by rfl) (by kernel_rfl) ?_ | refine nx ?_ | intro _
    rename_i _ w1 _ w2 _ w3
    rw [hl4, show m.start.length + 1 - 1 = m.start.length from rfl, range_take_succ fun i => ((shrQ (lvC c i) (lvM m i)).map frK).take m.start.length, range_take_succ fun i => ((shrQ (lvC c i) (lvM m i)).map frK).getD m.start.length fr0, range_take_succ fun i => (shrQ (c.say.getD i []) (m.say.getD i [])).map frK]
    exact gBk (k + 1, w1, w2, w3) (by dsimp only; omega) (by dsimp only; omega)
  · have ek : k = m.start.length := by omega
    subst ek
    refine gFz v1 ?_
    refine gFz v2 ?_
    refine gFz v3 ?_
    repeat first | refine nx ?_ | intro _
    exact ⟨rfl, chM_mv, chM_fn, chM_sy⟩
end
end Go.E3
