/- T15: a part of the proofs about package model: how the program's functions run, and what they compute, for every input. -/
import Derived.Test.YtpmndikbfalfoaaGreatTB
import Derived.Test.YtpmndikbfalfoaaGreatH18
set_option linter.all false
set_option linter.unusedVariables false
set_option maxRecDepth 20000
set_option maxHeartbeats 8000000
set_option synthInstance.maxSize 1000
namespace Go.E3
open Go Go.Ear Go.Proofs
theorem ratsR_at (l : List (List Fr)) (i : Nat) : (ratsR l).getD i [] = ratsL (l.getD i []) := by
  unfold ratsR
  rw [List.getD_eq_getElem?_getD, List.getElem?_map, List.getD_eq_getElem?_getD]
  cases l[i]? with
  | none => rfl
  | some x => rfl
theorem can_copy {m : Md} (hv : validM m = true) : canM m = copyM m := by
  have hl := valid_len hv
  have h0 : 0 < m.start.length := by omega
  have e1 := (can_eq hv h0).1
  have e2 : ((List.range m.start.length).map fun i => (shrQ (lvM m i) (lvM m i)).take m.start.length) = ratsR m.move := by
    refine ext_getD [] (by unfold ratsR; simp; omega) fun i hi => ?_
    have hi' : i < m.start.length := by simpa using hi
    rw [range_getD _ _ hi', (can_eq hv hi').2.1, ratsR_at]
    unfold ratsL lvM
    rw [List.map_append, List.take_append_of_le_length (by rw [List.length_map, (valid_row hv hi').1]; exact Nat.le_refl _), List.take_of_length_le (by rw [List.length_map, (valid_row hv hi').1]; exact Nat.le_refl _)]
  have e3 : ((List.range m.start.length).map fun i => (shrQ (lvM m i) (lvM m i)).getD m.start.length 0) = ratsL m.fin := by
    refine ext_getD 0 (by unfold ratsL; simp; omega) fun i hi => ?_
    have hi' : i < m.start.length := by simpa using hi
    rw [range_getD _ _ hi', (can_eq hv hi').2.1, rats_at, lvM_at, (valid_row hv hi').1, if_neg (by omega), if_pos rfl, rats_at]
  have e4 : ((List.range m.start.length).map fun i => shrQ (m.say.getD i []) (m.say.getD i [])) = ratsR m.say := by
    refine ext_getD [] (by unfold ratsR; simp; omega) fun i hi => ?_
    have hi' : i < m.start.length := by simpa using hi
    rw [range_getD _ _ hi', (can_eq hv hi').2.2, ratsR_at]
  show Go.Ear.mdK _ _ _ _ = _
  rw [e1, e2, e3, e4]; rfl
structure RRnd (m : Md) (d : Int) (data : List (List Int)) : Prop where
  rk : RDk m data
  r : RwM 2600000 m
  c : RwC 2600000 m (cntK (cntD m data))
  z : NnC m (cntK (cntD m data))
  y : ∀ i, i < m.start.length → (m.say.getD i []).length ≤ 1048576
  n : 0 < d → RwM 2600000 (reeM m (cntK (cntD m data)))
section
variable {m : Md} {data : List (List Int)} {d : Int} {n : Nat} {S T : SV}
instance rTrain_c [i : VM S m] [j : Vw (lv (rL rI)) T data] : Ct Tryz.prog 68 [S, iv (n : Int), iv d, T] ((validM m = true ∧ MdC m ∧ n ≤ 20) ∧ (0 ≤ d ∧ d ≤ 9223372036854775807) ∧ ∀ k, k < n → RRnd (trS m d data k) d data) (mv (trS m d data n)) := by
  haveI := i.t
  refine ct14 i.v j (ctI Tryz.call68 Tryz.func68 Tryz.ntmps68 rfl Tryz.results68 rfl [4] fun h0 w0 ⟨⟨hv, hc, hn⟩, ⟨d1, d2⟩, h5⟩ => ?_)
  have hcc := can_copy hv
  repeat first | refine nx ?_ | intro _
  rename_i v4 v8
  rw [← hcc]
  refine gLp (fun k : Nat => [(9, iv k)]) (fun k => [rV v4 [lv rF (trS m d data k).start, lv (rL rF) (trS m d data k).move, lv rF (trS m d data k).fin, lv (rL rF) (trS m d data k).say] 25]) (fun k => k ≤ n) (fun k => n - k) 0 (Nat.zero_le _) fun k hk => ?_
  repeat first | refine nx ?_ | intro _
  refine gIf (fun ck => ?_) fun ck => ?_
  · have rk := h5 k ck
    have r1 := rk.rk
    have r2 := rk.r
    have r3 := rk.c
    have r4 := rk.n
    have r6 := rk.z
    have r7 := rk.y
    generalize hM : trS m d data k = M at *
    haveI : FtM M := by rw [← hM]; infer_instance
    repeat first | refine gDs 6 5 (by rfl) (by kernel_rfl) ?_ | refine nx ?_ | intro _
    have hs : trS m d data (k + 1) = trN M d data := by rw [← hM]; rfl
    refine gIf (fun cd => ?_) fun cd => ?_
    · have r5 := r4 cd
      have e : trN M d data = coaM (reeM M (cntK (cntD M data))) d := if_pos cd
      have d3 : 1 ≤ d ∧ d ≤ 9223372036854775807 := ⟨by omega, d2⟩
      repeat first | refine nx ?_ | intro _
      refine gBk (k + 1) (by omega) (by omega) (h2 := ?_)
      rw [hs, e]; (repeat' (first | refine And.intro ?_ ?_ | trivial | rfl | omega))
    · have e : trN M d data = reeM M (cntK (cntD M data)) := if_neg cd
      repeat first | refine nx ?_ | intro _
      refine gBk (k + 1) (by omega) (by omega) (h2 := ?_)
      rw [hs, e]; (repeat' (first | refine And.intro ?_ ?_ | trivial | rfl | omega))
  · have ek : k = n := by omega
    subst ek
    repeat first | refine nx ?_ | intro _
    (repeat' (first | refine And.intro ?_ ?_ | trivial | rfl | omega))
end
end Go.E3
