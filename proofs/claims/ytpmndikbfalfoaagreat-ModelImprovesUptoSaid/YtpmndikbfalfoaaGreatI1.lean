/- I1: a part of the proofs about package model: how the program's functions run, and what they compute, for every input. -/
import Derived.Test.YtpmndikbfalfoaaGreatT17
import Derived.Test.YtpmndikbfalfoaaGreatP17
set_option linter.all false
set_option linter.unusedVariables false
set_option maxRecDepth 20000
set_option maxHeartbeats 8000000
set_option synthInstance.maxSize 1000
namespace Go.E3
open Go Go.Ear Go.Proofs
def usK (m : Md) (data : List (List Int)) : Nat → Nat
  | 0 => 0
  | k + 1 => if lk (Go.Ear.trK m data k) = 0 then usK m data k else usK m data k + 1
theorem usK_le (m : Md) (data : List (List Int)) : ∀ k, usK m data k ≤ k
  | 0 => Nat.le_refl _
  | k + 1 => by
    have := usK_le m data k
    rw [usK]; split <;> omega
section
variable {m : Md} {data : List (List Int)} {S T : SV}
instance Liks_c [i : VM S m] [j : Vw (lv (rL rI)) T data] : Ct Tryz.prog 74 [S, T] ((data.length ≤ 1048576 ∧ ∀ o ∈ data, o.length ≤ 1048576) ∧ MdB 100000 m ∧ checkE [m] data = 0 ∧ Nn m ∧ (∀ k, k < data.length → FwB (Go.Ear.trK m data k)) ∧ ∀ k, k < data.length → bq (lkP m data k) + bq (lk (Go.Ear.trK m data k)) ≤ 134216000) (.tp [kk (lkP m data data.length), iv (usK m data data.length), bv true]) := by
  haveI := i.t
  refine ct2 i.v j (ctI Tryz.call74 Tryz.func74 Tryz.ntmps74 rfl Tryz.results74 rfl [4] fun h0 w0 ⟨⟨h1, h1'⟩, h2, h3, h4, h5, h6⟩ => ?_)
  have hw : MdB 10000000 m := Go.E3.MdB.up h2 (by decide)
  repeat first | refine nx ?_ | intro _
  rename_i v4 v7
  refine gLp (fun k : Nat => [(8, iv (usK m data k : Nat)), (9, iv k)]) (fun k => [rV v7 [bv (frK (lkP m data k)).neg, lv rU (frK (lkP m data k)).n, lv rU (frK (lkP m data k)).d] 31]) (fun k => k ≤ data.length) (fun k => data.length - k) 0 (Nat.zero_le _) fun k hk => ?_
  repeat first | refine nx ?_ | intro _
  refine gIf (fun c => ?_) fun c => ?_
  · have hce : checkE [m] [data.getD k []] = 0 := checkE_one h3 (getD_mem' data [] c)
    have hlik := likM_lk hce
    have ho := h1' _ (getD_mem' data [] c)
    have hl : (data.getD k []).length ≤ 1099511627776 ∧ MdB 10000000 m ∧ (checkE [m] [data.getD k []] = 0 → MdB 100000 m ∧ FwB ⟨m, data.getD k []⟩) := ⟨by omega, hw, fun _ => ⟨h2, h5 k c⟩⟩
    have hb := h6 k c
    have hu := usK_le m data k
    have hnk := lk_nn (t := Go.Ear.trK m data k) h4
    have et : lk (Go.Ear.trK m data k) = likM m (data.getD k []) := hlik.symm
    have eP : lkP m data (k + 1) = if lk (Go.Ear.trK m data k) = 0 then lkP m data k else lkP m data k * lk (Go.Ear.trK m data k) := rfl
    have eU : usK m data (k + 1) = if lk (Go.Ear.trK m data k) = 0 then usK m data k else usK m data k + 1 := rfl
    rw [et] at hb hnk eP eU
    repeat first | refine gDr 11 (by kernel_rfl) ?_ | refine nx ?_ | intro _
    refine gIf (fun c5 => ?_) fun c5 => ?_
    · exact (c5 hce).elim
    · repeat first | refine nx ?_ | intro _
      refine gIf (fun c6 => ?_) fun c6 => ?_
      · have c7 : ¬ likM m (data.getD k []) = 0 := fun e => by
          have := sgQ_pos.1 c6
          rw [e] at this; exact absurd this (by decide +kernel)
        rw [if_neg c7] at eP eU
        repeat first | refine nx ?_ | intro _
        rw [← eP]
        exact gBk (k + 1) (by omega) (by omega) (h2 := by (repeat' (first | refine And.intro ?_ ?_ | trivial | rfl | omega)))
      · have c7 : likM m (data.getD k []) = 0 := by
          by_cases e : likM m (data.getD k []) = 0
          · exact e
          · exact absurd (sgQ_pos.2 (by grind)) c6
        rw [if_pos c7] at eP eU
        repeat first | refine nx ?_ | intro _
        rw [← eP]
        exact gBk (k + 1) (by omega) (by omega) (h2 := by (repeat' (first | refine And.intro ?_ ?_ | trivial | rfl | omega)))
  · have e : k = data.length := by omega
    subst e
    repeat first | refine nx ?_ | intro _
    (repeat' (first | refine And.intro ?_ ?_ | trivial | rfl | omega))
end
end Go.E3
