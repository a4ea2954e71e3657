/- LawModelReestimates: a part of the proofs about package model: how the program's functions run, and what they compute, for every input. -/
import Derived.Test.YtpmndikbfalfoaaGreatT7
import Derived.Test.YtpmndikbfalfoaaGreatG4
set_option linter.all false
set_option linter.unusedVariables false
set_option maxRecDepth 20000
set_option maxHeartbeats 16000000
set_option synthInstance.maxSize 1000
namespace Go.E3
open Go Go.Ear Go.Proofs
theorem modelReestimates_c {m : Md} {c : CtF} {d : Int} (up : UpK m) (uc : UpC c) (ud : -9223372036854775808 ≤ d ∧ d ≤ 9223372036854775807) : Ct Tryz.prog 15 [mv m, cF c, iv d] True (bv true) := by
  refine (ctI Tryz.call15 Tryz.func15 Tryz.ntmps15 rfl Tryz.results15 rfl [] fun h0 w0 _ => ?_)
  have ft := up.t
  have hb := up.b
  have hw := up.w
  have fc := uc.k.t
  have cb := uc.k.b
  have cw := uc.k.w
  have fC : FtC c := ⟨fc.h⟩
  have hlm := up.b.r
  have hsl : MdB 10000000 m ∧ m.say.length ≤ 1048576 ∧ m.move.length ≤ 1048576 := ⟨hw, by omega, by omega⟩
  repeat first | refine nx ?_ | intro _
  refine gIf (fun c1 => ?_) fun c1 => ?_
  · repeat first | refine nx ?_ | intro _
    trivial
  have c2 : smallB m 6 = true ∧ checkE [m] [] = 0 ∧ plainM ⟨c.start, c.move, c.fin, c.say⟩ = true := by
    simp only [not_or, Classical.not_not, Bool.not_eq_true, Bool.not_eq_false, ne_eq] at c1
    exact ⟨by simpa using c1.1.1, by simpa using c1.1.2, by simpa using c1.2⟩
  clear c1
  obtain ⟨hsm, hE, hp⟩ := c2
  have g := Good.of ft hsm hE
  have hv := g.v
  have hlg := g.l
  have h6 := g.s
  have hy := g.y
  have hlen := valid_len hv
  have rM : RwM 1000 m := RwM.of hv hlg g.mb
  have rM2 : RwM 1900000 m := RwM.of hv hlg (g.mB (K := 1900000))
  have hrows : ∀ i, i < m.start.length → (m.say.getD i []).length ≤ 1048576 := fun i hi => by rw [(valid_row hv hi).2.1]; omega
  have hc1 : (0 < m.say.length ∧ m.start.length ≤ 1048576 ∧ wts c.start ≤ 134000000 ∧ wts c.fin ≤ 134000000 ∧ (∀ i, wts (c.move.getD i []) ≤ 134000000) ∧ ∀ i, wts (c.say.getD i []) ≤ 134000000) := ⟨by omega, by omega, Nat.le_trans cw.start (by decide), Nat.le_trans cw.fin (by decide), fun i => Nat.le_trans (wts_getD cw.move i) (by decide), fun i => Nat.le_trans (wts_getD cw.say i) (by decide)⟩
  have hc2 : (m.start.length ≤ 1048576 ∧ c.move.length ≤ 1048576 ∧ c.say.length ≤ 1048576) ∧ wts c.start ≤ 10000000 ∧ wts c.fin ≤ 10000000 ∧ (∀ i, wts (c.move.getD i []) ≤ 10000000) ∧ ∀ i, wts (c.say.getD i []) ≤ 10000000 := by
    have hcl : c.move.length + c.say.length ≤ 1048576 := cb.r
    exact ⟨⟨by omega, by omega, by omega⟩, cw.start, cw.fin, fun i => wts_getD cw.move i, fun i => wts_getD cw.say i⟩
  have hwr : ∀ {r : List Fr} {n : Nat}, (∀ f ∈ r, bf f ≤ 2) → r.length ≤ n → wts r ≤ 3 * n := fun {r n} h hn => Nat.le_trans (wts_le h) (Nat.mul_le_mul_left 3 hn)
  have hfr : fitP m c → RwC 200 m c := fun hf => by
    obtain ⟨⟨a1, a2, a3, a4⟩, _, _, a7⟩ := hf.parts
    have hm : ∀ f ∈ allW (⟨c.start, c.move, c.fin, c.say⟩ : Md), bf f ≤ 2 := fun f hf => plain_le hp hf
    unfold allW at hm
    refine ⟨⟨a1, a3, a2, a4⟩, ?_, ?_, fun i hi => ⟨(a7 i hi).1, ?_⟩, fun i hi => ⟨by rw [(a7 i hi).2.1, (valid_row hv hi).2.1], ?_⟩⟩
    · exact Nat.le_trans (hwr (n := 64) (fun f hf => hm f (by simp only [List.mem_append]; exact .inl (.inl (.inl hf)))) (by omega)) (by decide)
    · exact Nat.le_trans (hwr (n := 64) (fun f hf => hm f (by simp only [List.mem_append]; exact .inl (.inl (.inr hf)))) (by omega)) (by decide)
    · exact Nat.le_trans (hwr (n := 64) (fun f hf => hm f (by simp only [List.mem_append]; exact .inl (.inr (row_in (getD_mem' c.move [] (by omega)) hf)))) (by rw [(a7 i hi).1]; omega)) (by decide)
    · exact Nat.le_trans (hwr (n := 64) (fun f hf => hm f (by simp only [List.mem_append]; exact .inr (row_in (getD_mem' c.say [] (by omega)) hf))) (by rw [(a7 i hi).2.1]; omega)) (by decide)
  have hfr2 : fitP m c → RwM 1900000 m ∧ RwC 1900000 m c := fun hf => ⟨rM2, (hfr hf).weak (by decide)⟩
  have hz : MdC md0 := ⟨⟨Nat.zero_le _, (fun r hr => by cases hr), Nat.zero_le _, (fun r hr => by cases hr)⟩, Nat.zero_le _, Nat.zero_le _⟩
  have hme : MdB 10000000 m ∧ checkE [m] [] = 0 := ⟨hw, hE⟩
  repeat first | refine nx ?_ | intro _
  refine gJ [] (fun cA => ?_) (fun cA => ?_) ?_
  · have e : fitB m c = false := by simpa using cA
    have e1 : rsM m c = md0 := by unfold rsM; rw [e]; rfl
    have e2 : rsE m c = 2 := by unfold rsE; rw [e]; rfl
    rw [e1, e2]
    repeat first | refine nx ?_ | intro _
    refine gIf (fun c3 => ?_) fun c3 => ?_
    · rcases c3 with c3 | c3
      · exact absurd rfl c3
      · rw [show sameM md0 ⟨[], [], [], []⟩ = true from sameM_refl md0] at c3
        exact absurd c3 (by decide)
    repeat first | refine nx ?_ | intro _
    exact gM
  · have e : fitB m c = true := by simpa using cA
    have e1 : rsM m c = reeM m c := by unfold rsM; rw [e]; rfl
    have e2 : rsE m c = 0 := by unfold rsE; rw [e]; rfl
    have hf : fitP m c := of_decide_eq_true e
    rw [e1, e2]
    have hR := hfr hf
    have rC2 := (hfr2 hf).2
    have hN := fit_nn hf
    have hvk := ree_ok ft fC hv hlg rM (hR.weak (show 200 ≤ 1000 by decide))
    have hal := hvk.1.all hvk.2 (by omega) hy (by decide)
    have hb1 := hal.1
    have hb2 := hal.2.1
    have hb3 : checkE [reeM m c] [] = 0 := hal.2.2
    have hsm2 := sameM_refl (reeM m c)
    repeat first | refine nx ?_ | intro _
    rw [hsm2, hb3]
    refine gIf (fun c3 => ?_) fun c3 => ?_
    · rcases c3 with (c3 | c3) | c3
      · exact absurd rfl c3
      · exact absurd c3 (by decide)
      · exact absurd rfl c3
    repeat first | refine nx ?_ | intro _
    exact gM
  · have hme2 : (MdB 10000000 m ∧ checkE [m] [] = 0) ∧ RwM 1900000 m ∧ -9223372036854775808 ≤ d ∧ d ≤ 9223372036854775807 := ⟨hme, rM2, ud⟩
    repeat first | refine nx ?_ | intro _
    refine gIf (fun cd => ?_) fun cd => ?_
    · have e1 : coR m d = md0 := if_pos cd
      have e2 : coE d = 2 := if_pos cd
      rw [e1, e2]
      repeat first | refine nx ?_ | intro _
      rw [show sameM md0 ⟨[], [], [], []⟩ = true from sameM_refl md0]
      rfl
    · have e1 : coR m d = coaM m d := if_neg cd
      have e2 : coE d = 0 := if_neg cd
      rw [e1, e2]
      have hvk := coa_ok ft hv rM cd ud.2
      have hal := hvk.1.all hvk.2 (by omega) hy (by decide)
      have hb1 := hal.1
      have hb2 := hal.2.1
      have hb3 : checkE [coaM m d] [] = 0 := hal.2.2
      have hsm2 := sameM_refl (coaM m d)
      have hd1 : 1 ≤ d ∧ d ≤ 9223372036854775807 := ⟨by omega, ud.2⟩
      repeat first | refine nx ?_ | intro _
      rw [hsm2, hb3]
      rfl
end Go.E3
