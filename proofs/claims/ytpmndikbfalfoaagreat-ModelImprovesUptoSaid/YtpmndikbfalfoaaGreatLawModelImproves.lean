/- LawModelImproves: a part of the proofs about package model: how the program's functions run, and what they compute, for every input. -/
import Derived.Test.YtpmndikbfalfoaaGreatI2
set_option linter.all false
set_option linter.unusedVariables false
set_option maxRecDepth 20000
set_option maxHeartbeats 16000000
set_option synthInstance.maxSize 1000
namespace Go.E3
open Go Go.Ear Go.Proofs
theorem heardN_allI {m : Md} {data : List (List Int)} {s f n : Nat} (h : heardN m data s f n = true) : data.length ≤ n ∧ smallB m s = true ∧ checkE [m] data = 0 ∧ ∀ o ∈ data, o.length ≤ f := by
  unfold heardN at h
  simp only [Bool.and_eq_true, decide_eq_true_eq, List.all_eq_true] at h
  exact ⟨h.1.1.1, h.1.1.2, h.1.2, h.2⟩
theorem modelImproves_c {m : Md} {data : List (List Int)} (up : UpK m) (ud : data.length ≤ 1048576 ∧ (∀ o ∈ data, o.length ≤ 1048576) ∧ ∀ o ∈ data, I64s o) : Ct Tryz.prog 16 [mv m, lv (rL rI) data] True (bv true) := by
  refine (ctI Tryz.call16 Tryz.func16 Tryz.ntmps16 rfl Tryz.results16 rfl [] fun h0 w0 _ => ?_)
  have ft := up.t
  have hb := up.b
  have hw := up.w
  have hdl := ud.1
  repeat first | refine nx ?_ | intro _
  refine gIf (fun c => ?_) fun c => ?_
  · repeat first | refine nx ?_ | intro _
    trivial
  have hh : heardN m data 3 4 3 = true := by simpa using c
  clear c
  obtain ⟨hd3, hsm, hE, hf4⟩ := heardN_allI hh
  have g := Good.of ft hsm hE
  have hv := g.v
  have rm : RwM 2600000 m := RwM.of hv g.l (g.mB (K := 2600000))
  have hlen := valid_len hv
  have h40 := g.s40
  have hnn := g.nn
  have ok := improves_ok g hE hf4 hd3
  have f1 : ((data.length ≤ 1048576 ∧ ∀ o ∈ data, o.length ≤ 1048576) ∧ MdB 10000000 m ∧ checkE [m] data = 0 ∧ RwM 2600000 m) ∧ (-9223372036854775808 ≤ (0 : Int) ∧ (0 : Int) ≤ 9223372036854775807) ∧ (0 ≤ (1 : Int) → (1 : Int) ≤ 20 → 0 ≤ (0 : Int) → ∀ k, k < (1 : Int).toNat → Rnd (trS m 0 data k) 0 data) := ⟨⟨⟨ud.1, ud.2.1⟩, hw, hE, rm⟩, ⟨by decide, by decide⟩, fun _ _ _ k hk => by
    have : k = 0 := by have : (1 : Int).toNat = 1 := rfl; omega
    subst this; exact ok.rnd⟩
  have e1 : trR m 1 0 data = reeM (canM m) (cntK (cntD (canM m) data)) := rfl
  have e2 : trE 1 0 = 0 := rfl
  generalize hV : reeM (canM m) (cntK (cntD (canM m) data)) = V at *
  haveI : FtM V := by rw [← hV]; infer_instance
  iterate 14 (first | refine nx ?_ | intro _)
  rw [e1, e2]
  have okv := ok.v
  have okl := ok.l
  have oks := ok.s
  have oky := ok.y
  have okR := ok.R
  have lV := valid_len okv
  have wV : MdB 10000000 V := (okR.weak (by decide)).mdb
  have hc0 : checkE [V] [] = 0 := check_good (by rw [okl]; decide) (by decide) rfl okv rfl
  clear f1 e1 e2
  repeat first | refine nx ?_ | intro _
  refine gIf (fun c4 => ?_) fun c4 => ?_
  · exact absurd c4 (by
      rintro (((h | h) | h) | h)
      · exact h rfl
      · exact h hc0
      · exact h (by rw [oks])
      · exact h (by rw [oky]))
  clear c4
  have f2 : (data.length ≤ 1048576 ∧ ∀ o ∈ data, o.length ≤ 1048576) ∧ MdB 100000 m ∧ checkE [m] data = 0 ∧ Nn m ∧ (∀ k, k < data.length → FwB (Go.Ear.trK m data k)) ∧ ∀ k, k < data.length → bq (lkP m data k) + bq (lk (Go.Ear.trK m data k)) ≤ 134216000 := ⟨⟨ud.1, ud.2.1⟩, g.mB, hE, hnn, ok.fm, fun k hk => by have := ok.bm k (by omega); have := ok.lm k hk; omega⟩
  have f3 : (data.length ≤ 1048576 ∧ ∀ o ∈ data, o.length ≤ 1048576) ∧ MdB 100000 V ∧ checkE [V] data = 0 ∧ Nn V ∧ (∀ k, k < data.length → FwB (Go.Ear.trK V data k)) ∧ ∀ k, k < data.length → bq (lkP V data k) + bq (lk (Go.Ear.trK V data k)) ≤ 134216000 := ⟨⟨ud.1, ud.2.1⟩, (okR.weak (by decide)).mdb, ok.c, Nn.of okv, ok.fv, fun k hk => by have := ok.bv k (by omega); have := ok.lv k hk; omega⟩
  have b1 := ok.bm data.length (Nat.le_refl _)
  have b2 := ok.bv data.length (Nat.le_refl _)
  have hmc : MdC m := ⟨g.mB (K := 60000000), by omega, by omega⟩
  have hvc : MdC V := ⟨(okR.weak (by decide)).mdb, by omega, by omega⟩
  have ou := ok.u
  have ole := ok.le
  have oeq := ok.eq
  have oz := ok.z
  repeat first | refine nx ?_ | intro _
  refine gIf (fun c5 => ?_) fun c5 => ?_
  · exact absurd c5 (by
      rintro ((((h | h) | h) | h) | ⟨h, h2⟩)
      · exact h trivial
      · exact h trivial
      · exact h (by rw [ou])
      · have := sgQ_neg.1 h
        grind
      · have h3 := sgQ_zero.1 h2
        exact h (oeq (by grind)))
  clear c5
  have hst := g.s40
  have hy := g.y
  repeat first | refine nx ?_ | intro _
  refine gLp (fun i : Nat => [(13, iv i)]) (fun _ => []) (fun i => i ≤ m.start.length) (fun i => m.start.length - i) 0 (Nat.zero_le _) fun i hi => ?_
  repeat first | refine nx ?_ | intro _
  refine gIf (fun c6 => ?_) fun c6 => ?_
  · have r1 := valid_row hv c6
    have r2 := valid_row okv (i := i) (by omega)
    have mb := g.mB (K := 100000)
    have vb : MdB 100000 V := (okR.weak (by decide)).mdb
    repeat first | refine nx ?_ | intro _
    refine gLp (fun j : Nat => [(14, iv j)]) (fun _ => []) (fun j => j ≤ m.start.length) (fun j => m.start.length - j) 0 (Nat.zero_le _) fun j hj => ?_
    repeat first | refine nx ?_ | intro _
    refine gIf (fun c7 => ?_) fun c7 => ?_
    · have w1 := mb.mvb i j
      have w2 := vb.mvb i j
      repeat first | refine nx ?_ | intro _
      refine gIf (fun c8 => ?_) fun c8 => ?_
      · exact absurd (oz.mv i j c6 c7 (sgQ_zero.1 c8.1)) fun e => c8.2 (sgQ_zero.2 e)
      · repeat first | refine nx ?_ | intro _
        exact gBk (j + 1) (by omega) (by omega)
    · repeat first | refine nx ?_ | intro _
      refine gLp (fun x : Nat => [(15, iv x)]) (fun _ => []) (fun x => x ≤ symb m) (fun x => symb m - x) 0 (Nat.zero_le _) fun x hx => ?_
      repeat first | refine nx ?_ | intro _
      refine gIf (fun c9 => ?_) fun c9 => ?_
      · have w1 := mb.syb i x
        have w2 := vb.syb i x
        repeat first | refine nx ?_ | intro _
        refine gIf (fun ca => ?_) fun ca => ?_
        · exact absurd (oz.sy i x c6 (sgQ_zero.1 ca.1)) fun e => ca.2 (sgQ_zero.2 e)
        · repeat first | refine nx ?_ | intro _
          exact gBk (x + 1) (by omega) (by omega)
      · repeat first | refine nx ?_ | intro _
        exact gBk (i + 1) (by omega) (by omega)
  · repeat first | refine nx ?_ | intro _
    trivial
end Go.E3
