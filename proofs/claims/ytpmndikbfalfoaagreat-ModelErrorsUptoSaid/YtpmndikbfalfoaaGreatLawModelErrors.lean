/- LawModelErrors: a part of the proofs about package model: how the program's functions run, and what they compute, for every input. -/
import Derived.Test.YtpmndikbfalfoaaGreatH11
set_option linter.all false
set_option linter.unusedVariables false
set_option maxRecDepth 20000
set_option maxHeartbeats 8000000
set_option synthInstance.maxSize 1000
namespace Go.E3
open Go Go.Ear Go.Proofs
theorem ct4a {α β : Type} {v : α → SV} {x : α} {v2 : β → SV} {y : β} {P : Program} {f : FuncId} {sd : Prop} {S T R A C : SV} (i : Vw v S x) (j : Vw v2 T y) (c : Ct P f [v x, A, C, v2 y] sd R) : Ct P f [S, A, C, T] sd R := c.az fun {h vs} u => by
  match vs, u with
  | [_, _, _, _], ⟨a, b, c, d, e⟩ => exact ⟨i.h a, b, c, j.h d, e⟩
section
variable {m : Md} {o path : List Int} {data : List (List Int)} {S T U : SV} {x y : Int}
instance PosteriorE_c [i : VM S m] [j : Vw (lv rI) T o] : Ct Tryz.prog 50 [S, T] ((o.length ≤ 1099511627776 ∧ MdB 10000000 m) ∧ checkE [m] [o] ≠ 0) (.tp [.cv (.slice none 0 0), iv (checkE [m] [o])]) := by
  haveI := i.t
  refine ct2 i.v j (ctI Tryz.call50 Tryz.func50 Tryz.ntmps50 rfl Tryz.results50 rfl [] fun h0 w0 ⟨⟨h1, h2⟩, h3⟩ => ?_)
  have hx := one_mdb h2
  have ho := one_len h1
  repeat first | refine nx ?_ | intro _
  refine gIf (fun c => ?_) fun c => absurd h3 c
  repeat first | refine nx ?_ | intro _
  trivial
instance FewE_c [i : VM S m] [j : Vw (lv rI) T o] : Ct Tryz.prog 75 [S, T, iv x] ((o.length ≤ 1099511627776 ∧ MdB 10000000 m) ∧ checkE [m] [o] ≠ 0) (.tp [cF cf0, fv fr0, iv (checkE [m] [o])]) := by
  haveI := i.t
  refine ct2 i.v j (ctI Tryz.call75 Tryz.func75 Tryz.ntmps75 rfl Tryz.results75 rfl [] fun h0 w0 ⟨⟨h1, h2⟩, h3⟩ => ?_)
  have hx := one_mdb h2
  have ho := one_len h1
  repeat first | refine nx ?_ | intro _
  refine gIf (fun c => ?_) fun c => absurd h3 c
  repeat first | refine nx ?_ | intro _
  exact ⟨⟨rfl, rfl, rfl, rfl, rfl, rfl⟩, ⟨rfl, rfl, rfl⟩, trivial⟩
instance TrainE_c [i : VM S m] [j : Vw (lv (rL rI)) T data] : Ct Tryz.prog 67 [S, iv x, iv y, T] (((data.length ≤ 1099511627776 ∧ ∀ o ∈ data, o.length ≤ 1099511627776) ∧ MdB 10000000 m) ∧ checkE [m] data ≠ 0) (.tp [mv md0, iv (checkE [m] data)]) := by
  haveI := i.t
  refine ct4a i.v j (ctI Tryz.call67 Tryz.func67 Tryz.ntmps67 rfl Tryz.results67 rfl [] fun h0 w0 ⟨⟨⟨h1, h1'⟩, h2⟩, h3⟩ => ?_)
  have hx := one_mdb h2
  repeat first | refine nx ?_ | intro _
  refine gIf (fun c => ?_) fun c => absurd h3 c
  repeat first | refine nx ?_ | intro _
  exact ⟨⟨rfl, rfl, rfl, rfl⟩, trivial⟩
instance WeightE_c [i : VM S m] [j : Vw (lv rI) T o] : Ct Tryz.prog 63 [S, T, U] ((o.length ≤ 1099511627776 ∧ MdB 10000000 m) ∧ checkE [m] [o] ≠ 0) (.tp [fv fr0, iv (checkE [m] [o])]) := by
  haveI := i.t
  refine ct2 i.v j (ctI Tryz.call63 Tryz.func63 Tryz.ntmps63 rfl Tryz.results63 rfl [] fun h0 w0 ⟨⟨h1, h2⟩, h3⟩ => ?_)
  have hx := one_mdb h2
  have ho := one_len h1
  repeat first | refine nx ?_ | intro _
  refine gIf (fun c => ?_) fun c => absurd h3 c
  repeat first | refine nx ?_ | intro _
  exact ⟨⟨rfl, rfl, rfl⟩, trivial⟩
instance : FtC cf0 := inferInstanceAs (FtC ⟨[], [], [], [], 0, 0⟩)
theorem UpK.c {m : Md} (u : UpK m) : MdC m := ⟨u.w.weak (by decide), by have := u.b.r; omega⟩
theorem modelErrors_c (up : UpK m) (uo : o.length ≤ 1048576 ∧ I64s o) : Ct Tryz.prog 18 [mv m, lv rI o] True (bv true) := by
  refine (ctI Tryz.call18 Tryz.func18 Tryz.ntmps18 rfl Tryz.results18 rfl [] fun h0 w0 _ => ?_)
  have ft := up.t
  have hb := up.b
  have hw := up.w
  have ho := uo.1
  repeat first | refine nx ?_ | intro _
  refine gIf (fun c => ?_) fun c => ?_
  · repeat first | refine nx ?_ | intro _
    trivial
  clear c
  have cu := up.c
  have hr := hb.r
  have f0 : MdB 10000000 m ∧ m.say.length ≤ 1048576 ∧ m.move.length ≤ 1048576 := ⟨hw, by omega, by omega⟩
  repeat first | refine nx ?_ | intro _
  refine gIf (fun c => ?_) fun c => ?_
  · repeat first | refine nx ?_ | intro _
    trivial
  have hE : checkE [m] [o] ≠ 0 := c
  have o1 : o.length ≤ 1099511627776 := by omega
  have f1 : o.length ≤ 1099511627776 ∧ MdB 10000000 m ∧ (checkE [m] [o] = 0 → MdB 100000 m ∧ FwB ⟨m, o⟩) := ⟨o1, hw, fun e => absurd e hE⟩
  have f2 : o.length ≤ 1099511627776 ∧ MdB 10000000 m ∧ (checkE [m] [o] = 0 → MdB 100000 m ∧ BwB ⟨m, o⟩) := ⟨o1, hw, fun e => absurd e hE⟩
  have f3 : o.length ≤ 1099511627776 ∧ MdB 10000000 m ∧ (checkE [m] [o] = 0 → MdB 100000 m ∧ RsB ⟨m, o⟩) := ⟨o1, hw, fun e => absurd e hE⟩
  have f4 : ([o].length ≤ 1099511627776 ∧ ∀ x ∈ [o], x.length ≤ 1099511627776) ∧ MdB 10000000 m ∧ (checkE [m] [o] = 0 → DOk m [o]) := ⟨⟨by show 1 ≤ _; omega, one_len o1⟩, hw, fun e => absurd e hE⟩
  have f5 : (o.length ≤ 1099511627776 ∧ MdB 10000000 m) ∧ checkE [m] [o] ≠ 0 := ⟨⟨o1, hw⟩, hE⟩
  have f6 : (([o].length ≤ 1099511627776 ∧ ∀ x ∈ [o], x.length ≤ 1099511627776) ∧ MdB 10000000 m) ∧ checkE [m] [o] ≠ 0 := ⟨⟨f4.1, hw⟩, hE⟩
  have e1 : likM m o = 0 := if_neg hE
  have e2 : fwdM m o = [] := if_neg hE
  have e3 : bwdM m o = [] := if_neg hE
  have e4 : bestE m o = checkE [m] [o] := best_err hE
  have e5 : bestP m o = [] := bestP_none (by rw [e4]; exact hE)
  have e6 : bestM m o = 0 := bestM_none (by rw [e4]; exact hE)
  have e7 : cntC m [o] = Go.Ear.ct0 := if_neg hE
  repeat first | refine nx ?_ | intro _
  rw [e4, e7, e1, e2, e3, e5, e6]
  refine gIf (fun c => absurd c (by simp)) fun c => ?_
  have hz0 : bq (0 : Rat) ≤ 134217000 := by rw [bq_zero]; decide
  have hz1 : bf fr0 ≤ 134217000 := by decide
  have g1 : CtC (cntK Go.Ear.ct0) := ⟨⟨by decide, by decide, by decide, by decide⟩, fun r hr => (by cases hr), fun r hr => (by cases hr)⟩
  have g2 : CtC cf0 := ⟨⟨by decide, by decide, by decide, by decide⟩, fun r hr => (by cases hr), fun r hr => (by cases hr)⟩
  have g2' : CtC ⟨[], [], [], [], 0, 0⟩ := g2
  have g3' : MdC ⟨[], [], [], []⟩ := ⟨⟨by decide, fun r hr => (by cases hr), by decide, fun r hr => (by cases hr)⟩, by decide⟩
  have g3 : MdC md0 := ⟨⟨by decide, fun r hr => (by cases hr), by decide, fun r hr => (by cases hr)⟩, by decide⟩
  repeat first | refine nx ?_ | intro _
  decide +kernel
end
end Go.E3
