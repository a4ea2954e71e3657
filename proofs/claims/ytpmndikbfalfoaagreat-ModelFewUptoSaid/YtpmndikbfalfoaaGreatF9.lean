/- F9: a part of the proofs about package model: how the program's functions run, and what they compute, for every input. -/
import Derived.Test.YtpmndikbfalfoaaGreatF8
set_option linter.all false
set_option linter.unusedVariables false
set_option maxRecDepth 20000
set_option maxHeartbeats 16000000
set_option synthInstance.maxSize 1000
namespace Go.E3
open Go Go.Ear Go.Proofs
attribute [local irreducible] rbw rY rWm Go.Ear.rM rTot rSay rMov aS aE aY aM rfw upTo
@[reducible] def zeC (m : Md) : Go.Ear.Ct := ⟨List.replicate m.start.length 0, List.replicate m.start.length (List.replicate m.start.length 0), List.replicate m.start.length 0, List.replicate m.start.length (List.replicate (symb m) 0), 0, 0, 0⟩
theorem zeS (m : Md) : List.replicate m.start.length fr0 = (zeC m).start.map frK := by
  show _ = (List.replicate _ 0).map frK; rw [List.map_replicate, frK_zero]
theorem zeM (m : Md) : List.replicate m.start.length (List.replicate m.start.length fr0) = (zeC m).move.map (·.map frK) := by
  show _ = (List.replicate _ (List.replicate _ 0)).map (·.map frK); rw [List.map_replicate, List.map_replicate, frK_zero]
theorem zeY (m : Md) : List.replicate m.start.length (List.replicate (symb m) fr0) = (zeC m).say.map (·.map frK) := by
  show _ = (List.replicate _ (List.replicate _ 0)).map (·.map frK); rw [List.map_replicate, List.map_replicate, frK_zero]
def rfT (m : Md) (o : List Int) (keep : Int) : Rat := rTot ⟨m, o⟩ (fT m o keep)
def rfC (m : Md) (o : List Int) (keep : Int) : Go.Ear.Ct := if rfT m o keep = 0 then ct0 else { addCt ⟨m, o⟩ (fT m o keep) (zeC m) with used := 1, unused := 0 }
def rfL (m : Md) (o : List Int) (keep : Int) : Rat := if rfT m o keep = 0 then 0 else 1 - rfT m o keep / lk ⟨m, o⟩
section
variable {m : Md} {o : List Int} {keep : Int} {S T : SV}
instance rFew_c [i : VM S m] [j : Vw (lv rI) T o] : Ct Tryz.prog 76 [S, T, iv keep] (TOk ⟨m, o⟩ ∧ MdB 100000 m ∧ MdW 100 m ∧ RfB ⟨m, o⟩ keep ∧ RfB ⟨m, o⟩ (m.start.length : Int) ∧ FwB ⟨m, o⟩ ∧ AdB ⟨m, o⟩ (fT m o keep) (zeC m) ∧ (symb m ≤ 1048576 ∧ bq (lk ⟨m, o⟩) ≤ 60000000) ∧ (rfT m o keep ≠ 0 → lk ⟨m, o⟩ ≠ 0)) (.tp [ctv (rfC m o keep), kk (rfL m o keep), bv (!decide (rfT m o keep = 0))]) := by
  haveI := i.t
  refine ct2 i.v j (ctI Tryz.call76 Tryz.func76 Tryz.ntmps76 rfl Tryz.results76 rfl [16] fun h0 w0 ⟨tk, hb, hw, hrf, hrs, hf, had, ⟨hsy, hlq⟩, hnz⟩ => ?_)
  have hs40 := tk.s40
  have hs1 := tk.s1
  have hsl := tk.say
  dsimp only at hs40 hs1 hsl
  have hw5 : MdW 5000 m := ⟨fun i => Nat.le_trans (hw.st i) (by decide), fun i j => Nat.le_trans (hw.mv i j) (by decide), fun i => Nat.le_trans (hw.fi i) (by decide), fun i x => Nat.le_trans (hw.sy i x) (by decide)⟩
  have htq := had.tot
  iterate 23 (first | refine gDz 8 7 (by rfl) (by kernel_rfl) ?_ | refine nx ?_ | intro _)
  rename_i v6 v7 ν
  have cn : ∃ z : CnT, z = cnZ (ν 16).l := ⟨_, rfl⟩
  obtain ⟨⟨a, mm, e, y, vm, vy⟩, hz⟩ := cn
  rw [← hz]
  dsimp only
  generalize (ν 9).v = c
  rw [zeM m, zeY m, zeS m]
  have hlq2 : bq (rTot ⟨m, o⟩ (fT m o keep)) ≤ 60000000 := htq
  repeat first | refine nx ?_ | intro _
  by_cases hT : rTot ⟨m, o⟩ (fT m o keep) = 0
  · have e0 : rfT m o keep = 0 := hT
    have e1 : rfC m o keep = ct0 := if_pos e0
    have e2 : rfL m o keep = 0 := if_pos e0
    rw [e1, e2, decide_eq_true e0]
    refine gIf (fun c0 => ?_) fun c0 => ?_
    · repeat first | refine nx ?_ | intro _
      rw [frK_zero]; (repeat' (first | refine And.intro ?_ ?_ | trivial | rfl | omega))
    · exact absurd (sgQ_zero.2 hT) c0
  · have e0 : rfT m o keep ≠ 0 := hT
    have e1 : rfC m o keep = { addCt ⟨m, o⟩ (fT m o keep) (zeC m) with used := 1, unused := 0 } := if_neg e0
    have e2 : rfL m o keep = 1 - rfT m o keep / lk ⟨m, o⟩ := if_neg e0
    rw [e1, e2, decide_eq_false e0, if_neg hT]
    refine gIf (fun c0 => ?_) fun c0 => ?_
    · exact absurd (sgQ_zero.1 c0) hT
    have hz := hnz e0
    have hdq := bq_div (rTot ⟨m, o⟩ (fT m o keep)) (lk ⟨m, o⟩)
    have h11 : bq ((1 : Int) : Rat) ≤ 2 := bq_intc (by decide) (by decide)
    dsimp only [cnR]
    refine gFz a ?_
    refine gFz e ?_
    refine gFzM mm ?_
    refine gFzM y ?_
    repeat first | refine gDxL 11 (fun _ => false) 8 (by rfl) (by kernel_rfl) ?_ | refine nx ?_ | intro _
    unfold rfT; (repeat' (first | refine And.intro ?_ ?_ | trivial | rfl | omega))
end
end Go.E3
