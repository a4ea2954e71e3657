/- A43: a part of the proofs about what is clipped and stored: how the program's functions run, and what they compute, for every input. -/
import Derived.Test.YthlpenhbcmbgoaaGreatDoorA40
set_option linter.all false
set_option linter.unusedVariables false
set_option maxRecDepth 20000
set_option maxHeartbeats 4000000
set_option synthInstance.maxSize 1000
namespace Go.E3
open Go Go.Ear Go.Proofs
def vaB (l : List En) (w : ByteArray) : Bag (List Int) := (ownE l w).map fun e => (e.ph, e.f.rat)
def vaF (l : List En) (w : ByteArray) : List Fo := (ownE l w).map fun e => ⟨e.ph, frK e.f.rat⟩
def vaR (l : List En) (w : ByteArray) : List Fo := (ownE l w).map fun e => ⟨e.ph, e.f⟩
theorem tot_ndb {α : Type} [DecidableEq α] : ∀ {b : Bag α} {p : α} {w : Rat}, (b.map (·.1)).Nodup → (p, w) ∈ b → tot b p = w
  | x :: b, p, w, nd, h => by
    rw [List.map_cons, List.nodup_cons] at nd
    rw [tot_cons]
    rcases List.mem_cons.1 h with h | h
    · subst h
      rw [if_pos rfl, tot_none, Rat.add_zero]
      rintro ⟨v, hv⟩
      exact nd.1 (List.mem_map.2 ⟨_, hv, rfl⟩)
    · rw [if_neg, Rat.zero_add]
      · exact tot_ndb nd.2 h
      · intro e
        exact nd.1 (List.mem_map.2 ⟨_, h, e.symm⟩)
def insW (out : List Fo) (x : Fo) : List Fo := out.takeWhile (fun y => decide (0 ≤ sgQ (y.f.rat - x.f.rat))) ++ [x] ++ out.dropWhile (fun y => decide (0 ≤ sgQ (y.f.rat - x.f.rat)))
def canF (e : Fo) : Fo := ⟨e.ph, frK e.f.rat⟩
def srtW (l : List Fo) : List Fo := (l.map canF).foldl insW []
end Go.E3
