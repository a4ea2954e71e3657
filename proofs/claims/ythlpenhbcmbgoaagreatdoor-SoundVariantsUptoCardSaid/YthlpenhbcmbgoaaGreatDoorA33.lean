/- A33: a part of the proofs about what is clipped and stored: how the program's functions run, and what they compute, for every input. -/
import Derived.Test.YthlpenhbcmbgoaaGreatDoorA32
set_option linter.all false
set_option linter.unusedVariables false
set_option maxRecDepth 20000
set_option maxHeartbeats 4000000
set_option synthInstance.maxSize 1000
namespace Go.E3
open Go Go.Ear Go.Proofs
def saidB (ws : List ByteArray) (most : Nat) : Bool := ((List.range (min ws.length (most + 1))).all fun i => decide ((ws.getD i ByteArray.empty).size ≤ 60)) && decide (ws.length ≤ most)
def longB (l : List En) (most : Int) : Bool := l.any fun e => decide (most < e.ph.length)
instance long_c {l : List En} {most : Int} {S : SV} [i : Vw lxv S l] : Ct Tryz.prog 16 [S, iv most] (l.length ≤ 1099511627776) (bv (longB l most)) := by
  refine ct1 i (ctI Tryz.call16 Tryz.func16 Tryz.ntmps16 rfl Tryz.results16 rfl [] fun h0 w0 hl => ?_)
  repeat first | refine nx ?_ | intro _
  refine gLp (fun k : Nat => [(5, iv k)]) (fun _ => []) (fun k => k ≤ l.length ∧ ∀ j, j < k → ¬ most < ((l.getD j en0).ph.length : Int)) (fun k => l.length - k) 0 ⟨Nat.zero_le _, fun j h => absurd h (Nat.not_lt_zero _)⟩ (fun k ⟨hk, hn⟩ => ?_)
  repeat first | refine nx ?_ | intro _
  refine gIf (fun c => ?_) fun c => ?_
  · repeat first | refine nx ?_ | intro _
    refine gIf (fun c2 => ?_) fun c2 => ?_ <;> repeat first | refine nx ?_ | intro _
    · exact (List.any_eq_true.2 ⟨_, getD_in en0 c, decide_eq_true c2⟩).symm
    · refine gBk (k + 1) ⟨by omega, fun j hj => ?_⟩ (by omega)
      by_cases e : j = k
      · rw [e]; exact c2
      · exact hn j (by omega)
  · repeat first | refine nx ?_ | intro _
    refine (List.any_eq_false.2 fun e he => ?_).symm
    obtain ⟨k, hk, rfl⟩ := getD_mem (d := en0) he
    exact fun h => hn k (by omega) (of_decide_eq_true h)
instance said_c {ws : List ByteArray} {most : Int} {n : Nat} {S : SV} [x : IN most n] [i : Vw (lv rQ) S ws] : Ct Tryz.prog 15 [S, iv most] (ws.length ≤ 1099511627776 ∧ n ≤ 1000) (bv (saidB ws n)) := by
  refine ct1 i (ctI Tryz.call15 Tryz.func15 Tryz.ntmps15 rfl Tryz.results15 rfl [] fun h0 w0 ⟨hl, hn⟩ => ?_)
  rw [x.e]
  repeat first | refine nx ?_ | intro _
  refine gLp (fun k : Nat => [(5, iv k)]) (fun _ => []) (fun k => k ≤ min ws.length (n + 1) ∧ ∀ j, j < k → (ws.getD j ByteArray.empty).size ≤ 60) (fun k => min ws.length (n + 1) - k) 0 ⟨Nat.zero_le _, fun j h => absurd h (Nat.not_lt_zero _)⟩ (fun k ⟨hk, hn2⟩ => ?_)
  repeat first | refine nx ?_ | intro _
  refine gIf (fun c => ?_) fun c => ?_
  · have hkw : k < ws.length := by omega
    repeat first | refine nx ?_ | intro _
    refine gIf (fun c2 => ?_) fun c2 => ?_ <;> repeat first | refine nx ?_ | intro _
    · unfold saidB
      rw [List.all_eq_false.2 ⟨k, List.mem_range.2 (by omega), by simpa using c2⟩, Bool.false_and]
    · refine gBk (k + 1) ⟨by omega, fun j hj => ?_⟩ (by omega)
      by_cases e : j = k
      · rw [e]; omega
      · exact hn2 j (by omega)
  · repeat first | refine nx ?_ | intro _
    have hall : ((List.range (min ws.length (n + 1))).all fun i => decide ((ws.getD i ByteArray.empty).size ≤ 60)) = true := List.all_eq_true.2 fun j hj => decide_eq_true (hn2 j (by have := List.mem_range.1 hj; omega))
    unfold saidB
    rw [hall, Bool.true_and]
theorem sQ_fm {α β : Type} (f : α → List β) (g : β → Rat) : ∀ l : List α, sQ ((l.flatMap f).map g) = sQ (l.map fun a => sQ ((f a).map g))
  | [] => rfl
  | a :: l => by
    rw [List.flatMap_cons, List.map_append, sQ_app, sQ_fm f g l]; rfl
theorem prB_pos {r : List Rw} {C : List (List En)} {D : Nat} (ok : PrOk r C D) : PosB (prB r C) := by
  have := (prB_wb ok C.length).pos
  rwa [List.take_length] at this
end Go.E3
