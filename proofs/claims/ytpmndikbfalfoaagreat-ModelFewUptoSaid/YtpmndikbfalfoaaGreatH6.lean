/- H6: a part of the proofs about package model: how the program's functions run, and what they compute, for every input. -/
import Derived.Test.YtpmndikbfalfoaaGreatH5
set_option linter.all false
set_option linter.unusedVariables false
set_option maxRecDepth 20000
set_option maxHeartbeats 8000000
set_option synthInstance.maxSize 1000
namespace Go.E3
open Go Go.Ear Go.Proofs
instance zeros_c {n : Nat} : CtO Tryz.prog 88 [iv (n : Int)] (n ≤ 1048576) (fun g => [rA rF 31 g.v (List.replicate n fr0)]) := by
  refine (ctO Tryz.call88 Tryz.func88 Tryz.ntmps88 rfl Tryz.results88 rfl [] fun h0 w0 hn => ?_)
  repeat first | refine nx ?_ | intro _
  trivial
def refM (q : Nat → Rat) : Nat → Rat
  | 0 => 0
  | j + 1 => if refM q j < q j then q j else refM q j
def qT (t : Tr) (k : Nat) : Nat → Rat := if k = 0 then rq0 t (rst t (t.o.length - 1)) else rq t (rst t (t.o.length - 1 - k)) (atT t (k - 1)) k
def qL (t : Tr) (k i : Nat) : List Fr := (List.range i).map fun j => frK (qT t k j)
instance {t : Tr} {k i : Nat} : FtS (qL t k i) := ⟨fun f hf => by obtain ⟨j, _, rfl⟩ := List.mem_map.1 hf; infer_instance⟩
theorem wts_leB {B : Nat} : ∀ {l : List Fr}, (∀ f ∈ l, bf f ≤ B) → wts l ≤ (B + 1) * l.length
  | [], _ => Nat.le_refl _
  | f :: l, h => by rw [wts_cons, List.length_cons, Nat.mul_succ]; have := h f (List.mem_cons_self ..); have := wts_leB (B := B) fun g hg => h g (List.mem_cons_of_mem _ hg); omega
def isB (t : Tr) : Bool := !(decide (t.o.length = 0) || decide (bestW t = 0))
section
variable {m : Md} {o : List Int} {S T : SV}
end
end Go.E3
