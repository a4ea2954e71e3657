/- A47: a part of the proofs about what is clipped and stored: how the program's functions run, and what they compute, for every input. -/
import Derived.Test.YthlpenhbcmbgoaaGreatDoorA46
set_option linter.all false
set_option linter.unusedVariables false
set_option maxRecDepth 20000
set_option maxHeartbeats 4000000
set_option synthInstance.maxSize 1000
namespace Go.E3
open Go Go.Ear Go.Proofs
def idxK (K : List (List Int)) (p : List Int) : Nat := K.findIdx fun x => decide (x = p)
def phN (p : List Int) : Int := p.getD (p.length - 1) 0
def paN (K : List (List Int)) (p : List Int) : Int := if p = [] then -1 else idxP (fun x => decide (x = p.take (p.length - 1))) K
def enN (l : List En) (p : List Int) (n : Nat) : List Int := ((List.range n).filter fun i => decide ((l.getD i en0).ph = p)).map fun i : Nat => (i : Int)
def bsT (p : List Int) (b : Fr) (e : En) : Fr := if e.ph.take p.length = p ∧ 0 < sgQ (e.f.rat - b.rat) then frK e.f.rat else b
def bsN (l : List En) (p : List Int) (n : Nat) : Fr := (l.take n).foldl (bsT p) fr0
def trN (l : List En) (K : List (List Int)) (p : List Int) : Nd := ⟨phN p, paN K p, enN l p l.length, bsN l p l.length⟩
def trL (l : List En) : List Nd := (begS l).map (trN l (begS l))
def numB (K : List (List Int)) (k : Nat) : Bag (List Int) := (List.range k).map fun j => (K.getD j [], ((j : Nat) : Rat))
def mkI (_ : List Int) (x : Rat) : Int := x.num
abbrev MI (K : List (List Int)) (k : Nat) : List (ByteArray × Int) → Prop := fun l => MK prtB mkI l (numB K k)
def bsC (l : List En) (p : List Int) (n c : Nat) : Fr := if c ≤ p.length then bsN l p (n + 1) else bsN l p n
def osK (l : List En) (K : List (List Int)) (vs : List Value) (n c : Nat) : List NdO := (List.range K.length).map fun k => ⟨phN (K.getD k []), paN K (K.getD k []), vs.getD k vnil, bsC l (K.getD k []) n c⟩
def lsK (l : List En) (K : List (List Int)) (n : Nat) : List (List Int) := (List.range K.length).map fun k => enN l (K.getD k []) n
end Go.E3
namespace Go.E3
open Go Go.Ear Go.Proofs
def osN (l : List En) (K : List (List Int)) (vs : List Value) (n : Nat) : List NdO := (List.range K.length).map fun k => ⟨phN (K.getD k []), paN K (K.getD k []), vs.getD k vnil, bsN l (K.getD k []) n⟩
def atN (K : List (List Int)) (p : List Int) (c : Nat) : Int := if c = 0 then -1 else (idxK K (p.take (c - 1)) : Nat)
section
variable {l : List En} {K : List (List Int)} {vs : List Value} {n : Nat}
end
end Go.E3
namespace Go.E3
open Go Go.Ear Go.Proofs
end Go.E3
