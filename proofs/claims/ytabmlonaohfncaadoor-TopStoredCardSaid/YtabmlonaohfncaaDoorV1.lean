/- V1: a part of the proofs about what is clipped and stored: how the program's functions run, and what they compute, for every input. -/
import Derived.Test.YtabmlonaohfncaaDoorK7
set_option linter.all false
set_option linter.unusedVariables false
set_option maxRecDepth 20000
set_option maxHeartbeats 4000000
set_option synthInstance.maxSize 1000
namespace Go.E3
open Go Go.Ear Go.Proofs
def rY : Rp Nat := mkRp 1 (fun x => [.cv (.int .u8 (x : Int))]) (fun _ => rfl) (fun _ => rfl)
instance : RpC rY (fun x => [.cv (.int .u8 (x : Int))]) := ⟨Iff.rfl⟩
instance : Rk rY 1 := ⟨rfl⟩
instance {i : Int} {a : Nat} [x : IN i a] : Rd rY (.cv (.int .u8 i)) a := ⟨fun u => by rw [x.e] at u; exact one_cells u rfl⟩
instance : RT Tryd.prog 5 Nat rY 1 0 := ⟨Tryd.sizeOf5, _, _, ⟨Tryd.type5, rfl, rfl, rfl, rfl⟩, fun _ => ⟨rfl, trivial⟩⟩
def rSg : Rp (Int × Int) := mkRp 2 (fun x => [iv x.1, iv x.2]) (fun _ => rfl) (fun _ => rfl)
instance : RpC rSg (fun x => [iv x.1, iv x.2]) := ⟨Iff.rfl⟩
instance : Rk rSg 2 := ⟨rfl⟩
instance : D0 (Int × Int) (0, 0) := ⟨trivial⟩
instance : RT Tryd.prog 39 (Int × Int) rSg 16 (0, 0) := ⟨Tryd.sizeOf39, _, _, ⟨Tryd.type39, rfl, rfl, rfl, rfl⟩, fun _ => ⟨rfl, rfl, trivial⟩⟩
instance {x y : Int} : Rd rSg (.ag [iv x, iv y]) (x, y) := ⟨fun ⟨vs, h, u⟩ => by
  match vs, u with
  | [_, _], ⟨a, b, _⟩ => subst h; exact ⟨a, b, trivial⟩⟩
theorem conv_u8 {a : Nat} : IntKind.u8.wrap (a : Int) = ((a % 256 : Nat) : Int) := by rw [IntKind.wrap_u8]; omega
theorem conv_u32i {a : Int} : IntKind.u32.wrap a = (((a % 4294967296).toNat : Nat) : Int) := by rw [IntKind.wrap_u32]; omega
theorem or_i64 {P : Program} {a b : Nat} (ha : a < 9223372036854775808) (hb : b < 9223372036854775808) (w : World) : (Op.intBits .or .i64 (a : Int) (b : Int)).run P w = .ok (.int .i64 ((a ||| b : Nat) : Int)) w := by
  have h := Nat.or_lt_two_pow (x := a) (y := b) (n := 63) ha hb
  have e : IntKind.i64.wrap ((BitVec.ofInt 64 (a : Int) ||| BitVec.ofInt 64 (b : Int)).toNat : Int) = ((a ||| b : Nat) : Int) := by
    have ea : (BitVec.ofInt 64 (a : Int)).toNat = a := by simp; omega
    have eb : (BitVec.ofInt 64 (b : Int)).toNat = b := by simp; omega
    rw [BitVec.toNat_or, ea, eb]
    exact conv_i64 (by omega)
  show Result.ok (Value.int .i64 (IntKind.i64.wrap ((BitVec.ofInt 64 (a : Int) ||| BitVec.ofInt 64 (b : Int)).toNat : Int))) w = _
  rw [e]
section
variable {P : Program} {n : Nat} {c : Bool} {loc env : EL} {B : List Res} {ms : List Nat} {d : Nat} {x y : Operand} {t u : TypeId} {i j : Int} {a b : Nat}
section
variable [lx : Lu n c loc env x (.cv (.int .u32 i))] [ly : Lu n c loc env y (.cv (.int .u32 j))] [a1 : IN i a] [b1 : IN j b]
instance (priority := 20000) : St P n c loc env B ms d (.binOp .mul t x y u) True (.cv (.int .u32 ((a * b % 4294967296 : Nat) : Int))) := .p fun q sd _ _ _ _ _ s _ _ _ _ _ k => OpW.mul (cvE (lx.h q (s.f x))) (cvE (ly.h q (s.f y))) (by rw [a1.e, b1.e, ← Int.natCast_mul]; exact conv_u32) (k _ rfl)
instance (priority := 20000) : St P n c loc env B ms d (.binOp .add t x y u) True (.cv (.int .u32 (((a + b) % 4294967296 : Nat) : Int))) := .p fun q sd _ _ _ _ _ s _ _ _ _ _ k => OpW.add (cvE (lx.h q (s.f x))) (cvE (ly.h q (s.f y))) (by rw [a1.e, b1.e, ← Int.natCast_add]; exact conv_u32) (k _ rfl)
end
instance (priority := 20000) [lx : Lu n c loc env x (.cv (.int .u32 i))] [a1 : IN i a] [td : TD P t] [ti : TI P u .u8] : St P n c loc env B ms d (.convert t u x) True (.cv (.int .u8 ((a % 256 : Nat) : Int))) := .p fun q sd _ _ _ _ _ s _ _ _ _ _ k => by
  obtain ⟨_, hd⟩ := td.h
  exact OpW.convI hd ti.h (cvE (lx.h q (s.f x))) (by rw [a1.e]; exact conv_u8) (k _ rfl)
instance (priority := 300) [lx : Lu n c loc env x (.cv (.int .i64 i))] [td : TD P t] [ti : TI P u .u32] : St P n c loc env B ms d (.convert t u x) True (.cv (.int .u32 (((i % 4294967296).toNat : Nat) : Int))) := .p fun q sd _ _ _ _ _ s _ _ _ _ _ k => by
  obtain ⟨_, hd⟩ := td.h
  exact OpW.convI hd ti.h (cvE (lx.h q (s.f x))) conv_u32i (k _ rfl)
instance [lx : Lu n c loc env x (.cv (.int .i64 i))] [ly : Lu n c loc env y (.cv (.int .i64 j))] [a1 : IN i a] [b1 : IN j b] : St P n c loc env B ms d (.binOp .or t x y u) (a < 9223372036854775808 ∧ b < 9223372036854775808) (.cv (.int .i64 ((a ||| b : Nat) : Int))) := .p fun q sd _ _ _ _ _ s _ _ _ _ _ k => OpW.bits (.inr (.inl rfl)) (cvE (lx.h q (s.f x))) (cvE (ly.h q (s.f y))) (fun w => by rw [a1.e, b1.e]; exact or_i64 sd.1 sd.2 w) (k _ rfl)
end
def sumS (c x : Nat) : Nat := ((65599 * c % 4294967296 + x % 4294967296) % 4294967296 + 1) % 4294967296
def sumB (b : List Nat) : Nat := b.foldl sumS 1
theorem foldl_take {α β : Type} (f : β → α → β) (s : β) (l : List α) (d : α) {k : Nat} (h : k < l.length) : (l.take (k + 1)).foldl f s = f ((l.take k).foldl f s) (l.getD k d) := by
  rw [List.take_add_one, List.foldl_append, List.getElem?_eq_getElem h, List.getD_eq_getElem?_getD, List.getElem?_eq_getElem h]; rfl
theorem foldl_full {α β : Type} (f : β → α → β) (s : β) (l : List α) {k : Nat} (h : l.length ≤ k) : (l.take k).foldl f s = l.foldl f s := by rw [List.take_of_length_le h]
instance sum_c {l : List Nat} {S : SV} [j : Vw (lv rY) S l] : Ct Tryd.prog 38 [S] (l.length ≤ 1000000) (.cv (.int .u32 ((sumB l : Nat) : Int))) := by
  refine ct1 j (ctI Tryd.call38 Tryd.func38 Tryd.ntmps38 rfl Tryd.results38 rfl [] fun h0 w0 hl => ?_)
  repeat first | refine nx ?_ | intro _
  refine gLp (fun k : Nat => [(8, iv k), (3, .cv (.int .u32 (((l.take k).foldl sumS 1 : Nat) : Int)))]) (fun _ => []) (fun k => k ≤ l.length) (fun k => l.length - k) 0 (Nat.zero_le _) fun k hk => ?_
  repeat first | refine nx ?_ | intro _
  refine gIf (fun c1 => ?_) fun c1 => ?_ <;> repeat first | refine nx ?_ | intro _
  · refine gBk (k + 1) c1 (by omega) (h1 := by rw [foldl_take sumS 1 l 0 c1]; simp [sumS])
  · rw [foldl_full sumS 1 l (by omega)]; rfl
end Go.E3
