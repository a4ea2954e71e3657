/- V8: a part of the proofs about what is clipped and stored: how the program's functions run, and what they compute, for every input. -/
import Derived.Test.YtabmlonaohfncaaDoorV7
set_option linter.all false
set_option linter.unusedVariables false
set_option maxRecDepth 20000
set_option maxHeartbeats 8000000
set_option synthInstance.maxSize 1000
namespace Go.E3
open Go Go.Ear Go.Proofs
section
variable {B B1 B2 : List Res} {i j : Int} {n k : Nat} {l : List Nat} {p o v : Value}
instance put_c [a1 : IN i n] [b1 : IN j k] [pv : PV B p [ov o] 46 B1] [pa : PA B1 o Nat rY 5 l B2] : CtR Tryd.prog 37 [.cv (.int .u32 i), iv j, ov p] B (k ≤ 4 ∧ l.length ≤ 1000000) Value (fun _ => .tp []) (fun o => rV p [ov o] 46 :: rA rY 5 o (l ++ byL n k) :: B2) := by
  rw [a1.e, b1.e]; exact put_b.to (pv.h.trans (pa.h.cons _))
instance put0_c [a1 : IN i n] [b1 : IN j k] [pv : PV B p [flv rY l] 46 B1] : CtR Tryd.prog 37 [.cv (.int .u32 i), iv j, ov p] B ((1 ≤ k ∧ k ≤ 4) ∧ l.length ≤ 1000000) Value (fun _ => .tp []) (fun o => rV p [ov o] 46 :: rA rY 5 o (l ++ byL n k) :: B1) := by
  rw [a1.e, b1.e]; exact put0_b.to pv.h
instance sumO_c [ha : HA B v Nat rY 5 l] : CtB Tryd.prog 38 [ov v] B (l.length ≤ 1000000) (.cv (.int .u32 ((sumB l : Nat) : Int))) := by
  refine (ctB Tryd.call38 Tryd.func38 Tryd.ntmps38 rfl Tryd.results38 rfl [] fun h0 w0 hl => ?_)
  repeat first | refine nx ?_ | intro _
  refine gLp (fun k : Nat => [(8, iv k), (3, .cv (.int .u32 (((l.take k).foldl sumS 1 : Nat) : Int)))]) (fun _ => []) (fun k => k ≤ l.length) (fun k => l.length - k) 0 (Nat.zero_le _) fun k hk => ?_
  repeat first | refine nx ?_ | intro _
  refine gIf (fun c1 => ?_) fun c1 => ?_ <;> repeat first | refine nx ?_ | intro _
  · refine gBk (k + 1) c1 (by omega) (h1 := by rw [foldl_take sumS 1 l 0 c1]; simp [sumS])
  · rw [foldl_full sumS 1 l (by omega)]; rfl
end
def smB (v : Int) : List Nat := byL ((v % 4294967296).toNat &&& 65535) 2
def smL (l : List Int) : List Nat := l.flatMap smB
theorem smL_take {l : List Int} {k : Nat} (h : k < l.length) : smL (l.take (k + 1)) = smL (l.take k) ++ smB (l.getD k 0) := by
  unfold smL
  rw [List.take_add_one, List.flatMap_append, List.getElem?_eq_getElem h, List.getD_eq_getElem?_getD, List.getElem?_eq_getElem h]
  simp
theorem smL_len : ∀ (l : List Int), (smL l).length = 2 * l.length
  | [] => rfl
  | v :: l => by
    have := smL_len l
    show (smB v ++ smL l).length = _
    rw [List.length_append, this]
    show (byL _ 2).length + _ = _
    rw [byL_len, List.length_cons]; omega
def hdL (rate : Int) (n : Nat) : List Nat := ([69, 65, 82, 49] ++ byL (rate % 4294967296).toNat 4) ++ byL (n % 4294967296) 4
theorem hdL_len {rate : Int} {n : Nat} : (hdL rate n).length = 12 := by unfold hdL; simp [byL_len]
def packL (rate : Int) (l : List Int) : List Nat := (hdL rate l.length ++ smL l) ++ byL (sumB (hdL rate l.length ++ smL l)) 4
instance pack_c {rate : Int} {l : List Int} : Ct Tryd.prog 13 [rcv rate l] (recE rate l = 0 ∧ l.length ≤ 300) (.tp [lv rY (packL rate l), iv 0]) := by
  refine (ctI Tryd.call13 Tryd.func13 Tryd.ntmps13 rfl Tryd.results13 rfl [5] fun h0 w0 ⟨he, hl⟩ => ?_)
  repeat first | refine gBsC (r := rY) (q := [69, 65, 82, 49]) Tryd.underlying5 ⟨rfl, by rfl⟩ ?_ | refine nx ?_ | intro _
  rw [he]
  refine gIf (fun c => absurd c (by simp)) fun c => ?_
  repeat first | refine gBsC (r := rY) (q := [69, 65, 82, 49]) Tryd.underlying5 ⟨rfl, by rfl⟩ ?_ | refine nx ?_ | intro _
  have hb1 : ([69, 65, 82, 49] ++ byL (rate % 4294967296).toNat 4).length ≤ 1000 := by simp [byL_len]
  repeat first | refine nx ?_ | intro _
  rename_i p o1 o0
  have h0 : (hdL rate l.length).length = 12 := hdL_len
  rw [show [69, 65, 82, 49] ++ byL (rate % 4294967296).toNat 4 ++ byL (OfNat.ofNat (l.length % 4294967296)) 4 = hdL rate l.length from rfl]
  refine gLp (fun s : Nat × Value => [(31, iv s.1)]) (fun s => [rV p [ov s.2] 46, rA rY 5 s.2 (hdL rate l.length ++ smL (l.take s.1))]) (fun s => s.1 ≤ l.length) (fun s => l.length - s.1) (0, o0) (Nat.zero_le _) (fun ⟨j, o2⟩ hj => ?_) (h1 := by simp) (h2 := by simp [smL])
  dsimp only at *
  have h1 : (hdL rate l.length ++ smL (l.take j)).length ≤ 1000 := by rw [List.length_append, h0, smL_len, List.length_take]; omega
  repeat first | refine nx ?_ | intro _
  refine gIf (fun c1 => ?_) fun c1 => ?_
  · have hu : (l.getD j 0 % 4294967296).toNat < 4294967296 := by omega
    repeat first | refine nx ?_ | intro _
    rename_i o3
    exact gBk (j + 1, o3) c1 (by dsimp only; omega) (h2 := by rw [smL_take c1, ← List.append_assoc]; repeat' (first | refine And.intro ?_ ?_ | rfl | trivial))
  · rw [List.take_of_length_le (show l.length ≤ j by omega)] at *
    have h2 : (hdL rate l.length ++ smL l).length ≤ 1000 := by rw [List.length_append, h0, smL_len]; omega
    repeat first | refine nx ?_ | intro _
    exact ⟨rfl, trivial⟩
end Go.E3
