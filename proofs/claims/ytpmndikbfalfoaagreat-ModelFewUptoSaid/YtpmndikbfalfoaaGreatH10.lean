/- H10: a part of the proofs about package model: how the program's functions run, and what they compute, for every input. -/
import Derived.Test.YtpmndikbfalfoaaGreatH9
set_option linter.all false
set_option linter.unusedVariables false
set_option maxRecDepth 20000
set_option maxHeartbeats 8000000
set_option synthInstance.maxSize 1000
namespace Go.E3
open Go Go.Ear Go.Proofs
section
instance eqv_c {a b : Fr} {x y : Rat} {A B : Nat} {S T : SV} [i : VF S a x A] [j : VF T b y B] : Ct Tryz.prog 167 [S, T] (A + B ≤ 134217000) (bv (eqV a b)) := by
  haveI := i.t
  haveI := j.t
  haveI : Rt a x := ⟨i.r⟩
  haveI : Rt b y := ⟨j.r⟩
  haveI : Bfe a A := ⟨i.b⟩
  haveI : Bfe b B := ⟨j.b⟩
  refine ct2 i.v j.v (ctI Tryz.call167 Tryz.func167 Tryz.ntmps167 rfl Tryz.results167 rfl [] fun h0 w0 hs => ?_)
  repeat first | refine nx ?_ | intro _
  unfold eqV
  rw [i.r, j.r]
  exact decide_eq_decide.2 (sgQ_zero.trans rat_sub_zero)
instance eqL_c {a b : List Fr} {S T : SV} [i : VL S a] [j : VL T b] : Ct Tryz.prog 166 [S, T, .cv (.func (.func 167) #[] #[])] (wts a ≤ 60000000 ∧ wts b ≤ 60000000) (bv (equalL a b)) := by
  haveI := i.t
  haveI := j.t
  refine ct3 i.v j.v (v3 := fun _ : Unit => .cv (.func (.func 167) #[] #[])) ⟨fun u => u⟩ (ctI Tryz.call166 Tryz.func166 Tryz.ntmps166 rfl Tryz.results166 rfl [] fun h0 w0 ⟨h1, h2⟩ => ?_) (z := ())
  have hla := len_wts a
  have hlb := len_wts b
  repeat first | refine nx ?_ | intro _
  refine gIf (fun c => ?_) fun c => ?_ <;> repeat first | refine nx ?_ | intro _
  · exact (all2_f1 c).symm
  have hl : a.length = b.length := Classical.not_not.1 c
  refine gLp (fun k : Nat => [(17, iv k)]) (fun _ => []) (fun k => k ≤ a.length ∧ (List.range k).all (eqP eqV fr0 a b) = true) (fun k => a.length - k) 0 ⟨Nat.zero_le _, rfl⟩ fun k ⟨hk, ha⟩ => ?_
  have hba := bf_getD a k
  have hbb := bf_getD b k
  repeat first | refine nx ?_ | intro _
  refine gIf (fun c2 => ?_) fun c2 => ?_ <;> repeat first | refine nx ?_ | intro _
  · refine gIf (fun c3 => ?_) fun c3 => ?_ <;> repeat first | refine nx ?_ | intro _
    · exact (all2_f2 c2 c3).symm
    · exact gBk (k + 1) ⟨by omega, all2_succ ha (Classical.not_not.1 c3)⟩ (by omega)
  · exact (all2_t hl ha (by omega)).symm
instance equal_c {a b : List Fr} {S T : SV} [i : VL S a] [j : VL T b] : Ct Tryz.prog 109 [S, T] (wts a ≤ 60000000 ∧ wts b ≤ 60000000) (bv (equalL a b)) := by
  haveI := i.t
  haveI := j.t
  refine ct2 i.v j.v (ctI Tryz.call109 Tryz.func109 Tryz.ntmps109 rfl Tryz.results109 rfl [] fun h0 w0 ⟨h1, h2⟩ => ?_)
  repeat first | refine nx ?_ | intro _
  trivial
instance eqR_c {a b : List (List Fr)} {S T : SV} [i : VR S a] [j : VR T b] : Ct Tryz.prog 110 [S, T, .cv (.func (.func 109) #[] #[])] ((a.length ≤ 1048576 ∧ b.length ≤ 1048576) ∧ (∀ r ∈ a, wts r ≤ 60000000) ∧ ∀ r ∈ b, wts r ≤ 60000000) (bv (equalR a b)) := by
  haveI := i.t
  haveI := j.t
  refine ct3 i.v j.v (v3 := fun _ : Unit => .cv (.func (.func 109) #[] #[])) ⟨fun u => u⟩ (ctI Tryz.call110 Tryz.func110 Tryz.ntmps110 rfl Tryz.results110 rfl [] fun h0 w0 ⟨⟨h1, h2⟩, h3, h4⟩ => ?_) (z := ())
  repeat first | refine nx ?_ | intro _
  refine gIf (fun c => ?_) fun c => ?_ <;> repeat first | refine nx ?_ | intro _
  · exact (all2_f1 c).symm
  have hl : a.length = b.length := Classical.not_not.1 c
  refine gLp (fun k : Nat => [(17, iv k)]) (fun _ => []) (fun k => k ≤ a.length ∧ (List.range k).all (eqP equalL [] a b) = true) (fun k => a.length - k) 0 ⟨Nat.zero_le _, rfl⟩ fun k ⟨hk, ha⟩ => ?_
  have hba := wts_getD h3 k
  have hbb := wts_getD h4 k
  repeat first | refine nx ?_ | intro _
  refine gIf (fun c2 => ?_) fun c2 => ?_ <;> repeat first | refine nx ?_ | intro _
  · refine gIf (fun c3 => ?_) fun c3 => ?_ <;> repeat first | refine nx ?_ | intro _
    · exact (all2_f2 c2 c3).symm
    · exact gBk (k + 1) ⟨by omega, all2_succ ha (Classical.not_not.1 c3)⟩ (by omega)
  · exact (all2_t hl ha (by omega)).symm
structure MdC (m : Md) : Prop where
  b : MdB 60000000 m
  l : m.move.length ≤ 1048576 ∧ m.say.length ≤ 1048576
instance rSame_m {a b : Md} {S T : SV} [i : VM S a] [j : VM T b] : Ct Tryz.prog 48 [S, T] (MdC a ∧ MdC b) (bv (sameM a b)) := by
  haveI := i.t
  haveI := j.t
  refine ct2 i.v j.v (ctI Tryz.call48 Tryz.func48 Tryz.ntmps48 rfl Tryz.results48 rfl [] fun h0 w0 ⟨⟨⟨a1, a2, a3, a4⟩, a5, a6⟩, ⟨⟨b1, b2, b3, b4⟩, b5, b6⟩⟩ => ?_)
  have c1 : ∀ r ∈ a.move, wts r ≤ 900000000 := fun r hr => Nat.le_trans (a2 r hr) (by decide)
  have c2 : ∀ r ∈ a.say, wts r ≤ 900000000 := fun r hr => Nat.le_trans (a4 r hr) (by decide)
  have c3 : ∀ r ∈ b.move, wts r ≤ 900000000 := fun r hr => Nat.le_trans (b2 r hr) (by decide)
  have c4 : ∀ r ∈ b.say, wts r ≤ 900000000 := fun r hr => Nat.le_trans (b4 r hr) (by decide)
  repeat first | refine nx ?_ | intro _
  unfold sameM
  cases sameL a.start b.start <;> cases sameR a.move b.move <;> cases sameL a.fin b.fin <;> rfl
instance rcanon_c {l : List Fr} {S : SV} [i : VL S l] : Ct Tryz.prog 111 [S] (wts l ≤ 60000000) (kkL (ratsL l)) := by
  haveI := i.t
  refine ct1 i.v (ctI Tryz.call111 Tryz.func111 Tryz.ntmps111 rfl Tryz.results111 rfl [] fun h0 w0 h1 => ?_)
  have hla := len_wts l
  repeat first | refine nx ?_ | intro _
  refine gNl rF 31 ?_
  refine gLp (fun s : Nat × Value => [(4, iv s.1), (3, ov s.2)]) (fun s => [rA rF 31 s.2 ((ratsL (l.take s.1)).map frK)]) (fun s => s.1 ≤ l.length) (fun s => l.length - s.1) (0, .slice none 0 0) (Nat.zero_le _) (fun ⟨k, v⟩ hk => ?_) (h2 := by dsimp only; rw [List.take_zero]; (repeat' (first | refine And.intro ?_ ?_ | trivial | rfl | omega)))
  dsimp only at hk ⊢
  have hrl : ((ratsL (l.take k)).map frK).length = k := by rw [List.length_map, rats_len l k hk]
  have hbk := bf_getD l k
  repeat first | refine nx ?_ | intro _
  refine gIf (fun c => ?_) fun c => ?_
  · repeat first | refine nx ?_ | intro _
    rename_i v2
    rw [← List.map_singleton (f := frK), ← List.map_append, rats_succ c]
    exact gBk (k + 1, v2) (by dsimp only; omega) (by dsimp only; omega)
  · rw [List.take_of_length_le (by omega)]
    repeat first | refine nx ?_ | intro _
    trivial
instance rcanons_c {l : List (List Fr)} {S : SV} [i : VR S l] : Ct Tryz.prog 112 [S] (l.length ≤ 1048576 ∧ ∀ r ∈ l, wts r ≤ 60000000) (kkR (ratsR l)) := by
  haveI := i.t
  refine ct1 i.v (ctI Tryz.call112 Tryz.func112 Tryz.ntmps112 rfl Tryz.results112 rfl [] fun h0 w0 ⟨h1, h2⟩ => ?_)
  repeat first | refine nx ?_ | intro _
  refine gNl (rL rF) 22 ?_
  refine gLp (fun s : Nat × Value => [(4, iv s.1), (3, ov s.2)]) (fun s => [rA (rL rF) 22 s.2 ((ratsR (l.take s.1)).map (·.map frK))]) (fun s => s.1 ≤ l.length) (fun s => l.length - s.1) (0, .slice none 0 0) (Nat.zero_le _) (fun ⟨k, v⟩ hk => ?_) (h2 := by dsimp only; rw [List.take_zero]; (repeat' (first | refine And.intro ?_ ?_ | trivial | rfl | omega)))
  dsimp only at hk ⊢
  have hrl : ((ratsR (l.take k)).map (·.map frK)).length = k := by rw [List.length_map, ratsR_len l k hk]
  have hbk := wts_getD h2 k
  repeat first | refine nx ?_ | intro _
  refine gIf (fun c => ?_) fun c => ?_
  · repeat first | refine nx ?_ | intro _
    rename_i v2
    rw [← List.map_singleton (f := fun l : List Rat => l.map frK), ← List.map_append, ratsR_succ c]
    exact gBk (k + 1, v2) (by dsimp only; omega) (by dsimp only; omega)
  · rw [List.take_of_length_le (by omega)]
    repeat first | refine nx ?_ | intro _
    trivial
instance copyM_ft {m : Md} : FtM (copyM m) := inferInstanceAs (FtM (Go.Ear.mdK _ _ _ _))
end
end Go.E3
