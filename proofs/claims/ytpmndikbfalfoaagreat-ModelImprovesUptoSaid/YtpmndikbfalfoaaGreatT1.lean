/- T1: a part of the proofs about package model: how the program's functions run, and what they compute, for every input. -/
import Derived.Test.YtpmndikbfalfoaaGreatK11
import Derived.Test.YtpmndikbfalfoaaGreatH11
import Derived.Test.YtpmndikbfalfoaaGreatEarT16
set_option linter.all false
set_option linter.unusedVariables false
set_option maxRecDepth 20000
set_option maxHeartbeats 8000000
set_option synthInstance.maxSize 1000
namespace Go.E3
open Go Go.Ear Go.Proofs
def shrQ (a b : List Fr) : List Rat := if normE a = 0 then normF a else ratsL b
section
variable {a b : List Fr} {S T : SV}
instance shares_c [i : VL S a] [j : VL T b] : Ct Tryz.prog 178 [S, T] (wts a ≤ 60000000 ∧ wts b ≤ 60000000) (lv rF ((shrQ a b).map frK)) := by
  haveI := i.t
  haveI := j.t
  refine ct2 i.v j.v (ctI Tryz.call178 Tryz.func178 Tryz.ntmps178 rfl Tryz.results178 rfl [] fun h0 w0 ⟨ha, hb⟩ => ?_)
  have hb7 := len_wts b
  repeat first | refine nx ?_ | intro _
  refine gIf (fun c => ?_) fun c => ?_
  · have e : shrQ a b = ratsL b := if_neg c
    rw [e]
    repeat first | refine nx ?_ | intro _
    refine gNl rF 31 ?_
    refine gLp (fun s : Nat × Value => [(18, iv s.1), (5, ov s.2)]) (fun s => [rA rF 31 s.2 ((b.take s.1).map fun f => frK f.rat)]) (fun s => s.1 ≤ b.length) (fun s => b.length - s.1) (0, .slice none 0 0) (Nat.zero_le _) fun ⟨k, v⟩ hk => ?_
    dsimp only at *
    have hb2 := bf_getD b k
    have hb3 := j.t.bqg k
    have hlt : ((b.take k).map fun f => frK f.rat).length = min k b.length := by simp
    repeat first | refine nx ?_ | intro _
    refine gIf (fun e => ?_) fun e => ?_ <;> repeat first | refine nx ?_ | intro _
    · rename_i v'
      rw [← map_take_succ fr0 e]; exact gBk (k + 1, v') (by dsimp only; omega) (by dsimp only; omega)
    · rw [List.take_of_length_le (by omega)]; unfold ratsL; rw [List.map_map]; rfl
  · have e : shrQ a b = normF a := if_pos (Classical.not_not.1 c)
    rw [e]
    repeat first | refine nx ?_ | intro _
    trivial
instance canon1_c {U W : SV} [i : VL S a] : Ct Tryz.prog 177 [U, W, S] (wts a ≤ 60000000) (lv rF ((shrQ a a).map frK)) := by
  haveI := i.t
  refine ct3 (v := fun _ : Unit => U) (x := ()) (v2 := fun _ : Unit => W) (y := ()) ⟨fun u => u⟩ ⟨fun u => u⟩ i.v (ctI Tryz.call177 Tryz.func177 Tryz.ntmps177 rfl Tryz.results177 rfl [] fun h0 w0 ha => ?_)
  repeat first | refine nx ?_ | intro _
  trivial
end
@[reducible] def sStart : SV := .cv (.string ⟨#[115, 116, 97, 114, 116]⟩)
@[reducible] def sLeave : SV := .cv (.string ⟨#[108, 101, 97, 118, 101]⟩)
@[reducible] def sSay : SV := .cv (.string ⟨#[115, 97, 121]⟩)
@[reducible] def pkC (c : CtF) : SV := .pk [lv rF c.start, lv (rL rF) c.move, lv rF c.fin, lv (rL rF) c.say, iv c.used, iv c.unused] 0
section
variable {c : CtF}
instance reest1s_c [ft : FtC c] {a : List Fr} {S : SV} [i : VL S a] : Ct Tryz.prog 179 [sStart, iv 0, S, pkC c] (wts c.start ≤ 60000000 ∧ wts a ≤ 60000000) (lv rF ((shrQ c.start a).map frK)) := by
  haveI := i.t
  refine ct3 (v := fun _ : Unit => sStart) (x := ()) (v2 := fun _ : Unit => iv 0) (y := ()) ⟨fun u => u⟩ ⟨fun u => u⟩ i.v (ctI Tryz.call179 Tryz.func179 Tryz.ntmps179 rfl Tryz.results179 rfl [] fun h0 w0 ⟨h1, h2⟩ => ?_)
  repeat first | refine nx ?_ | intro _
  refine gIf (fun e => ?_) fun e => ?_
  · repeat first | refine nx ?_ | intro _
    trivial
  · exact absurd rfl e
instance reest1l_c [ft : FtC c] {a : List Fr} {i : Nat} {S : SV} [v : VL S a] : Ct Tryz.prog 179 [sLeave, iv (i : Int), S, pkC c] (wts (c.move.getD i []) ≤ 30000000 ∧ bf (c.fin.getD i fr0) ≤ 20000000 ∧ i < c.move.length ∧ i < c.fin.length ∧ wts a ≤ 60000000) (lv rF ((shrQ (c.move.getD i [] ++ [c.fin.getD i fr0]) a).map frK)) := by
  haveI := v.t
  refine ct3 (v := fun _ : Unit => sLeave) (x := ()) (v2 := fun _ : Unit => iv (i : Int)) (y := ()) ⟨fun u => u⟩ ⟨fun u => u⟩ v.v (ctI Tryz.call179 Tryz.func179 Tryz.ntmps179 rfl Tryz.results179 rfl [] fun h0 w0 ⟨h1, h2, h3, h4, h5⟩ => ?_)
  have h6 : wts (c.move.getD i [] ++ [c.fin.getD i fr0]) ≤ 60000000 := by rw [wts_append, wts_cons, wts_nil]; omega
  repeat first | refine nx ?_ | intro _
  refine gIf (fun e => ?_) fun e => ?_
  · exact absurd e (by decide)
  repeat first | refine nx ?_ | intro _
  refine gIf (fun e => ?_) fun e => ?_
  · repeat first | refine gDs 14 13 (by rfl) (by kernel_rfl) ?_ | refine nx ?_ | intro _
    trivial
  · exact absurd rfl e
instance reest1y_c [ft : FtC c] {a : List Fr} {i : Nat} {S : SV} [v : VL S a] : Ct Tryz.prog 179 [sSay, iv (i : Int), S, pkC c] (wts (c.say.getD i []) ≤ 60000000 ∧ i < c.say.length ∧ wts a ≤ 60000000) (lv rF ((shrQ (c.say.getD i []) a).map frK)) := by
  haveI := v.t
  refine ct3 (v := fun _ : Unit => sSay) (x := ()) (v2 := fun _ : Unit => iv (i : Int)) (y := ()) ⟨fun u => u⟩ ⟨fun u => u⟩ v.v (ctI Tryz.call179 Tryz.func179 Tryz.ntmps179 rfl Tryz.results179 rfl [] fun h0 w0 ⟨h1, h3, h5⟩ => ?_)
  repeat first | refine nx ?_ | intro _
  refine gIf (fun e => ?_) fun e => ?_
  · exact absurd e (by decide)
  repeat first | refine nx ?_ | intro _
  refine gIf (fun e => ?_) fun e => ?_
  · exact absurd e (by decide)
  repeat first | refine nx ?_ | intro _
  trivial
end
section
variable {q : Rat} {l : List Fr} {v : Value} {B : List Res}
instance (priority := 20000) foldA_b {S : SV} [i : Vw qv S q] [ft : FtS l] [ha : HA B v Fr rF 31 l] : CtB Tryz.prog 149 [S, .cv (.func (.func 172) #[] #[]), ov v] B (bq q + wts l ≤ 134217728) (qv (foldA q l)) := by
  refine cB1 i (ctB Tryz.call149 Tryz.func149 Tryz.ntmps149 rfl Tryz.results149 rfl [3] fun h0 w0 hb => ?_)
  repeat first | refine nx ?_ | intro _
  rename_i v1 v2
  refine gLp (fun k : Nat => [(11, iv k)]) (fun k => [rV v1 [.cv (.bool (decide ((foldA q (l.take k)).num < 0))), lv rU (digs (foldA q (l.take k)).num.natAbs), lv rU (digs (foldA q (l.take k)).den)] 167]) (fun k => k ≤ l.length) (fun k => l.length - k) 0 (Nat.zero_le _) fun k hk => ?_
  have hb1 := Nat.le_trans (bq_foldA (l.take k) q fun x hx => ft.bq x (List.mem_of_mem_take hx)) (Nat.add_le_add_left (wts_take l k) _)
  have hb2 := bf_getD l k
  have hb3 := ft.bqg k
  have hb6 := bq_pos q
  have hb7 := len_wts l
  repeat first | refine nx ?_ | intro _
  refine gIf (fun c => ?_) fun c => ?_ <;> repeat first | refine nx ?_ | intro _
  · rw [← foldA_succ c]; exact gBk (k + 1) (by omega) (by omega)
  · rw [List.take_of_length_le (by omega)]; exact ⟨rfl, rfl, rfl⟩
instance (priority := 20000) sum_b [ft : FtS l] [ha : HA B v Fr rF 31 l] : CtB Tryz.prog 119 [ov v] B (wts l ≤ 134217724) (kk (sumF l)) := by
  refine (ctB Tryz.call119 Tryz.func119 Tryz.ntmps119 rfl Tryz.results119 rfl [] fun h0 w0 hb => ?_)
  have hbs := bq_foldA l (((0 : Int) : Int) : Rat) ft.bq
  have hz : bq (((0 : Int) : Int) : Rat) ≤ 2 := bq_intc (by decide) (by decide)
  repeat first | refine nx ?_ | intro _
  exact ⟨rfl, rfl, rfl⟩
end
def flrQ (a : List Fr) (d : Int) : List Rat := a.map fun x => floorQ x.rat d
def coaQ (a : List Fr) (d : Int) : List Rat := (flrQ a d).set (bestAt a a.length).toNat ((flrQ a d).getD (bestAt a a.length).toNat 0 + (1 - sumF ((flrQ a d).map frK)))
theorem bq_mapK (l : List Rat) : ∀ f ∈ l.map frK, bq f.rat ≤ bf f := fun f hf => by
  obtain ⟨q, _, rfl⟩ := List.mem_map.1 hf
  rw [frK_rat, bf_frK]; exact Nat.le_refl _
theorem wts_flr {d : Int} (h1 : -9223372036854775808 ≤ d) (h2 : d ≤ 9223372036854775807) : ∀ {a : List Fr}, (∀ x ∈ a, bq x.rat ≤ bf x) → wts ((flrQ a d).map frK) ≤ 11 * wts a
  | [], _ => Nat.zero_le _
  | x :: a, h => by
    have ih := wts_flr h1 h2 (a := a) fun y hy => h y (List.mem_cons_of_mem _ hy)
    have e := bq_floorQ (q := x.rat) h1 h2
    have e2 := h x (List.mem_cons_self ..)
    show wts (frK (floorQ x.rat d) :: (flrQ a d).map frK) ≤ 11 * wts (x :: a)
    rw [wts_cons, wts_cons, bf_frK]; omega
theorem bestAt_in {l : List Fr} (h : 0 < l.length) : 0 ≤ bestAt l l.length ∧ (bestAt l l.length).toNat < l.length := by
  have := bestAt_arg (q := fun j => (l.getD j fr0).rat) (l := l) l.length (by omega) fun _ _ => rfl
  have h2 := argN_lt (q := fun j => (l.getD j fr0).rat) (k := l.length) h
  omega
section
variable {a : List Fr} {d : Int} {S U W : SV}
instance coars1_c [i : VL S a] : Ct Tryz.prog 181 [U, W, S, .pk [iv d] 0] (0 < a.length ∧ wts a ≤ 5400000 ∧ -9223372036854775808 ≤ d ∧ d ≤ 9223372036854775807) (lv rF ((coaQ a d).map frK)) := by
  haveI := i.t
  refine ct3 (v := fun _ : Unit => U) (x := ()) (v2 := fun _ : Unit => W) (y := ()) ⟨fun u => u⟩ ⟨fun u => u⟩ i.v (ctI Tryz.call181 Tryz.func181 Tryz.ntmps181 rfl Tryz.results181 rfl [] fun h0 w0 ⟨h1, h2, h3, h4⟩ => ?_)
  have hb7 := len_wts a
  repeat first | refine nx ?_ | intro _
  refine gNl rF 31 ?_
  refine gLp (fun s : Nat × Value => [(16, iv s.1), (8, ov s.2)]) (fun s => [rA rF 31 s.2 ((a.take s.1).map fun x => frK (floorQ x.rat d))]) (fun s => s.1 ≤ a.length) (fun s => a.length - s.1) (0, .slice none 0 0) (Nat.zero_le _) fun ⟨k, v⟩ hk => ?_
  dsimp only at *
  have hb2 := bf_getD a k
  have hb3 := i.t.bqg k
  have hlt : ((a.take k).map fun x => frK (floorQ x.rat d)).length = min k a.length := by simp
  repeat first | refine nx ?_ | intro _
  refine gIf (fun e => ?_) fun e => ?_ <;> repeat first | refine nx ?_ | intro _
  · rename_i v'
    rw [← map_take_succ fr0 e]; exact gBk (k + 1, v') (by dsimp only; omega) (by dsimp only; omega)
  · rw [List.take_of_length_le (by omega), show (a.map fun x => frK (floorQ x.rat d)) = (flrQ a d).map frK by unfold flrQ; rw [List.map_map]; rfl]
    have hbi := bestAt_in h1
    obtain ⟨p, hp⟩ : ∃ p : Nat, bestAt a a.length = (p : Int) := ⟨(bestAt a a.length).toNat, by omega⟩
    have ec : coaQ a d = (flrQ a d).set p ((flrQ a d).getD p 0 + (((1 : Int) : Rat) - sumF ((flrQ a d).map frK))) := by unfold coaQ; rw [hp]; rfl
    rw [hp] at hbi ⊢
    rw [Int.toNat_natCast] at hbi
    have hpl := hbi.2
    have hfl : (flrQ a d).length = a.length := by unfold flrQ; rw [List.length_map]
    have hw := wts_flr h3 h4 i.t.bq
    have hs : bq (sumF ((flrQ a d).map frK)) ≤ 1 + wts ((flrQ a d).map frK) := by rw [← bq_zero]; exact bq_foldA _ 0 (bq_mapK _)
    have hg : bq ((flrQ a d).getD p 0) ≤ 5400012 := by
      have e1 : (flrQ a d).getD p 0 = floorQ (a.getD p fr0).rat d := by
        unfold flrQ; rw [List.getD_eq_getElem?_getD, List.getElem?_map, List.getD_eq_getElem?_getD, List.getElem?_eq_getElem hpl]; rfl
      have e2 := bq_floorQ (q := (a.getD p fr0).rat) h3 h4
      have e3 := i.t.bqg p
      have e4 := bf_getD a p
      rw [e1]; omega
    have h1q : bq ((1 : Int) : Rat) ≤ 2 := bq_intc (by decide) (by decide)
    have hsub := bq_sub (((1 : Int) : Rat)) (sumF ((flrQ a d).map frK))
    have hml : ((flrQ a d).map frK).length = a.length := by rw [List.length_map, hfl]
    rw [ec]
    clear ec
    repeat first | refine gDs 13 11 (by rfl) (by kernel_rfl) ?_ | refine nx ?_ | intro _
    exact List.map_set.symm
end
end Go.E3
