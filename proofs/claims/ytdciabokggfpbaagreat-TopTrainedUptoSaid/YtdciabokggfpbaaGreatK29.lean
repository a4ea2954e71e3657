/- K29: a part of the proof about training through the decoder: how the program's functions run, and what they compute, for every input. -/
import Derived.Test.YtdciabokggfpbaaGreatK28
import Derived.Test.YtdciabokggfpbaaGreatK26
import Derived.Test.YtdciabokggfpbaaGreatK27
import Derived.Test.YtdciabokggfpbaaGreatK21
set_option linter.all false
set_option maxRecDepth 20000
set_option maxHeartbeats 8000000
set_option synthInstance.maxSize 1000
namespace Go.E3
open Go Go.Ear Go.Proofs
structure CtF where
 start : List Fr
 move : List (List Fr)
 fin : List Fr
 say : List (List Fr)
 used : Int
 unused : Int
def cntK (c : Go.Ear.Ct) : CtF := ⟨c.start.map frK,c.move.map (·.map frK),c.fin.map frK,c.say.map (·.map frK),c.used,c.unused⟩
@[reducible] def cF (c : CtF) : SV := .ag [lv rF c.start,lv (rL rF) c.move,lv rF c.fin,lv (rL rF) c.say,iv c.used,iv c.unused]
instance (priority := high) {c : Go.Ear.Ct} : Vw cF (.ag [lv rF (c.start.map frK),lv (rL rF) (c.move.map (·.map frK)),lv rF (c.fin.map frK),lv (rL rF) (c.say.map (·.map frK)),iv c.used,iv c.unused]) (cntK c) := ⟨fun u => u⟩
class FtC (c : CtF) : Prop where h : FtS c.start /\ FtR c.move /\ FtS c.fin /\ FtR c.say
instance {c : CtF} [i : FtC c] : FtS c.start := i.h.1
instance {c : CtF} [i : FtC c] : FtR c.move := i.h.2.1
instance {c : CtF} [i : FtC c] : FtS c.fin := i.h.2.2.1
instance {c : CtF} [i : FtC c] : FtR c.say := i.h.2.2.2
instance {a c : List Fr} {b d : List (List Fr)} {x y : Int} [i : FtS a] [j : FtR b] [k : FtS c] [l : FtR d] : FtC ⟨a,b,c,d,x,y⟩ := ⟨i,j,k,l⟩
instance {c : Go.Ear.Ct} : FtC (cntK c) := inferInstanceAs (FtC ⟨_,_,_,_,_,_⟩)
class VC (S : SV) (c : outParam CtF) : Prop where
 v : Vw cF S c
 t : FtC c
instance {S : SV} {c : CtF} [v : Vw cF S c] [t : FtC c] : VC S c := ⟨v,t⟩
def shrQ (a b : List Fr) : List Rat := if normE a = 0 then normF a else ratsL b
section
variable {a b : List Fr} {S T : SV}
instance shares_c [i : VL S a] [j : VL T b] : Ct Tryz.prog 69 [S,T] (wts a <= 60000000 /\ wts b <= 60000000) (lv rF ((shrQ a b).map frK)) := by
 haveI := i.t
 haveI := j.t
 refine ct2 i.v j.v (ctI Tryz.call69 Tryz.func69 Tryz.ntmps69 rfl Tryz.results69 rfl [] fun h0 w0 ⟨ha,hb⟩ => ?_)
 have hb7 := len_wts b
 repeat first | refine nx ?_ | intro _
 refine gIf (fun c => ?_) fun c => ?_
 · have e : shrQ a b = ratsL b := if_neg c
   rw [e]
   repeat first | refine nx ?_ | intro _
   refine gNl rF 32 ?_
   refine gLp (fun s : Nat × Value => [(18,iv s.1),(5,ov s.2)]) (fun s => [rA rF 32 s.2 ((b.take s.1).map fun f => frK f.rat)]) (fun s => s.1 <= b.length) (fun s => b.length - s.1) (0,.slice none 0 0) (Nat.zero_le _) fun ⟨k,v⟩ hk => ?_
   dsimp only at *
   have hb2 := bf_getD b k
   have hb3 := j.t.bqg k
   have hlt : ((b.take k).map fun f => frK f.rat).length = min k b.length := by simp
   repeat first | refine nx ?_ | intro _
   refine gIf (fun e => ?_) fun e => ?_ <;> repeat first | refine nx ?_ | intro _
   · rename_i v'
     rw [<- map_take_succ fr0 e]; exact gBk (k + 1,v') (by dsimp only; omega) (by dsimp only; omega)
   · rw [List.take_of_length_le (by omega)]; unfold ratsL; rw [List.map_map]; rfl
 · have e : shrQ a b = normF a := if_pos (Classical.not_not.1 c)
   rw [e]
   repeat first | refine nx ?_ | intro _
   trivial
instance canon1_c {U W : SV} [i : VL S a] : Ct Tryz.prog 68 [U,W,S] (wts a <= 60000000) (lv rF ((shrQ a a).map frK)) := by
 haveI := i.t
 refine ct3 (v := fun _ : Unit => U) (x := ()) (v2 := fun _ : Unit => W) (y := ()) ⟨fun u => u⟩ ⟨fun u => u⟩ i.v (ctI Tryz.call68 Tryz.func68 Tryz.ntmps68 rfl Tryz.results68 rfl [] fun h0 w0 ha => ?_)
 repeat first | refine nx ?_ | intro _
 trivial
end
@[reducible] def sStart : SV := .cv (.string ⟨#[115,116,97,114,116]⟩)
@[reducible] def sLeave : SV := .cv (.string ⟨#[108,101,97,118,101]⟩)
@[reducible] def sSay : SV := .cv (.string ⟨#[115,97,121]⟩)
@[reducible] def pkC (c : CtF) : SV := .pk [lv rF c.start,lv (rL rF) c.move,lv rF c.fin,lv (rL rF) c.say,iv c.used,iv c.unused] 0
section
variable {c : CtF}
instance reest1s_c [ft : FtC c] {a : List Fr} {S : SV} [i : VL S a] : Ct Tryz.prog 70 [sStart,iv 0,S,pkC c] (wts c.start <= 60000000 /\ wts a <= 60000000) (lv rF ((shrQ c.start a).map frK)) := by
 haveI := i.t
 refine ct3 (v := fun _ : Unit => sStart) (x := ()) (v2 := fun _ : Unit => iv 0) (y := ()) ⟨fun u => u⟩ ⟨fun u => u⟩ i.v (ctI Tryz.call70 Tryz.func70 Tryz.ntmps70 rfl Tryz.results70 rfl [] fun h0 w0 ⟨h1,h2⟩ => ?_)
 repeat first | refine nx ?_ | intro _
 refine gIf (fun e => ?_) fun e => ?_
 · repeat first | refine nx ?_ | intro _
   trivial
 · exact absurd rfl e
instance reest1l_c [ft : FtC c] {a : List Fr} {i : Nat} {S : SV} [v : VL S a] : Ct Tryz.prog 70 [sLeave,iv (i : Int),S,pkC c] (wts (c.move.getD i []) <= 30000000 /\ bf (c.fin.getD i fr0) <= 20000000 /\ i < c.move.length /\ i < c.fin.length /\ wts a <= 60000000) (lv rF ((shrQ (c.move.getD i [] ++ [c.fin.getD i fr0]) a).map frK)) := by
 haveI := v.t
 refine ct3 (v := fun _ : Unit => sLeave) (x := ()) (v2 := fun _ : Unit => iv (i : Int)) (y := ()) ⟨fun u => u⟩ ⟨fun u => u⟩ v.v (ctI Tryz.call70 Tryz.func70 Tryz.ntmps70 rfl Tryz.results70 rfl [] fun h0 w0 ⟨h1,h2,h3,h4,h5⟩ => ?_)
 have h6 : wts (c.move.getD i [] ++ [c.fin.getD i fr0]) <= 60000000 := by rw [wts_append,wts_cons,wts_nil]; omega
 repeat first | refine nx ?_ | intro _
 refine gIf (fun e => ?_) fun e => ?_
 · exact absurd e (by decide)
 repeat first | refine nx ?_ | intro _
 refine gIf (fun e => ?_) fun e => ?_
 · repeat first | refine gDs 14 13 (by rfl) (by kernel_rfl) ?_ | refine nx ?_ | intro _
   trivial
 · exact absurd rfl e
instance reest1y_c [ft : FtC c] {a : List Fr} {i : Nat} {S : SV} [v : VL S a] : Ct Tryz.prog 70 [sSay,iv (i : Int),S,pkC c] (wts (c.say.getD i []) <= 60000000 /\ i < c.say.length /\ wts a <= 60000000) (lv rF ((shrQ (c.say.getD i []) a).map frK)) := by
 haveI := v.t
 refine ct3 (v := fun _ : Unit => sSay) (x := ()) (v2 := fun _ : Unit => iv (i : Int)) (y := ()) ⟨fun u => u⟩ ⟨fun u => u⟩ v.v (ctI Tryz.call70 Tryz.func70 Tryz.ntmps70 rfl Tryz.results70 rfl [] fun h0 w0 ⟨h1,h3,h5⟩ => ?_)
 repeat first | refine nx ?_ | intro _
 refine gIf (fun e => ?_) fun e => ?_
 · exact absurd e (by decide)
 repeat first | refine nx ?_ | intro _
 refine gIf (fun e => ?_) fun e => ?_
 · exact absurd e (by decide)
 repeat first | refine nx ?_ | intro _
 trivial
end
section
variable {q : Rat} {l : List Fr} {v : Value} {B : List Res}
instance (priority := 20000) foldA_b {S : SV} [i : Vw qv S q] [ft : FtS l] [ha : HA B v Fr rF 32 l] : CtB Tryz.prog 97 [S,.cv (.func (.func 43) #[] #[]),ov v] B (bq q + wts l <= 134217728) (qv (foldA q l)) := by
 refine cB1 i (ctB Tryz.call97 Tryz.func97 Tryz.ntmps97 rfl Tryz.results97 rfl [3] fun h0 w0 hb => ?_)
 repeat first | refine nx ?_ | intro _
 rename_i v1 v2
 refine gLp (fun k : Nat => [(11,iv k)]) (fun k => [rV v1 [.cv (.bool (decide ((foldA q (l.take k)).num < 0))),lv rU (digs (foldA q (l.take k)).num.natAbs),lv rU (digs (foldA q (l.take k)).den)] 95]) (fun k => k <= l.length) (fun k => l.length - k) 0 (Nat.zero_le _) fun k hk => ?_
 have hb1 := Nat.le_trans (bq_foldA (l.take k) q fun x hx => ft.bq x (List.mem_of_mem_take hx)) (Nat.add_le_add_left (wts_take l k) _)
 have hb2 := bf_getD l k
 have hb3 := ft.bqg k
 have hb6 := bq_pos q
 have hb7 := len_wts l
 repeat first | refine nx ?_ | intro _
 refine gIf (fun c => ?_) fun c => ?_ <;> repeat first | refine nx ?_ | intro _
 · rw [<- foldA_succ c]; exact gBk (k + 1) (by omega) (by omega)
 · rw [List.take_of_length_le (by omega)]; exact ⟨rfl,rfl,rfl⟩
instance (priority := 20000) sum_b [ft : FtS l] [ha : HA B v Fr rF 32 l] : CtB Tryz.prog 79 [ov v] B (wts l <= 134217724) (kk (sumF l)) := by
 refine (ctB Tryz.call79 Tryz.func79 Tryz.ntmps79 rfl Tryz.results79 rfl [] fun h0 w0 hb => ?_)
 have hbs := bq_foldA l (((0 : Int) : Int) : Rat) ft.bq
 have hz : bq (((0 : Int) : Int) : Rat) <= 2 := bq_intc (by decide) (by decide)
 repeat first | refine nx ?_ | intro _
 exact ⟨rfl,rfl,rfl⟩
end
def flrQ (a : List Fr) (d : Int) : List Rat := a.map fun x => floorQ x.rat d
def coaQ (a : List Fr) (d : Int) : List Rat := (flrQ a d).set (bestAt a a.length).toNat ((flrQ a d).getD (bestAt a a.length).toNat 0 + (1 - sumF ((flrQ a d).map frK)))
theorem bq_mapK (l : List Rat) : ∀ f ∈ l.map frK,bq f.rat <= bf f := fun f hf => by
 obtain ⟨q,_,rfl⟩ := List.mem_map.1 hf
 rw [frK_rat,bf_frK]; exact Nat.le_refl _
theorem wts_flr {d : Int} (h1 : -9223372036854775808 <= d) (h2 : d <= 9223372036854775807) : ∀ {a : List Fr},(∀ x ∈ a,bq x.rat <= bf x) -> wts ((flrQ a d).map frK) <= 11 * wts a
 | [],_ => Nat.zero_le _
 | x :: a,h => by
   have ih := wts_flr h1 h2 (a := a) fun y hy => h y (List.mem_cons_of_mem _ hy)
   have e := bq_floorQ (q := x.rat) h1 h2
   have e2 := h x (List.mem_cons_self ..)
   show wts (frK (floorQ x.rat d) :: (flrQ a d).map frK) <= 11 * wts (x :: a)
   rw [wts_cons,wts_cons,bf_frK]; omega
theorem bestAt_in {l : List Fr} (h : 0 < l.length) : 0 <= bestAt l l.length /\ (bestAt l l.length).toNat < l.length := by
 have := bestAt_arg (q := fun j => (l.getD j fr0).rat) (l := l) l.length (by omega) fun _ _ => rfl
 have h2 := argN_lt (q := fun j => (l.getD j fr0).rat) (k := l.length) h
 omega
section
variable {a : List Fr} {d : Int} {S U W : SV}
instance coars1_c [i : VL S a] : Ct Tryz.prog 75 [U,W,S,.pk [iv d] 0] (0 < a.length /\ wts a <= 5400000 /\ -9223372036854775808 <= d /\ d <= 9223372036854775807) (lv rF ((coaQ a d).map frK)) := by
 haveI := i.t
 refine ct3 (v := fun _ : Unit => U) (x := ()) (v2 := fun _ : Unit => W) (y := ()) ⟨fun u => u⟩ ⟨fun u => u⟩ i.v (ctI Tryz.call75 Tryz.func75 Tryz.ntmps75 rfl Tryz.results75 rfl [] fun h0 w0 ⟨h1,h2,h3,h4⟩ => ?_)
 have hb7 := len_wts a
 repeat first | refine nx ?_ | intro _
 refine gNl rF 32 ?_
 refine gLp (fun s : Nat × Value => [(16,iv s.1),(8,ov s.2)]) (fun s => [rA rF 32 s.2 ((a.take s.1).map fun x => frK (floorQ x.rat d))]) (fun s => s.1 <= a.length) (fun s => a.length - s.1) (0,.slice none 0 0) (Nat.zero_le _) fun ⟨k,v⟩ hk => ?_
 dsimp only at *
 have hb2 := bf_getD a k
 have hb3 := i.t.bqg k
 have hlt : ((a.take k).map fun x => frK (floorQ x.rat d)).length = min k a.length := by simp
 repeat first | refine nx ?_ | intro _
 refine gIf (fun e => ?_) fun e => ?_ <;> repeat first | refine nx ?_ | intro _
 · rename_i v'
   rw [<- map_take_succ fr0 e]; exact gBk (k + 1,v') (by dsimp only; omega) (by dsimp only; omega)
 · rw [List.take_of_length_le (by omega),show (a.map fun x => frK (floorQ x.rat d)) = (flrQ a d).map frK by unfold flrQ; rw [List.map_map]; rfl]
   have hbi := bestAt_in h1
   obtain ⟨p,hp⟩ : ∃ p : Nat,bestAt a a.length = (p : Int) := ⟨(bestAt a a.length).toNat,by omega⟩
   have ec : coaQ a d = (flrQ a d).set p ((flrQ a d).getD p 0 + (((1 : Int) : Rat) - sumF ((flrQ a d).map frK))) := by unfold coaQ; rw [hp]; rfl
   rw [hp] at hbi ⊢
   rw [Int.toNat_natCast] at hbi
   have hpl := hbi.2
   have hfl : (flrQ a d).length = a.length := by unfold flrQ; rw [List.length_map]
   have hw := wts_flr h3 h4 i.t.bq
   have hs : bq (sumF ((flrQ a d).map frK)) <= 1 + wts ((flrQ a d).map frK) := by rw [<- bq_zero]; exact bq_foldA _ 0 (bq_mapK _)
   have hg : bq ((flrQ a d).getD p 0) <= 5400012 := by
    have e1 : (flrQ a d).getD p 0 = floorQ (a.getD p fr0).rat d := by
     unfold flrQ; rw [List.getD_eq_getElem?_getD,List.getElem?_map,List.getD_eq_getElem?_getD,List.getElem?_eq_getElem hpl]; rfl
    have e2 := bq_floorQ (q := (a.getD p fr0).rat) h3 h4
    have e3 := i.t.bqg p
    have e4 := bf_getD a p
    rw [e1]; omega
   have h1q : bq ((1 : Int) : Rat) <= 2 := bq_intc (by decide) (by decide)
   have hsub := bq_sub (((1 : Int) : Rat)) (sumF ((flrQ a d).map frK))
   have hml : ((flrQ a d).map frK).length = a.length := by rw [List.length_map,hfl]
   rw [ec]
   clear ec
   repeat first | refine gDs 13 11 (by rfl) (by kernel_rfl) ?_ | refine nx ?_ | intro _
   exact List.map_set.symm
end
@[reducible] def chM (n : Nat) (s : List Rat) (l y : Nat -> List Rat) : Md := Go.Ear.mdK s ((List.range n).map fun i => (l i).take n) ((List.range n).map fun i => (l i).getD n 0) ((List.range n).map y)
theorem chM_mv {n : Nat} {l : Nat -> List Rat} : ((List.range n).map fun i => ((l i).map frK).take n) = ((List.range n).map fun i => (l i).take n).map (·.map frK) := by
 rw [List.map_map]; exact List.map_congr_left fun i _ => List.map_take.symm
theorem chM_fn {n : Nat} {l : Nat -> List Rat} : ((List.range n).map fun i => ((l i).map frK).getD n fr0) = ((List.range n).map fun i => (l i).getD n 0).map frK := by
 rw [List.map_map]; exact List.map_congr_left fun i _ => getD_K _ _
theorem chM_sy {n : Nat} {y : Nat -> List Rat} : ((List.range n).map fun i => (y i).map frK) = ((List.range n).map y).map (·.map frK) := by rw [List.map_map]; rfl
theorem range_take_succ {α : Type} (f : Nat -> α) (k : Nat) : (List.range k).map f ++ [f k] = (List.range (k + 1)).map f := by rw [List.range_succ,List.map_append]; rfl
section
variable {m : Md} {n : Nat} {S F : SV} {sS : Prop} {sL sY : Nat -> Prop} {bS : List Rat} {bL bY : Nat -> List Rat}
instance changed_c [i : VM S m] [f0 : Fv Tryz.prog F [sStart,iv 0,lv rF m.start] [] sS (lv rF (bS.map frK))] [f1 : ∀ i : Nat,Fv Tryz.prog F [sLeave,iv (i : Int),lv rF (m.move.getD i [] ++ [m.fin.getD i fr0])] [] (sL i) (lv rF ((bL i).map frK))] [f2 : ∀ i : Nat,Fv Tryz.prog F [sSay,iv (i : Int),lv rF (m.say.getD i [])] [] (sY i) (lv rF ((bY i).map frK))] :
 Ct Tryz.prog 67 [S,F] ((m.start.length <= 1000 /\ m.start.length <= m.move.length /\ m.start.length <= m.fin.length /\ m.start.length <= m.say.length) /\ (∀ i,i < m.start.length -> (bL i).length = m.start.length + 1 /\ wts (m.move.getD i []) <= 100000000 /\ sL i /\ sY i) /\ sS) (mv (chM m.start.length bS bL bY)) := by
 haveI := i.t
 refine ct2 i.v (v2 := fun _ : Unit => F) (y := ()) ⟨fun u => u⟩ (ctI Tryz.call67 Tryz.func67 Tryz.ntmps67 rfl Tryz.results67 rfl [] fun h0 w0 ⟨⟨h1,h2,h3,h4⟩,h5,h6⟩ => ?_)
 repeat first | refine nx ?_ | intro _
 refine gNl (rL rF) 22 ?_
 refine gNl (rL rF) 22 ?_
 refine gNl rF 32 ?_
 rename_i v4 v5
 refine gLp (fun s : Nat × Value × Value × Value => [(18,iv s.1)]) (fun s => [rV v5 [lv rF (bS.map frK),ov s.2.1,ov s.2.2.1,ov s.2.2.2] 25,rA (rL rF) 22 s.2.1 ((List.range s.1).map fun i => ((bL i).map frK).take m.start.length),rA rF 32 s.2.2.1 ((List.range s.1).map fun i => ((bL i).map frK).getD m.start.length fr0),rA (rL rF) 22 s.2.2.2 ((List.range s.1).map fun i => (bY i).map frK)]) (fun s => s.1 <= m.start.length) (fun s => m.start.length - s.1) (0,.slice none 0 0,.slice none 0 0,.slice none 0 0) (Nat.zero_le _) fun ⟨k,v1,v2,v3⟩ hk => ?_
 dsimp only at *
 repeat first | refine nx ?_ | intro _
 refine gIf (fun c => ?_) fun c => ?_
 · obtain ⟨h7,h8,h9,h10⟩ := h5 k c
   have hl1 : ((List.range k).map fun i => ((bL i).map frK).take m.start.length).length = k := by simp
   have hl2 : ((List.range k).map fun i => ((bL i).map frK).getD m.start.length fr0).length = k := by simp
   have hl3 : ((List.range k).map fun i => (bY i).map frK).length = k := by simp
   have hl4 : ((bL k).map frK).length = m.start.length + 1 := by rw [List.length_map]; exact h7
   repeat first | refine gDw 20 7 15 17 (by rfl) (by kernel_rfl) ?_ | refine gDs 14 12 (by rfl) (by kernel_rfl) ?_ | refine nx ?_ | intro _
   rename_i w1 w2 _ w3
   rw [range_take_succ fun i => ((bL i).map frK).take m.start.length,range_take_succ fun i => ((bL i).map frK).getD m.start.length fr0,range_take_succ fun i => (bY i).map frK]
   exact gBk (k + 1,w1,w2,w3) (by dsimp only; omega) (by dsimp only; omega)
 · have ek : k = m.start.length := by omega
   subst ek
   refine gFz v1 ?_
   refine gFz v2 ?_
   refine gFz v3 ?_
   repeat first | refine nx ?_ | intro _
   exact ⟨rfl,chM_mv,chM_fn,chM_sy⟩
end
theorem normF_len {a : List Fr} (h : normE a = 0) : (normF a).length = a.length := by
 unfold normE at h; unfold normF
 split at h
 · cases h
 · split at h
   · cases h
   · rename_i h1 h2; rw [if_neg (fun x => x.elim h1 h2),List.length_map]
theorem shrQ_len {a b : List Fr} {n : Nat} (h1 : a.length = n) (h2 : b.length = n) : (shrQ a b).length = n := by
 unfold shrQ
 split
 · rename_i h; rw [normF_len h,h1]
 · unfold ratsL; rw [List.length_map,h2]
@[reducible] def lvM (m : Md) (i : Nat) : List Fr := m.move.getD i [] ++ [m.fin.getD i fr0]
@[reducible] def lvC (c : CtF) (i : Nat) : List Fr := c.move.getD i [] ++ [c.fin.getD i fr0]
@[reducible] def canM (m : Md) : Md := chM m.start.length (shrQ m.start m.start) (fun i => shrQ (lvM m i) (lvM m i)) (fun i => shrQ (m.say.getD i []) (m.say.getD i []))
@[reducible] def reeM (m : Md) (c : CtF) : Md := chM m.start.length (shrQ c.start m.start) (fun i => shrQ (lvC c i) (lvM m i)) (fun i => shrQ (c.say.getD i []) (m.say.getD i []))
@[reducible] def coaM (m : Md) (d : Int) : Md := chM m.start.length (coaQ m.start d) (fun i => coaQ (lvM m i) d) (fun i => coaQ (m.say.getD i []) d)
structure RwM (K : Nat) (m : Md) : Prop where
 n : 1 <= m.start.length /\ m.start.length <= 40
 l : m.move.length = m.start.length /\ m.fin.length = m.start.length /\ m.say.length = m.start.length
 s : wts m.start <= K
 f : wts m.fin <= K
 mv : ∀ i,i < m.start.length -> (m.move.getD i []).length = m.start.length /\ wts (m.move.getD i []) <= K
 y : ∀ i,i < m.start.length -> 1 <= (m.say.getD i []).length /\ wts (m.say.getD i []) <= K
structure RwC (K : Nat) (m : Md) (c : CtF) : Prop where
 l : c.start.length = m.start.length /\ c.move.length = m.start.length /\ c.fin.length = m.start.length /\ c.say.length = m.start.length
 s : wts c.start <= K
 f : wts c.fin <= K
 mv : ∀ i,i < m.start.length -> (c.move.getD i []).length = m.start.length /\ wts (c.move.getD i []) <= K
 y : ∀ i,i < m.start.length -> (c.say.getD i []).length = (m.say.getD i []).length /\ wts (c.say.getD i []) <= K
theorem RwM.lv {K : Nat} {m : Md} (r : RwM K m) {i : Nat} (hi : i < m.start.length) : (lvM m i).length = m.start.length + 1 /\ wts (lvM m i) <= 2 * K + 2 := by
 have h1 := r.mv i hi
 have h2 := bf_getD m.fin i
 have h3 := r.f
 unfold lvM
 rw [List.length_append,wts_append,wts_cons,wts_nil,h1.1]
 exact ⟨rfl,by omega⟩
theorem RwC.lv {K : Nat} {m : Md} {c : CtF} (r : RwC K m c) {i : Nat} (hi : i < m.start.length) : (lvC c i).length = m.start.length + 1 /\ wts (lvC c i) <= 2 * K + 2 /\ bf (c.fin.getD i fr0) <= K + 1 := by
 have h1 := r.mv i hi
 have h2 := bf_getD c.fin i
 have h3 := r.f
 unfold lvC
 rw [List.length_append,wts_append,wts_cons,wts_nil,h1.1]
 exact ⟨rfl,by omega,by omega⟩
section
variable {m : Md} {c : CtF} {d : Int} {S T : SV}
instance canonical_c [i : VM S m] : Ct Tryz.prog 27 [S] (RwM 2600000 m) (mv (canM m)) := by
 haveI := i.t
 refine ct1 i.v (ctI Tryz.call27 Tryz.func27 Tryz.ntmps27 rfl Tryz.results27 rfl [] fun h0 w0 r => ?_)
 have hn := r.n
 have hl := r.l
 have hs := r.s
 have h5 : ∀ i,i < m.start.length -> (shrQ (lvM m i) (lvM m i)).length = m.start.length + 1 /\ wts (m.move.getD i []) <= 100000000 /\ wts (lvM m i) <= 60000000 /\ wts (m.say.getD i []) <= 60000000 := fun i hi => by
  have h1 := r.lv hi; have h2 := r.mv i hi; have h3 := r.y i hi
  exact ⟨shrQ_len h1.1 h1.1,by omega,by omega,by omega⟩
 repeat first | refine nx ?_ | intro _
 (repeat' (first | refine And.intro ?_ ?_ | trivial | rfl | omega))
instance reestimated_c [i : VM S m] [j : VC T c] : Ct Tryz.prog 28 [S,T] (RwM 2600000 m /\ RwC 2600000 m c) (mv (reeM m c)) := by
 haveI := i.t
 haveI := j.t
 refine ct2 i.v j.v (ctI Tryz.call28 Tryz.func28 Tryz.ntmps28 rfl Tryz.results28 rfl [] fun h0 w0 ⟨r,q⟩ => ?_)
 have hn := r.n
 have hl := r.l
 have hs := r.s
 have ql := q.l
 have qs := q.s
 have h5 : ∀ i,i < m.start.length -> (shrQ (lvC c i) (lvM m i)).length = m.start.length + 1 /\ wts (m.move.getD i []) <= 100000000 /\ (wts (c.move.getD i []) <= 30000000 /\ bf (c.fin.getD i fr0) <= 20000000 /\ i < c.move.length /\ i < c.fin.length /\ wts (lvM m i) <= 60000000) /\ (wts (c.say.getD i []) <= 60000000 /\ i < c.say.length /\ wts (m.say.getD i []) <= 60000000) := fun i hi => by
  have h1 := r.lv hi; have h2 := r.mv i hi; have h3 := r.y i hi; have q1 := q.lv hi; have q2 := q.mv i hi; have q3 := q.y i hi
  exact ⟨shrQ_len q1.1 h1.1,by omega,⟨by omega,by omega,by omega,by omega,by omega⟩,by omega,by omega,by omega⟩
 repeat first | refine nx ?_ | intro _
 (repeat' (first | refine And.intro ?_ ?_ | trivial | rfl | omega))
instance coarsened_c [i : VM S m] : Ct Tryz.prog 30 [S,iv d] (RwM 2600000 m /\ -9223372036854775808 <= d /\ d <= 9223372036854775807) (mv (coaM m d)) := by
 haveI := i.t
 refine ct1 i.v (ctI Tryz.call30 Tryz.func30 Tryz.ntmps30 rfl Tryz.results30 rfl [] fun h0 w0 ⟨r,d1,d2⟩ => ?_)
 have hn := r.n
 have hl := r.l
 have hs := r.s
 have h5 : ∀ i,i < m.start.length -> (coaQ (lvM m i) d).length = m.start.length + 1 /\ wts (m.move.getD i []) <= 100000000 /\ (0 < (lvM m i).length /\ wts (lvM m i) <= 5400000 /\ -9223372036854775808 <= d /\ d <= 9223372036854775807) /\ (0 < (m.say.getD i []).length /\ wts (m.say.getD i []) <= 5400000 /\ -9223372036854775808 <= d /\ d <= 9223372036854775807) := fun i hi => by
  have h1 := r.lv hi; have h2 := r.mv i hi; have h3 := r.y i hi
  exact ⟨by unfold coaQ flrQ; rw [List.length_set,List.length_map]; exact h1.1,by omega,⟨by omega,by omega,d1,d2⟩,by omega,by omega,d1,d2⟩
 repeat first | refine nx ?_ | intro _
 (repeat' (first | refine And.intro ?_ ?_ | trivial | rfl | omega))
end
section
variable {l : List Fr} {S : SV}
end
section
variable {m : Md} {c : CtF} {S T : SV}
end
section
variable {l : List Fr} {v : Value} {B : List Res}
end
section
variable {a b : List Fr} {S T : SV}
end
section
variable {a : List Fr} {d : Int} {S : SV}
end
section
variable {m : Md} {c : CtF} {d : Int} {S T : SV}
end
theorem any_of {l : List Fr} {n : Nat} (hl : l.length = n) (h : ∀ i,i < n -> negF (l.getD i fr0) = false) : l.any negF = false := by
 rw [<- Bool.not_eq_true,List.any_eq_true]
 rintro ⟨x,hx,hn⟩
 obtain ⟨i,hi,rfl⟩ := List.getElem_of_mem hx
 have := h i (by omega)
 rw [List.getD_eq_getElem?_getD,List.getElem?_eq_getElem hi] at this
 have : negF l[i] = false := this
 rw [this] at hn; cases hn
section
variable {m : Md} {c : CtF} {S T : SV}
end
end Go.E3
namespace Go.Ear
theorem sumTo_mulc (c : Rat) (q : Nat -> Rat) : ∀ n,sumTo (fun i => q i * c) n = sumTo q n * c
 | 0 => by show (0 : Rat) = 0 * c; rw [Rat.zero_mul]
 | n + 1 => by rw [sumTo_succ,sumTo_succ,sumTo_mulc c q n,Rat.add_mul]
theorem sumTo_divc (c : Rat) (q : Nat -> Rat) (n : Nat) : sumTo (fun i => q i / c) n = sumTo q n / c := by
 rw [Rat.div_def, <- sumTo_mulc]; exact sumTo_congr n fun i _ => Rat.div_def _ _
theorem sumTo_plus (q p : Nat -> Rat) : ∀ n,sumTo (fun i => q i + p i) n = sumTo q n + sumTo p n
 | 0 => by exact (Rat.add_zero 0).symm
 | n + 1 => by rw [sumTo_succ,sumTo_succ,sumTo_succ,sumTo_plus q p n]; grind
theorem inv_nn {q : Rat} (h : 0 <= q) : 0 <= q⁻¹ := by
 by_cases e : q = 0
 · rw [e,Rat.inv_zero]; exact Rat.le_refl
 · exact Rat.le_of_lt (Rat.inv_pos.2 (by grind))
theorem sumTo_none {q : Nat -> Rat} {n : Nat} (h : ∀ i,i < n -> q i = 0) : sumTo q n = 0 := (sumTo_congr n h).trans (sumTo_zero n)
theorem sumTo_swap (q : Nat -> Nat -> Rat) (k : Nat) : ∀ n,sumTo (fun i => sumTo (q i) k) n = sumTo (fun j => sumTo (fun i => q i j) n) k
 | 0 => by show (0 : Rat) = _; exact (sumTo_zero k).symm
 | n + 1 => by
   rw [sumTo_succ,sumTo_swap q k n, <- sumTo_plus]; rfl
theorem sumTo_all1 : ∀ {n : Nat} {q : Nat -> Rat},(∀ i,i < n -> q i = 1) -> sumTo q n = ((n : Nat) : Rat)
 | 0,_,_ => rfl
 | n + 1,q,h => by rw [sumTo_succ,sumTo_all1 fun i hi => h i (by omega),h n (by omega)]; exact (Rat.natCast_add n 1).symm
theorem sum_pY {t : Tr} (h : lk t ≠ 0) {k : Nat} (hk : k < t.o.length) : sumTo (fun i => pY t i k) t.m.start.length = 1 := by
 unfold pY
 rw [sumTo_divc,lk_both' hk]
 rw [Rat.div_def,Rat.mul_inv_cancel _ h]
theorem sum_pS {t : Tr} (h : lk t ≠ 0) (hk : 0 < t.o.length) : sumTo (pS t) t.m.start.length = 1 := by
 have := sum_pY h hk
 exact this
theorem sum_pE {t : Tr} (h : lk t ≠ 0) (hk : 0 < t.o.length) : sumTo (pE t) t.m.start.length = 1 := by
 unfold pE
 rw [sumTo_divc, <- lk_fwd hk]
 rw [Rat.div_def,Rat.mul_inv_cancel _ h]
theorem sum_wM {t : Tr} {i k : Nat} (hk : k + 1 < t.o.length) (hi : i < t.m.start.length) : sumTo (wM t i k) t.m.start.length = (fwd t k).getD i 0 * (bwd t (t.o.length - 1 - k)).getD i 0 := by
 have h : (bwd t (t.o.length - 1 - k)).getD i 0 = sumTo (fun j => moveT t i j * sayT t j (k + 1) * (bwd t (t.o.length - 1 - (k + 1))).getD j 0) t.m.start.length := by
  have := bwd_succ (t := t) (i := i) (k := t.o.length - 1 - (k + 1)) hi
  rw [show t.o.length - 1 - (k + 1) + 1 = t.o.length - 1 - k by omega,show t.o.length - 1 - (t.o.length - 1 - (k + 1)) = k + 1 by omega] at this
  exact this.symm
 rw [h,Rat.mul_comm, <- sumTo_mulc]
 refine sumTo_congr _ fun j _ => ?_
 unfold wM; grind
theorem sum_pM {t : Tr} (h : lk t ≠ 0) {k : Nat} (hk : k + 1 < t.o.length) : sumTo (fun i => sumTo (pM t i k) t.m.start.length) t.m.start.length = 1 := by
 rw [<- sum_pY h (show k < t.o.length by omega)]
 refine sumTo_congr _ fun i hi => ?_
 show sumTo (fun j => wM t i k j / lk t) _ = _
 rw [sumTo_divc,sum_wM hk hi]; rfl
theorem getD_K' (l : List Rat) (i : Nat) : ((l.map frK).getD i fr0).rat = l.getD i 0 := by
 rw [List.getD_eq_getElem?_getD,List.getElem?_map,List.getD_eq_getElem?_getD]
 cases l[i]? with
 | none => show fr0.rat = 0; decide +kernel
 | some q => exact frK_rat q
def sumR (l : List Rat) : Rat := sumTo (fun i => l.getD i 0) l.length
def sumX (l : List (List Rat)) : Rat := sumTo (fun i => sumR (l.getD i [])) l.length
theorem sumF_K (l : List Rat) : sumF (l.map frK) = sumR l := by
 rw [sumF_sum,List.length_map]; exact sumTo_congr _ fun i _ => getD_K' l i
theorem pY_nn {t : Tr} (nn : Nn t.m) (i k : Nat) : 0 <= pY t i k := by
 unfold pY; rw [Rat.div_def]
 exact Rat.mul_nonneg (Rat.mul_nonneg (fwd_nn nn _ _) (bwd_nn nn _ _)) (inv_nn (lk_nn nn))
theorem sumR_range (f : Nat -> Rat) (n : Nat) : sumR ((List.range n).map f) = sumTo f n := by
 unfold sumR; rw [List.length_map,List.length_range]; exact sumTo_congr n fun i hi => range_getD _ _ hi
theorem sumR_addR {a b : List Rat} (h : b.length = a.length) : sumR (addR a b) = sumR a + sumR b := by
 rw [addR,sumR_range,sumTo_plus]; unfold sumR; rw [h]
theorem sumX_addM {a b : List (List Rat)} (h : b.length = a.length) (hr : ∀ i,i < a.length -> (b.getD i []).length = (a.getD i []).length) : sumX (addM a b) = sumX a + sumX b := by
 unfold sumX
 rw [addM_len,h, <- sumTo_plus]
 refine sumTo_congr _ fun i hi => ?_
 rw [<- addM_at hi,sumR_addR (hr i hi)]
theorem sumR_set {l : List Rat} {x : Nat} {q : Rat} (hx : x < l.length) : sumR (l.set x (l.getD x 0 + q)) = sumR l + q := by
 unfold sumR
 rw [List.length_set]
 have key : ∀ n,sumTo (fun i => (l.set x (l.getD x 0 + q)).getD i 0) n = sumTo (fun i => l.getD i 0) n + (if x < n then q else 0) := by
  intro n
  induction n with
  | zero => show (0 : Rat) = 0 + _; rw [if_neg (by omega),Rat.add_zero]
  | succ n ih =>
    rw [sumTo_succ,sumTo_succ,ih]
    by_cases e : x = n
    · subst e; rw [getD_set_is hx,if_neg (by omega),if_pos (by omega)]; grind
    · rw [getD_set_ne' e]
      by_cases e2 : x < n
      · rw [if_pos e2,if_pos (by omega)]; grind
      · rw [if_neg e2,if_neg (by omega)]; grind
 rw [key,if_pos hx]
theorem sumR_rep (n : Nat) : sumR (List.replicate n 0) = 0 := by
 unfold sumR
 refine sumTo_none fun i _ => ?_
 rw [List.getD_eq_getElem?_getD,List.getElem?_replicate]; split <;> rfl
theorem sum_sayRow {t : Tr} (ok : TOk t) (i : Nat) : ∀ k,k <= t.o.length -> sumR (sayRow t i k) = sumTo (fun k => pY t i k) k
 | 0,_ => sumR_rep _
 | k + 1,h => by
   rw [sayRow,sumR_set (by rw [sayRow_len]; exact (ok.sy0 (k := k) (by omega)).2),sum_sayRow ok i k (by omega)]; rfl
theorem sum_mvRow {t : Tr} (i : Nat) : ∀ k,sumR (mvRow t i k) = sumTo (fun k => sumTo (pM t i k) t.m.start.length) k
 | 0 => sumR_rep _
 | k + 1 => by
   rw [mvRow,sumR_range,sumTo_plus,sumTo_succ, <- sum_mvRow i k]; unfold sumR; rw [mvRow_len]
theorem sum_cntS {t : Tr} (h : lk t ≠ 0) : sumR (cntS t) = 1 := by unfold cntS; rw [sumR_range]; exact sum_pS h (lk_pos h)
theorem sum_cntE {t : Tr} (h : lk t ≠ 0) : sumR (cntE t) = 1 := by unfold cntE; rw [sumR_range]; exact sum_pE h (lk_pos h)
theorem sumX_range (f : Nat -> List Rat) (n : Nat) : sumX ((List.range n).map f) = sumTo (fun i => sumR (f i)) n := by
 unfold sumX; rw [List.length_map,List.length_range]; exact sumTo_congr n fun i hi => by rw [range_getD _ _ hi]
theorem sum_cntY {t : Tr} (ok : TOk t) (h : lk t ≠ 0) : sumX (cntY t) = ((t.o.length : Nat) : Rat) := by
 unfold cntY
 rw [sumX_range,sumTo_congr (q' := fun i => sumTo (fun k => pY t i k) t.o.length) _ fun i _ => sum_sayRow ok i _ (Nat.le_refl _),sumTo_swap]
 exact sumTo_all1 fun k hk => sum_pY h hk
theorem sum_cntM {t : Tr} (h : lk t ≠ 0) : sumX (cntM t) = ((t.o.length - 1 : Nat) : Rat) := by
 unfold cntM
 rw [sumX_range,sumTo_congr (q' := fun i => sumTo (fun k => sumTo (pM t i k) t.m.start.length) (t.o.length - 1)) _ fun i _ => sum_mvRow i _,sumTo_swap]
 exact sumTo_all1 fun k hk => sum_pM h (by omega)
def frmT (m : Md) (data : List (List Int)) : Nat -> Int
 | 0 => 0
 | k + 1 => if lk (trK m data k) = 0 then frmT m data k else frmT m data k + ((data.getD k []).length : Int)
theorem frm_t {m : Md} {data : List (List Int)} {k : Nat} (h : lk (trK m data k) = 0) : frmT m data (k + 1) = frmT m data k := by rw [frmT]; exact if_pos h
theorem frm_f {m : Md} {data : List (List Int)} {k : Nat} (h : ¬ lk (trK m data k) = 0) : frmT m data (k + 1) = frmT m data k + ((data.getD k []).length : Int) := by rw [frmT]; exact if_neg h
theorem sumX_rep (n k : Nat) : sumX (List.replicate n (List.replicate k 0)) = 0 := by
 unfold sumX
 refine sumTo_none fun i hi => ?_
 rw [List.length_replicate] at hi
 rw [<- rep_getD (x := List.replicate k (0 : Rat)) (d := []) hi]; exact sumR_rep k
theorem allT_row' (m : Md) (data : List (List Int)) : ∀ k i,i < m.start.length -> ((allT m data k).move.getD i []).length = m.start.length /\ ((allT m data k).say.getD i []).length = symb m
 | 0,i,hi => by
   rw [allT,ctZ]
   dsimp only
   rw [<- rep_getD (x := List.replicate m.start.length (0 : Rat)) (d := []) hi, <- rep_getD (x := List.replicate (symb m) (0 : Rat)) (d := []) hi]; simp
 | k + 1,i,hi => by
   have ih := allT_row' m data k i hi
   have hl := allT_len m data k
   by_cases h : lk (trK m data k) = 0
   · rw [allT_t h]; exact ih
   · rw [allT_f h]; dsimp only
     rw [<- addM_at (by omega), <- addM_at (by omega),addR_len,addR_len]; exact ih
theorem all_sums {m : Md} {data : List (List Int)} (ok : ∀ k,k < data.length -> TOk (trK m data k)) : ∀ k,k <= data.length ->
 sumR (allT m data k).start = (((allT m data k).used : Int) : Rat) /\ sumR (allT m data k).fin = (((allT m data k).used : Int) : Rat) /\ sumX (allT m data k).say = ((frmT m data k : Int) : Rat) /\ sumX (allT m data k).move = ((frmT m data k - (allT m data k).used : Int) : Rat)
 | 0,_ => ⟨sumR_rep _,sumR_rep _,sumX_rep _ _,sumX_rep _ _⟩
 | k + 1,hk => by
   have ⟨i1,i2,i3,i4⟩ := all_sums ok k (by omega)
   have hl := allT_len m data k
   by_cases h : lk (trK m data k) = 0
   · rw [allT_t h,frm_t h]; exact ⟨i1,i2,i3,i4⟩
   · have hp : 0 < (trK m data k).o.length := lk_pos h
     have e1 : (trK m data k).o.length = (data.getD k []).length := rfl
     have hr := allT_row' m data k
     rw [allT_f h,frm_f h]
     dsimp only
     refine ⟨?_, ?_, ?_, ?_⟩
     · rw [sumR_addR (by rw [hl.1]; exact cntS_len _),i1,show (cntT (trK m data k)).start = cntS _ from rfl,sum_cntS h,Rat.intCast_add]; rfl
     · rw [sumR_addR (by rw [hl.2.1]; exact cntE_len _),i2,show (cntT (trK m data k)).fin = cntE _ from rfl,sum_cntE h,Rat.intCast_add]; rfl
     · rw [sumX_addM (by rw [hl.2.2.2.1]; exact cntY_len _) (fun i hi => by rw [hl.2.2.2.1] at hi; exact (cntY_row (t := trK m data k) hi).trans (hr i hi).2.symm),i3,show (cntT (trK m data k)).say = cntY _ from rfl,sum_cntY (ok k (by omega)) h,Rat.intCast_add]; rfl
     · rw [sumX_addM (by rw [hl.2.2.1]; exact cntM_len _) (fun i hi => by rw [hl.2.2.1] at hi; exact (cntM_row (t := trK m data k) hi).trans (hr i hi).1.symm),i4,show (cntT (trK m data k)).move = cntM _ from rfl,sum_cntM h, <- Rat.intCast_natCast, <- Rat.intCast_add]
       congr 1; omega
end Go.Ear
namespace Go.Ear
def rbw (t : Tr) (F : Nat -> List Rat) : Nat -> List Rat
 | 0 => (List.range t.m.start.length).map fun i => (t.m.fin.getD i fr0).rat
 | k + 1 => (List.range t.m.start.length).map fun i => sumTo (fun j => if (F (t.o.length - 1 - k)).getD j 0 = 0 then 0 else moveT t i j * sayT t j (t.o.length - 1 - k) * (rbw t F k).getD j 0) t.m.start.length
theorem sumTo_zero_all : ∀ {n : Nat} {q : Nat -> Rat},(∀ i,i < n -> 0 <= q i) -> sumTo q n = 0 -> ∀ i,i < n -> q i = 0
 | n + 1,q,hq,h,i,hi => by
   have h1 := sumTo_nonneg n fun i hi => hq i (show i < n + 1 by omega)
   have h2 := hq n (by omega)
   rw [sumTo_succ] at h
   have h3 : sumTo q n = 0 := by clear hq; grind
   by_cases e : i = n
   · subst e; rw [h3,Rat.zero_add] at h; exact h
   · exact sumTo_zero_all (fun i hi => hq i (by omega)) h3 i (by omega)
def rTot (t : Tr) (F : Nat -> List Rat) : Rat := if t.o.length = 0 then 0 else sumTo (fun i => (F (t.o.length - 1)).getD i 0 * (t.m.fin.getD i fr0).rat) t.m.start.length
def rWm (t : Tr) (F : Nat -> List Rat) (i k j : Nat) : Rat := (F k).getD i 0 * moveT t i j * sayT t j (k + 1) * (rbw t F (t.o.length - 1 - (k + 1))).getD j 0
def rM (t : Tr) (F : Nat -> List Rat) (i k j : Nat) : Rat := if (F (k + 1)).getD j 0 = 0 then 0 else rWm t F i k j / rTot t F
end Go.Ear
