/- LawModelJoins: a part of the proofs about package model: how the program's functions run, and what they compute, for every input. -/
import Derived.Test.YtpmndikbfalfoaaGreatJ1
import Derived.Test.YtpmndikbfalfoaaGreatP9
set_option linter.all false
set_option linter.unusedVariables false
set_option maxRecDepth 20000
set_option maxHeartbeats 16000000
set_option synthInstance.maxSize 1000
namespace Go.E3
open Go Go.Ear Go.Proofs
theorem gDzL {P : Program} {n : Nat} {X : Fix} {ms : List Nat} {loc env : EL} {B : List Res} {k : Kt} (sz : Nat) (lt : Nat → Bool) (m : Nat) {ol : List Oper} {id : Nat} [mx : MixO P] (hs : Nat.beq ol.length sz = true) (c : (dagC ol m (env.map (·.1)) && ol.all noDefer) = true) (g : GE P n X ms [] env B ol ol k lt m 0 (fun _ => []) []) : GW P n X ms loc env B (.region id ol.toArray true) k := gDrL lt m c g
theorem good_valid {m : Md} {o : List Int} (h : checkE [m] [o] = 0) : validM m = true ∧ longM m = false := checkE_valid h m (List.mem_singleton.2 rfl)
theorem symb64 {m : Md} (hv : validM m = true) (hl : longM m = false) : symb m ≤ 64 := by
  have h := valid_len hv
  unfold longM at hl
  simp only [Bool.or_eq_false_iff, decide_eq_false_iff_not, Bool.and_eq_false_iff] at hl
  rcases hl.2 with h | h <;> omega
theorem any_take {α : Type} {p : α → Bool} {l : List α} (h : l.any p = false) (t : Nat) : (l.take t).any p = false := by
  rw [List.any_eq_false] at h ⊢; exact fun x hx => h x (List.mem_of_mem_take hx)
theorem any_drop {α : Type} {p : α → Bool} {l : List α} (h : l.any p = false) (t : Nat) : (l.drop t).any p = false := by
  rw [List.any_eq_false] at h ⊢; exact fun x hx => h x (List.mem_of_mem_drop hx)
theorem checkE_part {m : Md} {o q : List Int} (h : checkE [m] [o] = 0) (hl : q.length ≤ o.length) (hq : q.any (offS (symb m : Int)) = false) : checkE [m] [q] = 0 := by
  have := (checkE_TOk h).n
  exact checkE_mk (good_valid h).1 (good_valid h).2 (by dsimp only at this; omega) hq
section
variable {a b : Md}
theorem side_two (ha : validM a = true) (hb : validM b = true) (hs : symb a = symb b) : SideOk [a, b] (symb a) :=
  ⟨by show 1 ≤ 2; omega, fun x hx => by
    match x, hx with
    | 0, _ => exact ha
    | 1, _ => exact hb, fun x hx => by
    match x, hx with
    | 0, _ => rfl
    | 1, _ => exact hs.symm⟩
theorem begin_two (ha : validM a = true ∧ longM a = false) (hb : validM b = true ∧ longM b = false) (hs : symb a = symb b) : beginE [a, b] = 0 := by
  refine begin_ok (checkE_nil (fun m hm => ?_) fun m hm => ?_) (by show ¬ 2 = 0; omega) ?_
  · rcases List.mem_cons.1 hm with rfl | hm
    · exact ha.1
    · rw [List.mem_singleton.1 hm]; exact hb.1
  · rcases List.mem_cons.1 hm with rfl | hm
    · exact ha.2
    · rw [List.mem_singleton.1 hm]; exact hb.2
  · rw [Bool.not_eq_true, List.any_eq_false]
    intro m hm
    unfold symOff
    simp only [decide_eq_true_eq, ne_eq, Classical.not_not]
    rcases List.mem_cons.1 hm with rfl | hm
    · rfl
    · rw [List.mem_singleton.1 hm]; exact hs.symm
theorem two_W (ha : MdW 2 a) (hb : MdW 2 b) : ∀ x, MdW 2 ([a, b].getD x md0) := fun x => by
  match x with
  | 0 => exact ha
  | 1 => exact hb
  | x + 2 => exact MdW.of (by decide) (fun f hf => by cases hf) (fun r hr => by cases hr) (fun f hf => by cases hf) (fun r hr => by cases hr)
end
instance joinR_ft {ms : List Md} : FtM (joinR ms) := by
  unfold joinR; split
  · exact inferInstanceAs (FtM (Go.Ear.mdK _ _ _ _))
  · exact inferInstanceAs (FtM ⟨[], [], [], []⟩)
theorem dist_two {p : Fr} : distF [p, frK (((1 : Int) : Rat) - p.rat)] = true ↔ 0 ≤ p.rat ∧ 0 ≤ ((1 : Int) : Rat) - p.rat := by
  rw [dist_iff]
  constructor
  · rintro ⟨h, _⟩
    refine ⟨h 0, ?_⟩
    have := h 1
    rwa [show ([p, frK (((1 : Int) : Rat) - p.rat)].getD 1 fr0).rat = ((1 : Int) : Rat) - p.rat from frK_rat _] at this
  · rintro ⟨h1, h2⟩
    refine ⟨fun i => ?_, ?_⟩
    · match i with
      | 0 => exact h1
      | 1 => show 0 ≤ (frK _).rat; rw [frK_rat]; exact h2
      | i + 2 => exact (by decide +kernel : (0 : Rat) ≤ fr0.rat)
    · rw [sumF_cons, sumF_cons, frK_rat, show sumF [] = 0 from rfl]
      have : (((1 : Int) : Rat)) = 1 := rfl
      rw [this]; grind
theorem sg_neg {q : Rat} : sgQ q < 0 ↔ ¬ 0 ≤ q := by
  by_cases h : 0 ≤ q
  · refine ⟨fun e => ?_, fun e => absurd h e⟩
    by_cases h0 : q = 0
    · rw [sgQ_zero.2 h0] at e; exact absurd e (by decide)
    · have := sgQ_pos.2 (show 0 < q by grind); omega
  · refine ⟨fun _ => h, fun _ => ?_⟩
    have h1 := sgQ_bd q
    by_cases h0 : sgQ q = 0
    · exact absurd (sgQ_zero.1 h0 ▸ Rat.le_refl) h
    · by_cases h2 : 0 < sgQ q
      · exact absurd (Rat.le_of_lt (sgQ_pos.1 h2)) h
      · omega
theorem modelJoins_c {a b : Md} {o : List Int} {p : Fr} (ua : UpK a) (ub : UpK b) (uo : o.length ≤ 1048576 ∧ I64s o) (up : bf p ≤ 1048576 ∧ FtF p) : Ct Tryz.prog 11 [mv a, mv b, lv rI o, fv p] True (bv true) := by
  refine (ctI Tryz.call11 Tryz.func11 Tryz.ntmps11 rfl Tryz.results11 rfl [] fun h0 w0 _ => ?_)
  haveI := ua.t
  haveI := ub.t
  haveI := up.2
  have ba := ua.b
  have bb := ub.b
  have wa := ua.w
  have wb := ub.w
  have ho := uo.1
  repeat first | refine gDz 29 29 (by rfl) (by kernel_rfl) ?_ | refine nx ?_ | intro _
  refine gIf (fun c => ?_) fun c => ?_
  · repeat first | refine nx ?_ | intro _
    trivial
  have c1 : fairB a o 3 5 = true := Classical.not_not.1 fun e => c (.inl (.inl (.inl (.inl e))))
  have c2 : fairB b o 3 5 = true := Classical.not_not.1 fun e => c (.inl (.inl (.inl (.inr e))))
  have c3 : symb a = symb b := Classical.not_not.1 fun e => c (.inl (.inl (.inr e)))
  have c4 : p.n.length ≤ 1 := by have : ¬ 1 < p.n.length := fun e => c (.inl (.inr e)); omega
  have c5 : p.d.length ≤ 1 := by have : ¬ 1 < p.d.length := fun e => c (.inr e); omega
  obtain ⟨ga, hol, hEa⟩ := fair_all' ua.t c1
  obtain ⟨gb, _, hEb⟩ := fair_all' ub.t c2
  clear c c1 c2
  have hpb : bf p ≤ 1 := by unfold bf; omega
  have hpq : bq p.rat ≤ 1 := Nat.le_trans (FtS.bqg (l := [p]) inferInstance 0) hpb
  have ga3 := ga.s
  have gb3 := gb.s
  have va := good_valid hEa
  have vb := good_valid hEb
  have so := side_two va.1 vb.1 c3
  have hB := begin_two va vb c3
  have hS := begin_some hB
  have hW := two_W ga.w gb.w
  have hoff := (off2 (a := a) (b := b)).2.2
  have hn6 : offN [a, b] 2 ≤ 6 := by rw [hoff]; omega
  have hk64 : symb a ≤ 64 := symb64 va.1 va.2
  have hha := heard_of hEa
  have hhb := heard_of hEb
  have hJ : joinE [a, b] = 0 := join_ok hB (by show ¬ 40 < offN [a, b] 2; omega)
  have hJm : joinR [a, b] = Go.Ear.mdK (joinS [a, b]) (joinM (offN [a, b] 2) [a, b]) (joinF [a, b]) (bsY [a, b] 2) := by
    unfold joinR; rw [if_pos hJ]; unfold joinMd; rw [← hS.2]; rfl
  have vJ : VK (offN [a, b] 2) (symb a) (joinS [a, b]) (joinM (offN [a, b] 2) [a, b]) (joinF [a, b]) (bsY [a, b] 2) := join_VK so
  have wJ : MdW 4 (Go.Ear.mdK (joinS [a, b]) (joinM (offN [a, b] 2) [a, b]) (joinF [a, b]) (bsY [a, b] 2)) := mdK_W (joinS_bq hW) (joinM_bq hW _) (joinF_bq hW) (bsY_bq hW)
  have bJ := vJ.B (K := 1000) (by omega) (by omega) wJ (by decide)
  have jo := join_two so
  have eJ : checkE [Go.Ear.mdK (joinS [a, b]) (joinM (offN [a, b] 2) [a, b]) (joinF [a, b]) (bsY [a, b] 2)] [o] = 0 := checkE_mk vJ.valid (vJ.long (by omega) hk64) (by omega) (by rw [vJ.symb]; exact hha)
  have lJ : (Go.Ear.mdK (joinS [a, b]) (joinM (offN [a, b] 2) [a, b]) (joinF [a, b]) (bsY [a, b] 2)).start.length ≤ 6 := by show ((joinS [a, b]).map frK).length ≤ 6; rw [List.length_map, vJ.l.1]; exact hn6
  rw [← hJm] at wJ bJ jo eJ lJ
  have fJ : FwB ⟨joinR [a, b], o⟩ := FwB.of (N := 4) (t := ⟨joinR [a, b], o⟩) (S := 6) wJ lJ (by decide) (by decide) hol (by decide)
  have qJ : bq (lk ⟨joinR [a, b], o⟩) ≤ 200000 := Nat.le_trans (lk_bq (t := ⟨joinR [a, b], o⟩) (S := 6) (N := 4) wJ lJ (by decide) (by decide) hol) (by decide)
  have f1 : [a, b].length ≤ 1000 ∧ ∀ m ∈ [a, b], MdB 10000000 m := ⟨by show 2 ≤ 1000; omega, fun m hm => by
    rcases List.mem_cons.1 hm with rfl | hm
    · exact wa
    · rw [List.mem_singleton.1 hm]; exact wb⟩
  have f2 : o.length ≤ 1099511627776 ∧ MdB 10000000 (joinR [a, b]) ∧ (checkE [joinR [a, b]] [o] = 0 → MdB 100000 (joinR [a, b]) ∧ FwB ⟨joinR [a, b], o⟩) := ⟨by omega, bJ.weak (by decide), fun _ => ⟨bJ.weak (by decide), fJ⟩⟩
  have hq1 : bq ((1 : Int) : Rat) ≤ 2 := bq_intc (by decide) (by decide)
  have hqr : bq (((1 : Int) : Rat) - p.rat) ≤ 4 := by have := bq_sub ((1 : Int) : Rat) p.rat; omega
  have hp5 : bf p ≤ 5 := by omega
  repeat first | refine nx ?_ | intro _
  rw [hJ, eJ]
  refine gIf (fun c => absurd c (by simp)) fun c => ?_
  clear c
  have eT := fun (q : List Int) (hq : q.length ≤ 5) (h1 : checkE [a] [q] = 0) => ga.fw (o := q) 4 hq (by decide) (by decide)
  have fA : ∀ t, t ≤ o.length → checkE [a] [o.take t] = 0 := fun t ht => checkE_part hEa (by rw [List.length_take]; omega) (any_take hha t)
  have fB2 : ∀ t, t ≤ o.length → checkE [b] [o.drop t] = 0 := fun t ht => checkE_part hEb (by rw [List.length_drop]; omega) (any_drop hhb t)
  have lA : ∀ t, (o.take t).length ≤ 5 := fun t => by rw [List.length_take]; omega
  have lB : ∀ t, (o.drop t).length ≤ 5 := fun t => by rw [List.length_drop]; omega
  have qA : ∀ q : List Int, q.length ≤ 5 → bq (lk ⟨a, q⟩) ≤ 3000 := fun q hq => Nat.le_trans (ga.lk (o := q) 4 hq (by decide)) (by decide)
  have qB : ∀ q : List Int, q.length ≤ 5 → bq (lk ⟨b, q⟩) ≤ 3000 := fun q hq => Nat.le_trans (gb.lk (o := q) 4 hq (by decide)) (by decide)
  have gA : ∀ t, t ≤ o.length → (o.take t).length ≤ 1099511627776 ∧ MdB 10000000 a ∧ (checkE [a] [o.take t] = 0 → MdB 100000 a ∧ FwB ⟨a, o.take t⟩) := fun t ht => ⟨Nat.le_trans (lA t) (by decide), wa, fun _ => ⟨ga.mB, ga.fw 4 (lA t) (by decide) (by decide)⟩⟩
  have gB : ∀ t, t ≤ o.length → (o.drop t).length ≤ 1099511627776 ∧ MdB 10000000 b ∧ (checkE [b] [o.drop t] = 0 → MdB 100000 b ∧ FwB ⟨b, o.drop t⟩) := fun t ht => ⟨Nat.le_trans (lB t) (by decide), wb, fun _ => ⟨gb.mB, gb.fw 4 (lB t) (by decide) (by decide)⟩⟩
  have jl := lk_join (o := o) jo
  generalize hQ : (fun t => lk ⟨a, o.take t⟩ * lk ⟨b, o.drop t⟩) = Q at jl
  have hQq : ∀ t, bq (Q t) ≤ 6000 := fun t => by rw [← hQ]; exact Nat.le_trans (bq_mul _ _) (Nat.add_le_add (qA _ (lA t)) (qB _ (lB t)))
  repeat first | refine nx ?_ | intro _
  rename_i ν v10 v12 v14
  refine gLp (fun t : Nat => [(15, iv t)]) (fun t => [rV v14 [bv (frK (sumTo Q t)).neg, lv rU (frK (sumTo Q t)).n, lv rU (frK (sumTo Q t)).d] 31]) (fun t => t ≤ o.length + 1 ∧ bq (sumTo Q t) ≤ 1 + t * 6001) (fun t => o.length + 1 - t) 0 ⟨Nat.zero_le _, by show bq 0 ≤ _; rw [bq_zero]; decide⟩ (fun t ⟨ht, hq⟩ => ?_) (h2 := by rw [show sumTo Q 0 = 0 from rfl, frK_zero]; (repeat' (first | refine And.intro ?_ ?_ | trivial | rfl | omega)))
  repeat first | refine nx ?_ | intro _
  refine gIf (fun c => ?_) fun c => ?_
  · have f3 := gA t c
    have f4 := gB t c
    have e3 := fA t c
    have e4 := fB2 t c
    have l3 := likM_lk e3
    have l4 := likM_lk e4
    have q3 := qA _ (lA t)
    have q4 := qB _ (lB t)
    rw [← l3] at q3
    rw [← l4] at q4
    repeat first | refine gDzL 11 (fun j => Nat.beq j 7) 10 (by rfl) (by kernel_rfl) ?_ | refine nx ?_ | intro _
    refine gIf (fun c => absurd c (by simp [e3, e4])) fun c => ?_
    clear c
    have hv : likM a (o.take t) * likM b (o.drop t) = Q t := by rw [l3, l4, ← hQ]
    have hqt := hQq t
    have hqt2 := hqt
    rw [← hv] at hqt2
    have hba := bq_add (sumTo Q t) (Q t)
    have hbn : bq (sumTo Q (t + 1)) ≤ 1 + (t + 1) * 6001 := by rw [sumTo_succ]; omega
    repeat first | refine nx ?_ | intro _
    rw [hv, ← sumTo_succ]
    exact gBk (t + 1) ⟨by omega, hbn⟩ (by omega)
  · have et : t = o.length + 1 := by omega
    subst et
    have lj := likM_lk eJ
    have qj := qJ
    rw [← lj] at qj
    repeat first | refine nx ?_ | intro _
    rw [jl, lj]
    refine gIf (fun c => absurd c (by simp [sameF_self])) fun c => ?_
    clear c
    have f5 : [a, b].length ≤ 1000 ∧ (∀ m ∈ [a, b], MdB 10000000 m) ∧ wts [p, frK (((1 : Int) : Rat) - p.rat)] ≤ 10000000 ∧ [p, frK (((1 : Int) : Rat) - p.rat)].length ≤ 1048576 := ⟨f1.1, f1.2, by rw [wts_cons, wts_cons, bf_frK, show wts [] = 0 from rfl]; omega, by show 2 ≤ _; omega⟩
    repeat first | refine nx ?_ | intro _
    refine gIf (fun c => ?_) fun c => ?_
    · have hd : ¬ distF [p, frK (((1 : Int) : Rat) - p.rat)] = true := fun e => by
        have := dist_two.1 e
        rcases c with c | c
        · exact sg_neg.1 c this.1
        · exact sg_neg.1 c this.2
      have hX : mixE [p, frK (((1 : Int) : Rat) - p.rat)] [a, b] = 2 := mix_arg hB (.inr hd)
      rw [hX]
      repeat first | refine nx ?_ | intro _
      trivial
    · have hd : distF [p, frK (((1 : Int) : Rat) - p.rat)] = true := dist_two.2 ⟨Classical.byContradiction fun e => c (.inl (sg_neg.2 e)), Classical.byContradiction fun e => c (.inr (sg_neg.2 e))⟩
      have hX : mixE [p, frK (((1 : Int) : Rat) - p.rat)] [a, b] = 0 := mix_ok hB rfl hd (by show ¬ 40 < offN [a, b] 2; omega)
      have hXm : mixR [p, frK (((1 : Int) : Rat) - p.rat)] [a, b] = Go.Ear.mdK (mixS [p, frK (((1 : Int) : Rat) - p.rat)] [a, b] 2) (bsM (offN [a, b] 2) [a, b] 2) (bsE [a, b] 2) (bsY [a, b] 2) := by
        unfold mixR; rw [if_pos hX]; unfold mixMd; rw [← hS.2]; rfl
      have vX : VK (offN [a, b] 2) (symb a) (mixS [p, frK (((1 : Int) : Rat) - p.rat)] [a, b] 2) (bsM (offN [a, b] 2) [a, b] 2) (bsE [a, b] 2) (bsY [a, b] 2) := mix_VK so rfl hd
      have hww : ∀ x, bq (([p, frK (((1 : Int) : Rat) - p.rat)].getD x fr0).rat) ≤ 4 := fun x => by
        match x with
        | 0 => show bq p.rat ≤ 4; omega
        | 1 => show bq (frK _).rat ≤ 4; rw [frK_rat]; exact hqr
        | x + 2 => show bq fr0.rat ≤ 4; decide +kernel
      have wX : MdW 6 (Go.Ear.mdK (mixS [p, frK (((1 : Int) : Rat) - p.rat)] [a, b] 2) (bsM (offN [a, b] 2) [a, b] 2) (bsE [a, b] 2) (bsY [a, b] 2)) := mdK_W (mixS_bq hW hww) (fun i j => Nat.le_trans (bsM_bq hW _ i j) (by decide)) (fun i => Nat.le_trans (bsE_bq hW i) (by decide)) (fun i j => Nat.le_trans (bsY_bq hW i j) (by decide))
      have bX := vX.B (K := 1000) (by omega) (by omega) wX (by decide)
      have mo := mix_two (ws := [p, frK (((1 : Int) : Rat) - p.rat)]) so
      have eX : checkE [Go.Ear.mdK (mixS [p, frK (((1 : Int) : Rat) - p.rat)] [a, b] 2) (bsM (offN [a, b] 2) [a, b] 2) (bsE [a, b] 2) (bsY [a, b] 2)] [o] = 0 := checkE_mk vX.valid (vX.long (by omega) hk64) (by omega) (by rw [vX.symb]; exact hha)
      have lX : (Go.Ear.mdK (mixS [p, frK (((1 : Int) : Rat) - p.rat)] [a, b] 2) (bsM (offN [a, b] 2) [a, b] 2) (bsE [a, b] 2) (bsY [a, b] 2)).start.length ≤ 6 := by show ((mixS [p, frK (((1 : Int) : Rat) - p.rat)] [a, b] 2).map frK).length ≤ 6; rw [List.length_map, vX.l.1]; exact hn6
      rw [← hXm] at wX bX mo eX lX
      rw [show ([p, frK (((1 : Int) : Rat) - p.rat)].getD 0 fr0).rat = p.rat from rfl, show ([p, frK (((1 : Int) : Rat) - p.rat)].getD 1 fr0).rat = ((1 : Int) : Rat) - p.rat from frK_rat _] at mo
      have fX : FwB ⟨mixR [p, frK (((1 : Int) : Rat) - p.rat)] [a, b], o⟩ := FwB.of (N := 4) (t := ⟨_, o⟩) (S := 6) wX lX (by decide) (by decide) hol (by decide)
      have qX : bq (lk ⟨mixR [p, frK (((1 : Int) : Rat) - p.rat)] [a, b], o⟩) ≤ 200000 := Nat.le_trans (lk_bq (t := ⟨_, o⟩) (S := 6) (N := 4) wX lX (by decide) (by decide) hol) (by decide)
      have f6 : o.length ≤ 1099511627776 ∧ MdB 10000000 (mixR [p, frK (((1 : Int) : Rat) - p.rat)] [a, b]) ∧ (checkE [mixR [p, frK (((1 : Int) : Rat) - p.rat)] [a, b]] [o] = 0 → MdB 100000 (mixR [p, frK (((1 : Int) : Rat) - p.rat)] [a, b]) ∧ FwB ⟨mixR [p, frK (((1 : Int) : Rat) - p.rat)] [a, b], o⟩) := ⟨by omega, bX.weak (by decide), fun _ => ⟨bX.weak (by decide), fX⟩⟩
      have f7 : o.length ≤ 1099511627776 ∧ MdB 10000000 a ∧ (checkE [a] [o] = 0 → MdB 100000 a ∧ FwB ⟨a, o⟩) := ⟨by omega, wa, fun _ => ⟨ga.mB, ga.fw 4 hol (by decide) (by decide)⟩⟩
      have f8 : o.length ≤ 1099511627776 ∧ MdB 10000000 b ∧ (checkE [b] [o] = 0 → MdB 100000 b ∧ FwB ⟨b, o⟩) := ⟨by omega, wb, fun _ => ⟨gb.mB, gb.fw 4 hol (by decide) (by decide)⟩⟩
      have la := likM_lk hEa
      have lb := likM_lk hEb
      have lx := likM_lk eX
      have qa := qA o hol
      have qb := qB o hol
      have qx := qX
      rw [← la] at qa
      rw [← lb] at qb
      rw [← lx] at qx
      have q1 := Nat.le_trans (bq_mul p.rat (likM a o)) (Nat.add_le_add hpq qa)
      have q2 := Nat.le_trans (bq_mul (((1 : Int) : Rat) - p.rat) (likM b o)) (Nat.add_le_add hqr qb)
      have q3 := bq_add (p.rat * likM a o) ((((1 : Int) : Rat) - p.rat) * likM b o)
      have hmx := lk_mix (o := o) mo
      rw [hX]
      repeat first | refine nx ?_ | intro _
      rw [eX, lx, la, lb, hmx, sameF_self]; rfl
end Go.E3
