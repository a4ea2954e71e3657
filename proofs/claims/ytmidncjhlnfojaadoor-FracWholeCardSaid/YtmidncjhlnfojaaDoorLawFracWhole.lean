/- About package frac: LawFracWhole. -/
import Derived.Test.YtmidncjhlnfojaaDoorNatLaw2
import Derived.Test.YtmidncjhlnfojaaDoorEarShort
import Derived.Test.YtmidncjhlnfojaaDoorProg
import Derived.Test.YtmidncjhlnfojaaDoorNatLaw3
import Derived.Test.YtmidncjhlnfojaaDoorEarFrac
import Derived.Test.YtmidncjhlnfojaaDoorEarDec
import Derived.Test.YtmidncjhlnfojaaDoorItoaLay
import Derived.Lib.ItoaMem
import Derived.Test.YtmidncjhlnfojaaDoorEarApi
import Derived.Test.YtmidncjhlnfojaaDoorEarRef2
import Derived.Test.YtmidncjhlnfojaaDoorEarLaw
import Derived.Test.YtmidncjhlnfojaaDoorEarWhole
import Derived.Test.YtmidncjhlnfojaaDoorEarLaw2
import Derived.Test.YtmidncjhlnfojaaDoorEarLaw3
import Derived.Test.YtmidncjhlnfojaaDoorK14
import Derived.Test.YtmidncjhlnfojaaDoorX14
import Derived.Test.YtmidncjhlnfojaaDoorX15
import Derived.Test.YtmidncjhlnfojaaDoorXrDown
set_option linter.all false
namespace Go.Ear
open Go.Proofs
set_option maxRecDepth 20000
set_option linter.unusedVariables false
set_option maxHeartbeats 2000000
theorem fracWhole_c {h : PH} {w : World} {v0 : Value} {a : Fr} (hs : Sat h w) (tb : Tab h) (pv0 : F h v0 a) :
    Calls Tryd.prog 17 #[v0] w (Ret h w fun h' r => r = .bool true) := by
 obtain ⟨b1, c1, b2, c2, rfl, k1, k2, u1, u2⟩ := F.shape pv0
 have hbq1 := F.bq pv0
 have hio := int_ok (z := a.rat.floor)
 have hfl := bq_floor a.rat
 refine calls_ear (vs := [.agg #[.bool a.neg, .slice b1 a.n.length c1, .slice b2 a.d.length c2]]) Tryd.func17 rfl rfl ?_
 have g1 := Gr.refl hs
 refine sr (oC (OpW.boxK (v := .agg #[.bool a.neg, .slice b1 a.n.length c1, .slice b2 a.d.length c2]) (arr := #[.bool a.neg, .slice b1 a.n.length c1, .slice b2 a.d.length c2]) g1.sat rfl rfl ?_))
 intro b3 h1 w1 gr1 qb1
 refine ma (oN (wS (sr ?_)))
 have g2 := g1.trans gr1
 refine oC (lA (cs := [.bool a.neg, .slice b1 a.n.length c1, .slice b2 a.d.length c2]) Tryd.isAgg24 Tryd.sizeOf24 rfl (g2.sat _ _ qb1) rfl rfl ?_)
 refine oC (OpW.buildSliceO (arr := #[.bool a.neg, .slice b1 a.n.length c1, .slice b2 a.d.length c2]) g2.sat Tryd.underlying50 Tryd.zeroValue24 Tryd.sizeOf24 rfl (fillF1 (.bool a.neg) (.slice b1 a.n.length c1) (.slice b2 a.d.length c2)) ?_)
 intro b4 w2 gr2 n1 lo1 o1
 have lo2 := Nat.le_trans g2.ext.size lo1
 have g4 := g2.trans gr2
 obtain ⟨h2, g3, l1, qb2, fr1⟩ := freeze_ex g4 o1 n1 lo2
 have f1 : LR rpF h2 (.slice (some ⟨b4, 0, none⟩) 1 1) [a] := LR.own' qb2 (css := [[.bool a.neg, .slice b1 a.n.length c1, .slice b2 a.d.length c2]]) rfl (Rows.cons (F.mk (U.mono u1 (gr1.le.trans l1)) (U.mono u2 (gr1.le.trans l1))) Rows.nil) rfl (Nat.le_refl _)
 refine oC (cF Tryd.call25 (lsmall_c (l := [a]) g3.sat f1 (Nat.le_of_ble_eq_true rfl)) rfl ?_)
 intro r1 h3 w3 gr3 hr1
 subst hr1
 refine oC (OpW.notB (a := smallL ([a])) (r := !(smallL ([a]))) rfl rfl (oN (Wp.cond (t := !(smallL ([a]))) rfl (fun c3 => ?_) (fun c3 => ?_))))
 replace c3 : ¬ (smallL ([a]) = true) := (raw_f (not_t c3))
 refine sr ?_
 have g5 := g3.trans gr3
 refine oC (cF Tryd.call20 (known_c  g5.sat (tb.mono ((gr1.le.trans l1).trans gr3.le)) ) rfl ?_)
 intro r2 h4 w4 gr4 hr2
 subst hr2
 refine ma (oN (Wp.ret (fin1_ret rfl (resOf_tmp (v := .bool true) rfl) ?_)))
 have g6 := g5.trans gr4
 refine ⟨h4, g6, ?_⟩
 exact rfl
 replace c3 : ¬ (¬ (smallL ([a]) = true)) := (fun n => n (not_f c3))
 have hsm := small_bf1 (by have hx := c3; simpa using hx)
 refine Wp.skip (sr ?_)
 have g7 := g3.trans gr3
 refine oC (lA (cs := [.bool a.neg, .slice b1 a.n.length c1, .slice b2 a.d.length c2]) Tryd.isAgg24 Tryd.sizeOf24 rfl (g7.sat _ _ ((l1.trans gr3.le) _ _ qb1)) rfl rfl ?_)
 refine oC (cF Tryd.call59 (Whole_c (a := a) g7.sat (F.mk (U.mono u1 ((gr1.le.trans l1).trans gr3.le)) (U.mono u2 ((gr1.le.trans l1).trans gr3.le))) (by omega)) rfl ?_)
 intro r3 h5 w5 gr5 hr3
 obtain ⟨r4, r5, rfl, hr4, hr5⟩ := hr3
 subst hr4
 subst hr5
 refine mv (oC (OpW.extract (v := .int .i64 (wholeQ a.rat)) rfl rfl ?_))
 refine oC (OpW.extract (v := .int .i64 (wholeE a.rat)) rfl rfl (ma (ma (oN (wS (fg [(1, .pointer (some ⟨b3, 0, none⟩)), (3, .int .i64 (wholeQ a.rat)), (4, .int .i64 (wholeE a.rat))] rfl (fun ρ1 => (wR ?_))))))))
 have g8 := g7.trans gr5
 refine oC (lA (cs := [.bool a.neg, .slice b1 a.n.length c1, .slice b2 a.d.length c2]) Tryd.isAgg24 Tryd.sizeOf24 rfl (g8.sat _ _ (((l1.trans gr3.le).trans gr5.le) _ _ qb1)) rfl rfl ?_)
 refine oC (cF Tryd.call61 (rDown_c (a := a) g8.sat (F.mk (U.mono u1 (((gr1.le.trans l1).trans gr3.le).trans gr5.le)) (U.mono u2 (((gr1.le.trans l1).trans gr3.le).trans gr5.le))) (by omega)) rfl ?_)
 intro r6 h6 w6 gr6 hr6
 obtain ⟨b5, c4, b6, c5, rfl, k3, k4, u3, u4⟩ := F.shape hr6
 have g9 := g8.trans gr6
 refine oC (cF Tryd.call60 (rInt_c (a := frK ((a.rat.floor : Int) : Rat)) g9.sat hr6 (by first | omega | (simp only [bf_frK, frK_rat, wts_cons, wts_nil]; omega))) rfl ?_)
 intro r7 h7 w7 gr7 hr7
 obtain ⟨r8, r9, rfl, hr8, hr9⟩ := hr7
 subst hr8
 subst hr9
 refine mv (oC (OpW.extract (v := .int .i64 (intV (frK ((a.rat.floor : Int) : Rat)))) rfl rfl ?_))
 refine oC (OpW.extract (v := .bool (intO (frK ((a.rat.floor : Int) : Rat)))) rfl rfl (ma (ma (oN (wS (wS (fg [(3, .int .i64 (wholeQ a.rat)), (4, .int .i64 (wholeE a.rat)), (5, .int .i64 (intV (frK ((a.rat.floor : Int) : Rat)))), (6, .bool (intO (frK ((a.rat.floor : Int) : Rat))))] rfl (fun ρ2 => (wR (mv (oC (OpW.notB (a := intO (frK ((a.rat.floor : Int) : Rat))) (r := !(intO (frK ((a.rat.floor : Int) : Rat)))) rfl rfl (oN (Wp.cond (t := !(intO (frK ((a.rat.floor : Int) : Rat)))) rfl (fun c6 => ?_) (fun c6 => ?_)))))))))))))))
 replace c6 : ¬ (intO (frK ((a.rat.floor : Int) : Rat)) = true) := (raw_f (not_t c6))
 have hno : ¬ (-9223372036854775808 ≤ a.rat.floor ∧ a.rat.floor ≤ 9223372036854775807) := fun h => c6 (hio.trans (decide_eq_true h))
 refine sr (mv (oC (OpW.eqlI (a := (wholeE a.rat)) (b := ((6 : Nat) : Int)) (r := true) rfl rfl (decide_eq_true (by unfold wholeE; rw [if_neg hno]; rfl)) (mv (oL rfl rfl rfl (OpW.move (v := .int .i64 (wholeQ a.rat)) rfl ?_))))))
 refine oL rfl rfl rfl (OpW.eqlI (a := (wholeQ a.rat)) (b := ((0 : Nat) : Int)) (r := true) rfl rfl (decide_eq_true (by unfold wholeQ; rw [if_neg hno]; rfl)) ?_)
 refine oC (pT (v := .bool true) rfl rfl (mv ?_))
 have g10 := g9.trans gr7
 refine oL rfl rfl rfl (cF Tryd.call20 (known_c  g10.sat (tb.mono (((((gr1.le.trans l1).trans gr3.le).trans gr5.le).trans gr6.le).trans gr7.le)) ) rfl ?_)
 intro r10 h8 w8 gr8 hr10
 subst hr10
 refine oC (pT (v := .bool true) rfl rfl (ma (oN (Wp.ret (fin1_ret rfl (resOf_tmp (v := .bool true) rfl) ?_)))))
 have g11 := g10.trans gr8
 refine ⟨h8, g11, ?_⟩
 exact rfl
 replace c6 : ¬ (¬ (intO (frK ((a.rat.floor : Int) : Rat)) = true)) := (fun n => n (not_f c6))
 have hyes : (-9223372036854775808 ≤ a.rat.floor ∧ a.rat.floor ≤ 9223372036854775807) := of_decide_eq_true (hio.symm.trans (Classical.not_not.1 c6))
 refine Wp.skip (sr (mv (oC (OpW.eqlI (a := (wholeE a.rat)) (b := ((0 : Nat) : Int)) (r := true) rfl rfl (decide_eq_true (by unfold wholeE; rw [if_pos hyes]; rfl)) (mv (oL rfl rfl rfl (OpW.move (v := .int .i64 (wholeQ a.rat)) rfl ?_)))))))
 refine oL rfl rfl rfl (OpW.move (v := .int .i64 (intV (frK ((a.rat.floor : Int) : Rat)))) rfl ?_)
 refine oL rfl rfl rfl (OpW.eqlI (a := (wholeQ a.rat)) (b := (intV (frK ((a.rat.floor : Int) : Rat)))) (r := true) rfl rfl (decide_eq_true (by unfold wholeQ; rw [if_pos hyes, int_val hyes])) ?_)
 refine oC (pT (v := .bool true) rfl rfl (mv ?_))
 have g12 := g9.trans gr7
 refine oL rfl rfl rfl (cF Tryd.call20 (known_c  g12.sat (tb.mono (((((gr1.le.trans l1).trans gr3.le).trans gr5.le).trans gr6.le).trans gr7.le)) ) rfl ?_)
 intro r11 h9 w9 gr9 hr11
 subst hr11
 refine oC (pT (v := .bool true) rfl rfl (ma (oN (Wp.ret (fin1_ret rfl (resOf_tmp (v := .bool true) rfl) ?_)))))
 have g13 := g12.trans gr9
 refine ⟨h9, g13, ?_⟩
 exact rfl
end Go.Ear
