/- About package frac: XrPow. -/
import Derived.Test.YtmidncjhlnfojaaDoorNatLaw2
import Derived.Test.YtmidncjhlnfojaaDoorEarShort
import Derived.Test.YtmidncjhlnfojaaDoorProg
import Derived.Test.YtmidncjhlnfojaaDoorNatLaw3
import Derived.Test.YtmidncjhlnfojaaDoorEarFrac
import Derived.Test.YtmidncjhlnfojaaDoorEarDec
import Derived.Test.YtmidncjhlnfojaaDoorItoaLay
import Derived.Lib.ItoaMem
import Derived.Test.YtmidncjhlnfojaaDoorEarApi
import Derived.Test.YtmidncjhlnfojaaDoorEarRef2
import Derived.Test.YtmidncjhlnfojaaDoorX12
set_option linter.all false
namespace Go.Ear
open Go.Proofs
set_option maxRecDepth 20000
set_option linter.unusedVariables false
set_option maxHeartbeats 2000000
theorem rPow_c {h : PH} {w : World} {v0 : Value} {a : Fr} {n : Int} (hs : Sat h w) (pv0 : F h v0 a) (hp0 : bf a ≤ 10000) (hp1 : -10000 ≤ n) (hp2 : n ≤ 10000) (hp3 : n < 0 → a.rat ≠ 0) :
    Calls Tryd.prog 24 #[v0, .int .i64 n] w (Ret h w fun h' r => Kn h' r (powR a.rat n)) := by
 obtain ⟨b1, c1, b2, c2, rfl, k1, k2, u1, u2⟩ := F.shape pv0
 have hbq1 := F.bq pv0
 have hbn := bf_n a
 have hbd := bf_d a
 have hbp := bf_pos a
 have hiv := bq_inv' a.rat
 have hfk := bf_frK (a.rat)⁻¹
 have hb1' : bq (((1 : Nat) : Int) : Rat) ≤ 2 := bq_intc (by decide) (by decide)
 refine calls_ear (vs := [.agg #[.bool a.neg, .slice b1 a.n.length c1, .slice b2 a.d.length c2], .int .i64 n]) Tryd.func24 rfl rfl ?_
 have g1 := Gr.refl hs
 refine sr (oC (OpW.boxO (v := .agg #[.bool a.neg, .slice b1 a.n.length c1, .slice b2 a.d.length c2]) (arr := #[.bool a.neg, .slice b1 a.n.length c1, .slice b2 a.d.length c2]) g1.sat rfl rfl ?_))
 intro b3 w1 gr1 n1 lo1 o1
 have lo2 := Nat.le_trans g1.ext.size lo1
 have g2 := g1.trans gr1
 have lt1 := blk_lt o1
 refine oC (OpW.allocO (arr := #[.bool false, .slice none 0 0, .slice none 0 0]) g2.sat Tryd.zeroValue24 rfl ?_)
 intro b4 w2 gr2 n2 lo3 o2
 have lo4 := Nat.le_trans g2.ext.size lo3
 have ne1 : b3 ≠ b4 := Nat.ne_of_lt (Nat.lt_of_lt_of_le lt1 lo3)
 refine oN (wS (sr (mv (oC (OpW.lss (a := n) (b := ((0 : Nat) : Int)) (r := decide (n < ((0 : Nat) : Int))) rfl rfl rfl (oN ?_))))))
 have rel1 : RelA rpF h #[.bool a.neg, .slice b1 a.n.length c1, .slice b2 a.d.length c2] [a] := RelA.lit (css := [[.bool a.neg, .slice b1 a.n.length c1, .slice b2 a.d.length c2]]) (Rows.cons (F.mk u1 u2) Rows.nil)
 have g3 := g2.trans gr2
 have o3 := gr2.kp ⟨o1, n1⟩
 refine Wp.cut (fun ρ (w' : World) => ∃ (f : Fr) (pn : Nat) (aSb3 : Array Value), ∃ ρb h', ρ = upds ρb [(1, .int .i64 ((pn : Nat) : Int)), (2, .pointer (some ⟨b3, 0, none⟩)), (4, .pointer (some ⟨b4, 0, none⟩))] ∧ Gr h w h' w' ∧ PH.le h h' ∧ w'.heap[b3]? = some (.cells aSb3 24 (0, 0)) ∧ h' b3 = none ∧ w'.heap[b4]? = some (.cells #[.bool false, .slice none 0 0, .slice none 0 0] 24 (0, 0)) ∧ h' b4 = none ∧ (f.rat = powB a.rat n) ∧ (bf f ≤ 10000) ∧ (pn = n.natAbs) ∧ (bq f.rat ≤ bf f) ∧ (RelA rpF h' aSb3 ([f]))) ?_ ?_
 refine Wp.cond (t := decide (n < ((0 : Nat) : Int))) rfl (fun c3 => ?_) (fun c3 => ?_)
 replace c3 : n < ((0 : Nat) : Int) := (of_decide_eq_true c3)
 refine wR ?_
 obtain ⟨cs1, qv1, qf1, qr1⟩ := RelA.at' rel1 fr0 (s := 3) rfl (i := 0) Nat.zero_lt_one
 replace qr1 : rpF.R h cs1 a := qr1
 obtain ⟨b5, c4, b6, c5, rfl, k3, k4, u3, u4⟩ := F.open qr1
 have hbq2 : bq a.rat ≤ bf a := F.bq qr1
 refine oC (OpW.loadA (cs := [.bool a.neg, .slice b5 a.n.length c4, .slice b6 a.d.length c5]) Tryd.isAgg24 Tryd.sizeOf24 rfl o3.1 qf1 qv1 ?_)
 refine oC (cF Tryd.call77 (rInverse_c (a := a) g3.sat qr1 (by omega) (hp3 (by omega))) rfl ?_)
 intro r1 h2 w4 gr3 hr1
 have hf1 := bq_inv' a.rat
 obtain ⟨b7, c6, b8, c7, rfl, k5, k6, u5, u6⟩ := F.shape hr1
 refine mv (oC (OpW.negI (a := n) (r := (-n)) rfl ((in_i64 (by omega)).trans (by omega)) ?_))
 have o4 := gr3.kp o3
 refine oC (sR (cs := [.bool ((frK ((a.rat)⁻¹)).neg), .slice b7 ((frK ((a.rat)⁻¹)).n.length) c6, .slice b8 ((frK ((a.rat)⁻¹)).d.length) c7]) Tryd.sizeOf24 rfl rfl rfl rfl o4.1 (RelA.fit (rel1.mono gr3.le) (s := 3) rfl Nat.zero_lt_one) ?_)
 intro w5 p1
 obtain ⟨a1, o5, rel2⟩ := RelA.storeA (rel1.mono gr3.le) p1 (i := 0) rfl Nat.zero_lt_one hr1
 replace rel2 : RelA rpF h2 a1 [frK ((a.rat)⁻¹)] := rel2
 refine ma (oN ?_)
 have g4 := (g3.trans gr3).put p1 o4.2 lo2
 have o6 := p1.kp (Ne.symm ne1) (gr3.kp ⟨o2, n2⟩)
 exact ⟨(frK (a.rat)⁻¹), n.natAbs, a1, _, h2, named ⟨(by exact (intv (by omega))), (by exact rfl), (by exact rfl), trivial⟩, g4, gr3.le, o5, o4.2, o6.1, o6.2, (by rw [frK_rat]; unfold powB; rw [if_pos (by omega)]), (by omega), rfl, (by rw [frK_rat]; omega), rel2⟩
 replace c3 : ¬ (n < ((0 : Nat) : Int)) := (of_decide_eq_false c3)
 refine Wp.skip ?_
 exact ⟨a, n.natAbs, (#[.bool a.neg, .slice b1 a.n.length c1, .slice b2 a.d.length c2]), _, h, named ⟨(by exact (intv (by omega))), (by exact rfl), (by exact rfl), trivial⟩, g3, (PH.le.refl _), o3.1, o3.2, o2, n2, (by unfold powB; rw [if_neg (by omega)]), (by omega), rfl, (by omega), rel1⟩
 rintro ρ1 w3 ⟨f, pn, aSb3, ρ2, h1, rfl, g5, l1, o7, n3, o8, n4, hfr, hfb, hpn, hfq, hrelb3⟩
 refine sr (oC (cF Tryd.call38 (rOf_c (n := ((1 : Nat) : Int)) g5.sat  (by omega) (by omega)) rfl ?_))
 intro r2 h3 w6 gr4 hr2
 obtain ⟨b9, c8, b10, c9, rfl, k7, k8, u7, u8⟩ := F.shape hr2
 have g6 := g5.trans gr4
 have o10 := gr4.kp ⟨o7, n3⟩
 have lt2 := blk_lt o10.1
 have o11 := gr4.kp ⟨o8, n4⟩
 have lt3 := blk_lt o11.1
 refine oC (OpW.allocO (arr := #[.bool false, .slice none 0 0, .slice none 0 0]) g6.sat Tryd.zeroValue24 rfl ?_)
 intro b11 w7 gr5 n5 lo5 o9
 have lo6 := Nat.le_trans g6.ext.size lo5
 have ne2 : b3 ≠ b11 := Nat.ne_of_lt (Nat.lt_of_lt_of_le lt2 lo5)
 have ne3 : b4 ≠ b11 := Nat.ne_of_lt (Nat.lt_of_lt_of_le lt3 lo5)
 refine oC (sA (cs := [.bool ((frK ((((1 : Nat) : Int) : Int) : Rat)).neg), .slice b9 ((frK ((((1 : Nat) : Int) : Int) : Rat)).n.length) c8, .slice b10 ((frK ((((1 : Nat) : Int) : Int) : Rat)).d.length) c9]) Tryd.sizeOf24 rfl rfl rfl rfl o9 rfl ?_)
 intro w8 p2
 refine oN (wS (sr (ma (oN (Wp.block ?_)))))
 have rel3 : RelA rpK h3 #[.bool ((frK ((((1 : Nat) : Int) : Int) : Rat)).neg), .slice b9 ((frK ((((1 : Nat) : Int) : Int) : Rat)).n.length) c8, .slice b10 ((frK ((((1 : Nat) : Int) : Int) : Rat)).d.length) c9] [((((1 : Nat) : Int) : Int) : Rat)] := RelA.lit (css := [[.bool ((frK ((((1 : Nat) : Int) : Int) : Rat)).neg), .slice b9 ((frK ((((1 : Nat) : Int) : Int) : Rat)).n.length) c8, .slice b10 ((frK ((((1 : Nat) : Int) : Int) : Rat)).d.length) c9]]) (Rows.cons (F.mk u7 u8) Rows.nil)
 replace rel3 := RelA.cast (m := [f.rat ^ 0]) (by rw [Rat.pow_zero]; rfl) rel3
 have g7 := (g6.trans gr5).put p2 n5 lo6
 have o13 := p2.kp ne2 (gr5.kp o10)
 have o14 := p2.kp ne3 (gr5.kp o11)
 refine Wp.loop (σ := Nat × Array Value × Array Value) (fun s (ρ : Env) (w' : World) => match s with | (i, aSb3, aSb11) => ∃ ρb h', ρ = upds ρb [(1, .int .i64 ((pn : Nat) : Int)), (2, .pointer (some ⟨b3, 0, none⟩)), (4, .pointer (some ⟨b4, 0, none⟩)), (5, .pointer (some ⟨b11, 0, none⟩)), (6, .int .i64 ((i : Nat) : Int))] ∧ Gr h w h' w' ∧ PH.le h3 h' ∧ w'.heap[b3]? = some (.cells aSb3 24 (0, 0)) ∧ h' b3 = none ∧ w'.heap[b4]? = some (.cells #[.bool false, .slice none 0 0, .slice none 0 0] 24 (0, 0)) ∧ h' b4 = none ∧ w'.heap[b11]? = some (.cells aSb11 24 (0, 0)) ∧ h' b11 = none ∧ (i ≤ pn) ∧ (RelA rpF h' aSb3 ([f])) ∧ (RelA rpK h' aSb11 ([f.rat ^ i]))) (fun s => match s with | (i, aSb3, aSb11) => pn - i) (0, aSb3, #[.bool ((frK ((((1 : Nat) : Int) : Int) : Rat)).neg), .slice b9 ((frK ((((1 : Nat) : Int) : Int) : Rat)).n.length) c8, .slice b10 ((frK ((((1 : Nat) : Int) : Int) : Rat)).d.length) c9]) ?_ ?_
 exact ⟨_, h3, nm rfl, g7, PH.le.refl _, o13.1, o13.2, o14.1, o14.2, p2.at_, n5, (by omega), (hrelb3.mono gr4.le), rel3⟩
 rintro ⟨i, aSb3, aSb11⟩ ρ3 w9 ⟨ρ4, h4, rfl, g8, l2, o15, n6, o16, n7, o17, n8, hi, hrelb3, hrelb11⟩
 have hbp := bq_pow f.rat i
 have hbp3 := Nat.mul_le_mul (show i ≤ 10000 by omega) (show bq f.rat ≤ 10000 by omega)
 refine wS (sr (mv (mv (oC (OpW.lss (a := ((i : Nat) : Int)) (b := ((pn : Nat) : Int)) (r := decide (i < pn)) rfl rfl (lt_nat (a := i) (b := pn)) (oN (Wp.cond (t := decide (i < pn)) rfl (fun c10 => ?_) (fun c10 => ?_))))))))
 replace c10 : i < pn := (of_decide_eq_true c10)
 refine Wp.skip (wS (Wp.block (wR ?_)))
 obtain ⟨cs2, qv2, qf2, qr2⟩ := RelA.at' hrelb11 0 (s := 3) rfl (i := 0) Nat.zero_lt_one
 replace qr2 : rpK.R h4 cs2 (f.rat ^ i) := qr2
 obtain ⟨b12, c11, b13, c12, rfl, k9, k10, u9, u10⟩ := F.open qr2
 refine oC (OpW.loadA (cs := [.bool ((frK (f.rat ^ i)).neg), .slice b12 ((frK (f.rat ^ i)).n.length) c11, .slice b13 ((frK (f.rat ^ i)).d.length) c12]) Tryd.isAgg24 Tryd.sizeOf24 rfl o17 qf2 qv2 ?_)
 obtain ⟨cs3, qv3, qf3, qr3⟩ := RelA.at' hrelb3 fr0 (s := 3) rfl (i := 0) Nat.zero_lt_one
 replace qr3 : rpF.R h4 cs3 f := qr3
 obtain ⟨b14, c13, b15, c14, rfl, k11, k12, u11, u12⟩ := F.open qr3
 have hbq3 : bq f.rat ≤ bf f := F.bq qr3
 refine oC (OpW.loadA (cs := [.bool f.neg, .slice b14 f.n.length c13, .slice b15 f.d.length c14]) Tryd.isAgg24 Tryd.sizeOf24 rfl o15 qf3 qv3 ?_)
 refine oC (cF Tryd.call37 (rMul_c (a := frK (f.rat ^ i)) (b := f) g8.sat qr2 qr3 (by first | omega | (simp only [bf_frK, frK_rat, wts_cons, wts_nil]; omega))) rfl ?_)
 intro r3 h5 w10 gr6 hr3
 have hf2 := bq_mul (f.rat ^ i) f.rat
 simp only [frK_rat, bf_frK, val_digs] at hr3
 obtain ⟨b16, c15, b17, c16, rfl, k13, k14, u13, u14⟩ := F.shape hr3
 have o18 := gr6.kp ⟨o17, n8⟩
 refine oC (sR (cs := [.bool ((frK ((f.rat ^ i) * f.rat)).neg), .slice b16 ((frK ((f.rat ^ i) * f.rat)).n.length) c15, .slice b17 ((frK ((f.rat ^ i) * f.rat)).d.length) c16]) Tryd.sizeOf24 rfl rfl rfl rfl o18.1 (RelA.fit (hrelb11.mono gr6.le) (s := 3) rfl Nat.zero_lt_one) ?_)
 intro w11 p3
 obtain ⟨a2, o19, rel4⟩ := RelA.storeA (hrelb11.mono gr6.le) p3 (i := 0) rfl Nat.zero_lt_one hr3
 replace rel4 : RelA rpK h5 a2 [(f.rat ^ i) * f.rat] := rel4
 refine oN (fg [(1, .int .i64 ((pn : Nat) : Int)), (2, .pointer (some ⟨b3, 0, none⟩)), (4, .pointer (some ⟨b4, 0, none⟩)), (5, .pointer (some ⟨b11, 0, none⟩)), (6, .int .i64 ((i : Nat) : Int))] rfl (fun ρ5 => (wR (mv (oC (OpW.add (a := ((i : Nat) : Int)) (b := ((1 : Nat) : Int)) (r := ((i + 1 : Nat) : Int)) rfl rfl (add_i64 (a := i) (b := 1) (by omega)) (ma (oN ?_))))))))
 have g9 := (g8.trans gr6).put p3 o18.2 lo6
 have o20 := p3.kp ne2 (gr6.kp ⟨o15, n6⟩)
 have o21 := p3.kp ne3 (gr6.kp ⟨o16, n7⟩)
 exact ⟨(i + 1, aSb3, a2), ⟨_, h5, nm rfl, g9, (l2.trans gr6.le), o20.1, o20.2, o21.1, o21.2, o19, o18.2, (by omega), (hrelb3.mono gr6.le), (RelA.cast (by rw [Rat.pow_succ]) rel4)⟩, (by dsimp only; omega)⟩
 replace c10 : ¬ (i < pn) := (of_decide_eq_false c10)
 refine Wp.exit (sr ?_)
 obtain ⟨cs4, qv4, qf4, qr4⟩ := RelA.at' hrelb11 0 (s := 3) rfl (i := 0) Nat.zero_lt_one
 replace qr4 : rpK.R h4 cs4 (f.rat ^ i) := qr4
 obtain ⟨b18, c17, b19, c18, rfl, k15, k16, u15, u16⟩ := F.open qr4
 refine oC (OpW.loadA (cs := [.bool ((frK (f.rat ^ i)).neg), .slice b18 ((frK (f.rat ^ i)).n.length) c17, .slice b19 ((frK (f.rat ^ i)).d.length) c18]) Tryd.isAgg24 Tryd.sizeOf24 rfl o17 qf4 qv4 ?_)
 refine oC (sA (cs := [.bool ((frK (f.rat ^ i)).neg), .slice b18 ((frK (f.rat ^ i)).n.length) c17, .slice b19 ((frK (f.rat ^ i)).d.length) c18]) Tryd.sizeOf24 rfl rfl rfl rfl o16 rfl ?_)
 intro w12 p4
 refine oN (Wp.ret (fin1_ret rfl (resOf_cellA (cs := [.bool ((frK (f.rat ^ i)).neg), .slice b18 ((frK (f.rat ^ i)).n.length) c17, .slice b19 ((frK (f.rat ^ i)).d.length) c18]) Tryd.isAgg24 Tryd.sizeOf24 rfl p4.at_ (Nat.le_of_ble_eq_true rfl) rfl) ?_))
 have g10 := g8.put p4 n7 lo4
 refine ⟨h4, g10, ?_⟩
 exact (Kn.cast (by unfold powR; rw [show i = n.natAbs by omega, hfr]) (F.mk u15 u16))
end Go.Ear
