/- About package frac: LawFracDecimals. -/
import Derived.Test.YtmidncjhlnfojaaDoorNatLaw2
import Derived.Test.YtmidncjhlnfojaaDoorEarShort
import Derived.Test.YtmidncjhlnfojaaDoorProg
import Derived.Test.YtmidncjhlnfojaaDoorNatLaw3
import Derived.Test.YtmidncjhlnfojaaDoorEarFrac
import Derived.Test.YtmidncjhlnfojaaDoorEarDec
import Derived.Test.YtmidncjhlnfojaaDoorItoaLay
import Derived.Lib.ItoaMem
import Derived.Test.YtmidncjhlnfojaaDoorEarApi
import Derived.Test.YtmidncjhlnfojaaDoorEarRef2
import Derived.Test.YtmidncjhlnfojaaDoorEarLaw
import Derived.Test.YtmidncjhlnfojaaDoorEarWhole
import Derived.Test.YtmidncjhlnfojaaDoorEarTexts
import Derived.Test.YtmidncjhlnfojaaDoorEarLaw2
import Derived.Test.YtmidncjhlnfojaaDoorK1
import Derived.Test.YtmidncjhlnfojaaDoorK14
import Derived.Test.YtmidncjhlnfojaaDoorK9
import Derived.Test.YtmidncjhlnfojaaDoorX12
import Derived.Test.YtmidncjhlnfojaaDoorX16
import Derived.Test.YtmidncjhlnfojaaDoorXrPow
set_option linter.all false
namespace Go.Ear
open Go.Proofs
set_option maxRecDepth 20000
set_option linter.unusedVariables false
set_option maxHeartbeats 2000000
theorem fracDecimals_c {h : PH} {w : World} {v0 : Value} {a : Fr} {places : Int} (hs : Sat h w) (tb : Tab h) (pv0 : F h v0 a) (hp0 : -9223372036854775808 ≤ places) (hp1 : places ≤ 9223372036854775807) :
    Calls Tryd.prog 6 #[v0, .int .i64 places] w (Ret h w fun h' r => r = .bool true) := by
 obtain ⟨b1, c1, b2, c2, rfl, k1, k2, u1, u2⟩ := F.shape pv0
 have hbq1 := F.bq pv0
 refine calls_ear (vs := [.agg #[.bool a.neg, .slice b1 a.n.length c1, .slice b2 a.d.length c2], .int .i64 places]) Tryd.func6 rfl rfl ?_
 have g1 := Gr.refl hs
 refine sr (oC (OpW.boxK (v := .agg #[.bool a.neg, .slice b1 a.n.length c1, .slice b2 a.d.length c2]) (arr := #[.bool a.neg, .slice b1 a.n.length c1, .slice b2 a.d.length c2]) g1.sat rfl rfl ?_))
 intro b3 h1 w1 gr1 qb1
 refine ma (oN (wS (sr (Ops.cut (fun ρ' w' => w1 = w' ∧ ∃ ρb, ρ' = upds ρb [(1, .int .i64 places), (2, .pointer (some ⟨b3, 0, none⟩)), (27, .bool ((decide (8 < a.n.length)) || ((decide (8 < a.d.length)) || ((decide (((40 : Nat) : Int) < places)) && (decide (places ≤ ((1000 : Nat) : Int)))))))]) ?_ ?_))))
 refine oC (fA (o := 1) Tryd.underlying24 rfl Tryd.sizeOf22 (by decide) rfl rfl ?_)
 have g2 := g1.trans gr1
 refine oC (lO (v := .slice b1 a.n.length c1) Tryd.isAgg22 rfl (g2.sat _ _ qb1) rfl ?_)
 refine oC (OpW.lenS Tryd.underlying22 (l := a.n.length) rfl ?_)
 refine oC (OpW.gtr (a := ((a.n.length : Nat) : Int)) (b := ((8 : Nat) : Int)) (r := decide (8 < a.n.length)) rfl rfl (lt_nat (a := 8) (b := a.n.length)) (mv ?_))
 cases c3 : (decide (8 < a.n.length))
 replace c3 : ¬ (8 < a.n.length) := (of_decide_eq_false c3)
 refine oL rfl rfl rfl (fA (o := 2) Tryd.underlying24 rfl Tryd.sizeOf22 (by decide) rfl rfl ?_)
 refine oL rfl rfl rfl (lO (v := .slice b2 a.d.length c2) Tryd.isAgg22 rfl (g2.sat _ _ qb1) rfl ?_)
 refine oL rfl rfl rfl (OpW.lenS Tryd.underlying22 (l := a.d.length) rfl ?_)
 refine oL rfl rfl rfl (OpW.gtr (a := ((a.d.length : Nat) : Int)) (b := ((8 : Nat) : Int)) (r := decide (8 < a.d.length)) rfl rfl (lt_nat (a := 8) (b := a.d.length)) ?_)
 refine oC (pF (v := .bool (decide (8 < a.d.length))) rfl rfl (mv ?_))
 cases c4 : (decide (8 < a.d.length))
 replace c4 : ¬ (8 < a.d.length) := (of_decide_eq_false c4)
 refine oL rfl rfl rfl (OpW.move (v := .int .i64 places) rfl ?_)
 refine oL rfl rfl rfl (OpW.gtr (a := places) (b := ((40 : Nat) : Int)) (r := decide (((40 : Nat) : Int) < places)) rfl rfl rfl ?_)
 refine oL rfl rfl rfl (OpW.move (v := .bool (decide (((40 : Nat) : Int) < places))) rfl ?_)
 cases c5 : (decide (((40 : Nat) : Int) < places))
 replace c5 : ¬ (((40 : Nat) : Int) < places) := (of_decide_eq_false c5)
 refine oD rfl rfl rfl rfl (oD rfl rfl rfl rfl (oL rfl rfl rfl (pF (v := .bool false) rfl rfl ?_)))
 refine oC (pF (v := .bool false) rfl rfl (oN ?_))
 exact ⟨rfl, _, nm rfl⟩
 replace c5 : ((40 : Nat) : Int) < places := (of_decide_eq_true c5)
 refine oL rfl rfl rfl (OpW.move (v := .int .i64 places) rfl ?_)
 refine oL rfl rfl rfl (OpW.leq (a := places) (b := ((1000 : Nat) : Int)) (r := decide (places ≤ ((1000 : Nat) : Int))) rfl rfl rfl ?_)
 refine oL rfl rfl rfl (pT (v := .bool (decide (places ≤ ((1000 : Nat) : Int)))) rfl rfl ?_)
 refine oC (pF (v := .bool (decide (places ≤ ((1000 : Nat) : Int)))) rfl rfl (oN ?_))
 exact ⟨rfl, _, nm rfl⟩
 replace c4 : 8 < a.d.length := (of_decide_eq_true c4)
 refine oD rfl rfl rfl rfl (oD rfl rfl rfl rfl (oD rfl rfl rfl rfl (Ops.dead0 rfl rfl rfl (Ops.dead0 rfl rfl rfl (oD rfl rfl rfl rfl (oC (pT (v := .bool true) rfl rfl (oN ?_))))))))
 exact ⟨rfl, _, nm rfl⟩
 replace c3 : 8 < a.n.length := (of_decide_eq_true c3)
 refine oD rfl rfl rfl rfl (oD rfl rfl rfl rfl (oD rfl rfl rfl rfl (oD rfl rfl rfl rfl (oC (pT (v := .bool true) rfl rfl (mv (oD rfl rfl rfl rfl (oD rfl rfl rfl rfl (oD rfl rfl rfl rfl (Ops.dead0 rfl rfl rfl (Ops.dead0 rfl rfl rfl (oD rfl rfl rfl rfl (oC (pT (v := .bool true) rfl rfl (oN ?_)))))))))))))))
 exact ⟨rfl, _, nm rfl⟩
 rintro ρ1 w2 ⟨rfl, ρ2, rfl⟩
 refine Wp.cond (t := (decide (8 < a.n.length)) || ((decide (8 < a.d.length)) || ((decide (((40 : Nat) : Int) < places)) && (decide (places ≤ ((1000 : Nat) : Int)))))) rfl (fun c6 => ?_) (fun c6 => ?_)
 replace c6 : (8 < a.n.length) ∨ ((8 < a.d.length) ∨ ((((40 : Nat) : Int) < places) ∧ (places ≤ ((1000 : Nat) : Int)))) := ((or_t c6).imp (fun h => (of_decide_eq_true h)) (fun h => ((or_t h).imp (fun h => (of_decide_eq_true h)) (fun h => ⟨(of_decide_eq_true (and_l h)), (of_decide_eq_true (and_r h))⟩))))
 refine sr ?_
 have g3 := g1.trans gr1
 refine oC (cF Tryd.call20 (known_c  g3.sat (tb.mono gr1.le) ) rfl ?_)
 intro r1 h2 w3 gr2 hr1
 subst hr1
 refine ma (oN (Wp.ret (fin1_ret rfl (resOf_tmp (v := .bool true) rfl) ?_)))
 have g4 := g3.trans gr2
 refine ⟨h2, g4, ?_⟩
 exact rfl
 replace c6 : ¬ ((8 < a.n.length) ∨ ((8 < a.d.length) ∨ ((((40 : Nat) : Int) < places) ∧ (places ≤ ((1000 : Nat) : Int))))) := (fun pq => pq.elim (of_decide_eq_false (or_l c6)) (fun pq => pq.elim (of_decide_eq_false (or_l (or_r c6))) (fun pq => (and_f (or_r (or_r c6))).elim (fun h => (of_decide_eq_false h) pq.1) (fun h => (of_decide_eq_false h) pq.2))))
 have hx := c6
 have hbf : bf a ≤ 8 := by unfold bf; omega
 have hpl : places ≤ 40 ∨ 1000 < places := by omega
 refine Wp.skip (sr ?_)
 have g5 := g1.trans gr1
 refine oC (lA (cs := [.bool a.neg, .slice b1 a.n.length c1, .slice b2 a.d.length c2]) Tryd.isAgg24 Tryd.sizeOf24 rfl (g5.sat _ _ qb1) rfl rfl (mv (oC (cF Tryd.call35 (Decimal_c (a := a) (places := places) g5.sat (tb.mono gr1.le) (F.mk (U.mono u1 gr1.le) (U.mono u2 gr1.le)) (by omega) (by omega) (by omega)) rfl ?_))))
 intro r2 h3 w4 gr3 hr2
 obtain ⟨r3, r4, rfl, hr3, hr4⟩ := hr2
 subst hr3
 subst hr4
 refine mv (oC (OpW.extract (v := .string (S (decimalQ a.rat places))) rfl rfl ?_))
 refine oC (OpW.extract (v := .int .i64 (decimalE places)) rfl rfl (ma (ma (oN (wS (sr (Ops.cut (fun ρ' w' => w4 = w' ∧ ∃ ρb, ρ' = upds ρb [(1, .int .i64 places), (2, .pointer (some ⟨b3, 0, none⟩)), (5, .string (S (decimalQ a.rat places))), (6, .int .i64 (decimalE places)), (40, .bool ((decide (places < ((0 : Nat) : Int))) || (decide (((1000 : Nat) : Int) < places))))]) ?_ ?_)))))))
 refine mv (oC (OpW.lss (a := places) (b := ((0 : Nat) : Int)) (r := decide (places < ((0 : Nat) : Int))) rfl rfl rfl (mv ?_)))
 cases c7 : (decide (places < ((0 : Nat) : Int)))
 replace c7 : ¬ (places < ((0 : Nat) : Int)) := (of_decide_eq_false c7)
 refine oL rfl rfl rfl (OpW.move (v := .int .i64 places) rfl ?_)
 refine oL rfl rfl rfl (OpW.gtr (a := places) (b := ((1000 : Nat) : Int)) (r := decide (((1000 : Nat) : Int) < places)) rfl rfl rfl ?_)
 refine oC (pF (v := .bool (decide (((1000 : Nat) : Int) < places))) rfl rfl (oN ?_))
 exact ⟨rfl, _, nm rfl⟩
 replace c7 : places < ((0 : Nat) : Int) := (of_decide_eq_true c7)
 refine oD rfl rfl rfl rfl (oD rfl rfl rfl rfl (oC (pT (v := .bool true) rfl rfl (oN ?_))))
 exact ⟨rfl, _, nm rfl⟩
 rintro ρ3 w5 ⟨rfl, ρ4, rfl⟩
 refine Wp.cond (t := (decide (places < ((0 : Nat) : Int))) || (decide (((1000 : Nat) : Int) < places))) rfl (fun c8 => ?_) (fun c8 => ?_)
 replace c8 : (places < ((0 : Nat) : Int)) ∨ (((1000 : Nat) : Int) < places) := ((or_t c8).imp (fun h => (of_decide_eq_true h)) (fun h => (of_decide_eq_true h)))
 refine sr (mv (oC (OpW.eqlI (a := (decimalE places)) (b := ((2 : Nat) : Int)) (r := true) rfl rfl (decide_eq_true (by unfold decimalE; rw [if_pos (by omega)]; rfl)) (mv (oL rfl rfl rfl (OpW.move (v := .string (S (decimalQ a.rat places))) rfl ?_))))))
 refine oL rfl rfl rfl (OpW.eqlSS (a := decimalQ a.rat places) (b := ([] : List UInt8)) (r := true) rfl rfl (decide_eq_true (by unfold decimalQ; rw [if_pos (by omega)])) ?_)
 refine oC (pT (v := .bool true) rfl rfl (mv ?_))
 have g6 := g5.trans gr3
 refine oL rfl rfl rfl (cF Tryd.call20 (known_c  g6.sat (tb.mono (gr1.le.trans gr3.le)) ) rfl ?_)
 intro r5 h4 w6 gr4 hr5
 subst hr5
 refine oC (pT (v := .bool true) rfl rfl (ma (oN (Wp.ret (fin1_ret rfl (resOf_tmp (v := .bool true) rfl) ?_)))))
 have g7 := g6.trans gr4
 refine ⟨h4, g7, ?_⟩
 exact rfl
 replace c8 : ¬ ((places < ((0 : Nat) : Int)) ∨ (((1000 : Nat) : Int) < places)) := (fun pq => pq.elim (of_decide_eq_false (or_l c8)) (of_decide_eq_false (or_r c8)))
 have hrg := c8
 obtain ⟨pn, hpn⟩ : ∃ x : Nat, places = (x : Int) := ⟨places.toNat, by omega⟩
 have h10 := sz_small (n := 10) (by decide)
 have hpm := Nat.mul_le_mul_left pn h10
 have hdl0 := decimal_len (q := a.rat) (p := pn) (by omega)
 rw [← hpn] at hdl0
 have hdl : (decimalQ a.rat places).length ≤ 10000 := by omega
 have hpd : parseQ (decimalQ a.rat places) = (decR a.rat pn, 0) := by rw [hpn]; exact parse_dec (by omega) (by rw [← hpn]; exact hdl)
 have hbd := bq_decR a.rat pn
 have hbs := bq_sub a.rat (decR a.rat pn)
 have hbfm : bf (Fr.mk false (frK (a.rat - decR a.rat pn)).n (frK (a.rat - decR a.rat pn)).d) = bq (a.rat - decR a.rat pn) := bf_frK _
 have hba := bq_abs (a.rat - decR a.rat pn)
 have hbp := bq_powR10 pn
 have hb1 : bq (((1 : Nat) : Int) : Rat) ≤ 2 := bq_intc (by decide) (by decide)
 have hb2 : bq (((2 : Nat) : Int) : Rat) ≤ 2 := bq_intc (by decide) (by decide)
 have hb10 : bq (((10 : Nat) : Int) : Rat) ≤ 2 := bq_intc (by decide) (by decide)
 have hm1 := bq_mul (((2 : Nat) : Int) : Rat) (powR (((10 : Nat) : Int) : Rat) ((pn : Nat) : Int))
 have hm2 := bq_mul (Fr.mk false (frK (a.rat - decR a.rat pn)).n (frK (a.rat - decR a.rat pn)).d).rat ((((2 : Nat) : Int) : Rat) * powR (((10 : Nat) : Int) : Rat) ((pn : Nat) : Int))
 refine Wp.skip (sr (mv ?_))
 have g8 := g5.trans gr3
 refine oC (cF Tryd.call32 (Parse_c (l := decimalQ a.rat places) g8.sat  (by omega)) rfl ?_)
 intro r6 h5 w7 gr5 hr6
 obtain ⟨r7, r8, rfl, hr7, hr8⟩ := hr6
 obtain ⟨b4, c9, b5, c10, rfl, k3, k4, u3, u4⟩ := F.shape hr7
 subst hr8
 refine mv (oC (OpW.extract (v := .agg #[.bool ((frK ((parseQ (decimalQ a.rat places)).1)).neg), .slice b4 ((frK ((parseQ (decimalQ a.rat places)).1)).n.length) c9, .slice b5 ((frK ((parseQ (decimalQ a.rat places)).1)).d.length) c10]) rfl rfl ?_))
 refine oC (OpW.extract (v := .int .i64 ((parseQ (decimalQ a.rat places)).2)) rfl rfl ?_)
 have g9 := g8.trans gr5
 refine oC (OpW.allocO (arr := #[.bool false, .slice none 0 0, .slice none 0 0]) g9.sat Tryd.zeroValue24 rfl ?_)
 intro b6 w8 gr6 n1 lo1 o1
 have lo2 := Nat.le_trans g9.ext.size lo1
 refine oC (sA (cs := [.bool ((frK ((parseQ (decimalQ a.rat places)).1)).neg), .slice b4 ((frK ((parseQ (decimalQ a.rat places)).1)).n.length) c9, .slice b5 ((frK ((parseQ (decimalQ a.rat places)).1)).d.length) c10]) Tryd.sizeOf24 rfl rfl rfl rfl o1 rfl ?_)
 intro w9 p1
 refine ma (oN (wS (fg [(1, .int .i64 places), (2, .pointer (some ⟨b3, 0, none⟩)), (5, .string (S (decimalQ a.rat places))), (6, .int .i64 (decimalE places)), (7, .pointer (some ⟨b6, 0, none⟩)), (8, .int .i64 ((parseQ (decimalQ a.rat places)).2))] rfl (fun ρ5 => (wR ?_)))))
 have g10 := (g9.trans gr6).put p1 n1 lo2
 refine oC (lA (cs := [.bool a.neg, .slice b1 a.n.length c1, .slice b2 a.d.length c2]) Tryd.isAgg24 Tryd.sizeOf24 rfl (g10.sat _ _ ((gr3.le.trans gr5.le) _ _ qb1)) rfl rfl ?_)
 refine oC (lA (cs := [.bool ((frK ((parseQ (decimalQ a.rat places)).1)).neg), .slice b4 ((frK ((parseQ (decimalQ a.rat places)).1)).n.length) c9, .slice b5 ((frK ((parseQ (decimalQ a.rat places)).1)).d.length) c10]) Tryd.isAgg24 Tryd.sizeOf24 rfl p1.at_ rfl rfl ?_)
 refine oC (cF Tryd.call27 (rSub_c (a := a) (b := frK ((parseQ (decimalQ a.rat places)).1)) g10.sat (F.mk (U.mono u1 ((gr1.le.trans gr3.le).trans gr5.le)) (U.mono u2 ((gr1.le.trans gr3.le).trans gr5.le))) (F.mk u3 u4) (by rw [bf_frK, hpd]; show _ + bq (decR _ _) ≤ _; omega)) rfl ?_)
 intro r9 h6 w10 gr7 hr9
 have hf1 := bq_sub a.rat ((parseQ (decimalQ a.rat places)).1)
 simp only [frK_rat, bf_frK, val_digs] at hr9
 replace hr9 := Kn.cast (by rw [hpd]) hr9
 obtain ⟨b7, c11, b8, c12, rfl, k5, k6, u5, u6⟩ := F.shape hr9
 have g11 := g10.trans gr7
 have o4 := gr7.kp ⟨p1.at_, n1⟩
 have lt1 := blk_lt o4.1
 refine oC (OpW.allocO (arr := #[.bool false, .slice none 0 0, .slice none 0 0]) g11.sat Tryd.zeroValue24 rfl ?_)
 intro b9 w11 gr8 n2 lo3 o3
 have lo4 := Nat.le_trans g11.ext.size lo3
 have ne1 : b6 ≠ b9 := Nat.ne_of_lt (Nat.lt_of_lt_of_le lt1 lo3)
 refine oC (sA (cs := [.bool ((frK (a.rat - decR a.rat pn)).neg), .slice b7 ((frK (a.rat - decR a.rat pn)).n.length) c11, .slice b8 ((frK (a.rat - decR a.rat pn)).d.length) c12]) Tryd.sizeOf24 rfl rfl rfl rfl o3 rfl ?_)
 intro w12 p2
 refine oN (wS (fg [(1, .int .i64 places), (2, .pointer (some ⟨b3, 0, none⟩)), (5, .string (S (decimalQ a.rat places))), (6, .int .i64 (decimalE places)), (8, .int .i64 ((parseQ (decimalQ a.rat places)).2)), (9, .pointer (some ⟨b9, 0, none⟩))] rfl (fun ρ6 => (wR (oC (fA (o := 0) Tryd.underlying24 rfl Tryd.sizeOf4 (by decide) rfl rfl ?_))))))
 refine oC (s1 (v := .bool false) Tryd.sizeOf4 rfl rfl rfl p2.at_ rfl ?_)
 intro w13 p3
 refine oN (wS ?_)
 have g12 := ((g11.trans gr8).put p2 n2 lo4).put p3 n2 lo4
 have hf2 := bq_mul ((((2 : Nat) : Int) : Int) : Rat) (powR (((10 : Nat) : Int) : Rat) ((pn : Nat) : Int))
 have hf3 := bq_mul (Fr.mk false ((frK (a.rat - decR a.rat pn)).n) ((frK (a.rat - decR a.rat pn)).d)).rat (((((2 : Nat) : Int) : Int) : Rat) * (powR (((10 : Nat) : Int) : Rat) ((pn : Nat) : Int)))
 refine Wp.dagL 29 [59, 60, 61, 62, 63, 64, 65, 66, 67, 68, 69, 70, 71, 72, 73, 74, 75, 76, 77, 78, 79, 80, 81, 82, 83, 84, 85, 86, 4] [eqv (.int .i64 (decimalE places)), eqv (.bool true), eqv (.bool true), eqv (.string (S (decimalQ a.rat places))), eqv (.agg #[.bool a.neg, .slice b1 a.n.length c1, .slice b2 a.d.length c2]), eqv (.int .i64 places), eqv (.string (S (decimalQ a.rat places))), eqv (.bool true), eqv (.bool true), eqv (.bool true), eqv (.int .i64 ((parseQ (decimalQ a.rat places)).2)), eqv (.bool true), eqv (.bool true), eqv (.bool true), eqv (.agg #[.bool false, .slice b7 ((frK (a.rat - decR a.rat pn)).n.length) c11, .slice b8 ((frK (a.rat - decR a.rat pn)).d.length) c12]), fun h _ x => Kn h x ((((2 : Nat) : Int) : Int) : Rat), fun h _ x => Kn h x ((((10 : Nat) : Int) : Int) : Rat), eqv (.int .i64 places), fun h _ x => Kn h x (powR (((10 : Nat) : Int) : Rat) ((pn : Nat) : Int)), fun h _ x => Kn h x (((((2 : Nat) : Int) : Int) : Rat) * (powR (((10 : Nat) : Int) : Rat) ((pn : Nat) : Int))), fun h _ x => Kn h x ((Fr.mk false ((frK (a.rat - decR a.rat pn)).n) ((frK (a.rat - decR a.rat pn)).d)).rat * (((((2 : Nat) : Int) : Int) : Rat) * (powR (((10 : Nat) : Int) : Rat) ((pn : Nat) : Int)))), fun h _ x => Kn h x ((((1 : Nat) : Int) : Int) : Rat), eqv (.int .i64 (sgQ (((Fr.mk false ((frK (a.rat - decR a.rat pn)).n) ((frK (a.rat - decR a.rat pn)).d)).rat * (((((2 : Nat) : Int) : Int) : Rat) * (powR (((10 : Nat) : Int) : Rat) ((pn : Nat) : Int)))) - ((((1 : Nat) : Int) : Int) : Rat)))), eqv (.bool true), eqv (.bool true), eqv (.bool true), eqv (.bool true), eqv (.bool true), eqv (.bool true)] mixed g12.sat rfl (by decide +kernel) ⟨sQ _, sQ _, sQ _, sQ _, sQ _, sQ _, sQ _, sQ _, sQ _, sQ _, sQ _, sQ _, sQ _, sQ _, sQ _, (stab_K ((((2 : Nat) : Int) : Int) : Rat)), (stab_K ((((10 : Nat) : Int) : Int) : Rat)), sQ _, (stab_K (powR (((10 : Nat) : Int) : Rat) ((pn : Nat) : Int))), (stab_K (((((2 : Nat) : Int) : Int) : Rat) * (powR (((10 : Nat) : Int) : Rat) ((pn : Nat) : Int)))), (stab_K ((Fr.mk false ((frK (a.rat - decR a.rat pn)).n) ((frK (a.rat - decR a.rat pn)).d)).rat * (((((2 : Nat) : Int) : Int) : Rat) * (powR (((10 : Nat) : Int) : Rat) ((pn : Nat) : Int))))), (stab_K ((((1 : Nat) : Int) : Int) : Rat)), sQ _, sQ _, sQ _, sQ _, sQ _, sQ _, sQ _, trivial⟩ ?_ ?_
 intro stab
 refine ⟨?_, ?_, ?_, ?_, ?_, ?_, ?_, ?_, ?_, ?_, ?_, ?_, ?_, ?_, ?_, ?_, ?_, ?_, ?_, ?_, ?_, ?_, ?_, ?_, ?_, ?_, ?_, ?_, ?_, trivial⟩
 intro ρ7 h7 w14 g13 hdd1 hdo1
 have e1 : ρ7 6 = .int .i64 (decimalE places) := hdo1 6 rfl
 refine gP (OpW.move (v := .int .i64 (decimalE places)) e1 ?_)
 exact ⟨_, h7, rfl, g13, fun j x _ p => p, rfl⟩
 intro ρ8 h8 w15 g14 hdd2 hdo2
 have e2 : ρ8 59 = .int .i64 (decimalE places) := hdd2 0 (by decide)
 refine gP (OpW.eqlI (a := (decimalE places)) (b := ((0 : Nat) : Int)) (r := true) e2 rfl (decide_eq_true (by unfold decimalE; rw [if_neg (by omega)]; rfl)) ?_)
 exact ⟨_, h8, rfl, g14, fun j x _ p => p, rfl⟩
 intro ρ9 h9 w16 g15 hdd3 hdo3
 have e3 : ρ9 60 = .bool true := hdd3 1 (by decide)
 refine gP (OpW.move (v := .bool true) e3 ?_)
 exact ⟨_, h9, rfl, g15, fun j x _ p => p, rfl⟩
 intro ρ10 h10 w17 g16 hdd4 hdo4
 have e4 : ρ10 5 = .string (S (decimalQ a.rat places)) := hdo4 5 rfl
 have e5 : ρ10 61 = .bool true := hdd4 2 (by decide)
 refine gL (d := 61) (b := true) ?_ ?_ ?_ ?_
 · rfl
 · rfl
 · exact e5
 refine (OpW.move (v := .string (S (decimalQ a.rat places))) e4 ?_)
 exact ⟨_, h10, rfl, g16, fun j x _ p => p, rfl⟩
 intro ρ11 h11 w18 g17 hdd5 hdo5
 have e6 : ρ11 2 = .pointer (some ⟨b3, 0, none⟩) := hdo5 2 rfl
 have e7 : ρ11 61 = .bool true := hdd5 2 (by decide)
 refine gL (d := 61) (b := true) ?_ ?_ ?_ ?_
 · rfl
 · rfl
 · exact e7
 have g18 := g12.trans g17
 refine (lA (cs := [.bool a.neg, .slice b1 a.n.length c1, .slice b2 a.d.length c2]) Tryd.isAgg24 Tryd.sizeOf24 e6 (g18.sat _ _ ((((gr3.le.trans gr5.le).trans gr7.le).trans g17.le) _ _ qb1)) rfl rfl ?_)
 exact ⟨_, h11, rfl, g17, fun j x _ p => p, rfl⟩
 intro ρ12 h12 w19 g19 hdd6 hdo6
 have e8 : ρ12 1 = .int .i64 places := hdo6 1 rfl
 have e9 : ρ12 61 = .bool true := hdd6 2 (by decide)
 refine gL (d := 61) (b := true) ?_ ?_ ?_ ?_
 · rfl
 · rfl
 · exact e9
 refine (OpW.move (v := .int .i64 places) e8 ?_)
 exact ⟨_, h12, rfl, g19, fun j x _ p => p, rfl⟩
 intro ρ13 h13 w20 g20 hdd7 hdo7
 have e10 : ρ13 61 = .bool true := hdd7 2 (by decide)
 have e11 : ρ13 63 = .agg #[.bool a.neg, .slice b1 a.n.length c1, .slice b2 a.d.length c2] := hdd7 4 (by decide)
 have e12 : ρ13 64 = .int .i64 places := hdd7 5 (by decide)
 refine gL (d := 61) (b := true) ?_ ?_ ?_ ?_
 · rfl
 · rfl
 · exact e10
 have g21 := g12.trans g20
 refine (cF Tryd.call36 (rDecimalI_c (a := a) (places := places) g21.sat (F.mk (U.mono u1 ((((gr1.le.trans gr3.le).trans gr5.le).trans gr7.le).trans g20.le)) (U.mono u2 ((((gr1.le.trans gr3.le).trans gr5.le).trans gr7.le).trans g20.le))) (by omega) (by omega) (by omega)) (cx e11 (cx e12 cxn)) ?_)
 intro r10 h14 w21 gr9 hr10
 exact ⟨r10, h14, rfl, g20.trans gr9, fun j x _ => stab j _ _ _ _ x gr9, hr10⟩
 intro ρ14 h15 w22 g22 hdd8 hdo8
 have e13 : ρ14 61 = .bool true := hdd8 2 (by decide)
 have e14 : ρ14 62 = .string (S (decimalQ a.rat places)) := hdd8 3 (by decide)
 have e15 : ρ14 65 = .string (S (decimalQ a.rat places)) := hdd8 6 (by decide)
 refine gL (d := 61) (b := true) ?_ ?_ ?_ ?_
 · rfl
 · rfl
 · exact e13
 refine (OpW.eqlSS (a := decimalQ a.rat places) (b := decimalQ a.rat places) (r := true) e14 e15 (decide_eq_true rfl) ?_)
 exact ⟨_, h15, rfl, g22, fun j x _ p => p, rfl⟩
 intro ρ15 h16 w23 g23 hdd9 hdo9
 have e16 : ρ15 61 = .bool true := hdd9 2 (by decide)
 have e17 : ρ15 66 = .bool true := hdd9 7 (by decide)
 refine gP (pT (v := .bool true) e16 e17 ?_)
 exact ⟨_, h16, rfl, g23, fun j x _ p => p, rfl⟩
 intro ρ16 h17 w24 g24 hdd10 hdo10
 have e18 : ρ16 67 = .bool true := hdd10 8 (by decide)
 refine gP (OpW.move (v := .bool true) e18 ?_)
 exact ⟨_, h17, rfl, g24, fun j x _ p => p, rfl⟩
 intro ρ17 h18 w25 g25 hdd11 hdo11
 have e19 : ρ17 8 = .int .i64 ((parseQ (decimalQ a.rat places)).2) := hdo11 8 rfl
 have e20 : ρ17 68 = .bool true := hdd11 9 (by decide)
 refine gL (d := 68) (b := true) ?_ ?_ ?_ ?_
 · rfl
 · rfl
 · exact e20
 refine (OpW.move (v := .int .i64 ((parseQ (decimalQ a.rat places)).2)) e19 ?_)
 exact ⟨_, h18, rfl, g25, fun j x _ p => p, rfl⟩
 intro ρ18 h19 w26 g26 hdd12 hdo12
 have e21 : ρ18 68 = .bool true := hdd12 9 (by decide)
 have e22 : ρ18 69 = .int .i64 ((parseQ (decimalQ a.rat places)).2) := hdd12 10 (by decide)
 refine gL (d := 68) (b := true) ?_ ?_ ?_ ?_
 · rfl
 · rfl
 · exact e21
 refine (OpW.eqlI (a := ((parseQ (decimalQ a.rat places)).2)) (b := ((0 : Nat) : Int)) (r := true) e22 rfl (decide_eq_true (by rw [hpd]; rfl)) ?_)
 exact ⟨_, h19, rfl, g26, fun j x _ p => p, rfl⟩
 intro ρ19 h20 w27 g27 hdd13 hdo13
 have e23 : ρ19 68 = .bool true := hdd13 9 (by decide)
 have e24 : ρ19 70 = .bool true := hdd13 11 (by decide)
 refine gP (pT (v := .bool true) e23 e24 ?_)
 exact ⟨_, h20, rfl, g27, fun j x _ p => p, rfl⟩
 intro ρ20 h21 w28 g28 hdd14 hdo14
 have e25 : ρ20 71 = .bool true := hdd14 12 (by decide)
 refine gP (OpW.move (v := .bool true) e25 ?_)
 exact ⟨_, h21, rfl, g28, fun j x _ p => p, rfl⟩
 intro ρ21 h22 w29 g29 hdd15 hdo15
 have e26 : ρ21 9 = .pointer (some ⟨b9, 0, none⟩) := hdo15 9 rfl
 have e27 : ρ21 72 = .bool true := hdd15 13 (by decide)
 refine gL (d := 72) (b := true) ?_ ?_ ?_ ?_
 · rfl
 · rfl
 · exact e27
 have o7 := g29.kp ⟨p3.at_, n2⟩
 refine (lA (cs := [.bool false, .slice b7 ((frK (a.rat - decR a.rat pn)).n.length) c11, .slice b8 ((frK (a.rat - decR a.rat pn)).d.length) c12]) Tryd.isAgg24 Tryd.sizeOf24 e26 o7.1 rfl rfl ?_)
 exact ⟨_, h22, rfl, g29, fun j x _ p => p, rfl⟩
 intro ρ22 h23 w30 g30 hdd16 hdo16
 have e28 : ρ22 72 = .bool true := hdd16 13 (by decide)
 refine gL (d := 72) (b := true) ?_ ?_ ?_ ?_
 · rfl
 · rfl
 · exact e28
 have g31 := g12.trans g30
 refine (cF Tryd.call38 (rOf_c (n := ((2 : Nat) : Int)) g31.sat  (by omega) (by omega)) rfl ?_)
 intro r11 h24 w31 gr10 hr11
 exact ⟨r11, h24, rfl, g30.trans gr10, fun j x _ => stab j _ _ _ _ x gr10, hr11⟩
 intro ρ23 h25 w32 g32 hdd17 hdo17
 have e29 : ρ23 72 = .bool true := hdd17 13 (by decide)
 refine gL (d := 72) (b := true) ?_ ?_ ?_ ?_
 · rfl
 · rfl
 · exact e29
 have g33 := g12.trans g32
 refine (cF Tryd.call38 (rOf_c (n := ((10 : Nat) : Int)) g33.sat  (by omega) (by omega)) rfl ?_)
 intro r12 h26 w33 gr11 hr12
 exact ⟨r12, h26, rfl, g32.trans gr11, fun j x _ => stab j _ _ _ _ x gr11, hr12⟩
 intro ρ24 h27 w34 g34 hdd18 hdo18
 have e30 : ρ24 1 = .int .i64 places := hdo18 1 rfl
 have e31 : ρ24 72 = .bool true := hdd18 13 (by decide)
 refine gL (d := 72) (b := true) ?_ ?_ ?_ ?_
 · rfl
 · rfl
 · exact e31
 refine (OpW.move (v := .int .i64 places) e30 ?_)
 exact ⟨_, h27, rfl, g34, fun j x _ p => p, rfl⟩
 intro ρ25 h28 w35 g35 hdd19 hdo19
 have e32 : ρ25 72 = .bool true := hdd19 13 (by decide)
 have q1 : Kn h28 (ρ25 75) ((((10 : Nat) : Int) : Int) : Rat) := hdd19 16 (by decide)
 have e33 : ρ25 76 = .int .i64 places := hdd19 17 (by decide)
 refine gL (d := 72) (b := true) ?_ ?_ ?_ ?_
 · rfl
 · rfl
 · exact e32
 have g36 := g12.trans g35
 refine (cF Tryd.call24 (rPow_c (a := frK ((((10 : Nat) : Int) : Int) : Rat)) (n := places) g36.sat q1 (by first | omega | (simp only [bf_frK, frK_rat, wts_cons, wts_nil]; omega)) (by omega) (by omega) (fun h => by omega)) (cx rfl (cx e33 cxn)) ?_)
 intro r13 h29 w36 gr12 hr13
 simp only [frK_rat, bf_frK, val_digs] at hr13
 replace hr13 := Kn.cast (by rw [hpn]) hr13
 exact ⟨r13, h29, rfl, g35.trans gr12, fun j x _ => stab j _ _ _ _ x gr12, hr13⟩
 intro ρ26 h30 w37 g37 hdd20 hdo20
 have e34 : ρ26 72 = .bool true := hdd20 13 (by decide)
 have q2 : Kn h30 (ρ26 74) ((((2 : Nat) : Int) : Int) : Rat) := hdd20 15 (by decide)
 have q3 : Kn h30 (ρ26 77) (powR (((10 : Nat) : Int) : Rat) ((pn : Nat) : Int)) := hdd20 18 (by decide)
 refine gL (d := 72) (b := true) ?_ ?_ ?_ ?_
 · rfl
 · rfl
 · exact e34
 have g38 := g12.trans g37
 refine (cF Tryd.call37 (rMul_c (a := frK ((((2 : Nat) : Int) : Int) : Rat)) (b := frK (powR (((10 : Nat) : Int) : Rat) ((pn : Nat) : Int))) g38.sat q2 q3 (by first | omega | (simp only [bf_frK, frK_rat, wts_cons, wts_nil]; omega))) rfl ?_)
 intro r14 h31 w38 gr13 hr14
 simp only [frK_rat, bf_frK, val_digs] at hr14
 exact ⟨r14, h31, rfl, g37.trans gr13, fun j x _ => stab j _ _ _ _ x gr13, hr14⟩
 intro ρ27 h32 w39 g39 hdd21 hdo21
 have e35 : ρ27 72 = .bool true := hdd21 13 (by decide)
 have e36 : ρ27 73 = .agg #[.bool false, .slice b7 ((frK (a.rat - decR a.rat pn)).n.length) c11, .slice b8 ((frK (a.rat - decR a.rat pn)).d.length) c12] := hdd21 14 (by decide)
 have q4 : Kn h32 (ρ27 78) (((((2 : Nat) : Int) : Int) : Rat) * (powR (((10 : Nat) : Int) : Rat) ((pn : Nat) : Int))) := hdd21 19 (by decide)
 refine gL (d := 72) (b := true) ?_ ?_ ?_ ?_
 · rfl
 · rfl
 · exact e35
 have g40 := g12.trans g39
 refine (cF Tryd.call37 (rMul_c (a := Fr.mk false ((frK (a.rat - decR a.rat pn)).n) ((frK (a.rat - decR a.rat pn)).d)) (b := frK (((((2 : Nat) : Int) : Int) : Rat) * (powR (((10 : Nat) : Int) : Rat) ((pn : Nat) : Int)))) g40.sat (F.mk (U.mono u5 g39.le) (U.mono u6 g39.le)) q4 (by first | omega | (simp only [bf_frK, frK_rat, wts_cons, wts_nil]; omega))) (cx e36 (cx rfl cxn)) ?_)
 intro r15 h33 w40 gr14 hr15
 simp only [frK_rat, bf_frK, val_digs] at hr15
 exact ⟨r15, h33, rfl, g39.trans gr14, fun j x _ => stab j _ _ _ _ x gr14, hr15⟩
 intro ρ28 h34 w41 g41 hdd22 hdo22
 have e37 : ρ28 72 = .bool true := hdd22 13 (by decide)
 refine gL (d := 72) (b := true) ?_ ?_ ?_ ?_
 · rfl
 · rfl
 · exact e37
 have g42 := g12.trans g41
 refine (cF Tryd.call38 (rOf_c (n := ((1 : Nat) : Int)) g42.sat  (by omega) (by omega)) rfl ?_)
 intro r16 h35 w42 gr15 hr16
 exact ⟨r16, h35, rfl, g41.trans gr15, fun j x _ => stab j _ _ _ _ x gr15, hr16⟩
 intro ρ29 h36 w43 g43 hdd23 hdo23
 have e38 : ρ29 72 = .bool true := hdd23 13 (by decide)
 have q5 : Kn h36 (ρ29 79) ((Fr.mk false ((frK (a.rat - decR a.rat pn)).n) ((frK (a.rat - decR a.rat pn)).d)).rat * (((((2 : Nat) : Int) : Int) : Rat) * (powR (((10 : Nat) : Int) : Rat) ((pn : Nat) : Int)))) := hdd23 20 (by decide)
 have q6 : Kn h36 (ρ29 80) ((((1 : Nat) : Int) : Int) : Rat) := hdd23 21 (by decide)
 refine gL (d := 72) (b := true) ?_ ?_ ?_ ?_
 · rfl
 · rfl
 · exact e38
 have g44 := g12.trans g43
 refine (cF Tryd.call29 (rCmp_c (a := frK ((Fr.mk false ((frK (a.rat - decR a.rat pn)).n) ((frK (a.rat - decR a.rat pn)).d)).rat * (((((2 : Nat) : Int) : Int) : Rat) * (powR (((10 : Nat) : Int) : Rat) ((pn : Nat) : Int))))) (b := frK ((((1 : Nat) : Int) : Int) : Rat)) g44.sat q5 q6 (by first | omega | (simp only [bf_frK, frK_rat, wts_cons, wts_nil]; omega))) rfl ?_)
 intro r17 h37 w44 gr16 hr17
 simp only [frK_rat, bf_frK, val_digs] at hr17
 exact ⟨r17, h37, rfl, g43.trans gr16, fun j x _ => stab j _ _ _ _ x gr16, hr17⟩
 intro ρ30 h38 w45 g45 hdd24 hdo24
 have e39 : ρ30 72 = .bool true := hdd24 13 (by decide)
 have e40 : ρ30 81 = .int .i64 (sgQ (((Fr.mk false ((frK (a.rat - decR a.rat pn)).n) ((frK (a.rat - decR a.rat pn)).d)).rat * (((((2 : Nat) : Int) : Int) : Rat) * (powR (((10 : Nat) : Int) : Rat) ((pn : Nat) : Int)))) - ((((1 : Nat) : Int) : Int) : Rat))) := hdd24 22 (by decide)
 refine gL (d := 72) (b := true) ?_ ?_ ?_ ?_
 · rfl
 · rfl
 · exact e39
 refine (OpW.leq (a := (sgQ (((Fr.mk false ((frK (a.rat - decR a.rat pn)).n) ((frK (a.rat - decR a.rat pn)).d)).rat * (((((2 : Nat) : Int) : Int) : Rat) * (powR (((10 : Nat) : Int) : Rat) ((pn : Nat) : Int)))) - ((((1 : Nat) : Int) : Int) : Rat)))) (b := ((0 : Nat) : Int)) (r := true) e40 rfl (decide_eq_true (Int.not_lt.1 (dec_near _ _))) ?_)
 exact ⟨_, h38, rfl, g45, fun j x _ p => p, rfl⟩
 intro ρ31 h39 w46 g46 hdd25 hdo25
 have e41 : ρ31 72 = .bool true := hdd25 13 (by decide)
 have e42 : ρ31 82 = .bool true := hdd25 23 (by decide)
 refine gP (pT (v := .bool true) e41 e42 ?_)
 exact ⟨_, h39, rfl, g46, fun j x _ p => p, rfl⟩
 intro ρ32 h40 w47 g47 hdd26 hdo26
 have e43 : ρ32 83 = .bool true := hdd26 24 (by decide)
 refine gP (OpW.move (v := .bool true) e43 ?_)
 exact ⟨_, h40, rfl, g47, fun j x _ p => p, rfl⟩
 intro ρ33 h41 w48 g48 hdd27 hdo27
 have e44 : ρ33 84 = .bool true := hdd27 25 (by decide)
 refine gL (d := 84) (b := true) ?_ ?_ ?_ ?_
 · rfl
 · rfl
 · exact e44
 have g49 := g12.trans g48
 refine (cF Tryd.call20 (known_c  g49.sat (tb.mono ((((gr1.le.trans gr3.le).trans gr5.le).trans gr7.le).trans g48.le)) ) rfl ?_)
 intro r18 h42 w49 gr17 hr18
 exact ⟨r18, h42, rfl, g48.trans gr17, fun j x _ => stab j _ _ _ _ x gr17, hr18⟩
 intro ρ34 h43 w50 g50 hdd28 hdo28
 have e45 : ρ34 84 = .bool true := hdd28 25 (by decide)
 have e46 : ρ34 85 = .bool true := hdd28 26 (by decide)
 refine gP (pT (v := .bool true) e45 e46 ?_)
 exact ⟨_, h43, rfl, g50, fun j x _ p => p, rfl⟩
 intro ρ35 h44 w51 g51 hdd29 hdo29
 have e47 : ρ35 86 = .bool true := hdd29 27 (by decide)
 refine gP (OpW.assign (v := .bool true) e47 ?_)
 exact ⟨_, h44, rfl, g51, fun j x _ p => p, rfl⟩
 intro ρ36 h45 w52 g52 hdp1 hdo30
 have e48 : ρ36 4 = .bool true := hdp1 28 rfl
 refine Ops.forget [(4, .bool true)] ⟨e48, trivial⟩ (fun ρ37 => (oN (Wp.ret (fin1_ret rfl (resOf_tmp (v := .bool true) rfl) ?_))))
 have g53 := g12.trans g52
 refine ⟨h45, g53, ?_⟩
 exact rfl
end Go.Ear
