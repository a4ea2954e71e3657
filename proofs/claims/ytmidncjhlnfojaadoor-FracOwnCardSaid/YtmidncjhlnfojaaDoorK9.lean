/- About package frac: K9. -/
import Derived.Test.YtmidncjhlnfojaaDoorNatLaw2
import Derived.Test.YtmidncjhlnfojaaDoorEarShort
import Derived.Test.YtmidncjhlnfojaaDoorProg
import Derived.Test.YtmidncjhlnfojaaDoorNatLaw3
import Derived.Test.YtmidncjhlnfojaaDoorEarFrac
import Derived.Test.YtmidncjhlnfojaaDoorEarDec
import Derived.Test.YtmidncjhlnfojaaDoorItoaLay
import Derived.Lib.ItoaMem
import Derived.Test.YtmidncjhlnfojaaDoorEarApi
import Derived.Test.YtmidncjhlnfojaaDoorK1
import Derived.Test.YtmidncjhlnfojaaDoorK2
import Derived.Test.YtmidncjhlnfojaaDoorK3
import Derived.Test.YtmidncjhlnfojaaDoorK4
import Derived.Test.YtmidncjhlnfojaaDoorK5
import Derived.Test.YtmidncjhlnfojaaDoorK7
set_option linter.all false
namespace Go.Ear
open Go.Proofs
set_option maxRecDepth 20000
set_option linter.unusedVariables false
set_option maxHeartbeats 2000000
theorem Decimal_c {h : PH} {w : World} {v0 : Value} {a : Fr} {places : Int} (hs : Sat h w) (tb : Tab h) (pv0 : F h v0 a) (hp0 : bf a ≤ 100000) (hp1 : -9223372036854775808 ≤ places) (hp2 : places ≤ 9223372036854775807) :
    Calls Tryd.prog 35 #[v0, .int .i64 places] w (Ret h w fun h' r => ∃ x1 x2, r = .tuple #[x1, x2] ∧ x1 = .string (S (decimalQ a.rat places)) ∧ x2 = .int .i64 (decimalE places)) := by
 obtain ⟨b1, c1, b2, c2, rfl, k1, k2, u1, u2⟩ := F.shape pv0
 have hbq1 := F.bq pv0
 have hbn := bf_n a
 have hbd := bf_d a
 have hbp := bf_pos a
 have hq1 := bq_num a.rat
 have hq2 := bq_den a.rat
 have hdz := a.rat.den_nz
 have h10 := sz_small (n := 10) (by decide)
 have h2 := sz_small (n := 2) (by decide)
 refine calls_ear (vs := [.agg #[.bool a.neg, .slice b1 a.n.length c1, .slice b2 a.d.length c2], .int .i64 places]) Tryd.func35 rfl rfl ?_
 have g1 := Gr.refl hs
 refine sr (oC (OpW.boxK (v := .agg #[.bool a.neg, .slice b1 a.n.length c1, .slice b2 a.d.length c2]) (arr := #[.bool a.neg, .slice b1 a.n.length c1, .slice b2 a.d.length c2]) g1.sat rfl rfl ?_))
 intro b3 h1 w1 gr1 qb1
 refine ma (ma (oN (wS (sr (Ops.cut (fun ρ' w' => w1 = w' ∧ ∃ ρb, ρ' = upds ρb [(1, .int .i64 places), (2, .pointer (some ⟨b3, 0, none⟩)), (16, .bool ((decide (places < ((0 : Nat) : Int))) || (decide (((1000 : Nat) : Int) < places))))]) ?_ ?_)))))
 refine mv (oC (OpW.lss (a := places) (b := ((0 : Nat) : Int)) (r := decide (places < ((0 : Nat) : Int))) rfl rfl rfl (mv ?_)))
 cases c3 : (decide (places < ((0 : Nat) : Int)))
 replace c3 : ¬ (places < ((0 : Nat) : Int)) := (of_decide_eq_false c3)
 refine oL rfl rfl rfl (OpW.move (v := .int .i64 places) rfl ?_)
 refine oL rfl rfl rfl (OpW.gtr (a := places) (b := ((1000 : Nat) : Int)) (r := decide (((1000 : Nat) : Int) < places)) rfl rfl rfl ?_)
 refine oC (pF (v := .bool (decide (((1000 : Nat) : Int) < places))) rfl rfl (oN ?_))
 exact ⟨rfl, _, nm rfl⟩
 replace c3 : places < ((0 : Nat) : Int) := (of_decide_eq_true c3)
 refine oD rfl rfl rfl rfl (oD rfl rfl rfl rfl (oC (pT (v := .bool true) rfl rfl (oN ?_))))
 exact ⟨rfl, _, nm rfl⟩
 rintro ρ1 w2 ⟨rfl, ρ2, rfl⟩
 refine Wp.cond (t := (decide (places < ((0 : Nat) : Int))) || (decide (((1000 : Nat) : Int) < places))) rfl (fun c4 => ?_) (fun c4 => ?_)
 replace c4 : (places < ((0 : Nat) : Int)) ∨ (((1000 : Nat) : Int) < places) := ((or_t c4).imp (fun h => (of_decide_eq_true h)) (fun h => (of_decide_eq_true h)))
 refine sr (ma (ma (oN (Wp.ret (fin2_ret rfl (resOf_tmp (v := .string (S ([] : List UInt8))) rfl) (resOf_tmp (v := .int .i64 ((2 : Nat) : Int)) rfl) ?_)))))
 have g2 := g1.trans gr1
 refine ⟨h1, g2, ?_⟩
 exact ⟨_, _, rfl, strv (by unfold decimalQ; rw [if_pos (by omega)]), intv (by unfold decimalE; rw [if_pos (by omega)]; rfl)⟩
 replace c4 : ¬ ((places < ((0 : Nat) : Int)) ∨ (((1000 : Nat) : Int) < places)) := (fun pq => pq.elim (of_decide_eq_false (or_l c4)) (of_decide_eq_false (or_r c4)))
 obtain ⟨pn, rfl⟩ : ∃ x : Nat, places = (x : Int) := ⟨places.toNat, by omega⟩
 have hsp := sz_pow 10 pn
 have hpm := Nat.mul_le_mul_left pn h10
 have hs1 := sz_mul a.rat.num.natAbs (10 ^ pn)
 have hs2 := sz_mul (a.rat.num.natAbs * 10 ^ pn) 2
 have hs3 := sz_add (a.rat.num.natAbs * 10 ^ pn * 2) a.rat.den
 have hs4 := sz_mul a.rat.den 2
 have hs5 := sz_mono (Nat.div_le_self (a.rat.num.natAbs * 10 ^ pn * 2 + a.rat.den) (a.rat.den * 2))
 have hdl := decT_len (decN a.rat pn)
 have hsn : sz (decN a.rat pn) ≤ 300000 := by unfold decN; omega
 have hnz := len_zero (n := decN a.rat pn)
 refine Wp.skip (sr ?_)
 have g3 := g1.trans gr1
 refine oC (lA (cs := [.bool a.neg, .slice b1 a.n.length c1, .slice b2 a.d.length c2]) Tryd.isAgg24 Tryd.sizeOf24 rfl (g3.sat _ _ qb1) rfl rfl ?_)
 refine oC (cF Tryd.call70 (take_c (f := a) g3.sat (F.mk (U.mono u1 gr1.le) (U.mono u2 gr1.le)) (by omega) (by omega)) rfl ?_)
 intro r1 h2 w3 gr2 hr1
 obtain ⟨b4, c5, b5, c6, rfl, k3, k4, u3, u4⟩ := Qn.shape hr1
 have g4 := g3.trans gr2
 refine oC (OpW.allocO (arr := #[.bool false, .slice none 0 0, .slice none 0 0]) g4.sat Tryd.zeroValue66 rfl ?_)
 intro b6 w4 gr3 n1 lo1 o1
 have lo2 := Nat.le_trans g4.ext.size lo1
 refine oC (sA (cs := [.bool (decide (a.rat.num < 0)), .slice b4 ((digs a.rat.num.natAbs).length) c5, .slice b5 ((digs a.rat.den).length) c6]) Tryd.sizeOf66 rfl rfl rfl rfl o1 rfl ?_)
 intro w5 p1
 refine oN (wS ?_)
 have g5 := (g4.trans gr3).put p1 n1 lo2
 refine Wp.dagL 12 [19, 20, 21, 22, 23, 24, 25, 26, 27, 28, 29, 7] [eqv (.pointer (some ⟨b6, 1, none⟩)), eqv (.slice b4 ((digs a.rat.num.natAbs).length) c5), fun h _ x => N h x 10, eqv (.int .i64 ((pn : Nat) : Int)), fun h _ x => N h x (10 ^ pn), fun h _ x => N h x (a.rat.num.natAbs * (10 ^ pn)), fun h _ x => N h x 2, fun h _ x => N h x ((a.rat.num.natAbs * (10 ^ pn)) * 2), eqv (.pointer (some ⟨b6, 2, none⟩)), eqv (.slice b5 ((digs a.rat.den).length) c6), fun h _ x => N h x (((a.rat.num.natAbs * (10 ^ pn)) * 2) + a.rat.den), fun h _ x => N h x (((a.rat.num.natAbs * (10 ^ pn)) * 2) + a.rat.den)] mixed g5.sat rfl (by decide +kernel) ⟨sQ _, sQ _, (stab_N 10), sQ _, (stab_N (10 ^ pn)), (stab_N (a.rat.num.natAbs * (10 ^ pn))), (stab_N 2), (stab_N ((a.rat.num.natAbs * (10 ^ pn)) * 2)), sQ _, sQ _, (stab_N (((a.rat.num.natAbs * (10 ^ pn)) * 2) + a.rat.den)), (stab_N (((a.rat.num.natAbs * (10 ^ pn)) * 2) + a.rat.den)), trivial⟩ ?_ ?_
 intro stab
 refine ⟨?_, ?_, ?_, ?_, ?_, ?_, ?_, ?_, ?_, ?_, ?_, ?_, trivial⟩
 intro ρ3 h3 w6 g6 hdd1 hdo1
 have e1 : ρ3 6 = .pointer (some ⟨b6, 0, none⟩) := hdo1 6 rfl
 refine gP (fA (o := 1) Tryd.underlying66 rfl Tryd.sizeOf64 (by decide) e1 rfl ?_)
 exact ⟨_, h3, rfl, g6, fun j x _ p => p, rfl⟩
 intro ρ4 h4 w7 g7 hdd2 hdo2
 have e2 : ρ4 19 = .pointer (some ⟨b6, 1, none⟩) := hdd2 0 (by decide)
 have o3 := g7.kp ⟨p1.at_, n1⟩
 refine gP (lO (v := .slice b4 ((digs a.rat.num.natAbs).length) c5) Tryd.isAgg64 e2 o3.1 rfl ?_)
 exact ⟨_, h4, rfl, g7, fun j x _ p => p, rfl⟩
 intro ρ5 h5 w8 g8 hdd3 hdo3
 have g9 := g5.trans g8
 refine gP (cF Tryd.call86 (small_c (n := 10) g9.sat  (by omega)) rfl ?_)
 intro r2 h6 w9 gr4 hr2
 exact ⟨r2, h6, rfl, g8.trans gr4, fun j x _ => stab j _ _ _ _ x gr4, hr2⟩
 intro ρ6 h7 w10 g10 hdd4 hdo4
 have e3 : ρ6 1 = .int .i64 ((pn : Nat) : Int) := hdo4 1 rfl
 refine gP (OpW.move (v := .int .i64 ((pn : Nat) : Int)) e3 ?_)
 exact ⟨_, h7, rfl, g10, fun j x _ p => p, rfl⟩
 intro ρ7 h8 w11 g11 hdd5 hdo5
 have q1 : N h8 (ρ7 21) 10 := hdd5 2 (by decide)
 have e4 : ρ7 22 = .int .i64 ((pn : Nat) : Int) := hdd5 3 (by decide)
 have g12 := g5.trans g11
 refine gP (cF Tryd.call73 (power_c (a := 10) (n := pn) g12.sat q1 (by omega) (by omega)) (cx rfl (cx e4 cxn)) ?_)
 intro r3 h9 w12 gr5 hr3
 exact ⟨r3, h9, rfl, g11.trans gr5, fun j x _ => stab j _ _ _ _ x gr5, hr3⟩
 intro ρ8 h10 w13 g13 hdd6 hdo6
 have e5 : ρ8 20 = .slice b4 ((digs a.rat.num.natAbs).length) c5 := hdd6 1 (by decide)
 have q2 : N h10 (ρ8 23) (10 ^ pn) := hdd6 4 (by decide)
 have g14 := g5.trans g13
 refine gP (cF Tryd.call89 (mul_c (a := a.rat.num.natAbs) (b := 10 ^ pn) g14.sat (N.mono u3 g13.le) q2 (by omega) (by omega)) (cx e5 (cx rfl cxn)) ?_)
 intro r4 h11 w14 gr6 hr4
 exact ⟨r4, h11, rfl, g13.trans gr6, fun j x _ => stab j _ _ _ _ x gr6, hr4⟩
 intro ρ9 h12 w15 g15 hdd7 hdo7
 have g16 := g5.trans g15
 refine gP (cF Tryd.call86 (small_c (n := 2) g16.sat  (by omega)) rfl ?_)
 intro r5 h13 w16 gr7 hr5
 exact ⟨r5, h13, rfl, g15.trans gr7, fun j x _ => stab j _ _ _ _ x gr7, hr5⟩
 intro ρ10 h14 w17 g17 hdd8 hdo8
 have q3 : N h14 (ρ10 24) (a.rat.num.natAbs * (10 ^ pn)) := hdd8 5 (by decide)
 have q4 : N h14 (ρ10 25) 2 := hdd8 6 (by decide)
 have g18 := g5.trans g17
 refine gP (cF Tryd.call89 (mul_c (a := a.rat.num.natAbs * (10 ^ pn)) (b := 2) g18.sat q3 q4 (by omega) (by omega)) rfl ?_)
 intro r6 h15 w18 gr8 hr6
 exact ⟨r6, h15, rfl, g17.trans gr8, fun j x _ => stab j _ _ _ _ x gr8, hr6⟩
 intro ρ11 h16 w19 g19 hdd9 hdo9
 have e6 : ρ11 6 = .pointer (some ⟨b6, 0, none⟩) := hdo9 6 rfl
 refine gP (fA (o := 2) Tryd.underlying66 rfl Tryd.sizeOf64 (by decide) e6 rfl ?_)
 exact ⟨_, h16, rfl, g19, fun j x _ p => p, rfl⟩
 intro ρ12 h17 w20 g20 hdd10 hdo10
 have e7 : ρ12 27 = .pointer (some ⟨b6, 2, none⟩) := hdd10 8 (by decide)
 have o4 := g20.kp ⟨p1.at_, n1⟩
 refine gP (lO (v := .slice b5 ((digs a.rat.den).length) c6) Tryd.isAgg64 e7 o4.1 rfl ?_)
 exact ⟨_, h17, rfl, g20, fun j x _ p => p, rfl⟩
 intro ρ13 h18 w21 g21 hdd11 hdo11
 have q5 : N h18 (ρ13 26) ((a.rat.num.natAbs * (10 ^ pn)) * 2) := hdd11 7 (by decide)
 have e8 : ρ13 28 = .slice b5 ((digs a.rat.den).length) c6 := hdd11 9 (by decide)
 have g22 := g5.trans g21
 refine gP (cF Tryd.call90 (add_c (a := (a.rat.num.natAbs * (10 ^ pn)) * 2) (b := a.rat.den) g22.sat q5 (N.mono u4 g21.le) (by omega) (by omega)) (cx rfl (cx e8 cxn)) ?_)
 intro r7 h19 w22 gr9 hr7
 exact ⟨r7, h19, rfl, g21.trans gr9, fun j x _ => stab j _ _ _ _ x gr9, hr7⟩
 intro ρ14 h20 w23 g23 hdd12 hdo12
 have q6 : N h20 (ρ14 29) (((a.rat.num.natAbs * (10 ^ pn)) * 2) + a.rat.den) := hdd12 10 (by decide)
 refine gP (OpW.assign (v := (ρ14 29)) rfl ?_)
 exact ⟨_, h20, rfl, g23, fun j x _ p => p, q6⟩
 intro ρ15 h21 w24 g24 hdp1 hdo13
 have e9 : ρ15 1 = .int .i64 ((pn : Nat) : Int) := hdo13 1 rfl
 have e10 : ρ15 6 = .pointer (some ⟨b6, 0, none⟩) := hdo13 6 rfl
 have q7 : N h21 (ρ15 7) (((a.rat.num.natAbs * (10 ^ pn)) * 2) + a.rat.den) := hdp1 11 rfl
 obtain ⟨x3, hx1⟩ : ∃ x, ρ15 7 = x := ⟨_, rfl⟩
 rw [hx1] at q7
 obtain ⟨b7, c7, rfl, k5⟩ := N.shape q7
 refine Ops.forget [(1, .int .i64 ((pn : Nat) : Int)), (6, .pointer (some ⟨b6, 0, none⟩)), (7, .slice b7 ((digs (((a.rat.num.natAbs * (10 ^ pn)) * 2) + a.rat.den)).length) c7)] ⟨e9, e10, hx1, trivial⟩ (fun ρ16 => (oN (wS ?_)))
 have g25 := g5.trans g24
 refine Wp.dagL 11 [31, 32, 33, 34, 35, 36, 30, 37, 38, 8, 9] [eqv (.slice b7 ((digs (((a.rat.num.natAbs * (10 ^ pn)) * 2) + a.rat.den)).length) c7), eqv (.pointer (some ⟨b6, 2, none⟩)), eqv (.slice b5 ((digs a.rat.den).length) c6), fun h _ x => N h x 2, fun h _ x => N h x (a.rat.den * 2), fun h _ x => ∃ x4 x5, x = .tuple #[x4, x5] ∧ N h x4 ((((a.rat.num.natAbs * (10 ^ pn)) * 2) + a.rat.den) / (a.rat.den * 2)) ∧ N h x5 ((((a.rat.num.natAbs * (10 ^ pn)) * 2) + a.rat.den) % (a.rat.den * 2)), fun h _ x => ∃ b8z c8z b9z c9z, x = .tuple #[.slice b8z ((digs ((((a.rat.num.natAbs * (10 ^ pn)) * 2) + a.rat.den) / (a.rat.den * 2))).length) c8z, .slice b9z ((digs ((((a.rat.num.natAbs * (10 ^ pn)) * 2) + a.rat.den) % (a.rat.den * 2))).length) c9z] ∧ N h (.slice b8z ((digs ((((a.rat.num.natAbs * (10 ^ pn)) * 2) + a.rat.den) / (a.rat.den * 2))).length) c8z) ((((a.rat.num.natAbs * (10 ^ pn)) * 2) + a.rat.den) / (a.rat.den * 2)) ∧ N h (.slice b9z ((digs ((((a.rat.num.natAbs * (10 ^ pn)) * 2) + a.rat.den) % (a.rat.den * 2))).length) c9z) ((((a.rat.num.natAbs * (10 ^ pn)) * 2) + a.rat.den) % (a.rat.den * 2)), fun h _ x => ∃ b10z c10z, x = .slice b10z ((digs ((((a.rat.num.natAbs * (10 ^ pn)) * 2) + a.rat.den) / (a.rat.den * 2))).length) c10z ∧ N h (.slice b10z ((digs ((((a.rat.num.natAbs * (10 ^ pn)) * 2) + a.rat.den) / (a.rat.den * 2))).length) c10z) ((((a.rat.num.natAbs * (10 ^ pn)) * 2) + a.rat.den) / (a.rat.den * 2)), fun h _ x => ∃ b13z c13z, x = .slice b13z ((digs ((((a.rat.num.natAbs * (10 ^ pn)) * 2) + a.rat.den) % (a.rat.den * 2))).length) c13z ∧ N h (.slice b13z ((digs ((((a.rat.num.natAbs * (10 ^ pn)) * 2) + a.rat.den) % (a.rat.den * 2))).length) c13z) ((((a.rat.num.natAbs * (10 ^ pn)) * 2) + a.rat.den) % (a.rat.den * 2)), fun h _ x => ∃ b14z c14z, x = .slice b14z ((digs ((((a.rat.num.natAbs * (10 ^ pn)) * 2) + a.rat.den) / (a.rat.den * 2))).length) c14z ∧ N h (.slice b14z ((digs ((((a.rat.num.natAbs * (10 ^ pn)) * 2) + a.rat.den) / (a.rat.den * 2))).length) c14z) ((((a.rat.num.natAbs * (10 ^ pn)) * 2) + a.rat.den) / (a.rat.den * 2)), fun h _ x => ∃ b15z c15z, x = .slice b15z ((digs ((((a.rat.num.natAbs * (10 ^ pn)) * 2) + a.rat.den) % (a.rat.den * 2))).length) c15z ∧ N h (.slice b15z ((digs ((((a.rat.num.natAbs * (10 ^ pn)) * 2) + a.rat.den) % (a.rat.den * 2))).length) c15z) ((((a.rat.num.natAbs * (10 ^ pn)) * 2) + a.rat.den) % (a.rat.den * 2))] mixed g25.sat rfl (by decide +kernel) ⟨sQ _, sQ _, sQ _, (stab_N 2), (stab_N (a.rat.den * 2)), (stab_tup2 (stab_N ((((a.rat.num.natAbs * (10 ^ pn)) * 2) + a.rat.den) / (a.rat.den * 2))) (stab_N ((((a.rat.num.natAbs * (10 ^ pn)) * 2) + a.rat.den) % (a.rat.den * 2)))), (fun _ _ _ _ _ g ⟨_, _, _, _, e, f0, f1⟩ => ⟨_, _, _, _, e, N.mono f0 g.le, N.mono f1 g.le⟩), (fun _ _ _ _ _ g ⟨_, _, e, f0⟩ => ⟨_, _, e, N.mono f0 g.le⟩), (fun _ _ _ _ _ g ⟨_, _, e, f0⟩ => ⟨_, _, e, N.mono f0 g.le⟩), (fun _ _ _ _ _ g ⟨_, _, e, f0⟩ => ⟨_, _, e, N.mono f0 g.le⟩), (fun _ _ _ _ _ g ⟨_, _, e, f0⟩ => ⟨_, _, e, N.mono f0 g.le⟩), trivial⟩ ?_ ?_
 intro stab
 refine ⟨?_, ?_, ?_, ?_, ?_, ?_, ?_, ?_, ?_, ?_, ?_, trivial⟩
 intro ρ17 h22 w25 g26 hdd13 hdo14
 have e11 : ρ17 7 = .slice b7 ((digs (((a.rat.num.natAbs * (10 ^ pn)) * 2) + a.rat.den)).length) c7 := hdo14 7 rfl
 refine gP (OpW.move (v := .slice b7 ((digs (((a.rat.num.natAbs * (10 ^ pn)) * 2) + a.rat.den)).length) c7) e11 ?_)
 exact ⟨_, h22, rfl, g26, fun j x _ p => p, rfl⟩
 intro ρ18 h23 w26 g27 hdd14 hdo15
 have e12 : ρ18 6 = .pointer (some ⟨b6, 0, none⟩) := hdo15 6 rfl
 refine gP (fA (o := 2) Tryd.underlying66 rfl Tryd.sizeOf64 (by decide) e12 rfl ?_)
 exact ⟨_, h23, rfl, g27, fun j x _ p => p, rfl⟩
 intro ρ19 h24 w27 g28 hdd15 hdo16
 have e13 : ρ19 32 = .pointer (some ⟨b6, 2, none⟩) := hdd15 1 (by decide)
 have o5 := g28.kp (g24.kp ⟨p1.at_, n1⟩)
 refine gP (lO (v := .slice b5 ((digs a.rat.den).length) c6) Tryd.isAgg64 e13 o5.1 rfl ?_)
 exact ⟨_, h24, rfl, g28, fun j x _ p => p, rfl⟩
 intro ρ20 h25 w28 g29 hdd16 hdo17
 have g30 := g25.trans g29
 refine gP (cF Tryd.call86 (small_c (n := 2) g30.sat  (by omega)) rfl ?_)
 intro r8 h26 w29 gr10 hr8
 exact ⟨r8, h26, rfl, g29.trans gr10, fun j x _ => stab j _ _ _ _ x gr10, hr8⟩
 intro ρ21 h27 w30 g31 hdd17 hdo18
 have e14 : ρ21 33 = .slice b5 ((digs a.rat.den).length) c6 := hdd17 2 (by decide)
 have q8 : N h27 (ρ21 34) 2 := hdd17 3 (by decide)
 have g32 := g25.trans g31
 refine gP (cF Tryd.call89 (mul_c (a := a.rat.den) (b := 2) g32.sat (N.mono u4 (g24.le.trans g31.le)) q8 (by omega) (by omega)) (cx e14 (cx rfl cxn)) ?_)
 intro r9 h28 w31 gr11 hr9
 exact ⟨r9, h28, rfl, g31.trans gr11, fun j x _ => stab j _ _ _ _ x gr11, hr9⟩
 intro ρ22 h29 w32 g33 hdd18 hdo19
 have e15 : ρ22 31 = .slice b7 ((digs (((a.rat.num.natAbs * (10 ^ pn)) * 2) + a.rat.den)).length) c7 := hdd18 0 (by decide)
 have q9 : N h29 (ρ22 35) (a.rat.den * 2) := hdd18 4 (by decide)
 have g34 := g25.trans g33
 refine gP (cF Tryd.call92 (div_c (a := ((a.rat.num.natAbs * (10 ^ pn)) * 2) + a.rat.den) (b := a.rat.den * 2) g34.sat (N.mono q7 g33.le) q9 (by omega) (by omega) (by omega)) (cx e15 (cx rfl cxn)) ?_)
 intro r10 h30 w33 gr12 hr10
 exact ⟨r10, h30, rfl, g33.trans gr12, fun j x _ => stab j _ _ _ _ x gr12, hr10⟩
 intro ρ23 h31 w34 g35 hdd19 hdo20
 have q10 : ∃ x6 x7, (ρ23 36) = .tuple #[x6, x7] ∧ N h31 x6 ((((a.rat.num.natAbs * (10 ^ pn)) * 2) + a.rat.den) / (a.rat.den * 2)) ∧ N h31 x7 ((((a.rat.num.natAbs * (10 ^ pn)) * 2) + a.rat.den) % (a.rat.den * 2)) := hdd19 5 (by decide)
 obtain ⟨x8, hx2⟩ : ∃ x, ρ23 36 = x := ⟨_, rfl⟩
 rw [hx2] at q10
 obtain ⟨r11, r12, rfl, hr11, hr12⟩ := q10
 obtain ⟨b8, c8, rfl, k6⟩ := N.shape hr11
 obtain ⟨b9, c9, rfl, k7⟩ := N.shape hr12
 refine gP (OpW.move (v := .tuple #[.slice b8 ((digs ((((a.rat.num.natAbs * (10 ^ pn)) * 2) + a.rat.den) / (a.rat.den * 2))).length) c8, .slice b9 ((digs ((((a.rat.num.natAbs * (10 ^ pn)) * 2) + a.rat.den) % (a.rat.den * 2))).length) c9]) hx2 ?_)
 exact ⟨_, h31, rfl, g35, fun j x _ p => p, ⟨_, _, _, _, rfl, hr11, hr12⟩⟩
 intro ρ24 h32 w35 g36 hdd20 hdo21
 have q11 : ∃ b8z c8z b9z c9z, (ρ24 30) = .tuple #[.slice b8z ((digs ((((a.rat.num.natAbs * (10 ^ pn)) * 2) + a.rat.den) / (a.rat.den * 2))).length) c8z, .slice b9z ((digs ((((a.rat.num.natAbs * (10 ^ pn)) * 2) + a.rat.den) % (a.rat.den * 2))).length) c9z] ∧ N h32 (.slice b8z ((digs ((((a.rat.num.natAbs * (10 ^ pn)) * 2) + a.rat.den) / (a.rat.den * 2))).length) c8z) ((((a.rat.num.natAbs * (10 ^ pn)) * 2) + a.rat.den) / (a.rat.den * 2)) ∧ N h32 (.slice b9z ((digs ((((a.rat.num.natAbs * (10 ^ pn)) * 2) + a.rat.den) % (a.rat.den * 2))).length) c9z) ((((a.rat.num.natAbs * (10 ^ pn)) * 2) + a.rat.den) % (a.rat.den * 2)) := hdd20 6 (by decide)
 obtain ⟨b10, c10, b11, c11, e16, q12, q13⟩ := q11
 have e16 : ρ24 30 = .tuple #[.slice b10 ((digs ((((a.rat.num.natAbs * (10 ^ pn)) * 2) + a.rat.den) / (a.rat.den * 2))).length) c10, .slice b11 ((digs ((((a.rat.num.natAbs * (10 ^ pn)) * 2) + a.rat.den) % (a.rat.den * 2))).length) c11] := e16
 refine gP (OpW.extract (v := .slice b10 ((digs ((((a.rat.num.natAbs * (10 ^ pn)) * 2) + a.rat.den) / (a.rat.den * 2))).length) c10) e16 rfl ?_)
 exact ⟨_, h32, rfl, g36, fun j x _ p => p, ⟨_, _, rfl, q12⟩⟩
 intro ρ25 h33 w36 g37 hdd21 hdo22
 have q14 : ∃ b8z c8z b9z c9z, (ρ25 30) = .tuple #[.slice b8z ((digs ((((a.rat.num.natAbs * (10 ^ pn)) * 2) + a.rat.den) / (a.rat.den * 2))).length) c8z, .slice b9z ((digs ((((a.rat.num.natAbs * (10 ^ pn)) * 2) + a.rat.den) % (a.rat.den * 2))).length) c9z] ∧ N h33 (.slice b8z ((digs ((((a.rat.num.natAbs * (10 ^ pn)) * 2) + a.rat.den) / (a.rat.den * 2))).length) c8z) ((((a.rat.num.natAbs * (10 ^ pn)) * 2) + a.rat.den) / (a.rat.den * 2)) ∧ N h33 (.slice b9z ((digs ((((a.rat.num.natAbs * (10 ^ pn)) * 2) + a.rat.den) % (a.rat.den * 2))).length) c9z) ((((a.rat.num.natAbs * (10 ^ pn)) * 2) + a.rat.den) % (a.rat.den * 2)) := hdd21 6 (by decide)
 obtain ⟨b12, c12, b13, c13, e17, q15, q16⟩ := q14
 have e17 : ρ25 30 = .tuple #[.slice b12 ((digs ((((a.rat.num.natAbs * (10 ^ pn)) * 2) + a.rat.den) / (a.rat.den * 2))).length) c12, .slice b13 ((digs ((((a.rat.num.natAbs * (10 ^ pn)) * 2) + a.rat.den) % (a.rat.den * 2))).length) c13] := e17
 refine gP (OpW.extract (v := .slice b13 ((digs ((((a.rat.num.natAbs * (10 ^ pn)) * 2) + a.rat.den) % (a.rat.den * 2))).length) c13) e17 rfl ?_)
 exact ⟨_, h33, rfl, g37, fun j x _ p => p, ⟨_, _, rfl, q16⟩⟩
 intro ρ26 h34 w37 g38 hdd22 hdo23
 have q17 : ∃ b10z c10z, (ρ26 37) = .slice b10z ((digs ((((a.rat.num.natAbs * (10 ^ pn)) * 2) + a.rat.den) / (a.rat.den * 2))).length) c10z ∧ N h34 (.slice b10z ((digs ((((a.rat.num.natAbs * (10 ^ pn)) * 2) + a.rat.den) / (a.rat.den * 2))).length) c10z) ((((a.rat.num.natAbs * (10 ^ pn)) * 2) + a.rat.den) / (a.rat.den * 2)) := hdd22 7 (by decide)
 obtain ⟨b14, c14, e18, q18⟩ := q17
 have e18 : ρ26 37 = .slice b14 ((digs ((((a.rat.num.natAbs * (10 ^ pn)) * 2) + a.rat.den) / (a.rat.den * 2))).length) c14 := e18
 refine gP (OpW.assign (v := .slice b14 ((digs ((((a.rat.num.natAbs * (10 ^ pn)) * 2) + a.rat.den) / (a.rat.den * 2))).length) c14) e18 ?_)
 exact ⟨_, h34, rfl, g38, fun j x _ p => p, ⟨_, _, rfl, q18⟩⟩
 intro ρ27 h35 w38 g39 hdd23 hdo24
 have q19 : ∃ b13z c13z, (ρ27 38) = .slice b13z ((digs ((((a.rat.num.natAbs * (10 ^ pn)) * 2) + a.rat.den) % (a.rat.den * 2))).length) c13z ∧ N h35 (.slice b13z ((digs ((((a.rat.num.natAbs * (10 ^ pn)) * 2) + a.rat.den) % (a.rat.den * 2))).length) c13z) ((((a.rat.num.natAbs * (10 ^ pn)) * 2) + a.rat.den) % (a.rat.den * 2)) := hdd23 8 (by decide)
 obtain ⟨b15, c15, e19, q20⟩ := q19
 have e19 : ρ27 38 = .slice b15 ((digs ((((a.rat.num.natAbs * (10 ^ pn)) * 2) + a.rat.den) % (a.rat.den * 2))).length) c15 := e19
 refine gP (OpW.assign (v := .slice b15 ((digs ((((a.rat.num.natAbs * (10 ^ pn)) * 2) + a.rat.den) % (a.rat.den * 2))).length) c15) e19 ?_)
 exact ⟨_, h35, rfl, g39, fun j x _ p => p, ⟨_, _, rfl, q20⟩⟩
 intro ρ28 h36 w39 g40 hdp2 hdo25
 have e20 : ρ28 1 = .int .i64 ((pn : Nat) : Int) := hdo25 1 rfl
 have e21 : ρ28 6 = .pointer (some ⟨b6, 0, none⟩) := hdo25 6 rfl
 have q21 : ∃ b14z c14z, (ρ28 8) = .slice b14z ((digs ((((a.rat.num.natAbs * (10 ^ pn)) * 2) + a.rat.den) / (a.rat.den * 2))).length) c14z ∧ N h36 (.slice b14z ((digs ((((a.rat.num.natAbs * (10 ^ pn)) * 2) + a.rat.den) / (a.rat.den * 2))).length) c14z) ((((a.rat.num.natAbs * (10 ^ pn)) * 2) + a.rat.den) / (a.rat.den * 2)) := hdp2 9 rfl
 obtain ⟨b16, c16, e22, q22⟩ := q21
 have e22 : ρ28 8 = .slice b16 ((digs ((((a.rat.num.natAbs * (10 ^ pn)) * 2) + a.rat.den) / (a.rat.den * 2))).length) c16 := e22
 refine Ops.forget [(1, .int .i64 ((pn : Nat) : Int)), (6, .pointer (some ⟨b6, 0, none⟩)), (8, .slice b16 ((digs ((((a.rat.num.natAbs * (10 ^ pn)) * 2) + a.rat.den) / (a.rat.den * 2))).length) c16)] ⟨e20, e21, e22, trivial⟩ (fun ρ29 => (oN (sr (mv ?_))))
 have g41 := g25.trans g40
 refine oC (cF Tryd.call84 (text_c (a := (((a.rat.num.natAbs * (10 ^ pn)) * 2) + a.rat.den) / (a.rat.den * 2)) g41.sat (tb.mono (((gr1.le.trans gr2.le).trans g24.le).trans g40.le)) q22 (by omega)) rfl ?_)
 intro r13 h37 w40 gr13 hr13
 subst hr13
 refine ma (oN (wS (Wp.block ?_)))
 have g42 := g41.trans gr13
 have o6 := gr13.kp (g40.kp (g24.kp ⟨p1.at_, n1⟩))
 refine Wp.loop (σ := Nat) (fun (j : Nat) (ρ : Env) (w' : World) => ∃ ρb h', ρ = upds ρb [(1, .int .i64 ((pn : Nat) : Int)), (6, .pointer (some ⟨b6, 0, none⟩)), (8, .slice b16 ((digs ((((a.rat.num.natAbs * (10 ^ pn)) * 2) + a.rat.den) / (a.rat.den * 2))).length) c16), (10, .string (S (List.replicate j (48 : UInt8) ++ decT (decN a.rat pn))))] ∧ Gr h w h' w' ∧ PH.le h37 h' ∧ w'.heap[b6]? = some (.cells #[.bool (decide (a.rat.num < 0)), .slice b4 ((digs a.rat.num.natAbs).length) c5, .slice b5 ((digs a.rat.den).length) c6] 66 (0, 0)) ∧ h' b6 = none ∧ (j = 0 ∨ j + (decT (decN a.rat pn)).length ≤ pn + 1)) (fun (j : Nat) => pn + 1 - j) 0 ?_ ?_
 exact ⟨_, h37, nm rfl, g42, PH.le.refl _, o6.1, o6.2, (by omega)⟩
 rintro j ρ30 w41 ⟨ρ31, h38, rfl, g43, l1, o7, n2, hj⟩
 have hrl : ((List.replicate j (48 : UInt8) ++ decT (decN a.rat pn)) : List UInt8).length = j + (decT (decN a.rat pn)).length := by simp
 refine wS (sr (mv (oC (OpW.lenSS (s := (List.replicate j (48 : UInt8) ++ decT (decN a.rat pn))) Tryd.underlying9 rfl (mv (oC (OpW.leq (a := (((List.replicate j (48 : UInt8) ++ decT (decN a.rat pn)).length : Nat) : Int)) (b := ((pn : Nat) : Int)) (r := decide ((List.replicate j (48 : UInt8) ++ decT (decN a.rat pn)).length ≤ pn)) rfl rfl (le_nat (a := (List.replicate j (48 : UInt8) ++ decT (decN a.rat pn)).length) (b := pn)) (oN (Wp.cond (t := decide ((List.replicate j (48 : UInt8) ++ decT (decN a.rat pn)).length ≤ pn)) rfl (fun c17 => ?_) (fun c17 => ?_))))))))))
 replace c17 : (List.replicate j (48 : UInt8) ++ decT (decN a.rat pn)).length ≤ pn := (of_decide_eq_true c17)
 refine Wp.skip (Wp.block (wR (mv (oC (OpW.catSS (a := ([48] : List UInt8)) (b := (List.replicate j (48 : UInt8) ++ decT (decN a.rat pn))) rfl rfl (by first | omega | (simp only [List.length_cons, List.length_nil]; omega) | (simp only [List.length_append, List.length_cons, List.length_nil, List.length_replicate, List.length_drop, List.length_take]; omega)) (ma (oN ?_)))))))
 exact ⟨(j + 1), ⟨_, h38, nm rfl, g43, l1, o7, n2, (by omega)⟩, (by omega)⟩
 replace c17 : ¬ ((List.replicate j (48 : UInt8) ++ decT (decN a.rat pn)).length ≤ pn) := (of_decide_eq_false c17)
 have hpt : (List.replicate j (48 : UInt8) ++ decT (decN a.rat pn)) = padT pn (decT (decN a.rat pn)) := by
   unfold padT
   rw [show j = pn + 1 - (decT (decN a.rat pn)).length by omega]
 refine Wp.exit (wS (sr (mv (oC (OpW.gtr (a := ((pn : Nat) : Int)) (b := ((0 : Nat) : Int)) (r := decide (0 < pn)) rfl rfl (lt_nat (a := 0) (b := pn)) (oN (Wp.cond (t := decide (0 < pn)) rfl (fun c18 => ?_) (fun c18 => ?_))))))))
 replace c18 : 0 < pn := (of_decide_eq_true c18)
 refine Wp.dagL 15 [49, 50, 51, 52, 53, 54, 55, 56, 57, 58, 59, 60, 61, 62, 10] [eqv (.string (S (List.replicate j (48 : UInt8) ++ decT (decN a.rat pn)))), eqv (.string (S (List.replicate j (48 : UInt8) ++ decT (decN a.rat pn)))), eqv (.int .i64 (((List.replicate j (48 : UInt8) ++ decT (decN a.rat pn)).length : Nat) : Int)), eqv (.int .i64 ((pn : Nat) : Int)), eqv (.int .i64 (((List.replicate j (48 : UInt8) ++ decT (decN a.rat pn)).length - pn : Nat) : Int)), eqv (.string (S ((List.replicate j (48 : UInt8) ++ decT (decN a.rat pn)).take ((List.replicate j (48 : UInt8) ++ decT (decN a.rat pn)).length - pn)))), eqv (.string (S (((List.replicate j (48 : UInt8) ++ decT (decN a.rat pn)).take ((List.replicate j (48 : UInt8) ++ decT (decN a.rat pn)).length - pn)) ++ ([46] : List UInt8)))), eqv (.string (S (List.replicate j (48 : UInt8) ++ decT (decN a.rat pn)))), eqv (.string (S (List.replicate j (48 : UInt8) ++ decT (decN a.rat pn)))), eqv (.int .i64 (((List.replicate j (48 : UInt8) ++ decT (decN a.rat pn)).length : Nat) : Int)), eqv (.int .i64 ((pn : Nat) : Int)), eqv (.int .i64 (((List.replicate j (48 : UInt8) ++ decT (decN a.rat pn)).length - pn : Nat) : Int)), eqv (.string (S ((List.replicate j (48 : UInt8) ++ decT (decN a.rat pn)).drop ((List.replicate j (48 : UInt8) ++ decT (decN a.rat pn)).length - pn)))), eqv (.string (S ((((List.replicate j (48 : UInt8) ++ decT (decN a.rat pn)).take ((List.replicate j (48 : UInt8) ++ decT (decN a.rat pn)).length - pn)) ++ ([46] : List UInt8)) ++ ((List.replicate j (48 : UInt8) ++ decT (decN a.rat pn)).drop ((List.replicate j (48 : UInt8) ++ decT (decN a.rat pn)).length - pn))))), eqv (.string (S ((((List.replicate j (48 : UInt8) ++ decT (decN a.rat pn)).take ((List.replicate j (48 : UInt8) ++ decT (decN a.rat pn)).length - pn)) ++ ([46] : List UInt8)) ++ ((List.replicate j (48 : UInt8) ++ decT (decN a.rat pn)).drop ((List.replicate j (48 : UInt8) ++ decT (decN a.rat pn)).length - pn)))))] mixed g43.sat rfl (by decide +kernel) ⟨sQ _, sQ _, sQ _, sQ _, sQ _, sQ _, sQ _, sQ _, sQ _, sQ _, sQ _, sQ _, sQ _, sQ _, sQ _, trivial⟩ ?_ ?_
 intro stab
 refine ⟨?_, ?_, ?_, ?_, ?_, ?_, ?_, ?_, ?_, ?_, ?_, ?_, ?_, ?_, ?_, trivial⟩
 intro ρ32 h39 w42 g44 hdd24 hdo26
 have e23 : ρ32 10 = .string (S (List.replicate j (48 : UInt8) ++ decT (decN a.rat pn))) := hdo26 10 rfl
 refine gP (OpW.move (v := .string (S (List.replicate j (48 : UInt8) ++ decT (decN a.rat pn)))) e23 ?_)
 exact ⟨_, h39, rfl, g44, fun j x _ p => p, rfl⟩
 intro ρ33 h40 w43 g45 hdd25 hdo27
 have e24 : ρ33 10 = .string (S (List.replicate j (48 : UInt8) ++ decT (decN a.rat pn))) := hdo27 10 rfl
 refine gP (OpW.move (v := .string (S (List.replicate j (48 : UInt8) ++ decT (decN a.rat pn)))) e24 ?_)
 exact ⟨_, h40, rfl, g45, fun j x _ p => p, rfl⟩
 intro ρ34 h41 w44 g46 hdd26 hdo28
 have e25 : ρ34 50 = .string (S (List.replicate j (48 : UInt8) ++ decT (decN a.rat pn))) := hdd26 1 (by decide)
 refine gP (OpW.lenSS (s := (List.replicate j (48 : UInt8) ++ decT (decN a.rat pn))) Tryd.underlying9 e25 ?_)
 exact ⟨_, h41, rfl, g46, fun j x _ p => p, rfl⟩
 intro ρ35 h42 w45 g47 hdd27 hdo29
 have e26 : ρ35 1 = .int .i64 ((pn : Nat) : Int) := hdo29 1 rfl
 refine gP (OpW.move (v := .int .i64 ((pn : Nat) : Int)) e26 ?_)
 exact ⟨_, h42, rfl, g47, fun j x _ p => p, rfl⟩
 intro ρ36 h43 w46 g48 hdd28 hdo30
 have e27 : ρ36 51 = .int .i64 (((List.replicate j (48 : UInt8) ++ decT (decN a.rat pn)).length : Nat) : Int) := hdd28 2 (by decide)
 have e28 : ρ36 52 = .int .i64 ((pn : Nat) : Int) := hdd28 3 (by decide)
 refine gP (OpW.sub (a := (((List.replicate j (48 : UInt8) ++ decT (decN a.rat pn)).length : Nat) : Int)) (b := ((pn : Nat) : Int)) (r := (((List.replicate j (48 : UInt8) ++ decT (decN a.rat pn)).length - pn : Nat) : Int)) e27 e28 ((in_i64 (by omega)).trans (by omega)) ?_)
 exact ⟨_, h43, rfl, g48, fun j x _ p => p, rfl⟩
 intro ρ37 h44 w47 g49 hdd29 hdo31
 have e29 : ρ37 49 = .string (S (List.replicate j (48 : UInt8) ++ decT (decN a.rat pn))) := hdd29 0 (by decide)
 have e30 : ρ37 53 = .int .i64 (((List.replicate j (48 : UInt8) ++ decT (decN a.rat pn)).length - pn : Nat) : Int) := hdd29 4 (by decide)
 refine gP (OpW.sliceSTo (s := (List.replicate j (48 : UInt8) ++ decT (decN a.rat pn))) (m := (List.replicate j (48 : UInt8) ++ decT (decN a.rat pn)).length - pn) Tryd.underlying9 e29 e30 (by omega) ?_)
 exact ⟨_, h44, rfl, g49, fun j x _ p => p, rfl⟩
 intro ρ38 h45 w48 g50 hdd30 hdo32
 have e31 : ρ38 54 = .string (S ((List.replicate j (48 : UInt8) ++ decT (decN a.rat pn)).take ((List.replicate j (48 : UInt8) ++ decT (decN a.rat pn)).length - pn))) := hdd30 5 (by decide)
 refine gP (OpW.catSS (a := (List.replicate j (48 : UInt8) ++ decT (decN a.rat pn)).take ((List.replicate j (48 : UInt8) ++ decT (decN a.rat pn)).length - pn)) (b := ([46] : List UInt8)) e31 rfl (by simp only [List.length_take, List.length_cons, List.length_nil]; omega) ?_)
 exact ⟨_, h45, rfl, g50, fun j x _ p => p, rfl⟩
 intro ρ39 h46 w49 g51 hdd31 hdo33
 have e32 : ρ39 10 = .string (S (List.replicate j (48 : UInt8) ++ decT (decN a.rat pn))) := hdo33 10 rfl
 refine gP (OpW.move (v := .string (S (List.replicate j (48 : UInt8) ++ decT (decN a.rat pn)))) e32 ?_)
 exact ⟨_, h46, rfl, g51, fun j x _ p => p, rfl⟩
 intro ρ40 h47 w50 g52 hdd32 hdo34
 have e33 : ρ40 10 = .string (S (List.replicate j (48 : UInt8) ++ decT (decN a.rat pn))) := hdo34 10 rfl
 refine gP (OpW.move (v := .string (S (List.replicate j (48 : UInt8) ++ decT (decN a.rat pn)))) e33 ?_)
 exact ⟨_, h47, rfl, g52, fun j x _ p => p, rfl⟩
 intro ρ41 h48 w51 g53 hdd33 hdo35
 have e34 : ρ41 57 = .string (S (List.replicate j (48 : UInt8) ++ decT (decN a.rat pn))) := hdd33 8 (by decide)
 refine gP (OpW.lenSS (s := (List.replicate j (48 : UInt8) ++ decT (decN a.rat pn))) Tryd.underlying9 e34 ?_)
 exact ⟨_, h48, rfl, g53, fun j x _ p => p, rfl⟩
 intro ρ42 h49 w52 g54 hdd34 hdo36
 have e35 : ρ42 1 = .int .i64 ((pn : Nat) : Int) := hdo36 1 rfl
 refine gP (OpW.move (v := .int .i64 ((pn : Nat) : Int)) e35 ?_)
 exact ⟨_, h49, rfl, g54, fun j x _ p => p, rfl⟩
 intro ρ43 h50 w53 g55 hdd35 hdo37
 have e36 : ρ43 58 = .int .i64 (((List.replicate j (48 : UInt8) ++ decT (decN a.rat pn)).length : Nat) : Int) := hdd35 9 (by decide)
 have e37 : ρ43 59 = .int .i64 ((pn : Nat) : Int) := hdd35 10 (by decide)
 refine gP (OpW.sub (a := (((List.replicate j (48 : UInt8) ++ decT (decN a.rat pn)).length : Nat) : Int)) (b := ((pn : Nat) : Int)) (r := (((List.replicate j (48 : UInt8) ++ decT (decN a.rat pn)).length - pn : Nat) : Int)) e36 e37 ((in_i64 (by omega)).trans (by omega)) ?_)
 exact ⟨_, h50, rfl, g55, fun j x _ p => p, rfl⟩
 intro ρ44 h51 w54 g56 hdd36 hdo38
 have e38 : ρ44 56 = .string (S (List.replicate j (48 : UInt8) ++ decT (decN a.rat pn))) := hdd36 7 (by decide)
 have e39 : ρ44 60 = .int .i64 (((List.replicate j (48 : UInt8) ++ decT (decN a.rat pn)).length - pn : Nat) : Int) := hdd36 11 (by decide)
 refine gP (OpW.sliceSFrom (s := (List.replicate j (48 : UInt8) ++ decT (decN a.rat pn))) (l := (List.replicate j (48 : UInt8) ++ decT (decN a.rat pn)).length - pn) Tryd.underlying9 e38 e39 (by omega) ?_)
 exact ⟨_, h51, rfl, g56, fun j x _ p => p, rfl⟩
 intro ρ45 h52 w55 g57 hdd37 hdo39
 have e40 : ρ45 55 = .string (S (((List.replicate j (48 : UInt8) ++ decT (decN a.rat pn)).take ((List.replicate j (48 : UInt8) ++ decT (decN a.rat pn)).length - pn)) ++ ([46] : List UInt8))) := hdd37 6 (by decide)
 have e41 : ρ45 61 = .string (S ((List.replicate j (48 : UInt8) ++ decT (decN a.rat pn)).drop ((List.replicate j (48 : UInt8) ++ decT (decN a.rat pn)).length - pn))) := hdd37 12 (by decide)
 refine gP (OpW.catSS (a := ((List.replicate j (48 : UInt8) ++ decT (decN a.rat pn)).take ((List.replicate j (48 : UInt8) ++ decT (decN a.rat pn)).length - pn)) ++ ([46] : List UInt8)) (b := (List.replicate j (48 : UInt8) ++ decT (decN a.rat pn)).drop ((List.replicate j (48 : UInt8) ++ decT (decN a.rat pn)).length - pn)) e40 e41 (by simp only [List.length_append, List.length_take, List.length_drop, List.length_cons, List.length_nil, List.length_replicate] at hrl ⊢; omega) ?_)
 exact ⟨_, h52, rfl, g57, fun j x _ p => p, rfl⟩
 intro ρ46 h53 w56 g58 hdd38 hdo40
 have e42 : ρ46 62 = .string (S ((((List.replicate j (48 : UInt8) ++ decT (decN a.rat pn)).take ((List.replicate j (48 : UInt8) ++ decT (decN a.rat pn)).length - pn)) ++ ([46] : List UInt8)) ++ ((List.replicate j (48 : UInt8) ++ decT (decN a.rat pn)).drop ((List.replicate j (48 : UInt8) ++ decT (decN a.rat pn)).length - pn)))) := hdd38 13 (by decide)
 refine gP (OpW.assign (v := .string (S ((((List.replicate j (48 : UInt8) ++ decT (decN a.rat pn)).take ((List.replicate j (48 : UInt8) ++ decT (decN a.rat pn)).length - pn)) ++ ([46] : List UInt8)) ++ ((List.replicate j (48 : UInt8) ++ decT (decN a.rat pn)).drop ((List.replicate j (48 : UInt8) ++ decT (decN a.rat pn)).length - pn))))) e42 ?_)
 exact ⟨_, h53, rfl, g58, fun j x _ p => p, rfl⟩
 intro ρ47 h54 w57 g59 hdp3 hdo41
 have e43 : ρ47 6 = .pointer (some ⟨b6, 0, none⟩) := hdo41 6 rfl
 have e44 : ρ47 8 = .slice b16 ((digs ((((a.rat.num.natAbs * (10 ^ pn)) * 2) + a.rat.den) / (a.rat.den * 2))).length) c16 := hdo41 8 rfl
 have e45 : ρ47 10 = .string (S ((((List.replicate j (48 : UInt8) ++ decT (decN a.rat pn)).take ((List.replicate j (48 : UInt8) ++ decT (decN a.rat pn)).length - pn)) ++ ([46] : List UInt8)) ++ ((List.replicate j (48 : UInt8) ++ decT (decN a.rat pn)).drop ((List.replicate j (48 : UInt8) ++ decT (decN a.rat pn)).length - pn)))) := hdp3 14 rfl
 refine Ops.forget [(6, .pointer (some ⟨b6, 0, none⟩)), (8, .slice b16 ((digs ((((a.rat.num.natAbs * (10 ^ pn)) * 2) + a.rat.den) / (a.rat.den * 2))).length) c16), (10, .string (S ((((List.replicate j (48 : UInt8) ++ decT (decN a.rat pn)).take ((List.replicate j (48 : UInt8) ++ decT (decN a.rat pn)).length - pn)) ++ ([46] : List UInt8)) ++ ((List.replicate j (48 : UInt8) ++ decT (decN a.rat pn)).drop ((List.replicate j (48 : UInt8) ++ decT (decN a.rat pn)).length - pn)))))] ⟨e43, e44, e45, trivial⟩ (fun ρ48 => (oN (wS (sr (Ops.cut (fun ρ' w' => w57 = w' ∧ ∃ ρb, ρ' = upds ρb [(10, .string (S ((((List.replicate j (48 : UInt8) ++ decT (decN a.rat pn)).take ((List.replicate j (48 : UInt8) ++ decT (decN a.rat pn)).length - pn)) ++ ([46] : List UInt8)) ++ ((List.replicate j (48 : UInt8) ++ decT (decN a.rat pn)).drop ((List.replicate j (48 : UInt8) ++ decT (decN a.rat pn)).length - pn))))), (69, .bool ((decide (a.rat.num < 0)) && (decide (0 < (digs ((((a.rat.num.natAbs * (10 ^ pn)) * 2) + a.rat.den) / (a.rat.den * 2))).length))))]) ?_ ?_)))))
 refine oC (fA (o := 0) Tryd.underlying66 rfl Tryd.sizeOf4 (by decide) rfl rfl ?_)
 have o8 := g59.kp ⟨o7, n2⟩
 refine oC (lO (v := .bool (decide (a.rat.num < 0))) Tryd.isAgg4 rfl o8.1 rfl (mv ?_))
 cases c19 : (decide (a.rat.num < 0))
 replace c19 : ¬ (a.rat.num < 0) := (of_decide_eq_false c19)
 refine oD rfl rfl rfl rfl (oD rfl rfl rfl rfl (oD rfl rfl rfl rfl (oC (pF (v := .bool false) rfl rfl (oN ?_)))))
 exact ⟨rfl, _, nm rfl⟩
 replace c19 : a.rat.num < 0 := (of_decide_eq_true c19)
 refine oL rfl rfl rfl (OpW.move (v := .slice b16 ((digs ((((a.rat.num.natAbs * (10 ^ pn)) * 2) + a.rat.den) / (a.rat.den * 2))).length) c16) rfl ?_)
 refine oL rfl rfl rfl (OpW.lenS Tryd.underlying64 (l := (digs ((((a.rat.num.natAbs * (10 ^ pn)) * 2) + a.rat.den) / (a.rat.den * 2))).length) rfl ?_)
 refine oL rfl rfl rfl (OpW.gtr (a := (((digs ((((a.rat.num.natAbs * (10 ^ pn)) * 2) + a.rat.den) / (a.rat.den * 2))).length : Nat) : Int)) (b := ((0 : Nat) : Int)) (r := decide (0 < (digs ((((a.rat.num.natAbs * (10 ^ pn)) * 2) + a.rat.den) / (a.rat.den * 2))).length)) rfl rfl (lt_nat (a := 0) (b := (digs ((((a.rat.num.natAbs * (10 ^ pn)) * 2) + a.rat.den) / (a.rat.den * 2))).length)) ?_)
 refine oC (pT (v := .bool (decide (0 < (digs ((((a.rat.num.natAbs * (10 ^ pn)) * 2) + a.rat.den) / (a.rat.den * 2))).length))) rfl rfl (oN ?_))
 exact ⟨rfl, _, nm rfl⟩
 rintro ρ49 w58 ⟨rfl, ρ50, rfl⟩
 refine Wp.cond (t := (decide (a.rat.num < 0)) && (decide (0 < (digs ((((a.rat.num.natAbs * (10 ^ pn)) * 2) + a.rat.den) / (a.rat.den * 2))).length))) rfl (fun c20 => ?_) (fun c20 => ?_)
 replace c20 : (a.rat.num < 0) ∧ (0 < (digs ((((a.rat.num.natAbs * (10 ^ pn)) * 2) + a.rat.den) / (a.rat.den * 2))).length) := ⟨(of_decide_eq_true (and_l c20)), (of_decide_eq_true (and_r c20))⟩
 refine wR (mv (oC (OpW.catSS (a := ([45] : List UInt8)) (b := (((List.replicate j (48 : UInt8) ++ decT (decN a.rat pn)).take ((List.replicate j (48 : UInt8) ++ decT (decN a.rat pn)).length - pn)) ++ ([46] : List UInt8)) ++ ((List.replicate j (48 : UInt8) ++ decT (decN a.rat pn)).drop ((List.replicate j (48 : UInt8) ++ decT (decN a.rat pn)).length - pn))) rfl rfl (by simp only [List.length_append, List.length_take, List.length_drop, List.length_cons, List.length_nil, List.length_replicate] at hrl ⊢; omega) (ma (oN (sr (mv (ma (ma (oN (Wp.ret (fin2_ret rfl (resOf_tmp (v := .string (S (([45] : List UInt8) ++ ((((List.replicate j (48 : UInt8) ++ decT (decN a.rat pn)).take ((List.replicate j (48 : UInt8) ++ decT (decN a.rat pn)).length - pn)) ++ ([46] : List UInt8)) ++ ((List.replicate j (48 : UInt8) ++ decT (decN a.rat pn)).drop ((List.replicate j (48 : UInt8) ++ decT (decN a.rat pn)).length - pn)))))) rfl) (resOf_tmp (v := .int .i64 ((0 : Nat) : Int)) rfl) ?_))))))))))))
 have g60 := g43.trans g59
 refine ⟨h54, g60, ?_⟩
 exact ⟨_, _, rfl, strv (by first | exact dec_neg (by omega) (by assumption) hpt.symm (by first | exact (dotT_pos (by omega)).symm | exact (dotT_zero (by omega)).symm) | exact dec_nonneg (by omega) (by assumption) hpt.symm (by first | exact (dotT_pos (by omega)).symm | exact (dotT_zero (by omega)).symm)), intv (by unfold decimalE; rw [if_neg (by omega)]; rfl)⟩
 replace c20 : ¬ ((a.rat.num < 0) ∧ (0 < (digs ((((a.rat.num.natAbs * (10 ^ pn)) * 2) + a.rat.den) / (a.rat.den * 2))).length)) := (fun pq => (and_f c20).elim (fun h => (of_decide_eq_false h) pq.1) (fun h => (of_decide_eq_false h) pq.2))
 refine Wp.skip (sr (mv (ma (ma (oN (Wp.ret (fin2_ret rfl (resOf_tmp (v := .string (S ((((List.replicate j (48 : UInt8) ++ decT (decN a.rat pn)).take ((List.replicate j (48 : UInt8) ++ decT (decN a.rat pn)).length - pn)) ++ ([46] : List UInt8)) ++ ((List.replicate j (48 : UInt8) ++ decT (decN a.rat pn)).drop ((List.replicate j (48 : UInt8) ++ decT (decN a.rat pn)).length - pn))))) rfl) (resOf_tmp (v := .int .i64 ((0 : Nat) : Int)) rfl) ?_)))))))
 have g61 := g43.trans g59
 refine ⟨h54, g61, ?_⟩
 exact ⟨_, _, rfl, strv (by first | exact dec_neg (by omega) (by assumption) hpt.symm (by first | exact (dotT_pos (by omega)).symm | exact (dotT_zero (by omega)).symm) | exact dec_nonneg (by omega) (by assumption) hpt.symm (by first | exact (dotT_pos (by omega)).symm | exact (dotT_zero (by omega)).symm)), intv (by unfold decimalE; rw [if_neg (by omega)]; rfl)⟩
 replace c18 : ¬ (0 < pn) := (of_decide_eq_false c18)
 refine Wp.skip (wS (sr (Ops.cut (fun ρ' w' => w41 = w' ∧ ∃ ρb, ρ' = upds ρb [(10, .string (S (List.replicate j (48 : UInt8) ++ decT (decN a.rat pn)))), (69, .bool ((decide (a.rat.num < 0)) && (decide (0 < (digs ((((a.rat.num.natAbs * (10 ^ pn)) * 2) + a.rat.den) / (a.rat.den * 2))).length))))]) ?_ ?_)))
 refine oC (fA (o := 0) Tryd.underlying66 rfl Tryd.sizeOf4 (by decide) rfl rfl ?_)
 refine oC (lO (v := .bool (decide (a.rat.num < 0))) Tryd.isAgg4 rfl o7 rfl (mv ?_))
 cases c21 : (decide (a.rat.num < 0))
 replace c21 : ¬ (a.rat.num < 0) := (of_decide_eq_false c21)
 refine oD rfl rfl rfl rfl (oD rfl rfl rfl rfl (oD rfl rfl rfl rfl (oC (pF (v := .bool false) rfl rfl (oN ?_)))))
 exact ⟨rfl, _, nm rfl⟩
 replace c21 : a.rat.num < 0 := (of_decide_eq_true c21)
 refine oL rfl rfl rfl (OpW.move (v := .slice b16 ((digs ((((a.rat.num.natAbs * (10 ^ pn)) * 2) + a.rat.den) / (a.rat.den * 2))).length) c16) rfl ?_)
 refine oL rfl rfl rfl (OpW.lenS Tryd.underlying64 (l := (digs ((((a.rat.num.natAbs * (10 ^ pn)) * 2) + a.rat.den) / (a.rat.den * 2))).length) rfl ?_)
 refine oL rfl rfl rfl (OpW.gtr (a := (((digs ((((a.rat.num.natAbs * (10 ^ pn)) * 2) + a.rat.den) / (a.rat.den * 2))).length : Nat) : Int)) (b := ((0 : Nat) : Int)) (r := decide (0 < (digs ((((a.rat.num.natAbs * (10 ^ pn)) * 2) + a.rat.den) / (a.rat.den * 2))).length)) rfl rfl (lt_nat (a := 0) (b := (digs ((((a.rat.num.natAbs * (10 ^ pn)) * 2) + a.rat.den) / (a.rat.den * 2))).length)) ?_)
 refine oC (pT (v := .bool (decide (0 < (digs ((((a.rat.num.natAbs * (10 ^ pn)) * 2) + a.rat.den) / (a.rat.den * 2))).length))) rfl rfl (oN ?_))
 exact ⟨rfl, _, nm rfl⟩
 rintro ρ51 w59 ⟨rfl, ρ52, rfl⟩
 refine Wp.cond (t := (decide (a.rat.num < 0)) && (decide (0 < (digs ((((a.rat.num.natAbs * (10 ^ pn)) * 2) + a.rat.den) / (a.rat.den * 2))).length))) rfl (fun c22 => ?_) (fun c22 => ?_)
 replace c22 : (a.rat.num < 0) ∧ (0 < (digs ((((a.rat.num.natAbs * (10 ^ pn)) * 2) + a.rat.den) / (a.rat.den * 2))).length) := ⟨(of_decide_eq_true (and_l c22)), (of_decide_eq_true (and_r c22))⟩
 refine wR (mv (oC (OpW.catSS (a := ([45] : List UInt8)) (b := (List.replicate j (48 : UInt8) ++ decT (decN a.rat pn))) rfl rfl (by simp only [List.length_append, List.length_take, List.length_drop, List.length_cons, List.length_nil, List.length_replicate] at hrl ⊢; omega) (ma (oN (wS (fg [(10, .string (S (([45] : List UInt8) ++ (List.replicate j (48 : UInt8) ++ decT (decN a.rat pn)))))] rfl (fun ρ53 => (wR (mv (ma (ma (oN (Wp.ret (fin2_ret rfl (resOf_tmp (v := .string (S (([45] : List UInt8) ++ (List.replicate j (48 : UInt8) ++ decT (decN a.rat pn))))) rfl) (resOf_tmp (v := .int .i64 ((0 : Nat) : Int)) rfl) ?_)))))))))))))))
 refine ⟨h38, g43, ?_⟩
 exact ⟨_, _, rfl, strv (by first | exact dec_neg (by omega) (by assumption) hpt.symm (by first | exact (dotT_pos (by omega)).symm | exact (dotT_zero (by omega)).symm) | exact dec_nonneg (by omega) (by assumption) hpt.symm (by first | exact (dotT_pos (by omega)).symm | exact (dotT_zero (by omega)).symm)), intv (by unfold decimalE; rw [if_neg (by omega)]; rfl)⟩
 replace c22 : ¬ ((a.rat.num < 0) ∧ (0 < (digs ((((a.rat.num.natAbs * (10 ^ pn)) * 2) + a.rat.den) / (a.rat.den * 2))).length)) := (fun pq => (and_f c22).elim (fun h => (of_decide_eq_false h) pq.1) (fun h => (of_decide_eq_false h) pq.2))
 refine Wp.skip (sr (mv (ma (ma (oN (Wp.ret (fin2_ret rfl (resOf_tmp (v := .string (S (List.replicate j (48 : UInt8) ++ decT (decN a.rat pn)))) rfl) (resOf_tmp (v := .int .i64 ((0 : Nat) : Int)) rfl) ?_)))))))
 refine ⟨h38, g43, ?_⟩
 exact ⟨_, _, rfl, strv (by first | exact dec_neg (by omega) (by assumption) hpt.symm (by first | exact (dotT_pos (by omega)).symm | exact (dotT_zero (by omega)).symm) | exact dec_nonneg (by omega) (by assumption) hpt.symm (by first | exact (dotT_pos (by omega)).symm | exact (dotT_zero (by omega)).symm)), intv (by unfold decimalE; rw [if_neg (by omega)]; rfl)⟩
theorem Parse_c {h : PH} {w : World} {l : List UInt8} (hs : Sat h w) (hp0 : l.length ≤ 1000000000000) :
    Calls Tryd.prog 32 #[.string (S l)] w (Ret h w fun h' r => ∃ x1 x2, r = .tuple #[x1, x2] ∧ Kn h' x1 ((parseQ l).1) ∧ x2 = .int .i64 ((parseQ l).2)) := by
 refine calls_ear (vs := [.string (S l)]) Tryd.func32 rfl rfl ?_
 have g1 := Gr.refl hs
 refine sr (oC (OpW.allocO (arr := #[.bool false, .slice none 0 0, .slice none 0 0]) g1.sat Tryd.zeroValue24 rfl ?_))
 intro b1 w1 gr1 n1 lo1 o1
 have lo2 := Nat.le_trans g1.ext.size lo1
 refine ma (oN (wS (sr (mv (oC (OpW.lenSS (s := l) Tryd.underlying9 rfl ?_))))))
 refine oC (OpW.gtr (a := ((l.length : Nat) : Int)) (b := ((10000 : Nat) : Int)) (r := decide (10000 < l.length)) rfl rfl (lt_nat (a := 10000) (b := l.length)) (oN (Wp.cond (t := decide (10000 < l.length)) rfl (fun c1 => ?_) (fun c1 => ?_))))
 replace c1 : 10000 < l.length := (of_decide_eq_true c1)
 refine sr (oC (OpW.build (places := [(0, 1), (1, 1), (2, 1)]) (cs := [.bool false, .slice none 0 0, .slice none 0 0]) Tryd.underlying24 Tryd.zeroValue24 (fun _ => by kernel_rfl) rfl ?_))
 refine oC (sA (cs := [.bool false, .slice none 0 0, .slice none 0 0]) Tryd.sizeOf24 rfl rfl rfl rfl o1 rfl ?_)
 intro w2 p1
 refine ma (oN (Wp.ret (fin2_ret rfl (resOf_cellA (cs := [.bool false, .slice none 0 0, .slice none 0 0]) Tryd.isAgg24 Tryd.sizeOf24 rfl p1.at_ (Nat.le_of_ble_eq_true rfl) rfl) (resOf_tmp (v := .int .i64 ((5 : Nat) : Int)) rfl) ?_)))
 have g2 := (g1.trans gr1).put p1 n1 lo2
 refine ⟨h, g2, ?_⟩
 exact ⟨_, _, rfl, (Kn.cast (congrArg Prod.fst (parse_0 (by omega))).symm (Kz _)), (intv (congrArg Prod.snd (parse_0 (by omega))).symm)⟩
 replace c1 : ¬ (10000 < l.length) := (of_decide_eq_false c1)
 have h10 := sz_small (n := 10) (by decide)
 have h1 := sz_one
 have htlA := tw_len (l.drop 1)
 have htaA := sz_readN (tw_all (l.drop 1))
 have hulA := tw_len ((l.drop 1).drop ((tw (l.drop 1)).length + 1))
 have huaA := sz_readN (tw_all ((l.drop 1).drop ((tw (l.drop 1)).length + 1)))
 have hpwA := sz_pow 10 (tw ((l.drop 1).drop ((tw (l.drop 1)).length + 1))).length
 have hpmA := Nat.mul_le_mul_left (tw ((l.drop 1).drop ((tw (l.drop 1)).length + 1))).length h10
 have hp0A := Nat.pow_pos (n := (tw ((l.drop 1).drop ((tw (l.drop 1)).length + 1))).length) (show 0 < 10 by decide)
 have hm1A := sz_mul (readN (tw (l.drop 1))) (10 ^ (tw ((l.drop 1).drop ((tw (l.drop 1)).length + 1))).length)
 have hm2A := sz_add (readN (tw (l.drop 1)) * 10 ^ (tw ((l.drop 1).drop ((tw (l.drop 1)).length + 1))).length) (readN (tw ((l.drop 1).drop ((tw (l.drop 1)).length + 1))))
 have hdrA : (l.drop 1).length ≤ l.length := by simp
 have hdqA : ((l.drop 1).drop ((tw (l.drop 1)).length + 1)).length ≤ l.length := by simp <;> omega
 have hbzA := fun s (h : readN (tw ((l.drop 1).drop ((tw (l.drop 1)).length + 1))) ≠ 0) => bq_ratOf (s := s) (B := 30000) h (n := readN (tw (l.drop 1)))
 have hbyA := fun s => bq_ratOf (s := s) (B := 30000) (n := readN (tw (l.drop 1))) (show 1 ≠ 0 by decide)
 have hbxA := fun s => bq_ratOf (s := s) (B := 60000) (n := readN (tw (l.drop 1)) * 10 ^ (tw ((l.drop 1).drop ((tw (l.drop 1)).length + 1))).length + readN (tw ((l.drop 1).drop ((tw (l.drop 1)).length + 1)))) (d := 10 ^ (tw ((l.drop 1).drop ((tw (l.drop 1)).length + 1))).length) (by omega)
 have hlzA := len_zero (n := readN (tw ((l.drop 1).drop ((tw (l.drop 1)).length + 1))))
 have htlB := tw_len l
 have htaB := sz_readN (tw_all l)
 have hulB := tw_len (l.drop ((tw l).length + 1))
 have huaB := sz_readN (tw_all (l.drop ((tw l).length + 1)))
 have hpwB := sz_pow 10 (tw (l.drop ((tw l).length + 1))).length
 have hpmB := Nat.mul_le_mul_left (tw (l.drop ((tw l).length + 1))).length h10
 have hp0B := Nat.pow_pos (n := (tw (l.drop ((tw l).length + 1))).length) (show 0 < 10 by decide)
 have hm1B := sz_mul (readN (tw l)) (10 ^ (tw (l.drop ((tw l).length + 1))).length)
 have hm2B := sz_add (readN (tw l) * 10 ^ (tw (l.drop ((tw l).length + 1))).length) (readN (tw (l.drop ((tw l).length + 1))))
 have hdrB : l.length ≤ l.length := by simp
 have hdqB : (l.drop ((tw l).length + 1)).length ≤ l.length := by simp <;> omega
 have hbzB := fun s (h : readN (tw (l.drop ((tw l).length + 1))) ≠ 0) => bq_ratOf (s := s) (B := 30000) h (n := readN (tw l))
 have hbyB := fun s => bq_ratOf (s := s) (B := 30000) (n := readN (tw l)) (show 1 ≠ 0 by decide)
 have hbxB := fun s => bq_ratOf (s := s) (B := 60000) (n := readN (tw l) * 10 ^ (tw (l.drop ((tw l).length + 1))).length + readN (tw (l.drop ((tw l).length + 1)))) (d := 10 ^ (tw (l.drop ((tw l).length + 1))).length) (by omega)
 have hlzB := len_zero (n := readN (tw (l.drop ((tw l).length + 1))))
 refine Wp.skip (sr (Ops.cut (fun ρ' w' => w1 = w' ∧ ∃ ρb, ρ' = upds ρb [(0, .string (S l)), (2, .pointer (some ⟨b1, 0, none⟩)), (4, .bool ((decide (0 < l.length)) && (decide ((l.getD 0 0).toNat = 45))))]) ?_ ?_))
 refine mv (oC (OpW.lenSS (s := l) Tryd.underlying9 rfl ?_))
 refine oC (OpW.gtr (a := ((l.length : Nat) : Int)) (b := ((0 : Nat) : Int)) (r := decide (0 < l.length)) rfl rfl (lt_nat (a := 0) (b := l.length)) (mv ?_))
 cases c2 : (decide (0 < l.length))
 replace c2 : ¬ (0 < l.length) := (of_decide_eq_false c2)
 refine oD rfl rfl rfl rfl (oD rfl rfl rfl rfl (oD rfl rfl rfl rfl (oC (pF (v := .bool false) rfl rfl (ma (oN ?_))))))
 exact ⟨rfl, _, nm rfl⟩
 replace c2 : 0 < l.length := (of_decide_eq_true c2)
 refine oL rfl rfl rfl (OpW.move (v := .string (S l)) rfl ?_)
 have hby1 : (l.getD 0 0).toNat < 256 := UInt8.toNat_lt _
 refine oL rfl rfl rfl (OpW.indexSS (s := l) (i := 0) Tryd.underlying9 rfl rfl (by omega) ?_)
 refine oL rfl rfl rfl (OpW.eqlI (a := (((l.getD 0 0).toNat : Nat) : Int)) (b := ((45 : Nat) : Int)) (r := decide ((l.getD 0 0).toNat = 45)) rfl rfl (eq_nat (a := (l.getD 0 0).toNat) (b := 45)) ?_)
 refine oC (pT (v := .bool (decide ((l.getD 0 0).toNat = 45))) rfl rfl (ma (oN ?_)))
 exact ⟨rfl, _, nm rfl⟩
 rintro ρ1 w3 ⟨rfl, ρ2, rfl⟩
 refine wS (sr (mv (oN (Wp.cond (t := (decide (0 < l.length)) && (decide ((l.getD 0 0).toNat = 45))) rfl (fun c3 => ?_) (fun c3 => ?_)))))
 replace c3 : (0 < l.length) ∧ ((l.getD 0 0).toNat = 45) := ⟨(of_decide_eq_true (and_l c3)), (of_decide_eq_true (and_r c3))⟩
 have hmm : (if isNeg l = true then l.drop 1 else l) = l.drop 1 := if_pos (isNeg_t c3)
 refine wR (mv (oC (OpW.sliceSFrom (s := l) (l := 1) Tryd.underlying9 rfl rfl (by omega) (ma (oN (sr (mv ?_)))))))
 have g3 := g1.trans gr1
 refine oC (cF Tryd.call87 (read_c (l := l.drop 1) g3.sat  (by omega)) rfl ?_)
 intro r1 h1 w4 gr2 hr1
 obtain ⟨r2, r3, rfl, hr2, hr3⟩ := hr1
 obtain ⟨b2, c4, rfl, k1⟩ := N.shape hr2
 subst hr3
 refine mv (oC (OpW.extract (v := .slice b2 ((digs (readN (tw (l.drop 1)))).length) c4) rfl rfl ?_))
 refine oC (OpW.extract (v := .int .i64 (((tw (l.drop 1)).length : Nat) : Int)) rfl rfl (ma (ma (oN (wS (wS (fg [(0, .string (S (l.drop 1))), (2, .pointer (some ⟨b1, 0, none⟩)), (4, .bool ((decide (0 < l.length)) && (decide ((l.getD 0 0).toNat = 45)))), (5, .slice b2 ((digs (readN (tw (l.drop 1)))).length) c4), (6, .int .i64 (((tw (l.drop 1)).length : Nat) : Int))] rfl (fun ρ3 => (wR (mv (oC (OpW.eqlI (a := (((tw (l.drop 1)).length : Nat) : Int)) (b := ((0 : Nat) : Int)) (r := decide ((tw (l.drop 1)).length = 0)) rfl rfl (eq_nat (a := (tw (l.drop 1)).length) (b := 0)) (oN (Wp.cond (t := decide ((tw (l.drop 1)).length = 0)) rfl (fun c5 => ?_) (fun c5 => ?_)))))))))))))))
 replace c5 : (tw (l.drop 1)).length = 0 := (of_decide_eq_true c5)
 refine sr (oC (OpW.build (places := [(0, 1), (1, 1), (2, 1)]) (cs := [.bool false, .slice none 0 0, .slice none 0 0]) Tryd.underlying24 Tryd.zeroValue24 (fun _ => by kernel_rfl) rfl ?_))
 have o3 := gr2.kp ⟨o1, n1⟩
 refine oC (sA (cs := [.bool false, .slice none 0 0, .slice none 0 0]) Tryd.sizeOf24 rfl rfl rfl rfl o3.1 rfl ?_)
 intro w5 p2
 refine ma (oN (Wp.ret (fin2_ret rfl (resOf_cellA (cs := [.bool false, .slice none 0 0, .slice none 0 0]) Tryd.isAgg24 Tryd.sizeOf24 rfl p2.at_ (Nat.le_of_ble_eq_true rfl) rfl) (resOf_tmp (v := .int .i64 ((4 : Nat) : Int)) rfl) ?_)))
 have g4 := (g3.trans gr2).put p2 o3.2 lo2
 refine ⟨h1, g4, ?_⟩
 exact ⟨_, _, rfl, (Kn.fst ((parse_m (b := isNeg l) (by omega) rfl hmm).trans (parse_1 (by assumption))) (Kz _)), (intv (congrArg Prod.snd ((parse_m (b := isNeg l) (by omega) rfl hmm).trans (parse_1 (by assumption)))).symm)⟩
 replace c5 : ¬ ((tw (l.drop 1)).length = 0) := (of_decide_eq_false c5)
 refine Wp.skip (wS (sr (mv (mv (oC (OpW.lenSS (s := l.drop 1) Tryd.underlying9 rfl ?_))))))
 refine oC (OpW.eqlI (a := (((tw (l.drop 1)).length : Nat) : Int)) (b := (((l.drop 1).length : Nat) : Int)) (r := decide ((tw (l.drop 1)).length = (l.drop 1).length)) rfl rfl (eq_nat (a := (tw (l.drop 1)).length) (b := (l.drop 1).length)) (oN (Wp.cond (t := decide ((tw (l.drop 1)).length = (l.drop 1).length)) rfl (fun c6 => ?_) (fun c6 => ?_))))
 replace c6 : (tw (l.drop 1)).length = (l.drop 1).length := (of_decide_eq_true c6)
 refine wS (fg [(2, .pointer (some ⟨b1, 0, none⟩)), (4, .bool ((decide (0 < l.length)) && (decide ((l.getD 0 0).toNat = 45)))), (5, .slice b2 ((digs (readN (tw (l.drop 1)))).length) c4)] rfl (fun ρ4 => (wR (mv (mv ?_)))))
 have g5 := g3.trans gr2
 refine oC (cF Tryd.call86 (small_c (n := 1) g5.sat  (by omega)) rfl ?_)
 intro r4 h2 w6 gr3 hr4
 obtain ⟨b3, c7, rfl, k2⟩ := N.shape hr4
 have g6 := g5.trans gr3
 refine oC (cF Tryd.call88 (reduced_c (s := (decide (0 < l.length)) && (decide ((l.getD 0 0).toNat = 45))) (n := readN (tw (l.drop 1))) (d := 1) g6.sat (N.mono hr2 gr3.le) hr4 (by omega) (by omega) (by omega)) rfl ?_)
 intro r5 h3 w7 gr4 hr5
 obtain ⟨b4, c8, b5, c9, rfl, k3, k4, u1, u2⟩ := Qn.shape hr5
 have g7 := g6.trans gr4
 refine oC (cF Tryd.call74 (give_c (q := ratOf ((decide (0 < l.length)) && (decide ((l.getD 0 0).toNat = 45))) (readN (tw (l.drop 1))) 1) g7.sat hr5 (by first | exact Nat.le_trans (hbyA _ (by omega) (by omega)) (by decide) | exact Nat.le_trans (hbyB _ (by omega) (by omega)) (by decide))) rfl ?_)
 intro r6 h4 w8 gr5 hr6
 obtain ⟨b6, c10, b7, c11, rfl, k5, k6, u3, u4⟩ := F.shape hr6
 have o5 := gr5.kp (gr4.kp (gr3.kp (gr2.kp ⟨o1, n1⟩)))
 refine oC (sA (cs := [.bool ((frK (ratOf ((decide (0 < l.length)) && (decide ((l.getD 0 0).toNat = 45))) (readN (tw (l.drop 1))) 1)).neg), .slice b6 ((frK (ratOf ((decide (0 < l.length)) && (decide ((l.getD 0 0).toNat = 45))) (readN (tw (l.drop 1))) 1)).n.length) c10, .slice b7 ((frK (ratOf ((decide (0 < l.length)) && (decide ((l.getD 0 0).toNat = 45))) (readN (tw (l.drop 1))) 1)).d.length) c11]) Tryd.sizeOf24 rfl rfl rfl rfl o5.1 rfl ?_)
 intro w9 p3
 refine ma (oN (Wp.ret (fin2_ret rfl (resOf_cellA (cs := [.bool ((frK (ratOf ((decide (0 < l.length)) && (decide ((l.getD 0 0).toNat = 45))) (readN (tw (l.drop 1))) 1)).neg), .slice b6 ((frK (ratOf ((decide (0 < l.length)) && (decide ((l.getD 0 0).toNat = 45))) (readN (tw (l.drop 1))) 1)).n.length) c10, .slice b7 ((frK (ratOf ((decide (0 < l.length)) && (decide ((l.getD 0 0).toNat = 45))) (readN (tw (l.drop 1))) 1)).d.length) c11]) Tryd.isAgg24 Tryd.sizeOf24 rfl p3.at_ (Nat.le_of_ble_eq_true rfl) rfl) (resOf_tmp (v := .int .i64 ((0 : Nat) : Int)) rfl) ?_)))
 have g8 := (g7.trans gr5).put p3 o5.2 lo2
 refine ⟨h4, g8, ?_⟩
 exact ⟨_, _, rfl, (Kn.fst ((parse_m (b := isNeg l) (by omega) rfl hmm).trans (parse_2 (by assumption) (by assumption))) (F.mk u3 u4)), (intv (congrArg Prod.snd ((parse_m (b := isNeg l) (by omega) rfl hmm).trans (parse_2 (by assumption) (by assumption)))).symm)⟩
 replace c6 : ¬ ((tw (l.drop 1)).length = (l.drop 1).length) := (of_decide_eq_false c6)
 refine Wp.skip (wS (fg [(0, .string (S (l.drop 1))), (2, .pointer (some ⟨b1, 0, none⟩)), (4, .bool ((decide (0 < l.length)) && (decide ((l.getD 0 0).toNat = 45)))), (5, .slice b2 ((digs (readN (tw (l.drop 1)))).length) c4), (6, .int .i64 (((tw (l.drop 1)).length : Nat) : Int))] rfl (fun ρ5 => (wR (mv (mv ?_))))))
 have hby2 : ((l.drop 1).getD ((tw (l.drop 1)).length) 0).toNat < 256 := UInt8.toNat_lt _
 refine oC (OpW.indexSS (s := l.drop 1) (i := (tw (l.drop 1)).length) Tryd.underlying9 rfl rfl (by omega) (ma (oN (sr (mv (mv (oC (OpW.add (a := (((tw (l.drop 1)).length : Nat) : Int)) (b := ((1 : Nat) : Int)) (r := (((tw (l.drop 1)).length + 1 : Nat) : Int)) rfl rfl (add_i64 (a := (tw (l.drop 1)).length) (b := 1) (by omega)) ?_))))))))
 refine oC (OpW.sliceSFrom (s := l.drop 1) (l := (tw (l.drop 1)).length + 1) Tryd.underlying9 rfl rfl (by omega) (ma (oN (wS (fg [(0, .string (S ((l.drop 1).drop ((tw (l.drop 1)).length + 1)))), (2, .pointer (some ⟨b1, 0, none⟩)), (4, .bool ((decide (0 < l.length)) && (decide ((l.getD 0 0).toNat = 45)))), (5, .slice b2 ((digs (readN (tw (l.drop 1)))).length) c4), (7, .int .u8 ((((l.drop 1).getD ((tw (l.drop 1)).length) 0).toNat : Nat) : Int))] rfl (fun ρ6 => (wR (mv ?_))))))))
 have g9 := g3.trans gr2
 refine oC (cF Tryd.call87 (read_c (l := (l.drop 1).drop ((tw (l.drop 1)).length + 1)) g9.sat  (by omega)) rfl ?_)
 intro r7 h5 w10 gr6 hr7
 obtain ⟨r8, r9, rfl, hr8, hr9⟩ := hr7
 obtain ⟨b8, c12, rfl, k7⟩ := N.shape hr8
 subst hr9
 refine mv (oC (OpW.extract (v := .slice b8 ((digs (readN (tw ((l.drop 1).drop ((tw (l.drop 1)).length + 1))))).length) c12) rfl rfl ?_))
 refine oC (OpW.extract (v := .int .i64 (((tw ((l.drop 1).drop ((tw (l.drop 1)).length + 1))).length : Nat) : Int)) rfl rfl (ma (ma (oN (wS (wS (fg [(0, .string (S ((l.drop 1).drop ((tw (l.drop 1)).length + 1)))), (2, .pointer (some ⟨b1, 0, none⟩)), (4, .bool ((decide (0 < l.length)) && (decide ((l.getD 0 0).toNat = 45)))), (5, .slice b2 ((digs (readN (tw (l.drop 1)))).length) c4), (7, .int .u8 ((((l.drop 1).getD ((tw (l.drop 1)).length) 0).toNat : Nat) : Int)), (8, .slice b8 ((digs (readN (tw ((l.drop 1).drop ((tw (l.drop 1)).length + 1))))).length) c12), (9, .int .i64 (((tw ((l.drop 1).drop ((tw (l.drop 1)).length + 1))).length : Nat) : Int))] rfl (fun ρ7 => (wR (Ops.cut (fun ρ' w' => w10 = w' ∧ ∃ ρb, ρ' = upds ρb [(2, .pointer (some ⟨b1, 0, none⟩)), (4, .bool ((decide (0 < l.length)) && (decide ((l.getD 0 0).toNat = 45)))), (5, .slice b2 ((digs (readN (tw (l.drop 1)))).length) c4), (7, .int .u8 ((((l.drop 1).getD ((tw (l.drop 1)).length) 0).toNat : Nat) : Int)), (8, .slice b8 ((digs (readN (tw ((l.drop 1).drop ((tw (l.drop 1)).length + 1))))).length) c12), (9, .int .i64 (((tw ((l.drop 1).drop ((tw (l.drop 1)).length + 1))).length : Nat) : Int)), (70, .bool ((decide ((tw ((l.drop 1).drop ((tw (l.drop 1)).length + 1))).length = 0)) || ((decide ((tw ((l.drop 1).drop ((tw (l.drop 1)).length + 1))).length ≠ ((l.drop 1).drop ((tw (l.drop 1)).length + 1)).length)) || ((decide (((l.drop 1).getD ((tw (l.drop 1)).length) 0).toNat ≠ 46)) && (decide (((l.drop 1).getD ((tw (l.drop 1)).length) 0).toNat ≠ 47))))))]) ?_ ?_))))))))))
 refine mv (oC (OpW.eqlI (a := (((tw ((l.drop 1).drop ((tw (l.drop 1)).length + 1))).length : Nat) : Int)) (b := ((0 : Nat) : Int)) (r := decide ((tw ((l.drop 1).drop ((tw (l.drop 1)).length + 1))).length = 0)) rfl rfl (eq_nat (a := (tw ((l.drop 1).drop ((tw (l.drop 1)).length + 1))).length) (b := 0)) (mv ?_)))
 cases c13 : (decide ((tw ((l.drop 1).drop ((tw (l.drop 1)).length + 1))).length = 0))
 replace c13 : ¬ ((tw ((l.drop 1).drop ((tw (l.drop 1)).length + 1))).length = 0) := (of_decide_eq_false c13)
 refine oL rfl rfl rfl (OpW.move (v := .int .i64 (((tw ((l.drop 1).drop ((tw (l.drop 1)).length + 1))).length : Nat) : Int)) rfl ?_)
 refine oL rfl rfl rfl (OpW.move (v := .string (S ((l.drop 1).drop ((tw (l.drop 1)).length + 1)))) rfl ?_)
 refine oL rfl rfl rfl (OpW.lenSS (s := (l.drop 1).drop ((tw (l.drop 1)).length + 1)) Tryd.underlying9 rfl ?_)
 refine oL rfl rfl rfl (OpW.neqI (a := (((tw ((l.drop 1).drop ((tw (l.drop 1)).length + 1))).length : Nat) : Int)) (b := ((((l.drop 1).drop ((tw (l.drop 1)).length + 1)).length : Nat) : Int)) (r := decide ((tw ((l.drop 1).drop ((tw (l.drop 1)).length + 1))).length ≠ ((l.drop 1).drop ((tw (l.drop 1)).length + 1)).length)) rfl rfl (ne_nat (a := (tw ((l.drop 1).drop ((tw (l.drop 1)).length + 1))).length) (b := ((l.drop 1).drop ((tw (l.drop 1)).length + 1)).length)) ?_)
 refine oC (pF (v := .bool (decide ((tw ((l.drop 1).drop ((tw (l.drop 1)).length + 1))).length ≠ ((l.drop 1).drop ((tw (l.drop 1)).length + 1)).length))) rfl rfl (mv ?_))
 cases c14 : (decide ((tw ((l.drop 1).drop ((tw (l.drop 1)).length + 1))).length ≠ ((l.drop 1).drop ((tw (l.drop 1)).length + 1)).length))
 replace c14 : ¬ ((tw ((l.drop 1).drop ((tw (l.drop 1)).length + 1))).length ≠ ((l.drop 1).drop ((tw (l.drop 1)).length + 1)).length) := (of_decide_eq_false c14)
 refine oL rfl rfl rfl (OpW.move (v := .int .u8 ((((l.drop 1).getD ((tw (l.drop 1)).length) 0).toNat : Nat) : Int)) rfl ?_)
 refine oL rfl rfl rfl (OpW.neqI (a := ((((l.drop 1).getD ((tw (l.drop 1)).length) 0).toNat : Nat) : Int)) (b := ((46 : Nat) : Int)) (r := decide (((l.drop 1).getD ((tw (l.drop 1)).length) 0).toNat ≠ 46)) rfl rfl (ne_nat (a := ((l.drop 1).getD ((tw (l.drop 1)).length) 0).toNat) (b := 46)) ?_)
 refine oL rfl rfl rfl (OpW.move (v := .bool (decide (((l.drop 1).getD ((tw (l.drop 1)).length) 0).toNat ≠ 46))) rfl ?_)
 cases c15 : (decide (((l.drop 1).getD ((tw (l.drop 1)).length) 0).toNat ≠ 46))
 replace c15 : ¬ (((l.drop 1).getD ((tw (l.drop 1)).length) 0).toNat ≠ 46) := (of_decide_eq_false c15)
 refine oD rfl rfl rfl rfl (oD rfl rfl rfl rfl (oL rfl rfl rfl (pF (v := .bool false) rfl rfl ?_)))
 refine oC (pF (v := .bool false) rfl rfl (oN ?_))
 exact ⟨rfl, _, nm rfl⟩
 replace c15 : ((l.drop 1).getD ((tw (l.drop 1)).length) 0).toNat ≠ 46 := (of_decide_eq_true c15)
 refine oL rfl rfl rfl (OpW.move (v := .int .u8 ((((l.drop 1).getD ((tw (l.drop 1)).length) 0).toNat : Nat) : Int)) rfl ?_)
 refine oL rfl rfl rfl (OpW.neqI (a := ((((l.drop 1).getD ((tw (l.drop 1)).length) 0).toNat : Nat) : Int)) (b := ((47 : Nat) : Int)) (r := decide (((l.drop 1).getD ((tw (l.drop 1)).length) 0).toNat ≠ 47)) rfl rfl (ne_nat (a := ((l.drop 1).getD ((tw (l.drop 1)).length) 0).toNat) (b := 47)) ?_)
 refine oL rfl rfl rfl (pT (v := .bool (decide (((l.drop 1).getD ((tw (l.drop 1)).length) 0).toNat ≠ 47))) rfl rfl ?_)
 refine oC (pF (v := .bool (decide (((l.drop 1).getD ((tw (l.drop 1)).length) 0).toNat ≠ 47))) rfl rfl (oN ?_))
 exact ⟨rfl, _, nm rfl⟩
 replace c14 : (tw ((l.drop 1).drop ((tw (l.drop 1)).length + 1))).length ≠ ((l.drop 1).drop ((tw (l.drop 1)).length + 1)).length := (of_decide_eq_true c14)
 refine oD rfl rfl rfl rfl (oD rfl rfl rfl rfl (oD rfl rfl rfl rfl (Ops.dead0 rfl rfl rfl (Ops.dead0 rfl rfl rfl (oD rfl rfl rfl rfl (oC (pT (v := .bool true) rfl rfl (oN ?_))))))))
 exact ⟨rfl, _, nm rfl⟩
 replace c13 : (tw ((l.drop 1).drop ((tw (l.drop 1)).length + 1))).length = 0 := (of_decide_eq_true c13)
 refine oD rfl rfl rfl rfl (oD rfl rfl rfl rfl (oD rfl rfl rfl rfl (oD rfl rfl rfl rfl (oC (pT (v := .bool true) rfl rfl (mv (oD rfl rfl rfl rfl (oD rfl rfl rfl rfl (oD rfl rfl rfl rfl (Ops.dead0 rfl rfl rfl (Ops.dead0 rfl rfl rfl (oD rfl rfl rfl rfl (oC (pT (v := .bool true) rfl rfl (oN ?_)))))))))))))))
 exact ⟨rfl, _, nm rfl⟩
 rintro ρ8 w11 ⟨rfl, ρ9, rfl⟩
 refine Wp.cond (t := (decide ((tw ((l.drop 1).drop ((tw (l.drop 1)).length + 1))).length = 0)) || ((decide ((tw ((l.drop 1).drop ((tw (l.drop 1)).length + 1))).length ≠ ((l.drop 1).drop ((tw (l.drop 1)).length + 1)).length)) || ((decide (((l.drop 1).getD ((tw (l.drop 1)).length) 0).toNat ≠ 46)) && (decide (((l.drop 1).getD ((tw (l.drop 1)).length) 0).toNat ≠ 47))))) rfl (fun c16 => ?_) (fun c16 => ?_)
 replace c16 : ((tw ((l.drop 1).drop ((tw (l.drop 1)).length + 1))).length = 0) ∨ (((tw ((l.drop 1).drop ((tw (l.drop 1)).length + 1))).length ≠ ((l.drop 1).drop ((tw (l.drop 1)).length + 1)).length) ∨ ((((l.drop 1).getD ((tw (l.drop 1)).length) 0).toNat ≠ 46) ∧ (((l.drop 1).getD ((tw (l.drop 1)).length) 0).toNat ≠ 47))) := ((or_t c16).imp (fun h => (of_decide_eq_true h)) (fun h => ((or_t h).imp (fun h => (of_decide_eq_true h)) (fun h => ⟨(of_decide_eq_true (and_l h)), (of_decide_eq_true (and_r h))⟩))))
 refine sr (oC (OpW.build (places := [(0, 1), (1, 1), (2, 1)]) (cs := [.bool false, .slice none 0 0, .slice none 0 0]) Tryd.underlying24 Tryd.zeroValue24 (fun _ => by kernel_rfl) rfl ?_))
 have o7 := gr6.kp (gr2.kp ⟨o1, n1⟩)
 refine oC (sA (cs := [.bool false, .slice none 0 0, .slice none 0 0]) Tryd.sizeOf24 rfl rfl rfl rfl o7.1 rfl ?_)
 intro w12 p4
 refine ma (oN (Wp.ret (fin2_ret rfl (resOf_cellA (cs := [.bool false, .slice none 0 0, .slice none 0 0]) Tryd.isAgg24 Tryd.sizeOf24 rfl p4.at_ (Nat.le_of_ble_eq_true rfl) rfl) (resOf_tmp (v := .int .i64 ((4 : Nat) : Int)) rfl) ?_)))
 have g10 := (g9.trans gr6).put p4 o7.2 lo2
 refine ⟨h5, g10, ?_⟩
 exact ⟨_, _, rfl, (Kn.fst ((parse_m (b := isNeg l) (by omega) rfl hmm).trans (parse_3 (by assumption) (by assumption) (by assumption))) (Kz _)), (intv (congrArg Prod.snd ((parse_m (b := isNeg l) (by omega) rfl hmm).trans (parse_3 (by assumption) (by assumption) (by assumption)))).symm)⟩
 replace c16 : ¬ (((tw ((l.drop 1).drop ((tw (l.drop 1)).length + 1))).length = 0) ∨ (((tw ((l.drop 1).drop ((tw (l.drop 1)).length + 1))).length ≠ ((l.drop 1).drop ((tw (l.drop 1)).length + 1)).length) ∨ ((((l.drop 1).getD ((tw (l.drop 1)).length) 0).toNat ≠ 46) ∧ (((l.drop 1).getD ((tw (l.drop 1)).length) 0).toNat ≠ 47)))) := (fun pq => pq.elim (of_decide_eq_false (or_l c16)) (fun pq => pq.elim (of_decide_eq_false (or_l (or_r c16))) (fun pq => (and_f (or_r (or_r c16))).elim (fun h => (of_decide_eq_false h) pq.1) (fun h => (of_decide_eq_false h) pq.2))))
 refine Wp.skip (wS (sr (mv (oC (OpW.eqlI (a := ((((l.drop 1).getD ((tw (l.drop 1)).length) 0).toNat : Nat) : Int)) (b := ((46 : Nat) : Int)) (r := decide (((l.drop 1).getD ((tw (l.drop 1)).length) 0).toNat = 46)) rfl rfl (eq_nat (a := ((l.drop 1).getD ((tw (l.drop 1)).length) 0).toNat) (b := 46)) (oN (Wp.cond (t := decide (((l.drop 1).getD ((tw (l.drop 1)).length) 0).toNat = 46)) rfl (fun c17 => ?_) (fun c17 => ?_))))))))
 replace c17 : ((l.drop 1).getD ((tw (l.drop 1)).length) 0).toNat = 46 := (of_decide_eq_true c17)
 refine sr ?_
 have g11 := g9.trans gr6
 refine oC (cF Tryd.call86 (small_c (n := 10) g11.sat  (by omega)) rfl ?_)
 intro r10 h6 w13 gr7 hr10
 obtain ⟨b9, c18, rfl, k8⟩ := N.shape hr10
 refine mv ?_
 have g12 := g11.trans gr7
 refine oC (cF Tryd.call73 (power_c (a := 10) (n := (tw ((l.drop 1).drop ((tw (l.drop 1)).length + 1))).length) g12.sat hr10 (by omega) (by omega)) rfl ?_)
 intro r11 h7 w14 gr8 hr11
 obtain ⟨b10, c19, rfl, k9⟩ := N.shape hr11
 refine ma (oN (wS (fg [(2, .pointer (some ⟨b1, 0, none⟩)), (4, .bool ((decide (0 < l.length)) && (decide ((l.getD 0 0).toNat = 45)))), (5, .slice b2 ((digs (readN (tw (l.drop 1)))).length) c4), (8, .slice b8 ((digs (readN (tw ((l.drop 1).drop ((tw (l.drop 1)).length + 1))))).length) c12), (10, .slice b10 ((digs (10 ^ ((tw ((l.drop 1).drop ((tw (l.drop 1)).length + 1))).length))).length) c19)] rfl (fun ρ10 => (wR (mv (mv (mv ?_))))))))
 have g13 := g12.trans gr8
 refine oC (cF Tryd.call89 (mul_c (a := readN (tw (l.drop 1))) (b := 10 ^ ((tw ((l.drop 1).drop ((tw (l.drop 1)).length + 1))).length)) g13.sat (N.mono hr2 ((gr6.le.trans gr7.le).trans gr8.le)) hr11 (by omega) (by omega)) rfl ?_)
 intro r12 h8 w15 gr9 hr12
 obtain ⟨b11, c20, rfl, k10⟩ := N.shape hr12
 refine mv ?_
 have g14 := g13.trans gr9
 refine oC (cF Tryd.call90 (add_c (a := (readN (tw (l.drop 1))) * (10 ^ ((tw ((l.drop 1).drop ((tw (l.drop 1)).length + 1))).length))) (b := readN (tw ((l.drop 1).drop ((tw (l.drop 1)).length + 1)))) g14.sat hr12 (N.mono hr8 ((gr7.le.trans gr8.le).trans gr9.le)) (by omega) (by omega)) rfl ?_)
 intro r13 h9 w16 gr10 hr13
 obtain ⟨b12, c21, rfl, k11⟩ := N.shape hr13
 refine mv ?_
 have g15 := g14.trans gr10
 refine oC (cF Tryd.call88 (reduced_c (s := (decide (0 < l.length)) && (decide ((l.getD 0 0).toNat = 45))) (n := ((readN (tw (l.drop 1))) * (10 ^ ((tw ((l.drop 1).drop ((tw (l.drop 1)).length + 1))).length))) + (readN (tw ((l.drop 1).drop ((tw (l.drop 1)).length + 1))))) (d := 10 ^ ((tw ((l.drop 1).drop ((tw (l.drop 1)).length + 1))).length)) g15.sat hr13 (N.mono hr11 (gr9.le.trans gr10.le)) (by omega) (by omega) (by omega)) rfl ?_)
 intro r14 h10 w17 gr11 hr14
 obtain ⟨b13, c22, b14, c23, rfl, k12, k13, u5, u6⟩ := Qn.shape hr14
 have g16 := g15.trans gr11
 refine oC (cF Tryd.call74 (give_c (q := ratOf ((decide (0 < l.length)) && (decide ((l.getD 0 0).toNat = 45))) (((readN (tw (l.drop 1))) * (10 ^ ((tw ((l.drop 1).drop ((tw (l.drop 1)).length + 1))).length))) + (readN (tw ((l.drop 1).drop ((tw (l.drop 1)).length + 1))))) (10 ^ ((tw ((l.drop 1).drop ((tw (l.drop 1)).length + 1))).length))) g16.sat hr14 (by first | exact Nat.le_trans (hbxA _ (by omega) (by omega)) (by decide) | exact Nat.le_trans (hbxB _ (by omega) (by omega)) (by decide))) rfl ?_)
 intro r15 h11 w18 gr12 hr15
 obtain ⟨b15, c24, b16, c25, rfl, k14, k15, u7, u8⟩ := F.shape hr15
 have o9 := gr12.kp (gr11.kp (gr10.kp (gr9.kp (gr8.kp (gr7.kp (gr6.kp (gr2.kp ⟨o1, n1⟩)))))))
 refine oC (sA (cs := [.bool ((frK (ratOf ((decide (0 < l.length)) && (decide ((l.getD 0 0).toNat = 45))) (((readN (tw (l.drop 1))) * (10 ^ ((tw ((l.drop 1).drop ((tw (l.drop 1)).length + 1))).length))) + (readN (tw ((l.drop 1).drop ((tw (l.drop 1)).length + 1))))) (10 ^ ((tw ((l.drop 1).drop ((tw (l.drop 1)).length + 1))).length)))).neg), .slice b15 ((frK (ratOf ((decide (0 < l.length)) && (decide ((l.getD 0 0).toNat = 45))) (((readN (tw (l.drop 1))) * (10 ^ ((tw ((l.drop 1).drop ((tw (l.drop 1)).length + 1))).length))) + (readN (tw ((l.drop 1).drop ((tw (l.drop 1)).length + 1))))) (10 ^ ((tw ((l.drop 1).drop ((tw (l.drop 1)).length + 1))).length)))).n.length) c24, .slice b16 ((frK (ratOf ((decide (0 < l.length)) && (decide ((l.getD 0 0).toNat = 45))) (((readN (tw (l.drop 1))) * (10 ^ ((tw ((l.drop 1).drop ((tw (l.drop 1)).length + 1))).length))) + (readN (tw ((l.drop 1).drop ((tw (l.drop 1)).length + 1))))) (10 ^ ((tw ((l.drop 1).drop ((tw (l.drop 1)).length + 1))).length)))).d.length) c25]) Tryd.sizeOf24 rfl rfl rfl rfl o9.1 rfl ?_)
 intro w19 p5
 refine ma (oN (Wp.ret (fin2_ret rfl (resOf_cellA (cs := [.bool ((frK (ratOf ((decide (0 < l.length)) && (decide ((l.getD 0 0).toNat = 45))) (((readN (tw (l.drop 1))) * (10 ^ ((tw ((l.drop 1).drop ((tw (l.drop 1)).length + 1))).length))) + (readN (tw ((l.drop 1).drop ((tw (l.drop 1)).length + 1))))) (10 ^ ((tw ((l.drop 1).drop ((tw (l.drop 1)).length + 1))).length)))).neg), .slice b15 ((frK (ratOf ((decide (0 < l.length)) && (decide ((l.getD 0 0).toNat = 45))) (((readN (tw (l.drop 1))) * (10 ^ ((tw ((l.drop 1).drop ((tw (l.drop 1)).length + 1))).length))) + (readN (tw ((l.drop 1).drop ((tw (l.drop 1)).length + 1))))) (10 ^ ((tw ((l.drop 1).drop ((tw (l.drop 1)).length + 1))).length)))).n.length) c24, .slice b16 ((frK (ratOf ((decide (0 < l.length)) && (decide ((l.getD 0 0).toNat = 45))) (((readN (tw (l.drop 1))) * (10 ^ ((tw ((l.drop 1).drop ((tw (l.drop 1)).length + 1))).length))) + (readN (tw ((l.drop 1).drop ((tw (l.drop 1)).length + 1))))) (10 ^ ((tw ((l.drop 1).drop ((tw (l.drop 1)).length + 1))).length)))).d.length) c25]) Tryd.isAgg24 Tryd.sizeOf24 rfl p5.at_ (Nat.le_of_ble_eq_true rfl) rfl) (resOf_tmp (v := .int .i64 ((0 : Nat) : Int)) rfl) ?_)))
 have g17 := (g16.trans gr12).put p5 o9.2 lo2
 refine ⟨h11, g17, ?_⟩
 exact ⟨_, _, rfl, (Kn.fst ((parse_m (b := isNeg l) (by omega) rfl hmm).trans (parse_4 (by assumption) (by assumption) (by assumption) (by assumption))) (F.mk u7 u8)), (intv (congrArg Prod.snd ((parse_m (b := isNeg l) (by omega) rfl hmm).trans (parse_4 (by assumption) (by assumption) (by assumption) (by assumption)))).symm)⟩
 replace c17 : ¬ (((l.drop 1).getD ((tw (l.drop 1)).length) 0).toNat = 46) := (of_decide_eq_false c17)
 refine Wp.skip (wS (sr (mv (oC (OpW.lenS Tryd.underlying64 (l := (digs (readN (tw ((l.drop 1).drop ((tw (l.drop 1)).length + 1))))).length) rfl ?_)))))
 refine oC (OpW.eqlI (a := (((digs (readN (tw ((l.drop 1).drop ((tw (l.drop 1)).length + 1))))).length : Nat) : Int)) (b := ((0 : Nat) : Int)) (r := decide ((digs (readN (tw ((l.drop 1).drop ((tw (l.drop 1)).length + 1))))).length = 0)) rfl rfl (eq_nat (a := (digs (readN (tw ((l.drop 1).drop ((tw (l.drop 1)).length + 1))))).length) (b := 0)) (oN (Wp.cond (t := decide ((digs (readN (tw ((l.drop 1).drop ((tw (l.drop 1)).length + 1))))).length = 0)) rfl (fun c26 => ?_) (fun c26 => ?_))))
 replace c26 : (digs (readN (tw ((l.drop 1).drop ((tw (l.drop 1)).length + 1))))).length = 0 := (of_decide_eq_true c26)
 refine wS (fg [(2, .pointer (some ⟨b1, 0, none⟩))] rfl (fun ρ11 => (wR (oC (OpW.build (places := [(0, 1), (1, 1), (2, 1)]) (cs := [.bool false, .slice none 0 0, .slice none 0 0]) Tryd.underlying24 Tryd.zeroValue24 (fun _ => by kernel_rfl) rfl ?_)))))
 have o11 := gr6.kp (gr2.kp ⟨o1, n1⟩)
 refine oC (sA (cs := [.bool false, .slice none 0 0, .slice none 0 0]) Tryd.sizeOf24 rfl rfl rfl rfl o11.1 rfl ?_)
 intro w20 p6
 refine ma (oN (Wp.ret (fin2_ret rfl (resOf_cellA (cs := [.bool false, .slice none 0 0, .slice none 0 0]) Tryd.isAgg24 Tryd.sizeOf24 rfl p6.at_ (Nat.le_of_ble_eq_true rfl) rfl) (resOf_tmp (v := .int .i64 ((3 : Nat) : Int)) rfl) ?_)))
 have g18 := (g9.trans gr6).put p6 o11.2 lo2
 refine ⟨h5, g18, ?_⟩
 exact ⟨_, _, rfl, (Kn.fst ((parse_m (b := isNeg l) (by omega) rfl hmm).trans (parse_5 (by assumption) (by assumption) (by assumption) (by assumption) (by assumption))) (Kz _)), (intv (congrArg Prod.snd ((parse_m (b := isNeg l) (by omega) rfl hmm).trans (parse_5 (by assumption) (by assumption) (by assumption) (by assumption) (by assumption)))).symm)⟩
 replace c26 : ¬ ((digs (readN (tw ((l.drop 1).drop ((tw (l.drop 1)).length + 1))))).length = 0) := (of_decide_eq_false c26)
 refine Wp.skip (wS (fg [(2, .pointer (some ⟨b1, 0, none⟩)), (4, .bool ((decide (0 < l.length)) && (decide ((l.getD 0 0).toNat = 45)))), (5, .slice b2 ((digs (readN (tw (l.drop 1)))).length) c4), (8, .slice b8 ((digs (readN (tw ((l.drop 1).drop ((tw (l.drop 1)).length + 1))))).length) c12)] rfl (fun ρ12 => (wR (mv (mv (mv ?_)))))))
 have g19 := g9.trans gr6
 refine oC (cF Tryd.call88 (reduced_c (s := (decide (0 < l.length)) && (decide ((l.getD 0 0).toNat = 45))) (n := readN (tw (l.drop 1))) (d := readN (tw ((l.drop 1).drop ((tw (l.drop 1)).length + 1)))) g19.sat (N.mono hr2 gr6.le) hr8 (by omega) (by omega) (by omega)) rfl ?_)
 intro r16 h12 w21 gr13 hr16
 obtain ⟨b17, c27, b18, c28, rfl, k16, k17, u9, u10⟩ := Qn.shape hr16
 have g20 := g19.trans gr13
 refine oC (cF Tryd.call74 (give_c (q := ratOf ((decide (0 < l.length)) && (decide ((l.getD 0 0).toNat = 45))) (readN (tw (l.drop 1))) (readN (tw ((l.drop 1).drop ((tw (l.drop 1)).length + 1))))) g20.sat hr16 (by first | exact Nat.le_trans (hbzA _ (by omega) (by omega) (by omega)) (by decide) | exact Nat.le_trans (hbzB _ (by omega) (by omega) (by omega)) (by decide))) rfl ?_)
 intro r17 h13 w22 gr14 hr17
 obtain ⟨b19, c29, b20, c30, rfl, k18, k19, u11, u12⟩ := F.shape hr17
 have o13 := gr14.kp (gr13.kp (gr6.kp (gr2.kp ⟨o1, n1⟩)))
 refine oC (sA (cs := [.bool ((frK (ratOf ((decide (0 < l.length)) && (decide ((l.getD 0 0).toNat = 45))) (readN (tw (l.drop 1))) (readN (tw ((l.drop 1).drop ((tw (l.drop 1)).length + 1)))))).neg), .slice b19 ((frK (ratOf ((decide (0 < l.length)) && (decide ((l.getD 0 0).toNat = 45))) (readN (tw (l.drop 1))) (readN (tw ((l.drop 1).drop ((tw (l.drop 1)).length + 1)))))).n.length) c29, .slice b20 ((frK (ratOf ((decide (0 < l.length)) && (decide ((l.getD 0 0).toNat = 45))) (readN (tw (l.drop 1))) (readN (tw ((l.drop 1).drop ((tw (l.drop 1)).length + 1)))))).d.length) c30]) Tryd.sizeOf24 rfl rfl rfl rfl o13.1 rfl ?_)
 intro w23 p7
 refine ma (oN (Wp.ret (fin2_ret rfl (resOf_cellA (cs := [.bool ((frK (ratOf ((decide (0 < l.length)) && (decide ((l.getD 0 0).toNat = 45))) (readN (tw (l.drop 1))) (readN (tw ((l.drop 1).drop ((tw (l.drop 1)).length + 1)))))).neg), .slice b19 ((frK (ratOf ((decide (0 < l.length)) && (decide ((l.getD 0 0).toNat = 45))) (readN (tw (l.drop 1))) (readN (tw ((l.drop 1).drop ((tw (l.drop 1)).length + 1)))))).n.length) c29, .slice b20 ((frK (ratOf ((decide (0 < l.length)) && (decide ((l.getD 0 0).toNat = 45))) (readN (tw (l.drop 1))) (readN (tw ((l.drop 1).drop ((tw (l.drop 1)).length + 1)))))).d.length) c30]) Tryd.isAgg24 Tryd.sizeOf24 rfl p7.at_ (Nat.le_of_ble_eq_true rfl) rfl) (resOf_tmp (v := .int .i64 ((0 : Nat) : Int)) rfl) ?_)))
 have g21 := (g20.trans gr14).put p7 o13.2 lo2
 refine ⟨h13, g21, ?_⟩
 exact ⟨_, _, rfl, (Kn.fst ((parse_m (b := isNeg l) (by omega) rfl hmm).trans (parse_6 (by assumption) (by assumption) (by assumption) (by assumption) (by assumption))) (F.mk u11 u12)), (intv (congrArg Prod.snd ((parse_m (b := isNeg l) (by omega) rfl hmm).trans (parse_6 (by assumption) (by assumption) (by assumption) (by assumption) (by assumption)))).symm)⟩
 replace c3 : ¬ ((0 < l.length) ∧ ((l.getD 0 0).toNat = 45)) := (fun pq => (and_f c3).elim (fun h => (of_decide_eq_false h) pq.1) (fun h => (of_decide_eq_false h) pq.2))
 have hmm : (if isNeg l = true then l.drop 1 else l) = l := if_neg (isNeg_f c3)
 refine Wp.skip (sr (mv ?_))
 have g22 := g1.trans gr1
 refine oC (cF Tryd.call87 (read_c (l := l) g22.sat  (by omega)) rfl ?_)
 intro r18 h14 w24 gr15 hr18
 obtain ⟨r19, r20, rfl, hr19, hr20⟩ := hr18
 obtain ⟨b21, c31, rfl, k20⟩ := N.shape hr19
 subst hr20
 refine mv (oC (OpW.extract (v := .slice b21 ((digs (readN (tw l))).length) c31) rfl rfl ?_))
 refine oC (OpW.extract (v := .int .i64 (((tw l).length : Nat) : Int)) rfl rfl (ma (ma (oN (wS (wS (fg [(0, .string (S l)), (2, .pointer (some ⟨b1, 0, none⟩)), (4, .bool ((decide (0 < l.length)) && (decide ((l.getD 0 0).toNat = 45)))), (5, .slice b21 ((digs (readN (tw l))).length) c31), (6, .int .i64 (((tw l).length : Nat) : Int))] rfl (fun ρ13 => (wR (mv (oC (OpW.eqlI (a := (((tw l).length : Nat) : Int)) (b := ((0 : Nat) : Int)) (r := decide ((tw l).length = 0)) rfl rfl (eq_nat (a := (tw l).length) (b := 0)) (oN (Wp.cond (t := decide ((tw l).length = 0)) rfl (fun c32 => ?_) (fun c32 => ?_)))))))))))))))
 replace c32 : (tw l).length = 0 := (of_decide_eq_true c32)
 refine sr (oC (OpW.build (places := [(0, 1), (1, 1), (2, 1)]) (cs := [.bool false, .slice none 0 0, .slice none 0 0]) Tryd.underlying24 Tryd.zeroValue24 (fun _ => by kernel_rfl) rfl ?_))
 have o15 := gr15.kp ⟨o1, n1⟩
 refine oC (sA (cs := [.bool false, .slice none 0 0, .slice none 0 0]) Tryd.sizeOf24 rfl rfl rfl rfl o15.1 rfl ?_)
 intro w25 p8
 refine ma (oN (Wp.ret (fin2_ret rfl (resOf_cellA (cs := [.bool false, .slice none 0 0, .slice none 0 0]) Tryd.isAgg24 Tryd.sizeOf24 rfl p8.at_ (Nat.le_of_ble_eq_true rfl) rfl) (resOf_tmp (v := .int .i64 ((4 : Nat) : Int)) rfl) ?_)))
 have g23 := (g22.trans gr15).put p8 o15.2 lo2
 refine ⟨h14, g23, ?_⟩
 exact ⟨_, _, rfl, (Kn.fst ((parse_m (b := isNeg l) (by omega) rfl hmm).trans (parse_1 (by assumption))) (Kz _)), (intv (congrArg Prod.snd ((parse_m (b := isNeg l) (by omega) rfl hmm).trans (parse_1 (by assumption)))).symm)⟩
 replace c32 : ¬ ((tw l).length = 0) := (of_decide_eq_false c32)
 refine Wp.skip (wS (sr (mv (mv (oC (OpW.lenSS (s := l) Tryd.underlying9 rfl ?_))))))
 refine oC (OpW.eqlI (a := (((tw l).length : Nat) : Int)) (b := ((l.length : Nat) : Int)) (r := decide ((tw l).length = l.length)) rfl rfl (eq_nat (a := (tw l).length) (b := l.length)) (oN (Wp.cond (t := decide ((tw l).length = l.length)) rfl (fun c33 => ?_) (fun c33 => ?_))))
 replace c33 : (tw l).length = l.length := (of_decide_eq_true c33)
 refine wS (fg [(2, .pointer (some ⟨b1, 0, none⟩)), (4, .bool ((decide (0 < l.length)) && (decide ((l.getD 0 0).toNat = 45)))), (5, .slice b21 ((digs (readN (tw l))).length) c31)] rfl (fun ρ14 => (wR (mv (mv ?_)))))
 have g24 := g22.trans gr15
 refine oC (cF Tryd.call86 (small_c (n := 1) g24.sat  (by omega)) rfl ?_)
 intro r21 h15 w26 gr16 hr21
 obtain ⟨b22, c34, rfl, k21⟩ := N.shape hr21
 have g25 := g24.trans gr16
 refine oC (cF Tryd.call88 (reduced_c (s := (decide (0 < l.length)) && (decide ((l.getD 0 0).toNat = 45))) (n := readN (tw l)) (d := 1) g25.sat (N.mono hr19 gr16.le) hr21 (by omega) (by omega) (by omega)) rfl ?_)
 intro r22 h16 w27 gr17 hr22
 obtain ⟨b23, c35, b24, c36, rfl, k22, k23, u13, u14⟩ := Qn.shape hr22
 have g26 := g25.trans gr17
 refine oC (cF Tryd.call74 (give_c (q := ratOf ((decide (0 < l.length)) && (decide ((l.getD 0 0).toNat = 45))) (readN (tw l)) 1) g26.sat hr22 (by first | exact Nat.le_trans (hbyA _ (by omega) (by omega)) (by decide) | exact Nat.le_trans (hbyB _ (by omega) (by omega)) (by decide))) rfl ?_)
 intro r23 h17 w28 gr18 hr23
 obtain ⟨b25, c37, b26, c38, rfl, k24, k25, u15, u16⟩ := F.shape hr23
 have o17 := gr18.kp (gr17.kp (gr16.kp (gr15.kp ⟨o1, n1⟩)))
 refine oC (sA (cs := [.bool ((frK (ratOf ((decide (0 < l.length)) && (decide ((l.getD 0 0).toNat = 45))) (readN (tw l)) 1)).neg), .slice b25 ((frK (ratOf ((decide (0 < l.length)) && (decide ((l.getD 0 0).toNat = 45))) (readN (tw l)) 1)).n.length) c37, .slice b26 ((frK (ratOf ((decide (0 < l.length)) && (decide ((l.getD 0 0).toNat = 45))) (readN (tw l)) 1)).d.length) c38]) Tryd.sizeOf24 rfl rfl rfl rfl o17.1 rfl ?_)
 intro w29 p9
 refine ma (oN (Wp.ret (fin2_ret rfl (resOf_cellA (cs := [.bool ((frK (ratOf ((decide (0 < l.length)) && (decide ((l.getD 0 0).toNat = 45))) (readN (tw l)) 1)).neg), .slice b25 ((frK (ratOf ((decide (0 < l.length)) && (decide ((l.getD 0 0).toNat = 45))) (readN (tw l)) 1)).n.length) c37, .slice b26 ((frK (ratOf ((decide (0 < l.length)) && (decide ((l.getD 0 0).toNat = 45))) (readN (tw l)) 1)).d.length) c38]) Tryd.isAgg24 Tryd.sizeOf24 rfl p9.at_ (Nat.le_of_ble_eq_true rfl) rfl) (resOf_tmp (v := .int .i64 ((0 : Nat) : Int)) rfl) ?_)))
 have g27 := (g26.trans gr18).put p9 o17.2 lo2
 refine ⟨h17, g27, ?_⟩
 exact ⟨_, _, rfl, (Kn.fst ((parse_m (b := isNeg l) (by omega) rfl hmm).trans (parse_2 (by assumption) (by assumption))) (F.mk u15 u16)), (intv (congrArg Prod.snd ((parse_m (b := isNeg l) (by omega) rfl hmm).trans (parse_2 (by assumption) (by assumption)))).symm)⟩
 replace c33 : ¬ ((tw l).length = l.length) := (of_decide_eq_false c33)
 refine Wp.skip (wS (fg [(0, .string (S l)), (2, .pointer (some ⟨b1, 0, none⟩)), (4, .bool ((decide (0 < l.length)) && (decide ((l.getD 0 0).toNat = 45)))), (5, .slice b21 ((digs (readN (tw l))).length) c31), (6, .int .i64 (((tw l).length : Nat) : Int))] rfl (fun ρ15 => (wR (mv (mv ?_))))))
 have hby3 : (l.getD ((tw l).length) 0).toNat < 256 := UInt8.toNat_lt _
 refine oC (OpW.indexSS (s := l) (i := (tw l).length) Tryd.underlying9 rfl rfl (by omega) (ma (oN (sr (mv (mv (oC (OpW.add (a := (((tw l).length : Nat) : Int)) (b := ((1 : Nat) : Int)) (r := (((tw l).length + 1 : Nat) : Int)) rfl rfl (add_i64 (a := (tw l).length) (b := 1) (by omega)) ?_))))))))
 refine oC (OpW.sliceSFrom (s := l) (l := (tw l).length + 1) Tryd.underlying9 rfl rfl (by omega) (ma (oN (wS (fg [(0, .string (S (l.drop ((tw l).length + 1)))), (2, .pointer (some ⟨b1, 0, none⟩)), (4, .bool ((decide (0 < l.length)) && (decide ((l.getD 0 0).toNat = 45)))), (5, .slice b21 ((digs (readN (tw l))).length) c31), (7, .int .u8 (((l.getD ((tw l).length) 0).toNat : Nat) : Int))] rfl (fun ρ16 => (wR (mv ?_))))))))
 have g28 := g22.trans gr15
 refine oC (cF Tryd.call87 (read_c (l := l.drop ((tw l).length + 1)) g28.sat  (by omega)) rfl ?_)
 intro r24 h18 w30 gr19 hr24
 obtain ⟨r25, r26, rfl, hr25, hr26⟩ := hr24
 obtain ⟨b27, c39, rfl, k26⟩ := N.shape hr25
 subst hr26
 refine mv (oC (OpW.extract (v := .slice b27 ((digs (readN (tw (l.drop ((tw l).length + 1))))).length) c39) rfl rfl ?_))
 refine oC (OpW.extract (v := .int .i64 (((tw (l.drop ((tw l).length + 1))).length : Nat) : Int)) rfl rfl (ma (ma (oN (wS (wS (fg [(0, .string (S (l.drop ((tw l).length + 1)))), (2, .pointer (some ⟨b1, 0, none⟩)), (4, .bool ((decide (0 < l.length)) && (decide ((l.getD 0 0).toNat = 45)))), (5, .slice b21 ((digs (readN (tw l))).length) c31), (7, .int .u8 (((l.getD ((tw l).length) 0).toNat : Nat) : Int)), (8, .slice b27 ((digs (readN (tw (l.drop ((tw l).length + 1))))).length) c39), (9, .int .i64 (((tw (l.drop ((tw l).length + 1))).length : Nat) : Int))] rfl (fun ρ17 => (wR (Ops.cut (fun ρ' w' => w30 = w' ∧ ∃ ρb, ρ' = upds ρb [(2, .pointer (some ⟨b1, 0, none⟩)), (4, .bool ((decide (0 < l.length)) && (decide ((l.getD 0 0).toNat = 45)))), (5, .slice b21 ((digs (readN (tw l))).length) c31), (7, .int .u8 (((l.getD ((tw l).length) 0).toNat : Nat) : Int)), (8, .slice b27 ((digs (readN (tw (l.drop ((tw l).length + 1))))).length) c39), (9, .int .i64 (((tw (l.drop ((tw l).length + 1))).length : Nat) : Int)), (70, .bool ((decide ((tw (l.drop ((tw l).length + 1))).length = 0)) || ((decide ((tw (l.drop ((tw l).length + 1))).length ≠ (l.drop ((tw l).length + 1)).length)) || ((decide ((l.getD ((tw l).length) 0).toNat ≠ 46)) && (decide ((l.getD ((tw l).length) 0).toNat ≠ 47))))))]) ?_ ?_))))))))))
 refine mv (oC (OpW.eqlI (a := (((tw (l.drop ((tw l).length + 1))).length : Nat) : Int)) (b := ((0 : Nat) : Int)) (r := decide ((tw (l.drop ((tw l).length + 1))).length = 0)) rfl rfl (eq_nat (a := (tw (l.drop ((tw l).length + 1))).length) (b := 0)) (mv ?_)))
 cases c40 : (decide ((tw (l.drop ((tw l).length + 1))).length = 0))
 replace c40 : ¬ ((tw (l.drop ((tw l).length + 1))).length = 0) := (of_decide_eq_false c40)
 refine oL rfl rfl rfl (OpW.move (v := .int .i64 (((tw (l.drop ((tw l).length + 1))).length : Nat) : Int)) rfl ?_)
 refine oL rfl rfl rfl (OpW.move (v := .string (S (l.drop ((tw l).length + 1)))) rfl ?_)
 refine oL rfl rfl rfl (OpW.lenSS (s := l.drop ((tw l).length + 1)) Tryd.underlying9 rfl ?_)
 refine oL rfl rfl rfl (OpW.neqI (a := (((tw (l.drop ((tw l).length + 1))).length : Nat) : Int)) (b := (((l.drop ((tw l).length + 1)).length : Nat) : Int)) (r := decide ((tw (l.drop ((tw l).length + 1))).length ≠ (l.drop ((tw l).length + 1)).length)) rfl rfl (ne_nat (a := (tw (l.drop ((tw l).length + 1))).length) (b := (l.drop ((tw l).length + 1)).length)) ?_)
 refine oC (pF (v := .bool (decide ((tw (l.drop ((tw l).length + 1))).length ≠ (l.drop ((tw l).length + 1)).length))) rfl rfl (mv ?_))
 cases c41 : (decide ((tw (l.drop ((tw l).length + 1))).length ≠ (l.drop ((tw l).length + 1)).length))
 replace c41 : ¬ ((tw (l.drop ((tw l).length + 1))).length ≠ (l.drop ((tw l).length + 1)).length) := (of_decide_eq_false c41)
 refine oL rfl rfl rfl (OpW.move (v := .int .u8 (((l.getD ((tw l).length) 0).toNat : Nat) : Int)) rfl ?_)
 refine oL rfl rfl rfl (OpW.neqI (a := (((l.getD ((tw l).length) 0).toNat : Nat) : Int)) (b := ((46 : Nat) : Int)) (r := decide ((l.getD ((tw l).length) 0).toNat ≠ 46)) rfl rfl (ne_nat (a := (l.getD ((tw l).length) 0).toNat) (b := 46)) ?_)
 refine oL rfl rfl rfl (OpW.move (v := .bool (decide ((l.getD ((tw l).length) 0).toNat ≠ 46))) rfl ?_)
 cases c42 : (decide ((l.getD ((tw l).length) 0).toNat ≠ 46))
 replace c42 : ¬ ((l.getD ((tw l).length) 0).toNat ≠ 46) := (of_decide_eq_false c42)
 refine oD rfl rfl rfl rfl (oD rfl rfl rfl rfl (oL rfl rfl rfl (pF (v := .bool false) rfl rfl ?_)))
 refine oC (pF (v := .bool false) rfl rfl (oN ?_))
 exact ⟨rfl, _, nm rfl⟩
 replace c42 : (l.getD ((tw l).length) 0).toNat ≠ 46 := (of_decide_eq_true c42)
 refine oL rfl rfl rfl (OpW.move (v := .int .u8 (((l.getD ((tw l).length) 0).toNat : Nat) : Int)) rfl ?_)
 refine oL rfl rfl rfl (OpW.neqI (a := (((l.getD ((tw l).length) 0).toNat : Nat) : Int)) (b := ((47 : Nat) : Int)) (r := decide ((l.getD ((tw l).length) 0).toNat ≠ 47)) rfl rfl (ne_nat (a := (l.getD ((tw l).length) 0).toNat) (b := 47)) ?_)
 refine oL rfl rfl rfl (pT (v := .bool (decide ((l.getD ((tw l).length) 0).toNat ≠ 47))) rfl rfl ?_)
 refine oC (pF (v := .bool (decide ((l.getD ((tw l).length) 0).toNat ≠ 47))) rfl rfl (oN ?_))
 exact ⟨rfl, _, nm rfl⟩
 replace c41 : (tw (l.drop ((tw l).length + 1))).length ≠ (l.drop ((tw l).length + 1)).length := (of_decide_eq_true c41)
 refine oD rfl rfl rfl rfl (oD rfl rfl rfl rfl (oD rfl rfl rfl rfl (Ops.dead0 rfl rfl rfl (Ops.dead0 rfl rfl rfl (oD rfl rfl rfl rfl (oC (pT (v := .bool true) rfl rfl (oN ?_))))))))
 exact ⟨rfl, _, nm rfl⟩
 replace c40 : (tw (l.drop ((tw l).length + 1))).length = 0 := (of_decide_eq_true c40)
 refine oD rfl rfl rfl rfl (oD rfl rfl rfl rfl (oD rfl rfl rfl rfl (oD rfl rfl rfl rfl (oC (pT (v := .bool true) rfl rfl (mv (oD rfl rfl rfl rfl (oD rfl rfl rfl rfl (oD rfl rfl rfl rfl (Ops.dead0 rfl rfl rfl (Ops.dead0 rfl rfl rfl (oD rfl rfl rfl rfl (oC (pT (v := .bool true) rfl rfl (oN ?_)))))))))))))))
 exact ⟨rfl, _, nm rfl⟩
 rintro ρ18 w31 ⟨rfl, ρ19, rfl⟩
 refine Wp.cond (t := (decide ((tw (l.drop ((tw l).length + 1))).length = 0)) || ((decide ((tw (l.drop ((tw l).length + 1))).length ≠ (l.drop ((tw l).length + 1)).length)) || ((decide ((l.getD ((tw l).length) 0).toNat ≠ 46)) && (decide ((l.getD ((tw l).length) 0).toNat ≠ 47))))) rfl (fun c43 => ?_) (fun c43 => ?_)
 replace c43 : ((tw (l.drop ((tw l).length + 1))).length = 0) ∨ (((tw (l.drop ((tw l).length + 1))).length ≠ (l.drop ((tw l).length + 1)).length) ∨ (((l.getD ((tw l).length) 0).toNat ≠ 46) ∧ ((l.getD ((tw l).length) 0).toNat ≠ 47))) := ((or_t c43).imp (fun h => (of_decide_eq_true h)) (fun h => ((or_t h).imp (fun h => (of_decide_eq_true h)) (fun h => ⟨(of_decide_eq_true (and_l h)), (of_decide_eq_true (and_r h))⟩))))
 refine sr (oC (OpW.build (places := [(0, 1), (1, 1), (2, 1)]) (cs := [.bool false, .slice none 0 0, .slice none 0 0]) Tryd.underlying24 Tryd.zeroValue24 (fun _ => by kernel_rfl) rfl ?_))
 have o19 := gr19.kp (gr15.kp ⟨o1, n1⟩)
 refine oC (sA (cs := [.bool false, .slice none 0 0, .slice none 0 0]) Tryd.sizeOf24 rfl rfl rfl rfl o19.1 rfl ?_)
 intro w32 p10
 refine ma (oN (Wp.ret (fin2_ret rfl (resOf_cellA (cs := [.bool false, .slice none 0 0, .slice none 0 0]) Tryd.isAgg24 Tryd.sizeOf24 rfl p10.at_ (Nat.le_of_ble_eq_true rfl) rfl) (resOf_tmp (v := .int .i64 ((4 : Nat) : Int)) rfl) ?_)))
 have g29 := (g28.trans gr19).put p10 o19.2 lo2
 refine ⟨h18, g29, ?_⟩
 exact ⟨_, _, rfl, (Kn.fst ((parse_m (b := isNeg l) (by omega) rfl hmm).trans (parse_3 (by assumption) (by assumption) (by assumption))) (Kz _)), (intv (congrArg Prod.snd ((parse_m (b := isNeg l) (by omega) rfl hmm).trans (parse_3 (by assumption) (by assumption) (by assumption)))).symm)⟩
 replace c43 : ¬ (((tw (l.drop ((tw l).length + 1))).length = 0) ∨ (((tw (l.drop ((tw l).length + 1))).length ≠ (l.drop ((tw l).length + 1)).length) ∨ (((l.getD ((tw l).length) 0).toNat ≠ 46) ∧ ((l.getD ((tw l).length) 0).toNat ≠ 47)))) := (fun pq => pq.elim (of_decide_eq_false (or_l c43)) (fun pq => pq.elim (of_decide_eq_false (or_l (or_r c43))) (fun pq => (and_f (or_r (or_r c43))).elim (fun h => (of_decide_eq_false h) pq.1) (fun h => (of_decide_eq_false h) pq.2))))
 refine Wp.skip (wS (sr (mv (oC (OpW.eqlI (a := (((l.getD ((tw l).length) 0).toNat : Nat) : Int)) (b := ((46 : Nat) : Int)) (r := decide ((l.getD ((tw l).length) 0).toNat = 46)) rfl rfl (eq_nat (a := (l.getD ((tw l).length) 0).toNat) (b := 46)) (oN (Wp.cond (t := decide ((l.getD ((tw l).length) 0).toNat = 46)) rfl (fun c44 => ?_) (fun c44 => ?_))))))))
 replace c44 : (l.getD ((tw l).length) 0).toNat = 46 := (of_decide_eq_true c44)
 refine sr ?_
 have g30 := g28.trans gr19
 refine oC (cF Tryd.call86 (small_c (n := 10) g30.sat  (by omega)) rfl ?_)
 intro r27 h19 w33 gr20 hr27
 obtain ⟨b28, c45, rfl, k27⟩ := N.shape hr27
 refine mv ?_
 have g31 := g30.trans gr20
 refine oC (cF Tryd.call73 (power_c (a := 10) (n := (tw (l.drop ((tw l).length + 1))).length) g31.sat hr27 (by omega) (by omega)) rfl ?_)
 intro r28 h20 w34 gr21 hr28
 obtain ⟨b29, c46, rfl, k28⟩ := N.shape hr28
 refine ma (oN (wS (fg [(2, .pointer (some ⟨b1, 0, none⟩)), (4, .bool ((decide (0 < l.length)) && (decide ((l.getD 0 0).toNat = 45)))), (5, .slice b21 ((digs (readN (tw l))).length) c31), (8, .slice b27 ((digs (readN (tw (l.drop ((tw l).length + 1))))).length) c39), (10, .slice b29 ((digs (10 ^ ((tw (l.drop ((tw l).length + 1))).length))).length) c46)] rfl (fun ρ20 => (wR (mv (mv (mv ?_))))))))
 have g32 := g31.trans gr21
 refine oC (cF Tryd.call89 (mul_c (a := readN (tw l)) (b := 10 ^ ((tw (l.drop ((tw l).length + 1))).length)) g32.sat (N.mono hr19 ((gr19.le.trans gr20.le).trans gr21.le)) hr28 (by omega) (by omega)) rfl ?_)
 intro r29 h21 w35 gr22 hr29
 obtain ⟨b30, c47, rfl, k29⟩ := N.shape hr29
 refine mv ?_
 have g33 := g32.trans gr22
 refine oC (cF Tryd.call90 (add_c (a := (readN (tw l)) * (10 ^ ((tw (l.drop ((tw l).length + 1))).length))) (b := readN (tw (l.drop ((tw l).length + 1)))) g33.sat hr29 (N.mono hr25 ((gr20.le.trans gr21.le).trans gr22.le)) (by omega) (by omega)) rfl ?_)
 intro r30 h22 w36 gr23 hr30
 obtain ⟨b31, c48, rfl, k30⟩ := N.shape hr30
 refine mv ?_
 have g34 := g33.trans gr23
 refine oC (cF Tryd.call88 (reduced_c (s := (decide (0 < l.length)) && (decide ((l.getD 0 0).toNat = 45))) (n := ((readN (tw l)) * (10 ^ ((tw (l.drop ((tw l).length + 1))).length))) + (readN (tw (l.drop ((tw l).length + 1))))) (d := 10 ^ ((tw (l.drop ((tw l).length + 1))).length)) g34.sat hr30 (N.mono hr28 (gr22.le.trans gr23.le)) (by omega) (by omega) (by omega)) rfl ?_)
 intro r31 h23 w37 gr24 hr31
 obtain ⟨b32, c49, b33, c50, rfl, k31, k32, u17, u18⟩ := Qn.shape hr31
 have g35 := g34.trans gr24
 refine oC (cF Tryd.call74 (give_c (q := ratOf ((decide (0 < l.length)) && (decide ((l.getD 0 0).toNat = 45))) (((readN (tw l)) * (10 ^ ((tw (l.drop ((tw l).length + 1))).length))) + (readN (tw (l.drop ((tw l).length + 1))))) (10 ^ ((tw (l.drop ((tw l).length + 1))).length))) g35.sat hr31 (by first | exact Nat.le_trans (hbxA _ (by omega) (by omega)) (by decide) | exact Nat.le_trans (hbxB _ (by omega) (by omega)) (by decide))) rfl ?_)
 intro r32 h24 w38 gr25 hr32
 obtain ⟨b34, c51, b35, c52, rfl, k33, k34, u19, u20⟩ := F.shape hr32
 have o21 := gr25.kp (gr24.kp (gr23.kp (gr22.kp (gr21.kp (gr20.kp (gr19.kp (gr15.kp ⟨o1, n1⟩)))))))
 refine oC (sA (cs := [.bool ((frK (ratOf ((decide (0 < l.length)) && (decide ((l.getD 0 0).toNat = 45))) (((readN (tw l)) * (10 ^ ((tw (l.drop ((tw l).length + 1))).length))) + (readN (tw (l.drop ((tw l).length + 1))))) (10 ^ ((tw (l.drop ((tw l).length + 1))).length)))).neg), .slice b34 ((frK (ratOf ((decide (0 < l.length)) && (decide ((l.getD 0 0).toNat = 45))) (((readN (tw l)) * (10 ^ ((tw (l.drop ((tw l).length + 1))).length))) + (readN (tw (l.drop ((tw l).length + 1))))) (10 ^ ((tw (l.drop ((tw l).length + 1))).length)))).n.length) c51, .slice b35 ((frK (ratOf ((decide (0 < l.length)) && (decide ((l.getD 0 0).toNat = 45))) (((readN (tw l)) * (10 ^ ((tw (l.drop ((tw l).length + 1))).length))) + (readN (tw (l.drop ((tw l).length + 1))))) (10 ^ ((tw (l.drop ((tw l).length + 1))).length)))).d.length) c52]) Tryd.sizeOf24 rfl rfl rfl rfl o21.1 rfl ?_)
 intro w39 p11
 refine ma (oN (Wp.ret (fin2_ret rfl (resOf_cellA (cs := [.bool ((frK (ratOf ((decide (0 < l.length)) && (decide ((l.getD 0 0).toNat = 45))) (((readN (tw l)) * (10 ^ ((tw (l.drop ((tw l).length + 1))).length))) + (readN (tw (l.drop ((tw l).length + 1))))) (10 ^ ((tw (l.drop ((tw l).length + 1))).length)))).neg), .slice b34 ((frK (ratOf ((decide (0 < l.length)) && (decide ((l.getD 0 0).toNat = 45))) (((readN (tw l)) * (10 ^ ((tw (l.drop ((tw l).length + 1))).length))) + (readN (tw (l.drop ((tw l).length + 1))))) (10 ^ ((tw (l.drop ((tw l).length + 1))).length)))).n.length) c51, .slice b35 ((frK (ratOf ((decide (0 < l.length)) && (decide ((l.getD 0 0).toNat = 45))) (((readN (tw l)) * (10 ^ ((tw (l.drop ((tw l).length + 1))).length))) + (readN (tw (l.drop ((tw l).length + 1))))) (10 ^ ((tw (l.drop ((tw l).length + 1))).length)))).d.length) c52]) Tryd.isAgg24 Tryd.sizeOf24 rfl p11.at_ (Nat.le_of_ble_eq_true rfl) rfl) (resOf_tmp (v := .int .i64 ((0 : Nat) : Int)) rfl) ?_)))
 have g36 := (g35.trans gr25).put p11 o21.2 lo2
 refine ⟨h24, g36, ?_⟩
 exact ⟨_, _, rfl, (Kn.fst ((parse_m (b := isNeg l) (by omega) rfl hmm).trans (parse_4 (by assumption) (by assumption) (by assumption) (by assumption))) (F.mk u19 u20)), (intv (congrArg Prod.snd ((parse_m (b := isNeg l) (by omega) rfl hmm).trans (parse_4 (by assumption) (by assumption) (by assumption) (by assumption)))).symm)⟩
 replace c44 : ¬ ((l.getD ((tw l).length) 0).toNat = 46) := (of_decide_eq_false c44)
 refine Wp.skip (wS (sr (mv (oC (OpW.lenS Tryd.underlying64 (l := (digs (readN (tw (l.drop ((tw l).length + 1))))).length) rfl ?_)))))
 refine oC (OpW.eqlI (a := (((digs (readN (tw (l.drop ((tw l).length + 1))))).length : Nat) : Int)) (b := ((0 : Nat) : Int)) (r := decide ((digs (readN (tw (l.drop ((tw l).length + 1))))).length = 0)) rfl rfl (eq_nat (a := (digs (readN (tw (l.drop ((tw l).length + 1))))).length) (b := 0)) (oN (Wp.cond (t := decide ((digs (readN (tw (l.drop ((tw l).length + 1))))).length = 0)) rfl (fun c53 => ?_) (fun c53 => ?_))))
 replace c53 : (digs (readN (tw (l.drop ((tw l).length + 1))))).length = 0 := (of_decide_eq_true c53)
 refine wS (fg [(2, .pointer (some ⟨b1, 0, none⟩))] rfl (fun ρ21 => (wR (oC (OpW.build (places := [(0, 1), (1, 1), (2, 1)]) (cs := [.bool false, .slice none 0 0, .slice none 0 0]) Tryd.underlying24 Tryd.zeroValue24 (fun _ => by kernel_rfl) rfl ?_)))))
 have o23 := gr19.kp (gr15.kp ⟨o1, n1⟩)
 refine oC (sA (cs := [.bool false, .slice none 0 0, .slice none 0 0]) Tryd.sizeOf24 rfl rfl rfl rfl o23.1 rfl ?_)
 intro w40 p12
 refine ma (oN (Wp.ret (fin2_ret rfl (resOf_cellA (cs := [.bool false, .slice none 0 0, .slice none 0 0]) Tryd.isAgg24 Tryd.sizeOf24 rfl p12.at_ (Nat.le_of_ble_eq_true rfl) rfl) (resOf_tmp (v := .int .i64 ((3 : Nat) : Int)) rfl) ?_)))
 have g37 := (g28.trans gr19).put p12 o23.2 lo2
 refine ⟨h18, g37, ?_⟩
 exact ⟨_, _, rfl, (Kn.fst ((parse_m (b := isNeg l) (by omega) rfl hmm).trans (parse_5 (by assumption) (by assumption) (by assumption) (by assumption) (by assumption))) (Kz _)), (intv (congrArg Prod.snd ((parse_m (b := isNeg l) (by omega) rfl hmm).trans (parse_5 (by assumption) (by assumption) (by assumption) (by assumption) (by assumption)))).symm)⟩
 replace c53 : ¬ ((digs (readN (tw (l.drop ((tw l).length + 1))))).length = 0) := (of_decide_eq_false c53)
 refine Wp.skip (wS (fg [(2, .pointer (some ⟨b1, 0, none⟩)), (4, .bool ((decide (0 < l.length)) && (decide ((l.getD 0 0).toNat = 45)))), (5, .slice b21 ((digs (readN (tw l))).length) c31), (8, .slice b27 ((digs (readN (tw (l.drop ((tw l).length + 1))))).length) c39)] rfl (fun ρ22 => (wR (mv (mv (mv ?_)))))))
 have g38 := g28.trans gr19
 refine oC (cF Tryd.call88 (reduced_c (s := (decide (0 < l.length)) && (decide ((l.getD 0 0).toNat = 45))) (n := readN (tw l)) (d := readN (tw (l.drop ((tw l).length + 1)))) g38.sat (N.mono hr19 gr19.le) hr25 (by omega) (by omega) (by omega)) rfl ?_)
 intro r33 h25 w41 gr26 hr33
 obtain ⟨b36, c54, b37, c55, rfl, k35, k36, u21, u22⟩ := Qn.shape hr33
 have g39 := g38.trans gr26
 refine oC (cF Tryd.call74 (give_c (q := ratOf ((decide (0 < l.length)) && (decide ((l.getD 0 0).toNat = 45))) (readN (tw l)) (readN (tw (l.drop ((tw l).length + 1))))) g39.sat hr33 (by first | exact Nat.le_trans (hbzA _ (by omega) (by omega) (by omega)) (by decide) | exact Nat.le_trans (hbzB _ (by omega) (by omega) (by omega)) (by decide))) rfl ?_)
 intro r34 h26 w42 gr27 hr34
 obtain ⟨b38, c56, b39, c57, rfl, k37, k38, u23, u24⟩ := F.shape hr34
 have o25 := gr27.kp (gr26.kp (gr19.kp (gr15.kp ⟨o1, n1⟩)))
 refine oC (sA (cs := [.bool ((frK (ratOf ((decide (0 < l.length)) && (decide ((l.getD 0 0).toNat = 45))) (readN (tw l)) (readN (tw (l.drop ((tw l).length + 1)))))).neg), .slice b38 ((frK (ratOf ((decide (0 < l.length)) && (decide ((l.getD 0 0).toNat = 45))) (readN (tw l)) (readN (tw (l.drop ((tw l).length + 1)))))).n.length) c56, .slice b39 ((frK (ratOf ((decide (0 < l.length)) && (decide ((l.getD 0 0).toNat = 45))) (readN (tw l)) (readN (tw (l.drop ((tw l).length + 1)))))).d.length) c57]) Tryd.sizeOf24 rfl rfl rfl rfl o25.1 rfl ?_)
 intro w43 p13
 refine ma (oN (Wp.ret (fin2_ret rfl (resOf_cellA (cs := [.bool ((frK (ratOf ((decide (0 < l.length)) && (decide ((l.getD 0 0).toNat = 45))) (readN (tw l)) (readN (tw (l.drop ((tw l).length + 1)))))).neg), .slice b38 ((frK (ratOf ((decide (0 < l.length)) && (decide ((l.getD 0 0).toNat = 45))) (readN (tw l)) (readN (tw (l.drop ((tw l).length + 1)))))).n.length) c56, .slice b39 ((frK (ratOf ((decide (0 < l.length)) && (decide ((l.getD 0 0).toNat = 45))) (readN (tw l)) (readN (tw (l.drop ((tw l).length + 1)))))).d.length) c57]) Tryd.isAgg24 Tryd.sizeOf24 rfl p13.at_ (Nat.le_of_ble_eq_true rfl) rfl) (resOf_tmp (v := .int .i64 ((0 : Nat) : Int)) rfl) ?_)))
 have g40 := (g39.trans gr27).put p13 o25.2 lo2
 refine ⟨h26, g40, ?_⟩
 exact ⟨_, _, rfl, (Kn.fst ((parse_m (b := isNeg l) (by omega) rfl hmm).trans (parse_6 (by assumption) (by assumption) (by assumption) (by assumption) (by assumption))) (F.mk u23 u24)), (intv (congrArg Prod.snd ((parse_m (b := isNeg l) (by omega) rfl hmm).trans (parse_6 (by assumption) (by assumption) (by assumption) (by assumption) (by assumption)))).symm)⟩
end Go.Ear
