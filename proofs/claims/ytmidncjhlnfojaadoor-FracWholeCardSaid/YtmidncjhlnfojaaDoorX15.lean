/- About package frac: X15. -/
import Derived.Test.YtmidncjhlnfojaaDoorNatLaw2
import Derived.Test.YtmidncjhlnfojaaDoorEarShort
import Derived.Test.YtmidncjhlnfojaaDoorProg
import Derived.Test.YtmidncjhlnfojaaDoorNatLaw3
import Derived.Test.YtmidncjhlnfojaaDoorEarFrac
import Derived.Test.YtmidncjhlnfojaaDoorEarDec
import Derived.Test.YtmidncjhlnfojaaDoorItoaLay
import Derived.Lib.ItoaMem
import Derived.Test.YtmidncjhlnfojaaDoorEarApi
import Derived.Test.YtmidncjhlnfojaaDoorEarRef2
import Derived.Test.YtmidncjhlnfojaaDoorEarLaw
import Derived.Test.YtmidncjhlnfojaaDoorEarWhole
import Derived.Test.YtmidncjhlnfojaaDoorK1
import Derived.Test.YtmidncjhlnfojaaDoorK10
import Derived.Test.YtmidncjhlnfojaaDoorK3
import Derived.Test.YtmidncjhlnfojaaDoorK4
import Derived.Test.YtmidncjhlnfojaaDoorK5
set_option linter.all false
namespace Go.Ear
open Go.Proofs
set_option maxRecDepth 20000
set_option linter.unusedVariables false
set_option maxHeartbeats 2000000
theorem Canonical_c {h : PH} {w : World} {v0 : Value} {a : Fr} (hs : Sat h w) (pv0 : F h v0 a) (hp0 : bf a ≤ 134217000) :
    Calls Tryd.prog 54 #[v0] w (Ret h w fun h' r => r = .bool (sameF a (frK a.rat))) := by
 obtain ⟨b1, c1, b2, c2, rfl, k1, k2, u1, u2⟩ := F.shape pv0
 have hbq1 := F.bq pv0
 have hbn := bf_n a
 have hbd := bf_d a
 have hbp := bf_pos a
 obtain ⟨hsn, hsd⟩ := F.szs pv0
 have hft := pv0.fit
 have h1 := sz_one
 refine calls_ear (vs := [.agg #[.bool a.neg, .slice b1 a.n.length c1, .slice b2 a.d.length c2]]) Tryd.func54 rfl rfl ?_
 have g1 := Gr.refl hs
 refine sr (oC (OpW.boxK (v := .agg #[.bool a.neg, .slice b1 a.n.length c1, .slice b2 a.d.length c2]) (arr := #[.bool a.neg, .slice b1 a.n.length c1, .slice b2 a.d.length c2]) g1.sat rfl rfl ?_))
 intro b3 h1 w1 gr1 qb1
 refine ma (oN (wS ?_))
 have g2 := g1.trans gr1
 refine Wp.dagL 8 [5, 6, 7, 8, 9, 10, 3, 4] [eqv (.pointer (some ⟨b3, 1, none⟩)), eqv (.slice b1 a.n.length c1), fun h _ x => N h x (val a.n), eqv (.pointer (some ⟨b3, 2, none⟩)), eqv (.slice b2 a.d.length c2), fun h _ x => N h x (val a.d), fun h _ x => N h x (val a.n), fun h _ x => N h x (val a.d)] mixed g2.sat rfl (by decide +kernel) ⟨sQ _, sQ _, (stab_N (val a.n)), sQ _, sQ _, (stab_N (val a.d)), (stab_N (val a.n)), (stab_N (val a.d)), trivial⟩ ?_ ?_
 intro stab
 refine ⟨?_, ?_, ?_, ?_, ?_, ?_, ?_, ?_, trivial⟩
 intro ρ1 h2 w2 g3 hdd1 hdo1
 have e1 : ρ1 1 = .pointer (some ⟨b3, 0, none⟩) := hdo1 1 rfl
 refine gP (fA (o := 1) Tryd.underlying24 rfl Tryd.sizeOf22 (by decide) e1 rfl ?_)
 exact ⟨_, h2, rfl, g3, fun j x _ p => p, rfl⟩
 intro ρ2 h3 w3 g4 hdd2 hdo2
 have e2 : ρ2 5 = .pointer (some ⟨b3, 1, none⟩) := hdd2 0 (by decide)
 have g5 := g2.trans g4
 refine gP (lO (v := .slice b1 a.n.length c1) Tryd.isAgg22 e2 (g5.sat _ _ (g4.le _ _ qb1)) rfl ?_)
 exact ⟨_, h3, rfl, g4, fun j x _ p => p, rfl⟩
 intro ρ3 h4 w4 g6 hdd3 hdo3
 have e3 : ρ3 6 = .slice b1 a.n.length c1 := hdd3 1 (by decide)
 have g7 := g2.trans g6
 refine gP (cF Tryd.call103 (trimmed_c (l := a.n) g7.sat (U.mono u1 (gr1.le.trans g6.le)) (by omega)) (cx e3 cxn) ?_)
 intro r1 h5 w5 gr2 hr1
 exact ⟨r1, h5, rfl, g6.trans gr2, fun j x _ => stab j _ _ _ _ x gr2, hr1⟩
 intro ρ4 h6 w6 g8 hdd4 hdo4
 have e4 : ρ4 1 = .pointer (some ⟨b3, 0, none⟩) := hdo4 1 rfl
 refine gP (fA (o := 2) Tryd.underlying24 rfl Tryd.sizeOf22 (by decide) e4 rfl ?_)
 exact ⟨_, h6, rfl, g8, fun j x _ p => p, rfl⟩
 intro ρ5 h7 w7 g9 hdd5 hdo5
 have e5 : ρ5 8 = .pointer (some ⟨b3, 2, none⟩) := hdd5 3 (by decide)
 have g10 := g2.trans g9
 refine gP (lO (v := .slice b2 a.d.length c2) Tryd.isAgg22 e5 (g10.sat _ _ (g9.le _ _ qb1)) rfl ?_)
 exact ⟨_, h7, rfl, g9, fun j x _ p => p, rfl⟩
 intro ρ6 h8 w8 g11 hdd6 hdo6
 have e6 : ρ6 9 = .slice b2 a.d.length c2 := hdd6 4 (by decide)
 have g12 := g2.trans g11
 refine gP (cF Tryd.call103 (trimmed_c (l := a.d) g12.sat (U.mono u2 (gr1.le.trans g11.le)) (by omega)) (cx e6 cxn) ?_)
 intro r2 h9 w9 gr3 hr2
 exact ⟨r2, h9, rfl, g11.trans gr3, fun j x _ => stab j _ _ _ _ x gr3, hr2⟩
 intro ρ7 h10 w10 g13 hdd7 hdo7
 have q1 : N h10 (ρ7 7) (val a.n) := hdd7 2 (by decide)
 refine gP (OpW.assign (v := (ρ7 7)) rfl ?_)
 exact ⟨_, h10, rfl, g13, fun j x _ p => p, q1⟩
 intro ρ8 h11 w11 g14 hdd8 hdo8
 have q2 : N h11 (ρ8 10) (val a.d) := hdd8 5 (by decide)
 refine gP (OpW.assign (v := (ρ8 10)) rfl ?_)
 exact ⟨_, h11, rfl, g14, fun j x _ p => p, q2⟩
 intro ρ9 h12 w12 g15 hdp1 hdo9
 have e7 : ρ9 1 = .pointer (some ⟨b3, 0, none⟩) := hdo9 1 rfl
 have q3 : N h12 (ρ9 3) (val a.n) := hdp1 6 rfl
 obtain ⟨x1, hx1⟩ : ∃ x, ρ9 3 = x := ⟨_, rfl⟩
 rw [hx1] at q3
 obtain ⟨b4, c3, rfl, k3⟩ := N.shape q3
 have q4 : N h12 (ρ9 4) (val a.d) := hdp1 7 rfl
 obtain ⟨x2, hx2⟩ : ∃ x, ρ9 4 = x := ⟨_, rfl⟩
 rw [hx2] at q4
 obtain ⟨b5, c4, rfl, k4⟩ := N.shape q4
 refine Ops.forget [(1, .pointer (some ⟨b3, 0, none⟩)), (3, .slice b4 ((digs (val a.n)).length) c3), (4, .slice b5 ((digs (val a.d)).length) c4)] ⟨e7, hx1, hx2, trivial⟩ (fun ρ10 => (oN (wS (sr (Ops.cut (fun ρ' w' => w12 = w' ∧ ∃ ρb, ρ' = upds ρb [(1, .pointer (some ⟨b3, 0, none⟩)), (3, .slice b4 ((digs (val a.n)).length) c3), (4, .slice b5 ((digs (val a.d)).length) c4), (35, .bool ((decide ((digs (val a.n)).length ≠ a.n.length)) || ((decide ((digs (val a.d)).length ≠ a.d.length)) || ((decide ((digs (val a.d)).length = 1)) && (decide ((digs (val a.d)).getD 0 0 = 1))))))]) ?_ ?_)))))
 refine mv (oC (OpW.lenS Tryd.underlying64 (l := (digs (val a.n)).length) rfl ?_))
 refine oC (fA (o := 1) Tryd.underlying24 rfl Tryd.sizeOf22 (by decide) rfl rfl ?_)
 have g16 := g2.trans g15
 refine oC (lO (v := .slice b1 a.n.length c1) Tryd.isAgg22 rfl (g16.sat _ _ (g15.le _ _ qb1)) rfl ?_)
 refine oC (OpW.lenS Tryd.underlying22 (l := a.n.length) rfl ?_)
 refine oC (OpW.neqI (a := (((digs (val a.n)).length : Nat) : Int)) (b := ((a.n.length : Nat) : Int)) (r := decide ((digs (val a.n)).length ≠ a.n.length)) rfl rfl (ne_nat (a := (digs (val a.n)).length) (b := a.n.length)) (mv ?_))
 cases c5 : (decide ((digs (val a.n)).length ≠ a.n.length))
 replace c5 : ¬ ((digs (val a.n)).length ≠ a.n.length) := (of_decide_eq_false c5)
 refine oL rfl rfl rfl (OpW.move (v := .slice b5 ((digs (val a.d)).length) c4) rfl ?_)
 refine oL rfl rfl rfl (OpW.lenS Tryd.underlying64 (l := (digs (val a.d)).length) rfl ?_)
 refine oL rfl rfl rfl (fA (o := 2) Tryd.underlying24 rfl Tryd.sizeOf22 (by decide) rfl rfl ?_)
 refine oL rfl rfl rfl (lO (v := .slice b2 a.d.length c2) Tryd.isAgg22 rfl (g16.sat _ _ (g15.le _ _ qb1)) rfl ?_)
 refine oL rfl rfl rfl (OpW.lenS Tryd.underlying22 (l := a.d.length) rfl ?_)
 refine oL rfl rfl rfl (OpW.neqI (a := (((digs (val a.d)).length : Nat) : Int)) (b := ((a.d.length : Nat) : Int)) (r := decide ((digs (val a.d)).length ≠ a.d.length)) rfl rfl (ne_nat (a := (digs (val a.d)).length) (b := a.d.length)) ?_)
 refine oC (pF (v := .bool (decide ((digs (val a.d)).length ≠ a.d.length))) rfl rfl (mv ?_))
 cases c6 : (decide ((digs (val a.d)).length ≠ a.d.length))
 replace c6 : ¬ ((digs (val a.d)).length ≠ a.d.length) := (of_decide_eq_false c6)
 refine oL rfl rfl rfl (OpW.move (v := .slice b5 ((digs (val a.d)).length) c4) rfl ?_)
 refine oL rfl rfl rfl (OpW.lenS Tryd.underlying64 (l := (digs (val a.d)).length) rfl ?_)
 refine oL rfl rfl rfl (OpW.eqlI (a := (((digs (val a.d)).length : Nat) : Int)) (b := ((1 : Nat) : Int)) (r := decide ((digs (val a.d)).length = 1)) rfl rfl (eq_nat (a := (digs (val a.d)).length) (b := 1)) ?_)
 refine oL rfl rfl rfl (OpW.move (v := .bool (decide ((digs (val a.d)).length = 1))) rfl ?_)
 cases c7 : (decide ((digs (val a.d)).length = 1))
 replace c7 : ¬ ((digs (val a.d)).length = 1) := (of_decide_eq_false c7)
 refine oD rfl rfl rfl rfl (oD rfl rfl rfl rfl (oD rfl rfl rfl rfl (oD rfl rfl rfl rfl (oL rfl rfl rfl (pF (v := .bool false) rfl rfl ?_)))))
 refine oC (pF (v := .bool false) rfl rfl (oN ?_))
 exact ⟨rfl, _, nm rfl⟩
 replace c7 : (digs (val a.d)).length = 1 := (of_decide_eq_true c7)
 refine oL rfl rfl rfl (OpW.move (v := .slice b5 ((digs (val a.d)).length) c4) rfl ?_)
 refine oL rfl rfl rfl (OpW.indexU (i := ((0 : Nat) : Int)) (j := 0) Tryd.underlying64 Tryd.sizeOf51 rfl q4 rfl (by omega) (by omega) ?_)
 intro b6 o1 a1 e8 z1 qb2 qv1
 have bd1 := Fit.getD (q4).1 0
 refine oL rfl rfl rfl (lO (v := .int .u32 (((digs (val a.d)).getD 0 0 : Nat) : Int)) Tryd.isAgg51 rfl (g16.sat _ _ qb2) qv1 ?_)
 refine oL rfl rfl rfl (OpW.eqlI (a := (((digs (val a.d)).getD 0 0 : Nat) : Int)) (b := ((1 : Nat) : Int)) (r := decide ((digs (val a.d)).getD 0 0 = 1)) rfl rfl (eq_nat (a := (digs (val a.d)).getD 0 0) (b := 1)) ?_)
 refine oL rfl rfl rfl (pT (v := .bool (decide ((digs (val a.d)).getD 0 0 = 1))) rfl rfl ?_)
 refine oC (pF (v := .bool (decide ((digs (val a.d)).getD 0 0 = 1))) rfl rfl (oN ?_))
 exact ⟨rfl, _, nm rfl⟩
 replace c6 : (digs (val a.d)).length ≠ a.d.length := (of_decide_eq_true c6)
 refine oD rfl rfl rfl rfl (oD rfl rfl rfl rfl (oD rfl rfl rfl rfl (oD rfl rfl rfl rfl (Ops.dead0 rfl rfl rfl (Ops.dead0 rfl rfl rfl (Ops.dead0 rfl rfl rfl (Ops.dead0 rfl rfl rfl (oD rfl rfl rfl rfl (oC (pT (v := .bool true) rfl rfl (oN ?_)))))))))))
 exact ⟨rfl, _, nm rfl⟩
 replace c5 : (digs (val a.n)).length ≠ a.n.length := (of_decide_eq_true c5)
 refine oD rfl rfl rfl rfl (oD rfl rfl rfl rfl (oD rfl rfl rfl rfl (oD rfl rfl rfl rfl (oD rfl rfl rfl rfl (oD rfl rfl rfl rfl (oC (pT (v := .bool true) rfl rfl (mv (oD rfl rfl rfl rfl (oD rfl rfl rfl rfl (oD rfl rfl rfl rfl (oD rfl rfl rfl rfl (Ops.dead0 rfl rfl rfl (Ops.dead0 rfl rfl rfl (Ops.dead0 rfl rfl rfl (Ops.dead0 rfl rfl rfl (oD rfl rfl rfl rfl (oC (pT (v := .bool true) rfl rfl (oN ?_))))))))))))))))))))
 exact ⟨rfl, _, nm rfl⟩
 rintro ρ11 w13 ⟨rfl, ρ12, rfl⟩
 refine Wp.cond (t := (decide ((digs (val a.n)).length ≠ a.n.length)) || ((decide ((digs (val a.d)).length ≠ a.d.length)) || ((decide ((digs (val a.d)).length = 1)) && (decide ((digs (val a.d)).getD 0 0 = 1))))) rfl (fun c8 => ?_) (fun c8 => ?_)
 replace c8 : ((digs (val a.n)).length ≠ a.n.length) ∨ (((digs (val a.d)).length ≠ a.d.length) ∨ (((digs (val a.d)).length = 1) ∧ ((digs (val a.d)).getD 0 0 = 1))) := ((or_t c8).imp (fun h => (of_decide_eq_true h)) (fun h => ((or_t h).imp (fun h => (of_decide_eq_true h)) (fun h => ⟨(of_decide_eq_true (and_l h)), (of_decide_eq_true (and_r h))⟩))))
 have hyes : ((digs (val a.n)).length ≠ a.n.length ∨ (digs (val a.d)).length ≠ a.d.length ∨ ((digs (val a.d)).length = 1 ∧ (digs (val a.d)).getD 0 0 = 1)) := by have hx := c8; omega
 refine sr (ma (oN (Wp.ret (fin1_ret rfl (resOf_tmp (v := .bool false) rfl) ?_))))
 have g17 := g2.trans g15
 refine ⟨h12, g17, ?_⟩
 exact (boolv (canon_f hyes).symm)
 replace c8 : ¬ (((digs (val a.n)).length ≠ a.n.length) ∨ (((digs (val a.d)).length ≠ a.d.length) ∨ (((digs (val a.d)).length = 1) ∧ ((digs (val a.d)).getD 0 0 = 1)))) := (fun pq => pq.elim (of_decide_eq_false (or_l c8)) (fun pq => pq.elim (of_decide_eq_false (or_l (or_r c8))) (fun pq => (and_f (or_r (or_r c8))).elim (fun h => (of_decide_eq_false h) pq.1) (fun h => (of_decide_eq_false h) pq.2))))
 have hno : ¬ ((digs (val a.n)).length ≠ a.n.length ∨ (digs (val a.d)).length ≠ a.d.length ∨ ((digs (val a.d)).length = 1 ∧ (digs (val a.d)).getD 0 0 = 1)) := by have hx := c8; omega
 refine Wp.skip (wS (sr (mv (oC (OpW.lenS Tryd.underlying64 (l := (digs (val a.n)).length) rfl ?_)))))
 refine oC (OpW.eqlI (a := (((digs (val a.n)).length : Nat) : Int)) (b := ((0 : Nat) : Int)) (r := decide ((digs (val a.n)).length = 0)) rfl rfl (eq_nat (a := (digs (val a.n)).length) (b := 0)) (oN (Wp.cond (t := decide ((digs (val a.n)).length = 0)) rfl (fun c9 => ?_) (fun c9 => ?_))))
 replace c9 : (digs (val a.n)).length = 0 := (of_decide_eq_true c9)
 refine sr (Ops.cut (fun ρ' w' => w12 = w' ∧ ∃ ρb, ρ' = upds ρb [(2, .bool ((decide ((digs (val a.d)).length = 0)) && (!(a.neg))))]) ?_ ?_)
 refine mv (oC (OpW.lenS Tryd.underlying64 (l := (digs (val a.d)).length) rfl ?_))
 refine oC (OpW.eqlI (a := (((digs (val a.d)).length : Nat) : Int)) (b := ((0 : Nat) : Int)) (r := decide ((digs (val a.d)).length = 0)) rfl rfl (eq_nat (a := (digs (val a.d)).length) (b := 0)) (mv ?_))
 cases c10 : (decide ((digs (val a.d)).length = 0))
 replace c10 : ¬ ((digs (val a.d)).length = 0) := (of_decide_eq_false c10)
 refine oD rfl rfl rfl rfl (oD rfl rfl rfl rfl (oD rfl rfl rfl rfl (oC (pF (v := .bool false) rfl rfl (ma (oN ?_))))))
 exact ⟨rfl, _, nm rfl⟩
 replace c10 : (digs (val a.d)).length = 0 := (of_decide_eq_true c10)
 refine oL rfl rfl rfl (fA (o := 0) Tryd.underlying24 rfl Tryd.sizeOf4 (by decide) rfl rfl ?_)
 have g18 := g2.trans g15
 refine oL rfl rfl rfl (lO (v := .bool a.neg) Tryd.isAgg4 rfl (g18.sat _ _ (g15.le _ _ qb1)) rfl ?_)
 refine oL rfl rfl rfl (OpW.notB (a := a.neg) (r := !(a.neg)) rfl rfl ?_)
 refine oC (pT (v := .bool (!(a.neg))) rfl rfl (ma (oN ?_)))
 exact ⟨rfl, _, nm rfl⟩
 rintro ρ13 w14 ⟨rfl, ρ14, rfl⟩
 refine Wp.ret (fin1_ret rfl (resOf_tmp (v := .bool ((decide ((digs (val a.d)).length = 0)) && (!(a.neg)))) rfl) ?_)
 have g19 := g2.trans g15
 refine ⟨h12, g19, ?_⟩
 exact (boolv (canon_0 hft.2 hno (by assumption)).symm)
 replace c9 : ¬ ((digs (val a.n)).length = 0) := (of_decide_eq_false c9)
 have hn0 := c9
 have hv0 : val a.n ≠ 0 := fun e => hn0 (len_zero.2 e)
 have hgs := sz_mono (Nat.gcd_le_left (val a.d) (Nat.pos_of_ne_zero hv0))
 refine Wp.skip (sr (mv (oC (OpW.lenS Tryd.underlying64 (l := (digs (val a.d)).length) rfl ?_))))
 refine oC (OpW.eqlI (a := (((digs (val a.d)).length : Nat) : Int)) (b := ((0 : Nat) : Int)) (r := decide ((digs (val a.d)).length = 0)) rfl rfl (eq_nat (a := (digs (val a.d)).length) (b := 0)) (mv ?_))
 cases c11 : (decide ((digs (val a.d)).length = 0))
 replace c11 : ¬ ((digs (val a.d)).length = 0) := (of_decide_eq_false c11)
 refine oL rfl rfl rfl (OpW.move (v := .slice b4 ((digs (val a.n)).length) c3) rfl ?_)
 refine oL rfl rfl rfl (OpW.move (v := .slice b5 ((digs (val a.d)).length) c4) rfl ?_)
 have g20 := g2.trans g15
 refine oL rfl rfl rfl (cF Tryd.call104 (gcd_c (a := val a.n) (b := val a.d) g20.sat q3 q4 (by omega) (by omega)) rfl ?_)
 intro r3 h13 w15 gr4 hr3
 obtain ⟨b7, c12, rfl, k5⟩ := N.shape hr3
 have g21 := g20.trans gr4
 refine oL rfl rfl rfl (cF Tryd.call86 (small_c (n := 1) g21.sat  (by omega)) rfl ?_)
 intro r4 h14 w16 gr5 hr4
 obtain ⟨b8, c13, rfl, k6⟩ := N.shape hr4
 have g22 := g21.trans gr5
 refine oL rfl rfl rfl (cF Tryd.call85 (compare_c (a := Nat.gcd (val a.n) (val a.d)) (b := 1) g22.sat (N.mono hr3 gr5.le) hr4 (by omega) (by omega)) rfl ?_)
 intro r5 h15 w17 gr6 hr5
 subst hr5
 refine oL rfl rfl rfl (OpW.eqlI (a := (cmpN (Nat.gcd (val a.n) (val a.d)) 1)) (b := ((0 : Nat) : Int)) (r := decide ((cmpN (Nat.gcd (val a.n) (val a.d)) 1) = ((0 : Nat) : Int))) rfl rfl rfl ?_)
 refine oC (pF (v := .bool (decide ((cmpN (Nat.gcd (val a.n) (val a.d)) 1) = ((0 : Nat) : Int)))) rfl rfl (ma (oN (Wp.ret (fin1_ret rfl (resOf_tmp (v := .bool (decide ((cmpN (Nat.gcd (val a.n) (val a.d)) 1) = ((0 : Nat) : Int)))) rfl) ?_)))))
 have g23 := g22.trans gr6
 refine ⟨h15, g23, ?_⟩
 exact (boolv (by rw [canon_n hft.1 hft.2 hno hn0, decide_eq_false (p := (digs (val a.d)).length = 0) (by assumption), Bool.false_or]; exact decide_eq_decide.2 cmpN_one))
 replace c11 : (digs (val a.d)).length = 0 := (of_decide_eq_true c11)
 refine oD rfl rfl rfl rfl (oD rfl rfl rfl rfl (oD rfl rfl rfl rfl (oD rfl rfl rfl rfl (oD rfl rfl rfl rfl (oD rfl rfl rfl rfl (oC (pT (v := .bool true) rfl rfl (ma (oN (Wp.ret (fin1_ret rfl (resOf_tmp (v := .bool true) rfl) ?_)))))))))))
 have g24 := g2.trans g15
 refine ⟨h12, g24, ?_⟩
 exact (boolv (by rw [canon_n hft.1 hft.2 hno hn0, decide_eq_true (p := (digs (val a.d)).length = 0) (by assumption), Bool.true_or]))
theorem Whole_c {h : PH} {w : World} {v0 : Value} {a : Fr} (hs : Sat h w) (pv0 : F h v0 a) (hp0 : bf a ≤ 134217000) :
    Calls Tryd.prog 59 #[v0] w (Ret h w fun h' r => ∃ x1 x2, r = .tuple #[x1, x2] ∧ x1 = .int .i64 (wholeQ a.rat) ∧ x2 = .int .i64 (wholeE a.rat)) := by
 obtain ⟨b1, c1, b2, c2, rfl, k1, k2, u1, u2⟩ := F.shape pv0
 have hbq1 := F.bq pv0
 have hbn := bf_n a
 have hbd := bf_d a
 have hbp := bf_pos a
 have hfl := bq_floor a.rat
 have hq1 := bq_num ((a.rat.floor : Int) : Rat)
 have hF : ((a.rat.floor : Int) : Rat).num = a.rat.floor := Rat.num_intCast _
 have hd0 : (digs (((a.rat.floor : Int) : Rat).num.natAbs)).getD 0 0 < 4294967296 := Fit.getD (digs_fit _) 0
 have hd1 : (digs (((a.rat.floor : Int) : Rat).num.natAbs)).getD 1 0 < 4294967296 := Fit.getD (digs_fit _) 1
 have hsh := sh64 hd1
 have hbz := bitlen_sz (((a.rat.floor : Int) : Rat).num.natAbs)
 refine calls_ear (vs := [.agg #[.bool a.neg, .slice b1 a.n.length c1, .slice b2 a.d.length c2]]) Tryd.func59 rfl rfl ?_
 have g1 := Gr.refl hs
 refine sr (oC (OpW.boxK (v := .agg #[.bool a.neg, .slice b1 a.n.length c1, .slice b2 a.d.length c2]) (arr := #[.bool a.neg, .slice b1 a.n.length c1, .slice b2 a.d.length c2]) g1.sat rfl rfl ?_))
 intro b3 h1 w1 gr1 qb1
 refine ma (ma (oN (sr ?_)))
 have g2 := g1.trans gr1
 refine oC (lA (cs := [.bool a.neg, .slice b1 a.n.length c1, .slice b2 a.d.length c2]) Tryd.isAgg24 Tryd.sizeOf24 rfl (g2.sat _ _ qb1) rfl rfl ?_)
 refine oC (cF Tryd.call70 (take_c (f := a) g2.sat (F.mk (U.mono u1 gr1.le) (U.mono u2 gr1.le)) (by omega) (by omega)) rfl ?_)
 intro r1 h2 w2 gr2 hr1
 obtain ⟨b4, c3, b5, c4, rfl, k3, k4, u3, u4⟩ := Qn.shape hr1
 have g3 := g2.trans gr2
 refine oC (cF Tryd.call80 (floor_c (q := a.rat) g3.sat hr1 (by omega)) rfl ?_)
 intro r2 h3 w3 gr3 hr2
 obtain ⟨b6, c5, b7, c6, rfl, k5, k6, u5, u6⟩ := Qn.shape hr2
 have g4 := g3.trans gr3
 refine oC (OpW.allocO (arr := #[.bool false, .slice none 0 0, .slice none 0 0]) g4.sat Tryd.zeroValue66 rfl ?_)
 intro b8 w4 gr4 n1 lo1 o1
 have lo2 := Nat.le_trans g4.ext.size lo1
 refine oC (sA (cs := [.bool (decide (((a.rat.floor : Int) : Rat).num < 0)), .slice b6 ((digs (((a.rat.floor : Int) : Rat).num.natAbs)).length) c5, .slice b7 ((digs (((a.rat.floor : Int) : Rat).den)).length) c6]) Tryd.sizeOf66 rfl rfl rfl rfl o1 rfl ?_)
 intro w5 p1
 refine oN (wS (sr (oC (fA (o := 1) Tryd.underlying66 rfl Tryd.sizeOf64 (by decide) rfl rfl ?_))))
 refine oC (lO (v := .slice b6 ((digs (((a.rat.floor : Int) : Rat).num.natAbs)).length) c5) Tryd.isAgg64 rfl p1.at_ rfl ?_)
 have g5 := (g4.trans gr4).put p1 n1 lo2
 refine oC (cF Tryd.call105 (size_c (a := ((a.rat.floor : Int) : Rat).num.natAbs) g5.sat u5 (by omega)) rfl ?_)
 intro r3 h4 w6 gr5 hr3
 subst hr3
 refine oC (OpW.gtr (a := ((bitlen (((a.rat.floor : Int) : Rat).num.natAbs) : Nat) : Int)) (b := ((64 : Nat) : Int)) (r := decide (64 < bitlen (((a.rat.floor : Int) : Rat).num.natAbs))) rfl rfl (lt_nat (a := 64) (b := bitlen (((a.rat.floor : Int) : Rat).num.natAbs))) (oN (Wp.cond (t := decide (64 < bitlen (((a.rat.floor : Int) : Rat).num.natAbs))) rfl (fun c7 => ?_) (fun c7 => ?_))))
 replace c7 : 64 < bitlen (((a.rat.floor : Int) : Rat).num.natAbs) := (of_decide_eq_true c7)
 have hbig := big64 c7
 refine wS (fg [] rfl (fun ρ1 => (wR (ma (ma (oN (Wp.ret (fin2_ret rfl (resOf_tmp (v := .int .i64 ((0 : Nat) : Int)) rfl) (resOf_tmp (v := .int .i64 ((6 : Nat) : Int)) rfl) ?_))))))))
 have g6 := g5.trans gr5
 refine ⟨h4, g6, ?_⟩
 exact ⟨_, _, rfl, (intv (by unfold wholeQ; rw [if_neg (by omega)]; rfl)), (intv (by unfold wholeE; rw [if_neg (by omega)]; rfl))⟩
 replace c7 : ¬ (64 < bitlen (((a.rat.floor : Int) : Rat).num.natAbs)) := (of_decide_eq_false c7)
 have hlt := lt64 (Nat.le_of_not_lt c7)
 refine Wp.skip (wS (fg [(4, .pointer (some ⟨b8, 0, none⟩))] rfl (fun ρ2 => ?_)))
 have g7 := g5.trans gr5
 refine Wp.dagL 9 [13, 14, 15, 16, 17, 18, 19, 20, 5] [eqv (.pointer (some ⟨b8, 1, none⟩)), eqv (.slice b6 ((digs (((a.rat.floor : Int) : Rat).num.natAbs)).length) c5), eqv (.int .u64 (((digs (((a.rat.floor : Int) : Rat).num.natAbs)).getD 0 0 : Nat) : Int)), eqv (.pointer (some ⟨b8, 1, none⟩)), eqv (.slice b6 ((digs (((a.rat.floor : Int) : Rat).num.natAbs)).length) c5), eqv (.int .u64 (((digs (((a.rat.floor : Int) : Rat).num.natAbs)).getD 1 0 : Nat) : Int)), eqv (.int .u64 ((((digs (((a.rat.floor : Int) : Rat).num.natAbs)).getD 1 0) * 2 ^ 32 : Nat) : Int)), eqv (.int .u64 ((((a.rat.floor : Int) : Rat).num.natAbs : Nat) : Int)), eqv (.int .u64 ((((a.rat.floor : Int) : Rat).num.natAbs : Nat) : Int))] mixed g7.sat rfl (by decide +kernel) ⟨sQ _, sQ _, sQ _, sQ _, sQ _, sQ _, sQ _, sQ _, sQ _, trivial⟩ ?_ ?_
 intro stab
 refine ⟨?_, ?_, ?_, ?_, ?_, ?_, ?_, ?_, ?_, trivial⟩
 intro ρ3 h5 w7 g8 hdd1 hdo1
 have e1 : ρ3 4 = .pointer (some ⟨b8, 0, none⟩) := hdo1 4 rfl
 refine gP (fA (o := 1) Tryd.underlying66 rfl Tryd.sizeOf64 (by decide) e1 rfl ?_)
 exact ⟨_, h5, rfl, g8, fun j x _ p => p, rfl⟩
 intro ρ4 h6 w8 g9 hdd2 hdo2
 have e2 : ρ4 13 = .pointer (some ⟨b8, 1, none⟩) := hdd2 0 (by decide)
 have o3 := g9.kp (gr5.kp ⟨p1.at_, n1⟩)
 refine gP (lO (v := .slice b6 ((digs (((a.rat.floor : Int) : Rat).num.natAbs)).length) c5) Tryd.isAgg64 e2 o3.1 rfl ?_)
 exact ⟨_, h6, rfl, g9, fun j x _ p => p, rfl⟩
 intro ρ5 h7 w9 g10 hdd3 hdo3
 have e3 : ρ5 14 = .slice b6 ((digs (((a.rat.floor : Int) : Rat).num.natAbs)).length) c5 := hdd3 1 (by decide)
 have g11 := g7.trans g10
 refine gP (cF Tryd.call107 (digit_c (a := ((a.rat.floor : Int) : Rat).num.natAbs) (i := 0) g11.sat (N.mono u5 (gr5.le.trans g10.le)) (by omega) (by omega)) (cx e3 (cx rfl cxn)) ?_)
 intro r4 h8 w10 gr6 hr4
 exact ⟨r4, h8, rfl, g10.trans gr6, fun j x _ => stab j _ _ _ _ x gr6, hr4⟩
 intro ρ6 h9 w11 g12 hdd4 hdo4
 have e4 : ρ6 4 = .pointer (some ⟨b8, 0, none⟩) := hdo4 4 rfl
 refine gP (fA (o := 1) Tryd.underlying66 rfl Tryd.sizeOf64 (by decide) e4 rfl ?_)
 exact ⟨_, h9, rfl, g12, fun j x _ p => p, rfl⟩
 intro ρ7 h10 w12 g13 hdd5 hdo5
 have e5 : ρ7 16 = .pointer (some ⟨b8, 1, none⟩) := hdd5 3 (by decide)
 have o4 := g13.kp (gr5.kp ⟨p1.at_, n1⟩)
 refine gP (lO (v := .slice b6 ((digs (((a.rat.floor : Int) : Rat).num.natAbs)).length) c5) Tryd.isAgg64 e5 o4.1 rfl ?_)
 exact ⟨_, h10, rfl, g13, fun j x _ p => p, rfl⟩
 intro ρ8 h11 w13 g14 hdd6 hdo6
 have e6 : ρ8 17 = .slice b6 ((digs (((a.rat.floor : Int) : Rat).num.natAbs)).length) c5 := hdd6 4 (by decide)
 have g15 := g7.trans g14
 refine gP (cF Tryd.call107 (digit_c (a := ((a.rat.floor : Int) : Rat).num.natAbs) (i := 1) g15.sat (N.mono u5 (gr5.le.trans g14.le)) (by omega) (by omega)) (cx e6 (cx rfl cxn)) ?_)
 intro r5 h12 w14 gr7 hr5
 exact ⟨r5, h12, rfl, g14.trans gr7, fun j x _ => stab j _ _ _ _ x gr7, hr5⟩
 intro ρ9 h13 w15 g16 hdd7 hdo7
 have e7 : ρ9 18 = .int .u64 (((digs (((a.rat.floor : Int) : Rat).num.natAbs)).getD 1 0 : Nat) : Int) := hdd7 5 (by decide)
 refine gP (OpW.shift (a := (((digs (((a.rat.floor : Int) : Rat).num.natAbs)).getD 1 0 : Nat) : Int)) (b := ((32 : Nat) : Int)) (r := ((((digs (((a.rat.floor : Int) : Rat).num.natAbs)).getD 1 0) * 2 ^ 32 : Nat) : Int)) (.inl rfl) e7 rfl (shl_nat (by decide) (conv_u64 (Nat.le_of_lt_succ hsh))) ?_)
 exact ⟨_, h13, rfl, g16, fun j x _ p => p, rfl⟩
 intro ρ10 h14 w16 g17 hdd8 hdo8
 have e8 : ρ10 15 = .int .u64 (((digs (((a.rat.floor : Int) : Rat).num.natAbs)).getD 0 0 : Nat) : Int) := hdd8 2 (by decide)
 have e9 : ρ10 19 = .int .u64 ((((digs (((a.rat.floor : Int) : Rat).num.natAbs)).getD 1 0) * 2 ^ 32 : Nat) : Int) := hdd8 6 (by decide)
 refine gP (OpW.bits (a := (((digs (((a.rat.floor : Int) : Rat).num.natAbs)).getD 0 0 : Nat) : Int)) (b := ((((digs (((a.rat.floor : Int) : Rat).num.natAbs)).getD 1 0) * 2 ^ 32 : Nat) : Int)) (r := ((((a.rat.floor : Int) : Rat).num.natAbs : Nat) : Int)) (.inr (.inl rfl)) e8 e9 (fun w => (or_u64 (a := (digs (((a.rat.floor : Int) : Rat).num.natAbs)).getD 0 0) (b := (digs (((a.rat.floor : Int) : Rat).num.natAbs)).getD 1 0 * 2 ^ 32) (by omega) hsh w).trans (by rw [or_two hlt])) ?_)
 exact ⟨_, h14, rfl, g17, fun j x _ p => p, rfl⟩
 intro ρ11 h15 w17 g18 hdd9 hdo9
 have e10 : ρ11 20 = .int .u64 ((((a.rat.floor : Int) : Rat).num.natAbs : Nat) : Int) := hdd9 7 (by decide)
 refine gP (OpW.assign (v := .int .u64 ((((a.rat.floor : Int) : Rat).num.natAbs : Nat) : Int)) e10 ?_)
 exact ⟨_, h15, rfl, g18, fun j x _ p => p, rfl⟩
 intro ρ12 h16 w18 g19 hdp1 hdo10
 have e11 : ρ12 4 = .pointer (some ⟨b8, 0, none⟩) := hdo10 4 rfl
 have e12 : ρ12 5 = .int .u64 ((((a.rat.floor : Int) : Rat).num.natAbs : Nat) : Int) := hdp1 8 rfl
 refine Ops.forget [(4, .pointer (some ⟨b8, 0, none⟩)), (5, .int .u64 ((((a.rat.floor : Int) : Rat).num.natAbs : Nat) : Int))] ⟨e11, e12, trivial⟩ (fun ρ13 => (oN (wS (Wp.block (sr (Ops.cut (fun ρ' w' => w18 = w' ∧ ∃ ρb, ρ' = upds ρb [(4, .pointer (some ⟨b8, 0, none⟩)), (5, .int .u64 ((((a.rat.floor : Int) : Rat).num.natAbs : Nat) : Int)), (21, .bool ((decide (((a.rat.floor : Int) : Rat).num < 0)) && (decide (((a.rat.floor : Int) : Rat).num.natAbs ≤ 9223372036854775808))))]) ?_ ?_))))))
 refine oC (fA (o := 0) Tryd.underlying66 rfl Tryd.sizeOf4 (by decide) rfl rfl ?_)
 have o5 := g19.kp (gr5.kp ⟨p1.at_, n1⟩)
 refine oC (lO (v := .bool (decide (((a.rat.floor : Int) : Rat).num < 0))) Tryd.isAgg4 rfl o5.1 rfl (mv ?_))
 cases c8 : (decide (((a.rat.floor : Int) : Rat).num < 0))
 replace c8 : ¬ (((a.rat.floor : Int) : Rat).num < 0) := (of_decide_eq_false c8)
 refine oD rfl rfl rfl rfl (oD rfl rfl rfl rfl (oC (pF (v := .bool false) rfl rfl (ma (oN ?_)))))
 exact ⟨rfl, _, nm rfl⟩
 replace c8 : ((a.rat.floor : Int) : Rat).num < 0 := (of_decide_eq_true c8)
 refine oL rfl rfl rfl (OpW.move (v := .int .u64 ((((a.rat.floor : Int) : Rat).num.natAbs : Nat) : Int)) rfl ?_)
 refine oL rfl rfl rfl (OpW.leq (a := ((((a.rat.floor : Int) : Rat).num.natAbs : Nat) : Int)) (b := ((9223372036854775808 : Nat) : Int)) (r := decide (((a.rat.floor : Int) : Rat).num.natAbs ≤ 9223372036854775808)) rfl rfl (le_nat (a := ((a.rat.floor : Int) : Rat).num.natAbs) (b := 9223372036854775808)) ?_)
 refine oC (pT (v := .bool (decide (((a.rat.floor : Int) : Rat).num.natAbs ≤ 9223372036854775808))) rfl rfl (ma (oN ?_)))
 exact ⟨rfl, _, nm rfl⟩
 rintro ρ14 w19 ⟨rfl, ρ15, rfl⟩
 refine Wp.cond (t := (decide (((a.rat.floor : Int) : Rat).num < 0)) && (decide (((a.rat.floor : Int) : Rat).num.natAbs ≤ 9223372036854775808))) rfl (fun c9 => ?_) (fun c9 => ?_)
 replace c9 : (((a.rat.floor : Int) : Rat).num < 0) ∧ (((a.rat.floor : Int) : Rat).num.natAbs ≤ 9223372036854775808) := ⟨(of_decide_eq_true (and_l c9)), (of_decide_eq_true (and_r c9))⟩
 refine sr (mv (oC (OpW.sub (a := ((((a.rat.floor : Int) : Rat).num.natAbs : Nat) : Int)) (b := ((1 : Nat) : Int)) (r := (((((a.rat.floor : Int) : Rat).num.natAbs) - 1 : Nat) : Int)) rfl rfl (sub_u64 (a := ((a.rat.floor : Int) : Rat).num.natAbs) (b := 1) (by omega) (by omega)) ?_)))
 refine oC (OpW.convI (a := (((((a.rat.floor : Int) : Rat).num.natAbs) - 1 : Nat) : Int)) (r := (((((a.rat.floor : Int) : Rat).num.natAbs) - 1 : Nat) : Int)) Tryd.underlying77 Tryd.underlying3 rfl (conv_i64 (by omega)) ?_)
 refine oC (OpW.negI (a := (((((a.rat.floor : Int) : Rat).num.natAbs) - 1 : Nat) : Int)) (r := (-(((((a.rat.floor : Int) : Rat).num.natAbs) - 1 : Nat) : Int))) rfl ((in_i64 (by omega)).trans (by omega)) ?_)
 refine oC (OpW.sub (a := (-(((((a.rat.floor : Int) : Rat).num.natAbs) - 1 : Nat) : Int))) (b := ((1 : Nat) : Int)) (r := ((-(((((a.rat.floor : Int) : Rat).num.natAbs) - 1 : Nat) : Int)) - ((1 : Nat) : Int))) rfl rfl (in_i64 (by omega)) (ma (ma (oN (Wp.ret (fin2_ret rfl (resOf_tmp (v := .int .i64 ((-(((((a.rat.floor : Int) : Rat).num.natAbs) - 1 : Nat) : Int)) - ((1 : Nat) : Int))) rfl) (resOf_tmp (v := .int .i64 ((0 : Nat) : Int)) rfl) ?_))))))
 have g20 := g7.trans g19
 refine ⟨h16, g20, ?_⟩
 exact ⟨_, _, rfl, (intv (by unfold wholeQ; rw [if_pos (by omega)]; omega)), (intv (by unfold wholeE; rw [if_pos (by omega)]; rfl))⟩
 replace c9 : ¬ ((((a.rat.floor : Int) : Rat).num < 0) ∧ (((a.rat.floor : Int) : Rat).num.natAbs ≤ 9223372036854775808)) := (fun pq => (and_f c9).elim (fun h => (of_decide_eq_false h) pq.1) (fun h => (of_decide_eq_false h) pq.2))
 refine sr (Ops.cut (fun ρ' w' => w18 = w' ∧ ∃ ρb, ρ' = upds ρb [(5, .int .u64 ((((a.rat.floor : Int) : Rat).num.natAbs : Nat) : Int)), (33, .bool ((!(decide (((a.rat.floor : Int) : Rat).num < 0))) && (decide (((a.rat.floor : Int) : Rat).num.natAbs < 9223372036854775808))))]) ?_ ?_)
 refine oC (fA (o := 0) Tryd.underlying66 rfl Tryd.sizeOf4 (by decide) rfl rfl ?_)
 have o6 := g19.kp (gr5.kp ⟨p1.at_, n1⟩)
 refine oC (lO (v := .bool (decide (((a.rat.floor : Int) : Rat).num < 0))) Tryd.isAgg4 rfl o6.1 rfl ?_)
 refine oC (OpW.notB (a := decide (((a.rat.floor : Int) : Rat).num < 0)) (r := !(decide (((a.rat.floor : Int) : Rat).num < 0))) rfl rfl (mv ?_))
 cases c10 : (!(decide (((a.rat.floor : Int) : Rat).num < 0)))
 replace c10 : ¬ (¬ (((a.rat.floor : Int) : Rat).num < 0)) := (fun n => n (of_decide_eq_true (not_f c10)))
 refine oD rfl rfl rfl rfl (oD rfl rfl rfl rfl (oC (pF (v := .bool false) rfl rfl (ma (oN ?_)))))
 exact ⟨rfl, _, nm rfl⟩
 replace c10 : ¬ (((a.rat.floor : Int) : Rat).num < 0) := (of_decide_eq_false (not_t c10))
 refine oL rfl rfl rfl (OpW.move (v := .int .u64 ((((a.rat.floor : Int) : Rat).num.natAbs : Nat) : Int)) rfl ?_)
 refine oL rfl rfl rfl (OpW.lss (a := ((((a.rat.floor : Int) : Rat).num.natAbs : Nat) : Int)) (b := ((9223372036854775808 : Nat) : Int)) (r := decide (((a.rat.floor : Int) : Rat).num.natAbs < 9223372036854775808)) rfl rfl (lt_nat (a := ((a.rat.floor : Int) : Rat).num.natAbs) (b := 9223372036854775808)) ?_)
 refine oC (pT (v := .bool (decide (((a.rat.floor : Int) : Rat).num.natAbs < 9223372036854775808))) rfl rfl (ma (oN ?_)))
 exact ⟨rfl, _, nm rfl⟩
 rintro ρ16 w20 ⟨rfl, ρ17, rfl⟩
 refine Wp.cond (t := (!(decide (((a.rat.floor : Int) : Rat).num < 0))) && (decide (((a.rat.floor : Int) : Rat).num.natAbs < 9223372036854775808))) rfl (fun c11 => ?_) (fun c11 => ?_)
 replace c11 : (¬ (((a.rat.floor : Int) : Rat).num < 0)) ∧ (((a.rat.floor : Int) : Rat).num.natAbs < 9223372036854775808) := ⟨(of_decide_eq_false (not_t (and_l c11))), (of_decide_eq_true (and_r c11))⟩
 refine sr (mv (oC (OpW.convI (a := ((((a.rat.floor : Int) : Rat).num.natAbs : Nat) : Int)) (r := ((((a.rat.floor : Int) : Rat).num.natAbs : Nat) : Int)) Tryd.underlying77 Tryd.underlying3 rfl (conv_i64 (by omega)) (ma (ma (oN (Wp.ret (fin2_ret rfl (resOf_tmp (v := .int .i64 ((((a.rat.floor : Int) : Rat).num.natAbs : Nat) : Int)) rfl) (resOf_tmp (v := .int .i64 ((0 : Nat) : Int)) rfl) ?_))))))))
 have g21 := g7.trans g19
 refine ⟨h16, g21, ?_⟩
 exact ⟨_, _, rfl, (intv (by unfold wholeQ; rw [if_pos (by omega)]; omega)), (intv (by unfold wholeE; rw [if_pos (by omega)]; rfl))⟩
 replace c11 : ¬ ((¬ (((a.rat.floor : Int) : Rat).num < 0)) ∧ (((a.rat.floor : Int) : Rat).num.natAbs < 9223372036854775808)) := (fun pq => (and_f c11).elim (fun h => (fun n => n (of_decide_eq_true (not_f h))) pq.1) (fun h => (of_decide_eq_false h) pq.2))
 refine Wp.skip (sr (ma (ma (oN (Wp.ret (fin2_ret rfl (resOf_tmp (v := .int .i64 ((0 : Nat) : Int)) rfl) (resOf_tmp (v := .int .i64 ((6 : Nat) : Int)) rfl) ?_))))))
 have g22 := g7.trans g19
 refine ⟨h16, g22, ?_⟩
 exact ⟨_, _, rfl, (intv (by unfold wholeQ; rw [if_neg (by omega)]; rfl)), (intv (by unfold wholeE; rw [if_neg (by omega)]; rfl))⟩
theorem rInt_c {h : PH} {w : World} {v0 : Value} {a : Fr} (hs : Sat h w) (pv0 : F h v0 a) (hp0 : bf a ≤ 134217000) :
    Calls Tryd.prog 60 #[v0] w (Ret h w fun h' r => ∃ x1 x2, r = .tuple #[x1, x2] ∧ x1 = .int .i64 (intV a) ∧ x2 = .bool (intO a)) := by
 obtain ⟨b1, c1, b2, c2, rfl, k1, k2, u1, u2⟩ := F.shape pv0
 have hbq1 := F.bq pv0
 have hbn := bf_n a
 have hbd := bf_d a
 have hbp := bf_pos a
 obtain ⟨hsn, hsd⟩ := F.szs pv0
 have hsz : sz (val a.n) = (digs (val a.n)).length := rfl
 refine calls_ear (vs := [.agg #[.bool a.neg, .slice b1 a.n.length c1, .slice b2 a.d.length c2]]) Tryd.func60 rfl rfl ?_
 have g1 := Gr.refl hs
 refine sr (oC (OpW.boxK (v := .agg #[.bool a.neg, .slice b1 a.n.length c1, .slice b2 a.d.length c2]) (arr := #[.bool a.neg, .slice b1 a.n.length c1, .slice b2 a.d.length c2]) g1.sat rfl rfl ?_))
 intro b3 h1 w1 gr1 qb1
 refine ma (ma (oN (sr (oC (fA (o := 1) Tryd.underlying24 rfl Tryd.sizeOf22 (by decide) rfl rfl ?_)))))
 have g2 := g1.trans gr1
 refine oC (lO (v := .slice b1 a.n.length c1) Tryd.isAgg22 rfl (g2.sat _ _ qb1) rfl ?_)
 refine oC (cF Tryd.call76 (rtrim_c (l := a.n) g2.sat (U.mono u1 gr1.le) (by first | omega | (simp only [List.length_set, List.length_replicate]; omega))) rfl ?_)
 intro r1 h2 w2 gr2 hr1
 obtain ⟨b4, c3, rfl, k3⟩ := N.shape hr1
 refine ma (oN (wS (sr (mv (oC (OpW.lenS Tryd.underlying22 (l := (digs (val a.n)).length) rfl ?_))))))
 refine oC (OpW.gtr (a := (((digs (val a.n)).length : Nat) : Int)) (b := ((2 : Nat) : Int)) (r := decide (2 < (digs (val a.n)).length)) rfl rfl (lt_nat (a := 2) (b := (digs (val a.n)).length)) (oN (Wp.cond (t := decide (2 < (digs (val a.n)).length)) rfl (fun c4 => ?_) (fun c4 => ?_))))
 replace c4 : 2 < (digs (val a.n)).length := (of_decide_eq_true c4)
 refine sr (ma (ma (oN (Wp.ret (fin2_ret rfl (resOf_tmp (v := .int .i64 ((0 : Nat) : Int)) rfl) (resOf_tmp (v := .bool false) rfl) ?_)))))
 have g3 := g2.trans gr2
 refine ⟨h2, g3, ?_⟩
 exact ⟨_, _, rfl, (intv (by unfold intV; rw [if_pos (by omega)]; rfl)), (boolv (by unfold intO; rw [if_pos (by omega)]))⟩
 replace c4 : ¬ (2 < (digs (val a.n)).length) := (of_decide_eq_false c4)
 have hl2 : (digs (val a.n)).length ≤ 2 := by omega
 have hlt := sz2_lt (n := val a.n) hl2
 have hd00 : val ((digs (val a.n)).drop 0) = val a.n := by rw [List.drop_zero, val_digs]
 refine Wp.skip (sr (ma (oN (wS (wS (fg [(1, .pointer (some ⟨b3, 0, none⟩)), (4, .slice b4 ((digs (val a.n)).length) c3), (5, .int .u64 ((0 : Nat) : Int))] rfl (fun ρ1 => (wR (mv (oC (OpW.lenS Tryd.underlying22 (l := (digs (val a.n)).length) rfl ?_)))))))))))
 refine oC (OpW.sub (a := (((digs (val a.n)).length : Nat) : Int)) (b := ((1 : Nat) : Int)) (r := ((((digs (val a.n)).length : Nat) : Int) - ((1 : Nat) : Int))) rfl rfl (in_i64 (by omega)) (ma (oN (Wp.block ?_))))
 have g4 := g2.trans gr2
 refine Wp.loop (σ := Nat) (fun (k : Nat) (ρ : Env) (w' : World) => ∃ ρb h', ρ = upds ρb [(1, .pointer (some ⟨b3, 0, none⟩)), (4, .slice b4 ((digs (val a.n)).length) c3), (5, .int .u64 ((val ((digs (val a.n)).drop k) : Nat) : Int)), (6, .int .i64 (((k : Nat) : Int) - 1))] ∧ Gr h w h' w' ∧ PH.le h2 h' ∧ (k ≤ (digs (val a.n)).length)) (fun (k : Nat) => k) ((digs (val a.n)).length) ?_ ?_
 exact ⟨_, h2, named ⟨rfl, rfl, (natv (by rw [List.drop_length]; rfl)), (intv (by omega)), trivial⟩, g4, PH.le.refl _, (by omega)⟩
 rintro k ρ2 w3 ⟨ρ3, h3, rfl, g5, l1, hk⟩
 have hst := fun h => int_step (n := val a.n) (k := k) h hk hl2
 have hd0 : (digs (val a.n)).getD (k - 1) 0 < 4294967296 := Fit.getD (digs_fit _) (k - 1)
 refine wS (sr (mv (oC (OpW.geq (a := (((k : Nat) : Int) - 1)) (b := ((0 : Nat) : Int)) (r := decide (((0 : Nat) : Int) ≤ (((k : Nat) : Int) - 1))) rfl rfl rfl (oN (Wp.cond (t := decide (((0 : Nat) : Int) ≤ (((k : Nat) : Int) - 1))) rfl (fun c5 => ?_) (fun c5 => ?_)))))))
 replace c5 : ((0 : Nat) : Int) ≤ (((k : Nat) : Int) - 1) := (of_decide_eq_true c5)
 have hsh := hst (by omega)
 have hsh2 := sh64 hsh
 refine Wp.skip (wS (Wp.block (wR (mv (oC (OpW.shift (a := ((val ((digs (val a.n)).drop k) : Nat) : Int)) (b := ((32 : Nat) : Int)) (r := (((val ((digs (val a.n)).drop k)) * 2 ^ 32 : Nat) : Int)) (.inl rfl) rfl rfl (shl_nat (by decide) (conv_u64 (Nat.le_of_lt_succ hsh2))) (mv (mv (oC (OpW.indexU (i := (((k : Nat) : Int) - 1)) (j := k - 1) Tryd.underlying22 Tryd.sizeOf51 rfl (U.mono hr1 l1) rfl (by omega) (by omega) ?_))))))))))
 intro b5 o1 a1 e1 z1 qb2 qv1
 have bd1 := Fit.getD (U.mono hr1 l1).1 (k - 1)
 refine oC (lO (v := .int .u32 (((digs (val a.n)).getD (k - 1) 0 : Nat) : Int)) Tryd.isAgg51 rfl (g5.sat _ _ qb2) qv1 ?_)
 refine oC (OpW.convI (a := (((digs (val a.n)).getD (k - 1) 0 : Nat) : Int)) (r := (((digs (val a.n)).getD (k - 1) 0 : Nat) : Int)) Tryd.underlying51 Tryd.underlying77 rfl (conv_u64 (by omega)) ?_)
 refine oC (OpW.bits (a := (((val ((digs (val a.n)).drop k)) * 2 ^ 32 : Nat) : Int)) (b := (((digs (val a.n)).getD (k - 1) 0 : Nat) : Int)) (r := ((((val ((digs (val a.n)).drop k)) * 2 ^ 32) ||| ((digs (val a.n)).getD (k - 1) 0) : Nat) : Int)) (.inr (.inl rfl)) rfl rfl (or_u64 (a := (val ((digs (val a.n)).drop k)) * 2 ^ 32) (b := (digs (val a.n)).getD (k - 1) 0) hsh2 (Nat.lt_trans hd0 (by decide))) (ma (oN (fg [(1, .pointer (some ⟨b3, 0, none⟩)), (4, .slice b4 ((digs (val a.n)).length) c3), (5, .int .u64 ((((val ((digs (val a.n)).drop k)) * 2 ^ 32) ||| ((digs (val a.n)).getD (k - 1) 0) : Nat) : Int)), (6, .int .i64 (((k : Nat) : Int) - 1))] rfl (fun ρ4 => (wR (mv (oC (OpW.sub (a := (((k : Nat) : Int) - 1)) (b := ((1 : Nat) : Int)) (r := (((k : Nat) : Int) - 1 - 1)) rfl rfl ((in_i64 (by omega)).trans (by omega)) (ma (oN ?_)))))))))))
 exact ⟨(k - 1), ⟨_, h3, named ⟨rfl, rfl, (natv (int_next (by omega) hk)), (intv (by omega)), trivial⟩, g5, l1, (by omega)⟩, (by omega)⟩
 replace c5 : ¬ (((0 : Nat) : Int) ≤ (((k : Nat) : Int) - 1)) := (of_decide_eq_false c5)
 have hk0 : val ((digs (val a.n)).drop k) = val a.n := by rw [show k = 0 by omega]; exact hd00
 have hltx : val ((digs (val a.n)).drop k) < 18446744073709551616 := by rw [hk0]; exact hlt
 refine Wp.exit (wS (sr (oC (fA (o := 0) Tryd.underlying24 rfl Tryd.sizeOf4 (by decide) rfl rfl ?_))))
 refine oC (lO (v := .bool a.neg) Tryd.isAgg4 rfl (g5.sat _ _ ((gr2.le.trans l1) _ _ qb1)) rfl (oN (Wp.cond (t := a.neg) rfl (fun c6 => ?_) (fun c6 => ?_))))
 replace c6 : a.neg = true := c6
 have hng := c6
 refine sr (mv (oC (OpW.negI (a := ((val ((digs (val a.n)).drop k) : Nat) : Int)) (r := (((18446744073709551616 - val ((digs (val a.n)).drop k)) % 18446744073709551616 : Nat) : Int)) rfl (neg64 hltx) ?_)))
 refine oC (OpW.convI (a := (((18446744073709551616 - val ((digs (val a.n)).drop k)) % 18446744073709551616 : Nat) : Int)) (r := (intV a)) Tryd.underlying77 Tryd.underlying3 rfl (wrap_n hk0 hl2 hng) (mv (oC (OpW.leq (a := ((val ((digs (val a.n)).drop k) : Nat) : Int)) (b := ((9223372036854775808 : Nat) : Int)) (r := decide (val ((digs (val a.n)).drop k) ≤ 9223372036854775808)) rfl rfl (le_nat (a := val ((digs (val a.n)).drop k)) (b := 9223372036854775808)) (ma (ma (oN (Wp.ret (fin2_ret rfl (resOf_tmp (v := .int .i64 (intV a)) rfl) (resOf_tmp (v := .bool (decide (val ((digs (val a.n)).drop k) ≤ 9223372036854775808))) rfl) ?_)))))))))
 refine ⟨h3, g5, ?_⟩
 exact ⟨_, _, rfl, rfl, (boolv (into_n hk0 hl2 hng))⟩
 replace c6 : ¬ (a.neg = true) := (raw_f c6)
 have hng := c6
 refine Wp.skip (sr (mv (oC (OpW.convI (a := ((val ((digs (val a.n)).drop k) : Nat) : Int)) (r := (intV a)) Tryd.underlying77 Tryd.underlying3 rfl (wrap_p hk0 hl2 hng) (mv (oC (OpW.lss (a := ((val ((digs (val a.n)).drop k) : Nat) : Int)) (b := ((9223372036854775808 : Nat) : Int)) (r := decide (val ((digs (val a.n)).drop k) < 9223372036854775808)) rfl rfl (lt_nat (a := val ((digs (val a.n)).drop k)) (b := 9223372036854775808)) (ma (ma (oN (Wp.ret (fin2_ret rfl (resOf_tmp (v := .int .i64 (intV a)) rfl) (resOf_tmp (v := .bool (decide (val ((digs (val a.n)).drop k) < 9223372036854775808))) rfl) ?_))))))))))))
 refine ⟨h3, g5, ?_⟩
 exact ⟨_, _, rfl, rfl, (boolv (into_p hk0 hl2 hng))⟩
end Go.Ear
