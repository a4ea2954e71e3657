/- About package frac: XSub. -/
import Derived.Test.YtmidncjhlnfojaaDoorNatLaw2
import Derived.Test.YtmidncjhlnfojaaDoorEarShort
import Derived.Test.YtmidncjhlnfojaaDoorProg
import Derived.Test.YtmidncjhlnfojaaDoorNatLaw3
import Derived.Test.YtmidncjhlnfojaaDoorEarFrac
import Derived.Test.YtmidncjhlnfojaaDoorK1
import Derived.Test.YtmidncjhlnfojaaDoorK4
import Derived.Test.YtmidncjhlnfojaaDoorK5
set_option linter.all false
namespace Go.Ear
open Go.Proofs
set_option maxRecDepth 20000
set_option linter.unusedVariables false
set_option maxHeartbeats 2000000
theorem Sub_c {h : PH} {w : World} {v0 : Value} {a : Fr} {v1 : Value} {b : Fr} (hs : Sat h w) (pv0 : F h v0 a) (pv1 : F h v1 b) (hp0 : bf a + bf b ≤ 134217000) :
    Calls Tryd.prog 44 #[v0, v1] w (Ret h w fun h' r => Kn h' r (a.rat - b.rat)) := by
 obtain ⟨b1, c1, b2, c2, rfl, k1, k2, u1, u2⟩ := F.shape pv0
 have hbq1 := F.bq pv0
 obtain ⟨b3, c3, b4, c4, rfl, k3, k4, u3, u4⟩ := F.shape pv1
 have hbq2 := F.bq pv1
 have hbn := bf_n a
 have hbd := bf_d a
 have hbp := bf_pos a
 have hbn2 := bf_n b
 have hbd2 := bf_d b
 have hbp2 := bf_pos b
 have hn := bq_neg b.rat
 have hsb := bq_sub a.rat b.rat
 rw [Rat.sub_eq_add_neg] at hsb
 refine calls_ear (vs := [.agg #[.bool a.neg, .slice b1 a.n.length c1, .slice b2 a.d.length c2], .agg #[.bool b.neg, .slice b3 b.n.length c3, .slice b4 b.d.length c4]]) Tryd.func44 rfl rfl ?_
 have g1 := Gr.refl hs
 refine sr (oC (OpW.boxK (v := .agg #[.bool a.neg, .slice b1 a.n.length c1, .slice b2 a.d.length c2]) (arr := #[.bool a.neg, .slice b1 a.n.length c1, .slice b2 a.d.length c2]) g1.sat rfl rfl ?_))
 intro b5 h1 w1 gr1 qb1
 have g2 := g1.trans gr1
 refine oC (OpW.boxK (v := .agg #[.bool b.neg, .slice b3 b.n.length c3, .slice b4 b.d.length c4]) (arr := #[.bool b.neg, .slice b3 b.n.length c3, .slice b4 b.d.length c4]) g2.sat rfl rfl ?_)
 intro b6 h2 w2 gr2 qb2
 have g3 := g2.trans gr2
 refine oC (OpW.allocO (arr := #[.bool false, .slice none 0 0, .slice none 0 0]) g3.sat Tryd.zeroValue24 rfl ?_)
 intro b7 w3 gr3 n1 lo1 o1
 have lo2 := Nat.le_trans g3.ext.size lo1
 refine oN (wS ?_)
 have g4 := g3.trans gr3
 refine Wp.dagL 7 [5, 6, 7, 8, 9, 10, 11] [eqv (.agg #[.bool a.neg, .slice b1 a.n.length c1, .slice b2 a.d.length c2]), fun h _ x => Qn h x a.rat, eqv (.agg #[.bool b.neg, .slice b3 b.n.length c3, .slice b4 b.d.length c4]), fun h _ x => Qn h x b.rat, fun h _ x => Qn h x (-b.rat), fun h _ x => Qn h x (a.rat + (-b.rat)), fun h _ x => Kn h x (a.rat + (-b.rat))] mixed g4.sat rfl (by decide +kernel) ⟨sQ _, (stab_Q a.rat), sQ _, (stab_Q b.rat), (stab_Q (-b.rat)), (stab_Q (a.rat + (-b.rat))), (stab_K (a.rat + (-b.rat))), trivial⟩ ?_ ?_
 intro stab
 refine ⟨?_, ?_, ?_, ?_, ?_, ?_, ?_, trivial⟩
 intro ρ1 h3 w4 g5 hdd1 hdo1
 have e1 : ρ1 2 = .pointer (some ⟨b5, 0, none⟩) := hdo1 2 rfl
 have g6 := g4.trans g5
 refine gP (lA (cs := [.bool a.neg, .slice b1 a.n.length c1, .slice b2 a.d.length c2]) Tryd.isAgg24 Tryd.sizeOf24 e1 (g6.sat _ _ ((gr2.le.trans g5.le) _ _ qb1)) rfl rfl ?_)
 exact ⟨_, h3, rfl, g5, fun j x _ p => p, rfl⟩
 intro ρ2 h4 w5 g7 hdd2 hdo2
 have e2 : ρ2 5 = .agg #[.bool a.neg, .slice b1 a.n.length c1, .slice b2 a.d.length c2] := hdd2 0 (by decide)
 have g8 := g4.trans g7
 refine gP (cF Tryd.call70 (take_c (f := a) g8.sat (F.mk (U.mono u1 ((gr1.le.trans gr2.le).trans g7.le)) (U.mono u2 ((gr1.le.trans gr2.le).trans g7.le))) (by omega) (by omega)) (cx e2 cxn) ?_)
 intro r1 h5 w6 gr4 hr1
 exact ⟨r1, h5, rfl, g7.trans gr4, fun j x _ => stab j _ _ _ _ x gr4, hr1⟩
 intro ρ3 h6 w7 g9 hdd3 hdo3
 have e3 : ρ3 3 = .pointer (some ⟨b6, 0, none⟩) := hdo3 3 rfl
 have g10 := g4.trans g9
 refine gP (lA (cs := [.bool b.neg, .slice b3 b.n.length c3, .slice b4 b.d.length c4]) Tryd.isAgg24 Tryd.sizeOf24 e3 (g10.sat _ _ (g9.le _ _ qb2)) rfl rfl ?_)
 exact ⟨_, h6, rfl, g9, fun j x _ p => p, rfl⟩
 intro ρ4 h7 w8 g11 hdd4 hdo4
 have e4 : ρ4 7 = .agg #[.bool b.neg, .slice b3 b.n.length c3, .slice b4 b.d.length c4] := hdd4 2 (by decide)
 have g12 := g4.trans g11
 refine gP (cF Tryd.call70 (take_c (f := b) g12.sat (F.mk (U.mono u3 ((gr1.le.trans gr2.le).trans g11.le)) (U.mono u4 ((gr1.le.trans gr2.le).trans g11.le))) (by omega) (by omega)) (cx e4 cxn) ?_)
 intro r2 h8 w9 gr5 hr2
 exact ⟨r2, h8, rfl, g11.trans gr5, fun j x _ => stab j _ _ _ _ x gr5, hr2⟩
 intro ρ5 h9 w10 g13 hdd5 hdo5
 have q1 : Qn h9 (ρ5 8) b.rat := hdd5 3 (by decide)
 have g14 := g4.trans g13
 refine gP (cF Tryd.call99 (minus_c (q := b.rat) g14.sat q1 ) rfl ?_)
 intro r3 h10 w11 gr6 hr3
 exact ⟨r3, h10, rfl, g13.trans gr6, fun j x _ => stab j _ _ _ _ x gr6, hr3⟩
 intro ρ6 h11 w12 g15 hdd6 hdo6
 have q2 : Qn h11 (ρ6 6) a.rat := hdd6 1 (by decide)
 have q3 : Qn h11 (ρ6 9) (-b.rat) := hdd6 4 (by decide)
 have g16 := g4.trans g15
 refine gP (cF Tryd.call98 (nadd_c (a := a.rat) (b := -b.rat) g16.sat q2 q3 (by omega) (by omega)) rfl ?_)
 intro r4 h12 w13 gr7 hr4
 exact ⟨r4, h12, rfl, g15.trans gr7, fun j x _ => stab j _ _ _ _ x gr7, hr4⟩
 intro ρ7 h13 w14 g17 hdd7 hdo7
 have q4 : Qn h13 (ρ7 10) (a.rat + (-b.rat)) := hdd7 5 (by decide)
 have g18 := g4.trans g17
 refine gP (cF Tryd.call74 (give_c (q := a.rat + (-b.rat)) g18.sat q4 (by omega)) rfl ?_)
 intro r5 h14 w15 gr8 hr5
 exact ⟨r5, h14, rfl, g17.trans gr8, fun j x _ => stab j _ _ _ _ x gr8, hr5⟩
 intro ρ8 h15 w16 g19 hdp1 hdo8
 have e5 : ρ8 4 = .pointer (some ⟨b7, 0, none⟩) := hdo8 4 rfl
 have q5 : Kn h15 (ρ8 11) (a.rat + (-b.rat)) := hdp1 6 rfl
 obtain ⟨x1, hx1⟩ : ∃ x, ρ8 11 = x := ⟨_, rfl⟩
 rw [hx1] at q5
 obtain ⟨b8, c5, b9, c6, rfl, k5, k6, u5, u6⟩ := F.shape q5
 refine Ops.forget [(4, .pointer (some ⟨b7, 0, none⟩)), (11, .agg #[.bool ((frK (a.rat + (-b.rat))).neg), .slice b8 ((frK (a.rat + (-b.rat))).n.length) c5, .slice b9 ((frK (a.rat + (-b.rat))).d.length) c6])] ⟨e5, hx1, trivial⟩ (fun ρ9 => ?_)
 have o2 := g19.kp ⟨o1, n1⟩
 refine oC (sA (cs := [.bool ((frK (a.rat + (-b.rat))).neg), .slice b8 ((frK (a.rat + (-b.rat))).n.length) c5, .slice b9 ((frK (a.rat + (-b.rat))).d.length) c6]) Tryd.sizeOf24 rfl rfl rfl rfl o2.1 rfl ?_)
 intro w17 p1
 refine oN (Wp.ret (fin1_ret rfl (resOf_cellA (cs := [.bool ((frK (a.rat + (-b.rat))).neg), .slice b8 ((frK (a.rat + (-b.rat))).n.length) c5, .slice b9 ((frK (a.rat + (-b.rat))).d.length) c6]) Tryd.isAgg24 Tryd.sizeOf24 rfl p1.at_ (Nat.le_of_ble_eq_true rfl) rfl) ?_))
 have g20 := (g4.trans g19).put p1 o2.2 lo2
 refine ⟨h15, g20, ?_⟩
 exact (Kn.cast (Rat.sub_eq_add_neg _ _).symm (F.mk u5 u6))
end Go.Ear
