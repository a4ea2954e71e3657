/- About package frac: XrSub. -/
import Derived.Test.YtmidncjhlnfojaaDoorNatLaw2
import Derived.Test.YtmidncjhlnfojaaDoorEarShort
import Derived.Test.YtmidncjhlnfojaaDoorProg
import Derived.Test.YtmidncjhlnfojaaDoorNatLaw3
import Derived.Test.YtmidncjhlnfojaaDoorEarFrac
import Derived.Test.YtmidncjhlnfojaaDoorEarDec
import Derived.Test.YtmidncjhlnfojaaDoorItoaLay
import Derived.Lib.ItoaMem
import Derived.Test.YtmidncjhlnfojaaDoorEarApi
import Derived.Test.YtmidncjhlnfojaaDoorEarRef2
import Derived.Test.YtmidncjhlnfojaaDoorK1
import Derived.Test.YtmidncjhlnfojaaDoorXrAdd
import Derived.Test.YtmidncjhlnfojaaDoorXrNeg
set_option linter.all false
namespace Go.Ear
open Go.Proofs
set_option maxRecDepth 20000
set_option linter.unusedVariables false
set_option maxHeartbeats 2000000
theorem rSub_c {h : PH} {w : World} {v0 : Value} {a : Fr} {v1 : Value} {b : Fr} (hs : Sat h w) (pv0 : F h v0 a) (pv1 : F h v1 b) (hp0 : bf a + bf b ≤ 134216000) :
    Calls Tryd.prog 27 #[v0, v1] w (Ret h w fun h' r => Kn h' r (a.rat - b.rat)) := by
 obtain ⟨b1, c1, b2, c2, rfl, k1, k2, u1, u2⟩ := F.shape pv0
 have hbq1 := F.bq pv0
 obtain ⟨b3, c3, b4, c4, rfl, k3, k4, u3, u4⟩ := F.shape pv1
 have hbq2 := F.bq pv1
 have hbn := bf_n a
 have hbd := bf_d a
 have hbp := bf_pos a
 have hbn2 := bf_n b
 have hbd2 := bf_d b
 have hbp2 := bf_pos b
 refine calls_ear (vs := [.agg #[.bool a.neg, .slice b1 a.n.length c1, .slice b2 a.d.length c2], .agg #[.bool b.neg, .slice b3 b.n.length c3, .slice b4 b.d.length c4]]) Tryd.func27 rfl rfl ?_
 have g1 := Gr.refl hs
 refine sr (oC (OpW.boxK (v := .agg #[.bool a.neg, .slice b1 a.n.length c1, .slice b2 a.d.length c2]) (arr := #[.bool a.neg, .slice b1 a.n.length c1, .slice b2 a.d.length c2]) g1.sat rfl rfl ?_))
 intro b5 h1 w1 gr1 qb1
 have g2 := g1.trans gr1
 refine oC (OpW.boxK (v := .agg #[.bool b.neg, .slice b3 b.n.length c3, .slice b4 b.d.length c4]) (arr := #[.bool b.neg, .slice b3 b.n.length c3, .slice b4 b.d.length c4]) g2.sat rfl rfl ?_)
 intro b6 h2 w2 gr2 qb2
 have g3 := g2.trans gr2
 refine oC (OpW.allocO (arr := #[.bool false, .slice none 0 0, .slice none 0 0]) g3.sat Tryd.zeroValue24 rfl ?_)
 intro b7 w3 gr3 n1 lo1 o1
 have lo2 := Nat.le_trans g3.ext.size lo1
 refine oN (wS ?_)
 have g4 := g3.trans gr3
 have hf1 := bq_neg b.rat
 have hf2 := bq_add a.rat (-b.rat)
 refine Wp.dagL 4 [5, 6, 7, 8] [eqv (.agg #[.bool a.neg, .slice b1 a.n.length c1, .slice b2 a.d.length c2]), eqv (.agg #[.bool b.neg, .slice b3 b.n.length c3, .slice b4 b.d.length c4]), fun h _ x => Kn h x (-b.rat), fun h _ x => Kn h x (a.rat + (-b.rat))] mixed g4.sat rfl (by decide +kernel) ⟨sQ _, sQ _, (stab_K (-b.rat)), (stab_K (a.rat + (-b.rat))), trivial⟩ ?_ ?_
 intro stab
 refine ⟨?_, ?_, ?_, ?_, trivial⟩
 intro ρ1 h3 w4 g5 hdd1 hdo1
 have e1 : ρ1 2 = .pointer (some ⟨b5, 0, none⟩) := hdo1 2 rfl
 have g6 := g4.trans g5
 refine gP (lA (cs := [.bool a.neg, .slice b1 a.n.length c1, .slice b2 a.d.length c2]) Tryd.isAgg24 Tryd.sizeOf24 e1 (g6.sat _ _ ((gr2.le.trans g5.le) _ _ qb1)) rfl rfl ?_)
 exact ⟨_, h3, rfl, g5, fun j x _ p => p, rfl⟩
 intro ρ2 h4 w5 g7 hdd2 hdo2
 have e2 : ρ2 3 = .pointer (some ⟨b6, 0, none⟩) := hdo2 3 rfl
 have g8 := g4.trans g7
 refine gP (lA (cs := [.bool b.neg, .slice b3 b.n.length c3, .slice b4 b.d.length c4]) Tryd.isAgg24 Tryd.sizeOf24 e2 (g8.sat _ _ (g7.le _ _ qb2)) rfl rfl ?_)
 exact ⟨_, h4, rfl, g7, fun j x _ p => p, rfl⟩
 intro ρ3 h5 w6 g9 hdd3 hdo3
 have e3 : ρ3 6 = .agg #[.bool b.neg, .slice b3 b.n.length c3, .slice b4 b.d.length c4] := hdd3 1 (by decide)
 have g10 := g4.trans g9
 refine gP (cF Tryd.call46 (rNeg_c (a := b) g10.sat (F.mk (U.mono u3 ((gr1.le.trans gr2.le).trans g9.le)) (U.mono u4 ((gr1.le.trans gr2.le).trans g9.le))) (by omega)) (cx e3 cxn) ?_)
 intro r1 h6 w7 gr4 hr1
 exact ⟨r1, h6, rfl, g9.trans gr4, fun j x _ => stab j _ _ _ _ x gr4, hr1⟩
 intro ρ4 h7 w8 g11 hdd4 hdo4
 have e4 : ρ4 5 = .agg #[.bool a.neg, .slice b1 a.n.length c1, .slice b2 a.d.length c2] := hdd4 0 (by decide)
 have q1 : Kn h7 (ρ4 7) (-b.rat) := hdd4 2 (by decide)
 have g12 := g4.trans g11
 refine gP (cF Tryd.call43 (rAdd_c (a := a) (b := frK (-b.rat)) g12.sat (F.mk (U.mono u1 ((gr1.le.trans gr2.le).trans g11.le)) (U.mono u2 ((gr1.le.trans gr2.le).trans g11.le))) q1 (by first | omega | (simp only [bf_frK, frK_rat, wts_cons, wts_nil]; omega))) (cx e4 (cx rfl cxn)) ?_)
 intro r2 h8 w9 gr5 hr2
 simp only [frK_rat, bf_frK, val_digs] at hr2
 exact ⟨r2, h8, rfl, g11.trans gr5, fun j x _ => stab j _ _ _ _ x gr5, hr2⟩
 intro ρ5 h9 w10 g13 hdp1 hdo5
 have e5 : ρ5 4 = .pointer (some ⟨b7, 0, none⟩) := hdo5 4 rfl
 have q2 : Kn h9 (ρ5 8) (a.rat + (-b.rat)) := hdp1 3 rfl
 obtain ⟨x1, hx1⟩ : ∃ x, ρ5 8 = x := ⟨_, rfl⟩
 rw [hx1] at q2
 obtain ⟨b8, c5, b9, c6, rfl, k5, k6, u5, u6⟩ := F.shape q2
 refine Ops.forget [(4, .pointer (some ⟨b7, 0, none⟩)), (8, .agg #[.bool ((frK (a.rat + (-b.rat))).neg), .slice b8 ((frK (a.rat + (-b.rat))).n.length) c5, .slice b9 ((frK (a.rat + (-b.rat))).d.length) c6])] ⟨e5, hx1, trivial⟩ (fun ρ6 => ?_)
 have o2 := g13.kp ⟨o1, n1⟩
 refine oC (sA (cs := [.bool ((frK (a.rat + (-b.rat))).neg), .slice b8 ((frK (a.rat + (-b.rat))).n.length) c5, .slice b9 ((frK (a.rat + (-b.rat))).d.length) c6]) Tryd.sizeOf24 rfl rfl rfl rfl o2.1 rfl ?_)
 intro w11 p1
 refine oN (Wp.ret (fin1_ret rfl (resOf_cellA (cs := [.bool ((frK (a.rat + (-b.rat))).neg), .slice b8 ((frK (a.rat + (-b.rat))).n.length) c5, .slice b9 ((frK (a.rat + (-b.rat))).d.length) c6]) Tryd.isAgg24 Tryd.sizeOf24 rfl p1.at_ (Nat.le_of_ble_eq_true rfl) rfl) ?_))
 have g14 := (g4.trans g13).put p1 o2.2 lo2
 refine ⟨h9, g14, ?_⟩
 exact (Kn.cast (Rat.sub_eq_add_neg _ _).symm (F.mk u5 u6))
end Go.Ear
