/- About package frac: XMul. -/
import Derived.Test.YtmidncjhlnfojaaDoorNatLaw2
import Derived.Test.YtmidncjhlnfojaaDoorEarShort
import Derived.Test.YtmidncjhlnfojaaDoorProg
import Derived.Test.YtmidncjhlnfojaaDoorNatLaw3
import Derived.Test.YtmidncjhlnfojaaDoorEarFrac
import Derived.Test.YtmidncjhlnfojaaDoorXproduct
set_option linter.all false
namespace Go.Ear
open Go.Proofs
set_option maxRecDepth 20000
set_option linter.unusedVariables false
set_option maxHeartbeats 2000000
theorem Mul_c {h : PH} {w : World} {v0 : Value} {a : Fr} {v1 : Value} {b : Fr} (hs : Sat h w) (pv0 : F h v0 a) (pv1 : F h v1 b) (hp0 : bf a + bf b ≤ 134217000) :
    Calls Tryd.prog 48 #[v0, v1] w (Ret h w fun h' r => Kn h' r (a.rat * b.rat)) := by
 obtain ⟨b1, c1, b2, c2, rfl, k1, k2, u1, u2⟩ := F.shape pv0
 have hbq1 := F.bq pv0
 obtain ⟨b3, c3, b4, c4, rfl, k3, k4, u3, u4⟩ := F.shape pv1
 have hbq2 := F.bq pv1
 have hw := wts2 a b
 refine calls_ear (vs := [.agg #[.bool a.neg, .slice b1 a.n.length c1, .slice b2 a.d.length c2], .agg #[.bool b.neg, .slice b3 b.n.length c3, .slice b4 b.d.length c4]]) Tryd.func48 rfl rfl ?_
 have g1 := Gr.refl hs
 refine sr (oC (OpW.boxK (v := .agg #[.bool a.neg, .slice b1 a.n.length c1, .slice b2 a.d.length c2]) (arr := #[.bool a.neg, .slice b1 a.n.length c1, .slice b2 a.d.length c2]) g1.sat rfl rfl ?_))
 intro b5 h1 w1 gr1 qb1
 have g2 := g1.trans gr1
 refine oC (OpW.boxK (v := .agg #[.bool b.neg, .slice b3 b.n.length c3, .slice b4 b.d.length c4]) (arr := #[.bool b.neg, .slice b3 b.n.length c3, .slice b4 b.d.length c4]) g2.sat rfl rfl ?_)
 intro b6 h2 w2 gr2 qb2
 have g3 := g2.trans gr2
 refine oC (OpW.allocO (arr := #[.bool false, .slice none 0 0, .slice none 0 0]) g3.sat Tryd.zeroValue24 rfl ?_)
 intro b7 w3 gr3 n1 lo1 o1
 have lo2 := Nat.le_trans g3.ext.size lo1
 refine oN (sr ?_)
 have g4 := g3.trans gr3
 refine oC (lA (cs := [.bool a.neg, .slice b1 a.n.length c1, .slice b2 a.d.length c2]) Tryd.isAgg24 Tryd.sizeOf24 rfl (g4.sat _ _ (gr2.le _ _ qb1)) rfl rfl ?_)
 refine oC (lA (cs := [.bool b.neg, .slice b3 b.n.length c3, .slice b4 b.d.length c4]) Tryd.isAgg24 Tryd.sizeOf24 rfl (g4.sat _ _ qb2) rfl rfl ?_)
 have lt1 := blk_lt o1
 refine oC (OpW.buildSliceO (arr := #[.bool a.neg, .slice b1 a.n.length c1, .slice b2 a.d.length c2, .bool b.neg, .slice b3 b.n.length c3, .slice b4 b.d.length c4]) g4.sat Tryd.underlying50 Tryd.zeroValue24 Tryd.sizeOf24 rfl rfl ?_)
 intro b8 w4 gr4 n2 lo3 o2
 have lo4 := Nat.le_trans g4.ext.size lo3
 have ne1 : b7 ≠ b8 := Nat.ne_of_lt (Nat.lt_of_lt_of_le lt1 lo3)
 have g6 := g4.trans gr4
 obtain ⟨h3, g5, l1, qb3, fr1⟩ := freeze_ex g6 o2 n2 lo4
 have f1 : LR rpF h3 (.slice (some ⟨b8, 0, none⟩) 2 2) [a, b] := LR.own' qb3 (css := [[.bool a.neg, .slice b1 a.n.length c1, .slice b2 a.d.length c2], [.bool b.neg, .slice b3 b.n.length c3, .slice b4 b.d.length c4]]) rfl (Rows.cons (F.mk (U.mono u1 ((gr1.le.trans gr2.le).trans l1)) (U.mono u2 ((gr1.le.trans gr2.le).trans l1))) (Rows.cons (F.mk (U.mono u3 ((gr1.le.trans gr2.le).trans l1)) (U.mono u4 ((gr1.le.trans gr2.le).trans l1))) Rows.nil)) rfl (Nat.le_refl _)
 refine oC (cF Tryd.call53 (product_c (l := [a, b]) g5.sat f1 (by first | omega | (simp only [bf_frK, frK_rat, wts_cons, wts_nil]; omega))) rfl ?_)
 intro r1 h4 w5 gr5 hr1
 obtain ⟨b9, c5, b10, c6, rfl, k5, k6, u5, u6⟩ := F.shape hr1
 have o3 := gr5.kp (oz fr1 ne1 (gr4.kp ⟨o1, n1⟩))
 refine oC (sA (cs := [.bool ((frK (prodF ([a, b]))).neg), .slice b9 ((frK (prodF ([a, b]))).n.length) c5, .slice b10 ((frK (prodF ([a, b]))).d.length) c6]) Tryd.sizeOf24 rfl rfl rfl rfl o3.1 rfl ?_)
 intro w6 p1
 refine oN (Wp.ret (fin1_ret rfl (resOf_cellA (cs := [.bool ((frK (prodF ([a, b]))).neg), .slice b9 ((frK (prodF ([a, b]))).n.length) c5, .slice b10 ((frK (prodF ([a, b]))).d.length) c6]) Tryd.isAgg24 Tryd.sizeOf24 rfl p1.at_ (Nat.le_of_ble_eq_true rfl) rfl) ?_))
 have g7 := (g5.trans gr5).put p1 o3.2 lo2
 refine ⟨h4, g7, ?_⟩
 exact (Kn.cast (prodF2 a b) (F.mk u5 u6))
end Go.Ear
