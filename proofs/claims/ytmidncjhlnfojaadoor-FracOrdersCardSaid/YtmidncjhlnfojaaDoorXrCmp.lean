/- About package frac: XrCmp. -/
import Derived.Test.YtmidncjhlnfojaaDoorNatLaw2
import Derived.Test.YtmidncjhlnfojaaDoorEarShort
import Derived.Test.YtmidncjhlnfojaaDoorProg
import Derived.Test.YtmidncjhlnfojaaDoorNatLaw3
import Derived.Test.YtmidncjhlnfojaaDoorEarFrac
import Derived.Test.YtmidncjhlnfojaaDoorEarDec
import Derived.Test.YtmidncjhlnfojaaDoorItoaLay
import Derived.Lib.ItoaMem
import Derived.Test.YtmidncjhlnfojaaDoorEarApi
import Derived.Test.YtmidncjhlnfojaaDoorEarRef2
import Derived.Test.YtmidncjhlnfojaaDoorXrSign
import Derived.Test.YtmidncjhlnfojaaDoorXrSub
set_option linter.all false
namespace Go.Ear
open Go.Proofs
set_option maxRecDepth 20000
set_option linter.unusedVariables false
set_option maxHeartbeats 2000000
theorem rCmp_c {h : PH} {w : World} {v0 : Value} {a : Fr} {v1 : Value} {b : Fr} (hs : Sat h w) (pv0 : F h v0 a) (pv1 : F h v1 b) (hp0 : bf a + bf b ≤ 134216000) :
    Calls Tryd.prog 29 #[v0, v1] w (Ret h w fun h' r => r = .int .i64 (sgQ (a.rat - b.rat))) := by
 obtain ⟨b1, c1, b2, c2, rfl, k1, k2, u1, u2⟩ := F.shape pv0
 have hbq1 := F.bq pv0
 obtain ⟨b3, c3, b4, c4, rfl, k3, k4, u3, u4⟩ := F.shape pv1
 have hbq2 := F.bq pv1
 have hbn := bf_n a
 have hbd := bf_d a
 have hbp := bf_pos a
 have hbn2 := bf_n b
 have hbd2 := bf_d b
 have hbp2 := bf_pos b
 refine calls_ear (vs := [.agg #[.bool a.neg, .slice b1 a.n.length c1, .slice b2 a.d.length c2], .agg #[.bool b.neg, .slice b3 b.n.length c3, .slice b4 b.d.length c4]]) Tryd.func29 rfl rfl ?_
 have g1 := Gr.refl hs
 refine sr (oC (OpW.boxK (v := .agg #[.bool a.neg, .slice b1 a.n.length c1, .slice b2 a.d.length c2]) (arr := #[.bool a.neg, .slice b1 a.n.length c1, .slice b2 a.d.length c2]) g1.sat rfl rfl ?_))
 intro b5 h1 w1 gr1 qb1
 have g2 := g1.trans gr1
 refine oC (OpW.boxK (v := .agg #[.bool b.neg, .slice b3 b.n.length c3, .slice b4 b.d.length c4]) (arr := #[.bool b.neg, .slice b3 b.n.length c3, .slice b4 b.d.length c4]) g2.sat rfl rfl ?_)
 intro b6 h2 w2 gr2 qb2
 refine ma (oN (sr ?_))
 have g3 := g2.trans gr2
 refine oC (lA (cs := [.bool a.neg, .slice b1 a.n.length c1, .slice b2 a.d.length c2]) Tryd.isAgg24 Tryd.sizeOf24 rfl (g3.sat _ _ (gr2.le _ _ qb1)) rfl rfl ?_)
 refine oC (lA (cs := [.bool b.neg, .slice b3 b.n.length c3, .slice b4 b.d.length c4]) Tryd.isAgg24 Tryd.sizeOf24 rfl (g3.sat _ _ qb2) rfl rfl ?_)
 refine oC (cF Tryd.call27 (rSub_c (a := a) (b := b) g3.sat (F.mk (U.mono u1 (gr1.le.trans gr2.le)) (U.mono u2 (gr1.le.trans gr2.le))) (F.mk (U.mono u3 (gr1.le.trans gr2.le)) (U.mono u4 (gr1.le.trans gr2.le))) (by omega)) rfl ?_)
 intro r1 h3 w3 gr3 hr1
 have hf1 := bq_sub a.rat b.rat
 obtain ⟨b7, c5, b8, c6, rfl, k5, k6, u5, u6⟩ := F.shape hr1
 have g4 := g3.trans gr3
 refine oC (cF Tryd.call23 (rSign_c (a := frK (a.rat - b.rat)) g4.sat hr1 (by first | omega | (simp only [bf_frK, frK_rat, wts_cons, wts_nil]; omega))) rfl ?_)
 intro r2 h4 w4 gr4 hr2
 simp only [frK_rat, bf_frK, val_digs] at hr2
 subst hr2
 refine ma (oN (Wp.ret (fin1_ret rfl (resOf_tmp (v := .int .i64 (sgQ (a.rat - b.rat))) rfl) ?_)))
 have g5 := g4.trans gr4
 refine ⟨h4, g5, ?_⟩
 exact rfl
end Go.Ear
