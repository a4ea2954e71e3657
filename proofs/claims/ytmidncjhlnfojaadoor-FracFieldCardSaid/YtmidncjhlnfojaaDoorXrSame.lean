/- About package frac: XrSame. -/
import Derived.Test.YtmidncjhlnfojaaDoorNatLaw2
import Derived.Test.YtmidncjhlnfojaaDoorEarShort
import Derived.Test.YtmidncjhlnfojaaDoorProg
import Derived.Test.YtmidncjhlnfojaaDoorNatLaw3
import Derived.Test.YtmidncjhlnfojaaDoorEarFrac
import Derived.Test.YtmidncjhlnfojaaDoorEarDec
import Derived.Test.YtmidncjhlnfojaaDoorItoaLay
import Derived.Lib.ItoaMem
import Derived.Test.YtmidncjhlnfojaaDoorEarApi
import Derived.Test.YtmidncjhlnfojaaDoorEarRef2
import Derived.Test.YtmidncjhlnfojaaDoorXrsameDigits
set_option linter.all false
namespace Go.Ear
open Go.Proofs
set_option maxRecDepth 20000
set_option linter.unusedVariables false
set_option maxHeartbeats 2000000
theorem rSame_c {h : PH} {w : World} {v0 : Value} {f : Fr} {v1 : Value} {g : Fr} (hs : Sat h w) (pv0 : F h v0 f) (pv1 : F h v1 g) (hp0 : bf f ≤ 1000000000) (hp1 : bf g ≤ 1000000000) :
    Calls Tryd.prog 22 #[v0, v1] w (Ret h w fun h' r => r = .bool (sameF f g)) := by
 obtain ⟨b1, c1, b2, c2, rfl, k1, k2, u1, u2⟩ := F.shape pv0
 have hbq1 := F.bq pv0
 obtain ⟨b3, c3, b4, c4, rfl, k3, k4, u3, u4⟩ := F.shape pv1
 have hbq2 := F.bq pv1
 have hbn := bf_n f
 have hbd := bf_d f
 have hbn2 := bf_n g
 have hbd2 := bf_d g
 refine calls_ear (vs := [.agg #[.bool f.neg, .slice b1 f.n.length c1, .slice b2 f.d.length c2], .agg #[.bool g.neg, .slice b3 g.n.length c3, .slice b4 g.d.length c4]]) Tryd.func22 rfl rfl ?_
 have g1 := Gr.refl hs
 refine sr (oC (OpW.boxK (v := .agg #[.bool f.neg, .slice b1 f.n.length c1, .slice b2 f.d.length c2]) (arr := #[.bool f.neg, .slice b1 f.n.length c1, .slice b2 f.d.length c2]) g1.sat rfl rfl ?_))
 intro b5 h1 w1 gr1 qb1
 have g2 := g1.trans gr1
 refine oC (OpW.boxK (v := .agg #[.bool g.neg, .slice b3 g.n.length c3, .slice b4 g.d.length c4]) (arr := #[.bool g.neg, .slice b3 g.n.length c3, .slice b4 g.d.length c4]) g2.sat rfl rfl ?_)
 intro b6 h2 w2 gr2 qb2
 refine ma (oN (sr (oC (fA (o := 0) Tryd.underlying24 rfl Tryd.sizeOf4 (by decide) rfl rfl ?_))))
 have g3 := g2.trans gr2
 refine oC (lO (v := .bool f.neg) Tryd.isAgg4 rfl (g3.sat _ _ (gr2.le _ _ qb1)) rfl ?_)
 refine oC (fA (o := 0) Tryd.underlying24 rfl Tryd.sizeOf4 (by decide) rfl rfl ?_)
 refine oC (lO (v := .bool g.neg) Tryd.isAgg4 rfl (g3.sat _ _ qb2) rfl ?_)
 refine oC (OpW.eqlB (a := f.neg) (b := g.neg) (r := f.neg == g.neg) Tryd.underlying4 rfl rfl rfl (mv ?_))
 cases c5 : (f.neg == g.neg)
 replace c5 : ¬ (f.neg = g.neg) := (beq_f c5)
 refine oD rfl rfl rfl rfl (oD rfl rfl rfl rfl (oD rfl rfl rfl rfl (oD rfl rfl rfl rfl (oD rfl rfl rfl rfl (oC (pF (v := .bool false) rfl rfl (mv (oD rfl rfl rfl rfl (oD rfl rfl rfl rfl (oD rfl rfl rfl rfl (oD rfl rfl rfl rfl (oD rfl rfl rfl rfl (oC (pF (v := .bool false) rfl rfl (ma (oN (Wp.ret (fin1_ret rfl (resOf_tmp (v := .bool false) rfl) ?_))))))))))))))))))
 refine ⟨h2, g3, ?_⟩
 exact (boolv (by unfold sameF; simp_all))
 replace c5 : f.neg = g.neg := (beq_t c5)
 refine oL rfl rfl rfl (fA (o := 1) Tryd.underlying24 rfl Tryd.sizeOf22 (by decide) rfl rfl ?_)
 refine oL rfl rfl rfl (lO (v := .slice b1 f.n.length c1) Tryd.isAgg22 rfl (g3.sat _ _ (gr2.le _ _ qb1)) rfl ?_)
 refine oL rfl rfl rfl (fA (o := 1) Tryd.underlying24 rfl Tryd.sizeOf22 (by decide) rfl rfl ?_)
 refine oL rfl rfl rfl (lO (v := .slice b3 g.n.length c3) Tryd.isAgg22 rfl (g3.sat _ _ qb2) rfl ?_)
 refine oL rfl rfl rfl (cF Tryd.call75 (rsameDigits_c (a := f.n) (b := g.n) g3.sat (U.mono u1 (gr1.le.trans gr2.le)) (U.mono u3 (gr1.le.trans gr2.le)) (by omega) (by omega)) rfl ?_)
 intro r1 h3 w3 gr3 hr1
 subst hr1
 refine oC (pT (v := .bool (decide (f.n = g.n))) rfl rfl (mv ?_))
 cases c6 : (decide (f.n = g.n))
 replace c6 : ¬ (f.n = g.n) := (of_decide_eq_false c6)
 refine oD rfl rfl rfl rfl (oD rfl rfl rfl rfl (oD rfl rfl rfl rfl (oD rfl rfl rfl rfl (oD rfl rfl rfl rfl (oC (pF (v := .bool false) rfl rfl (ma (oN (Wp.ret (fin1_ret rfl (resOf_tmp (v := .bool false) rfl) ?_))))))))))
 have g4 := g3.trans gr3
 refine ⟨h3, g4, ?_⟩
 exact (boolv (by unfold sameF; simp_all))
 replace c6 : f.n = g.n := (of_decide_eq_true c6)
 refine oL rfl rfl rfl (fA (o := 2) Tryd.underlying24 rfl Tryd.sizeOf22 (by decide) rfl rfl ?_)
 have g5 := g3.trans gr3
 refine oL rfl rfl rfl (lO (v := .slice b2 f.d.length c2) Tryd.isAgg22 rfl (g5.sat _ _ ((gr2.le.trans gr3.le) _ _ qb1)) rfl ?_)
 refine oL rfl rfl rfl (fA (o := 2) Tryd.underlying24 rfl Tryd.sizeOf22 (by decide) rfl rfl ?_)
 refine oL rfl rfl rfl (lO (v := .slice b4 g.d.length c4) Tryd.isAgg22 rfl (g5.sat _ _ (gr3.le _ _ qb2)) rfl ?_)
 refine oL rfl rfl rfl (cF Tryd.call75 (rsameDigits_c (a := f.d) (b := g.d) g5.sat (U.mono u2 ((gr1.le.trans gr2.le).trans gr3.le)) (U.mono u4 ((gr1.le.trans gr2.le).trans gr3.le)) (by omega) (by omega)) rfl ?_)
 intro r2 h4 w4 gr4 hr2
 subst hr2
 refine oC (pT (v := .bool (decide (f.d = g.d))) rfl rfl (ma (oN (Wp.ret (fin1_ret rfl (resOf_tmp (v := .bool (decide (f.d = g.d))) rfl) ?_)))))
 have g6 := g5.trans gr4
 refine ⟨h4, g6, ?_⟩
 exact (boolv (by unfold sameF; simp_all))
end Go.Ear
