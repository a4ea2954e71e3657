/- About package frac: XCanon. -/
import Derived.Test.YtmidncjhlnfojaaDoorNatLaw2
import Derived.Test.YtmidncjhlnfojaaDoorEarShort
import Derived.Test.YtmidncjhlnfojaaDoorProg
import Derived.Test.YtmidncjhlnfojaaDoorNatLaw3
import Derived.Test.YtmidncjhlnfojaaDoorEarFrac
import Derived.Test.YtmidncjhlnfojaaDoorK4
import Derived.Test.YtmidncjhlnfojaaDoorK5
set_option linter.all false
namespace Go.Ear
open Go.Proofs
set_option maxRecDepth 20000
set_option linter.unusedVariables false
set_option maxHeartbeats 2000000
theorem Canon_c {h : PH} {w : World} {v0 : Value} {a : Fr} (hs : Sat h w) (pv0 : F h v0 a) (hp0 : bf a ≤ 134217000) :
    Calls Tryd.prog 50 #[v0] w (Ret h w fun h' r => Kn h' r a.rat) := by
 obtain ⟨b1, c1, b2, c2, rfl, k1, k2, u1, u2⟩ := F.shape pv0
 have hbq1 := F.bq pv0
 have hbn := bf_n a
 have hbd := bf_d a
 have hbp := bf_pos a
 refine calls_ear (vs := [.agg #[.bool a.neg, .slice b1 a.n.length c1, .slice b2 a.d.length c2]]) Tryd.func50 rfl rfl ?_
 have g1 := Gr.refl hs
 refine sr (oC (OpW.boxK (v := .agg #[.bool a.neg, .slice b1 a.n.length c1, .slice b2 a.d.length c2]) (arr := #[.bool a.neg, .slice b1 a.n.length c1, .slice b2 a.d.length c2]) g1.sat rfl rfl ?_))
 intro b3 h1 w1 gr1 qb1
 have g2 := g1.trans gr1
 refine oC (OpW.allocO (arr := #[.bool false, .slice none 0 0, .slice none 0 0]) g2.sat Tryd.zeroValue24 rfl ?_)
 intro b4 w2 gr2 n1 lo1 o1
 have lo2 := Nat.le_trans g2.ext.size lo1
 refine oN (sr ?_)
 have g3 := g2.trans gr2
 refine oC (lA (cs := [.bool a.neg, .slice b1 a.n.length c1, .slice b2 a.d.length c2]) Tryd.isAgg24 Tryd.sizeOf24 rfl (g3.sat _ _ qb1) rfl rfl ?_)
 refine oC (cF Tryd.call70 (take_c (f := a) g3.sat (F.mk (U.mono u1 gr1.le) (U.mono u2 gr1.le)) (by omega) (by omega)) rfl ?_)
 intro r1 h2 w3 gr3 hr1
 obtain ⟨b5, c3, b6, c4, rfl, k3, k4, u3, u4⟩ := Qn.shape hr1
 have g4 := g3.trans gr3
 refine oC (cF Tryd.call74 (give_c (q := a.rat) g4.sat hr1 (by omega)) rfl ?_)
 intro r2 h3 w4 gr4 hr2
 obtain ⟨b7, c5, b8, c6, rfl, k5, k6, u5, u6⟩ := F.shape hr2
 have o2 := gr4.kp (gr3.kp ⟨o1, n1⟩)
 refine oC (sA (cs := [.bool ((frK a.rat).neg), .slice b7 ((frK a.rat).n.length) c5, .slice b8 ((frK a.rat).d.length) c6]) Tryd.sizeOf24 rfl rfl rfl rfl o2.1 rfl ?_)
 intro w5 p1
 refine oN (Wp.ret (fin1_ret rfl (resOf_cellA (cs := [.bool ((frK a.rat).neg), .slice b7 ((frK a.rat).n.length) c5, .slice b8 ((frK a.rat).d.length) c6]) Tryd.isAgg24 Tryd.sizeOf24 rfl p1.at_ (Nat.le_of_ble_eq_true rfl) rfl) ?_))
 have g5 := (g4.trans gr4).put p1 o2.2 lo2
 refine ⟨h3, g5, ?_⟩
 exact (F.mk u5 u6)
end Go.Ear
