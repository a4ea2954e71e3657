/- About package frac: XrNeg. -/
import Derived.Test.YtmidncjhlnfojaaDoorNatLaw2
import Derived.Test.YtmidncjhlnfojaaDoorEarShort
import Derived.Test.YtmidncjhlnfojaaDoorProg
import Derived.Test.YtmidncjhlnfojaaDoorNatLaw3
import Derived.Test.YtmidncjhlnfojaaDoorEarFrac
import Derived.Test.YtmidncjhlnfojaaDoorEarDec
import Derived.Test.YtmidncjhlnfojaaDoorItoaLay
import Derived.Lib.ItoaMem
import Derived.Test.YtmidncjhlnfojaaDoorEarApi
import Derived.Test.YtmidncjhlnfojaaDoorEarRef2
import Derived.Test.YtmidncjhlnfojaaDoorK12
set_option linter.all false
namespace Go.Ear
open Go.Proofs
set_option maxRecDepth 20000
set_option linter.unusedVariables false
set_option maxHeartbeats 2000000
theorem rNeg_c {h : PH} {w : World} {v0 : Value} {a : Fr} (hs : Sat h w) (pv0 : F h v0 a) (hp0 : bf a ≤ 134217000) :
    Calls Tryd.prog 46 #[v0] w (Ret h w fun h' r => Kn h' r (-a.rat)) := by
 obtain ⟨b1, c1, b2, c2, rfl, k1, k2, u1, u2⟩ := F.shape pv0
 have hbq1 := F.bq pv0
 have hbn := bf_n a
 have hbd := bf_d a
 have hbp := bf_pos a
 refine calls_ear (vs := [.agg #[.bool a.neg, .slice b1 a.n.length c1, .slice b2 a.d.length c2]]) Tryd.func46 rfl rfl ?_
 have g1 := Gr.refl hs
 refine sr (oC (OpW.boxK (v := .agg #[.bool a.neg, .slice b1 a.n.length c1, .slice b2 a.d.length c2]) (arr := #[.bool a.neg, .slice b1 a.n.length c1, .slice b2 a.d.length c2]) g1.sat rfl rfl ?_))
 intro b3 h1 w1 gr1 qb1
 have g2 := g1.trans gr1
 refine oC (OpW.allocO (arr := #[.bool false, .slice none 0 0, .slice none 0 0]) g2.sat Tryd.zeroValue24 rfl ?_)
 intro b4 w2 gr2 n1 lo1 o1
 have lo2 := Nat.le_trans g2.ext.size lo1
 refine oN (sr (oC (fA (o := 0) Tryd.underlying24 rfl Tryd.sizeOf4 (by decide) rfl rfl ?_)))
 have g3 := g2.trans gr2
 refine oC (lO (v := .bool a.neg) Tryd.isAgg4 rfl (g3.sat _ _ qb1) rfl ?_)
 refine oC (OpW.notB (a := a.neg) (r := !(a.neg)) rfl rfl ?_)
 refine oC (fA (o := 1) Tryd.underlying24 rfl Tryd.sizeOf22 (by decide) rfl rfl ?_)
 refine oC (lO (v := .slice b1 a.n.length c1) Tryd.isAgg22 rfl (g3.sat _ _ qb1) rfl ?_)
 refine oC (fA (o := 2) Tryd.underlying24 rfl Tryd.sizeOf22 (by decide) rfl rfl ?_)
 refine oC (lO (v := .slice b2 a.d.length c2) Tryd.isAgg22 rfl (g3.sat _ _ qb1) rfl ?_)
 refine oC (cF Tryd.call81 (rmake1_c (s := !(a.neg)) (n := a.n) (d := a.d) g3.sat (U.mono u1 gr1.le) (U.mono u2 gr1.le) (by omega) (by first | omega | exact Nat.zero_le _)) rfl ?_)
 intro r1 h2 w3 gr3 hr1
 obtain ⟨b5, c3, b6, c4, rfl, k3, k4, u3, u4⟩ := F.shape hr1
 have o2 := gr3.kp ⟨o1, n1⟩
 refine oC (sA (cs := [.bool ((frK ((Fr.mk (!(a.neg)) a.n a.d).rat)).neg), .slice b5 ((frK ((Fr.mk (!(a.neg)) a.n a.d).rat)).n.length) c3, .slice b6 ((frK ((Fr.mk (!(a.neg)) a.n a.d).rat)).d.length) c4]) Tryd.sizeOf24 rfl rfl rfl rfl o2.1 rfl ?_)
 intro w4 p1
 refine oN (Wp.ret (fin1_ret rfl (resOf_cellA (cs := [.bool ((frK ((Fr.mk (!(a.neg)) a.n a.d).rat)).neg), .slice b5 ((frK ((Fr.mk (!(a.neg)) a.n a.d).rat)).n.length) c3, .slice b6 ((frK ((Fr.mk (!(a.neg)) a.n a.d).rat)).d.length) c4]) Tryd.isAgg24 Tryd.sizeOf24 rfl p1.at_ (Nat.le_of_ble_eq_true rfl) rfl) ?_))
 have g4 := (g3.trans gr3).put p1 o2.2 lo2
 refine ⟨h2, g4, ?_⟩
 exact (Kn.cast neg_F (F.mk u3 u4))
end Go.Ear
