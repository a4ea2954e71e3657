/- About package frac: XrOf. -/
import Derived.Test.YtmidncjhlnfojaaDoorNatLaw2
import Derived.Test.YtmidncjhlnfojaaDoorEarShort
import Derived.Test.YtmidncjhlnfojaaDoorProg
import Derived.Test.YtmidncjhlnfojaaDoorNatLaw3
import Derived.Test.YtmidncjhlnfojaaDoorEarFrac
import Derived.Test.YtmidncjhlnfojaaDoorEarDec
import Derived.Test.YtmidncjhlnfojaaDoorItoaLay
import Derived.Lib.ItoaMem
import Derived.Test.YtmidncjhlnfojaaDoorEarApi
import Derived.Test.YtmidncjhlnfojaaDoorEarRef2
import Derived.Test.YtmidncjhlnfojaaDoorK10
import Derived.Test.YtmidncjhlnfojaaDoorK12
set_option linter.all false
namespace Go.Ear
open Go.Proofs
set_option maxRecDepth 20000
set_option linter.unusedVariables false
set_option maxHeartbeats 2000000
theorem rOf_c {h : PH} {w : World} {n : Int} (hs : Sat h w) (hp0 : -9223372036854775808 ≤ n) (hp1 : n ≤ 9223372036854775807) :
    Calls Tryd.prog 38 #[.int .i64 n] w (Ret h w fun h' r => Kn h' r ((n : Int) : Rat)) := by
 have hsb := bq_intc hp0 hp1
 have hss := sz_small (n := n.natAbs) (by omega)
 have hl1 : (digs n.natAbs).length ≤ 536870912 := Nat.le_trans hss (by omega)
 refine calls_ear (vs := [.int .i64 n]) Tryd.func38 rfl rfl ?_
 have g1 := Gr.refl hs
 refine sr (oC (OpW.allocO (arr := #[.bool false, .slice none 0 0, .slice none 0 0]) g1.sat Tryd.zeroValue24 rfl ?_))
 intro b1 w1 gr1 n1 lo1 o1
 have lo2 := Nat.le_trans g1.ext.size lo1
 refine oN (sr (mv (oC (OpW.lss (a := n) (b := ((0 : Nat) : Int)) (r := decide (n < ((0 : Nat) : Int))) rfl rfl rfl (mv ?_)))))
 have g2 := g1.trans gr1
 refine oC (cF Tryd.call83 (rsize_c (n := n) g2.sat  (by omega) (by omega)) rfl ?_)
 intro r1 h1 w2 gr2 hr1
 subst hr1
 have g3 := g2.trans gr2
 refine oC (cF Tryd.call82 (rnatural_c (n := n.natAbs) g3.sat  (by omega)) rfl ?_)
 intro r2 h2 w3 gr3 hr2
 obtain ⟨b2, c1, rfl, k1⟩ := N.shape hr2
 have g4 := g3.trans gr3
 refine oC (cF Tryd.call81 (rmake1_c (s := decide (n < ((0 : Nat) : Int))) (n := digs n.natAbs) (d := []) g4.sat hr2 (U.nil _ none _) (by omega) (by first | omega | exact Nat.zero_le _)) rfl ?_)
 intro r3 h3 w4 gr4 hr3
 obtain ⟨b3, c2, b4, c3, rfl, k2, k3, u1, u2⟩ := F.shape hr3
 have o2 := gr4.kp (gr3.kp (gr2.kp ⟨o1, n1⟩))
 refine oC (sA (cs := [.bool ((frK ((Fr.mk (decide (n < ((0 : Nat) : Int))) (digs n.natAbs) ([])).rat)).neg), .slice b3 ((frK ((Fr.mk (decide (n < ((0 : Nat) : Int))) (digs n.natAbs) ([])).rat)).n.length) c2, .slice b4 ((frK ((Fr.mk (decide (n < ((0 : Nat) : Int))) (digs n.natAbs) ([])).rat)).d.length) c3]) Tryd.sizeOf24 rfl rfl rfl rfl o2.1 rfl ?_)
 intro w5 p1
 refine oN (Wp.ret (fin1_ret rfl (resOf_cellA (cs := [.bool ((frK ((Fr.mk (decide (n < ((0 : Nat) : Int))) (digs n.natAbs) ([])).rat)).neg), .slice b3 ((frK ((Fr.mk (decide (n < ((0 : Nat) : Int))) (digs n.natAbs) ([])).rat)).n.length) c2, .slice b4 ((frK ((Fr.mk (decide (n < ((0 : Nat) : Int))) (digs n.natAbs) ([])).rat)).d.length) c3]) Tryd.isAgg24 Tryd.sizeOf24 rfl p1.at_ (Nat.le_of_ble_eq_true rfl) rfl) ?_))
 have g5 := (g4.trans gr4).put p1 o2.2 lo2
 refine ⟨h3, g5, ?_⟩
 exact (Kn.cast (mk_rat1.trans int_s) (F.mk u1 u2))
end Go.Ear
