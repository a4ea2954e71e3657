/- About package frac: Xproduct. -/
import Derived.Test.YtmidncjhlnfojaaDoorNatLaw2
import Derived.Test.YtmidncjhlnfojaaDoorEarShort
import Derived.Test.YtmidncjhlnfojaaDoorProg
import Derived.Test.YtmidncjhlnfojaaDoorNatLaw3
import Derived.Test.YtmidncjhlnfojaaDoorEarFrac
import Derived.Test.YtmidncjhlnfojaaDoorK5
import Derived.Test.YtmidncjhlnfojaaDoorXfoldM
set_option linter.all false
namespace Go.Ear
open Go.Proofs
set_option maxRecDepth 20000
set_option linter.unusedVariables false
set_option maxHeartbeats 2000000
theorem product_c {h : PH} {w : World} {v0 : Value} {l : List (Fr)} (hs : Sat h w) (pv0 : LR rpF h v0 l) (hp0 : wts l ≤ 134217724) :
    Calls Tryd.prog 53 #[v0] w (Ret h w fun h' r => Kn h' r (prodF l)) := by
 obtain ⟨b1, c1, rfl, k1⟩ := LR.shape pv0
 have hbs := bq_foldM l (((1 : Nat) : Int) : Rat) (LF.bq pv0)
 have hz : bq (((1 : Nat) : Int) : Rat) ≤ 2 := bq_intc (by decide) (by decide)
 refine calls_ear (vs := [.slice b1 l.length c1]) Tryd.func53 rfl rfl ?_
 have g1 := Gr.refl hs
 refine sr (oC (OpW.allocO (arr := #[.bool false, .slice none 0 0, .slice none 0 0]) g1.sat Tryd.zeroValue24 rfl ?_))
 intro b2 w1 gr1 n1 lo1 o1
 have lo2 := Nat.le_trans g1.ext.size lo1
 refine oN (sr ?_)
 have g2 := g1.trans gr1
 refine oC (cF Tryd.call79 (whole_c (n := ((1 : Nat) : Int)) g2.sat  (by omega) (by omega)) rfl ?_)
 intro r1 h1 w2 gr2 hr1
 obtain ⟨b3, c2, b4, c3, rfl, k2, k3, u1, u2⟩ := Qn.shape hr1
 refine mv ?_
 have g3 := g2.trans gr2
 refine oC (cF Tryd.call102 (foldM_c (q := ((((1 : Nat) : Int) : Int) : Rat)) (l := l) g3.sat hr1 (LR.mono pv0 gr2.le) (by first | omega | (simp only [bf_frK, frK_rat, wts_cons, wts_nil]; omega))) rfl ?_)
 intro r2 h2 w3 gr3 hr2
 obtain ⟨b5, c4, b6, c5, rfl, k4, k5, u3, u4⟩ := Qn.shape hr2
 have g4 := g3.trans gr3
 refine oC (cF Tryd.call74 (give_c (q := foldM ((((1 : Nat) : Int) : Int) : Rat) l) g4.sat hr2 (by omega)) rfl ?_)
 intro r3 h3 w4 gr4 hr3
 obtain ⟨b7, c6, b8, c7, rfl, k6, k7, u5, u6⟩ := F.shape hr3
 have o2 := gr4.kp (gr3.kp (gr2.kp ⟨o1, n1⟩))
 refine oC (sA (cs := [.bool ((frK (foldM ((((1 : Nat) : Int) : Int) : Rat) l)).neg), .slice b7 ((frK (foldM ((((1 : Nat) : Int) : Int) : Rat) l)).n.length) c6, .slice b8 ((frK (foldM ((((1 : Nat) : Int) : Int) : Rat) l)).d.length) c7]) Tryd.sizeOf24 rfl rfl rfl rfl o2.1 rfl ?_)
 intro w5 p1
 refine oN (Wp.ret (fin1_ret rfl (resOf_cellA (cs := [.bool ((frK (foldM ((((1 : Nat) : Int) : Int) : Rat) l)).neg), .slice b7 ((frK (foldM ((((1 : Nat) : Int) : Int) : Rat) l)).n.length) c6, .slice b8 ((frK (foldM ((((1 : Nat) : Int) : Int) : Rat) l)).d.length) c7]) Tryd.isAgg24 Tryd.sizeOf24 rfl p1.at_ (Nat.le_of_ble_eq_true rfl) rfl) ?_))
 have g5 := (g4.trans gr4).put p1 o2.2 lo2
 refine ⟨h3, g5, ?_⟩
 exact (show Kn _ _ (prodF l) from (F.mk u5 u6))
end Go.Ear
