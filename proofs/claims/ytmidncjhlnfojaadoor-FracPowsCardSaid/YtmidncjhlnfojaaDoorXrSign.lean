/- About package frac: XrSign. -/
import Derived.Test.YtmidncjhlnfojaaDoorNatLaw2
import Derived.Test.YtmidncjhlnfojaaDoorEarShort
import Derived.Test.YtmidncjhlnfojaaDoorProg
import Derived.Test.YtmidncjhlnfojaaDoorNatLaw3
import Derived.Test.YtmidncjhlnfojaaDoorEarFrac
import Derived.Test.YtmidncjhlnfojaaDoorEarDec
import Derived.Test.YtmidncjhlnfojaaDoorItoaLay
import Derived.Lib.ItoaMem
import Derived.Test.YtmidncjhlnfojaaDoorEarApi
import Derived.Test.YtmidncjhlnfojaaDoorEarRef2
import Derived.Test.YtmidncjhlnfojaaDoorK10
set_option linter.all false
namespace Go.Ear
open Go.Proofs
set_option maxRecDepth 20000
set_option linter.unusedVariables false
set_option maxHeartbeats 2000000
theorem rSign_c {h : PH} {w : World} {v0 : Value} {a : Fr} (hs : Sat h w) (pv0 : F h v0 a) (hp0 : bf a ≤ 134217000) :
    Calls Tryd.prog 23 #[v0] w (Ret h w fun h' r => r = .int .i64 (sgQ a.rat)) := by
 obtain ⟨b1, c1, b2, c2, rfl, k1, k2, u1, u2⟩ := F.shape pv0
 have hbq1 := F.bq pv0
 have hbn := bf_n a
 have hbd := bf_d a
 have hbp := bf_pos a
 have hz := len_zero (n := val a.n)
 refine calls_ear (vs := [.agg #[.bool a.neg, .slice b1 a.n.length c1, .slice b2 a.d.length c2]]) Tryd.func23 rfl rfl ?_
 have g1 := Gr.refl hs
 refine sr (oC (OpW.boxK (v := .agg #[.bool a.neg, .slice b1 a.n.length c1, .slice b2 a.d.length c2]) (arr := #[.bool a.neg, .slice b1 a.n.length c1, .slice b2 a.d.length c2]) g1.sat rfl rfl ?_))
 intro b3 h1 w1 gr1 qb1
 refine ma (oN (wS (sr (oC (fA (o := 1) Tryd.underlying24 rfl Tryd.sizeOf22 (by decide) rfl rfl ?_)))))
 have g2 := g1.trans gr1
 refine oC (lO (v := .slice b1 a.n.length c1) Tryd.isAgg22 rfl (g2.sat _ _ qb1) rfl ?_)
 refine oC (cF Tryd.call76 (rtrim_c (l := a.n) g2.sat (U.mono u1 gr1.le) (by first | omega | (simp only [List.length_set, List.length_replicate]; omega))) rfl ?_)
 intro r1 h2 w2 gr2 hr1
 obtain ⟨b4, c3, rfl, k3⟩ := N.shape hr1
 refine oC (OpW.lenS Tryd.underlying22 (l := (digs (val a.n)).length) rfl ?_)
 refine oC (OpW.eqlI (a := (((digs (val a.n)).length : Nat) : Int)) (b := ((0 : Nat) : Int)) (r := decide ((digs (val a.n)).length = 0)) rfl rfl (eq_nat (a := (digs (val a.n)).length) (b := 0)) (oN (Wp.cond (t := decide ((digs (val a.n)).length = 0)) rfl (fun c4 => ?_) (fun c4 => ?_))))
 replace c4 : (digs (val a.n)).length = 0 := (of_decide_eq_true c4)
 refine sr (ma (oN (Wp.ret (fin1_ret rfl (resOf_tmp (v := .int .i64 ((0 : Nat) : Int)) rfl) ?_))))
 have g3 := g2.trans gr2
 refine ⟨h2, g3, ?_⟩
 exact (intv (by rw [sign_s, if_pos (by omega)]; rfl))
 replace c4 : ¬ ((digs (val a.n)).length = 0) := (of_decide_eq_false c4)
 refine Wp.skip (wS (sr (oC (fA (o := 0) Tryd.underlying24 rfl Tryd.sizeOf4 (by decide) rfl rfl ?_))))
 have g4 := g2.trans gr2
 refine oC (lO (v := .bool a.neg) Tryd.isAgg4 rfl (g4.sat _ _ (gr2.le _ _ qb1)) rfl (oN (Wp.cond (t := a.neg) rfl (fun c5 => ?_) (fun c5 => ?_))))
 replace c5 : a.neg = true := c5
 refine sr (ma (oN (Wp.ret (fin1_ret rfl (resOf_tmp (v := .int .i64 (-1)) rfl) ?_))))
 refine ⟨h2, g4, ?_⟩
 exact (intv (by rw [sign_s, if_neg (by omega), if_pos (by assumption)]))
 replace c5 : ¬ (a.neg = true) := (raw_f c5)
 refine Wp.skip (sr (ma (oN (Wp.ret (fin1_ret rfl (resOf_tmp (v := .int .i64 ((1 : Nat) : Int)) rfl) ?_)))))
 refine ⟨h2, g4, ?_⟩
 exact (intv (by rw [sign_s, if_neg (by omega), if_neg (by assumption)]; rfl))
end Go.Ear
