/- About package frac: Xrlow. -/
import Derived.Test.YtmidncjhlnfojaaDoorNatLaw2
import Derived.Test.YtmidncjhlnfojaaDoorEarShort
import Derived.Test.YtmidncjhlnfojaaDoorProg
import Derived.Test.YtmidncjhlnfojaaDoorNatLaw3
import Derived.Test.YtmidncjhlnfojaaDoorEarFrac
import Derived.Test.YtmidncjhlnfojaaDoorEarDec
import Derived.Test.YtmidncjhlnfojaaDoorItoaLay
import Derived.Lib.ItoaMem
import Derived.Test.YtmidncjhlnfojaaDoorEarApi
import Derived.Test.YtmidncjhlnfojaaDoorEarRef2
import Derived.Test.YtmidncjhlnfojaaDoorK10
set_option linter.all false
namespace Go.Ear
open Go.Proofs
set_option maxRecDepth 20000
set_option linter.unusedVariables false
set_option maxHeartbeats 2000000
theorem rlow_c {h : PH} {w : World} {v0 : Value} {f : Fr} (hs : Sat h w) (pv0 : F h v0 f) (hp0 : f.d.length ≤ 1073741824) :
    Calls Tryd.prog 94 #[v0] w (Ret h w fun h' r => N h' r (lowF f)) := by
 obtain ⟨b1, c1, b2, c2, rfl, k1, k2, u1, u2⟩ := F.shape pv0
 have hbq1 := F.bq pv0
 have hz := len_zero (n := val f.d)
 refine calls_ear (vs := [.agg #[.bool f.neg, .slice b1 f.n.length c1, .slice b2 f.d.length c2]]) Tryd.func94 rfl rfl ?_
 have g1 := Gr.refl hs
 refine sr (oC (OpW.boxK (v := .agg #[.bool f.neg, .slice b1 f.n.length c1, .slice b2 f.d.length c2]) (arr := #[.bool f.neg, .slice b1 f.n.length c1, .slice b2 f.d.length c2]) g1.sat rfl rfl ?_))
 intro b3 h1 w1 gr1 qb1
 refine ma (oN (sr (oC (fA (o := 2) Tryd.underlying24 rfl Tryd.sizeOf22 (by decide) rfl rfl ?_))))
 have g2 := g1.trans gr1
 refine oC (lO (v := .slice b2 f.d.length c2) Tryd.isAgg22 rfl (g2.sat _ _ qb1) rfl ?_)
 refine oC (cF Tryd.call76 (rtrim_c (l := f.d) g2.sat (U.mono u2 gr1.le) (by first | omega | (simp only [List.length_set, List.length_replicate]; omega))) rfl ?_)
 intro r1 h2 w2 gr2 hr1
 obtain ⟨b4, c3, rfl, k3⟩ := N.shape hr1
 refine ma (oN (wS (sr (mv (oC (OpW.lenS Tryd.underlying22 (l := (digs (val f.d)).length) rfl ?_))))))
 refine oC (OpW.eqlI (a := (((digs (val f.d)).length : Nat) : Int)) (b := ((0 : Nat) : Int)) (r := decide ((digs (val f.d)).length = 0)) rfl rfl (eq_nat (a := (digs (val f.d)).length) (b := 0)) (oN (Wp.cond (t := decide ((digs (val f.d)).length = 0)) rfl (fun c4 => ?_) (fun c4 => ?_))))
 replace c4 : (digs (val f.d)).length = 0 := (of_decide_eq_true c4)
 refine sr ?_
 have g3 := g2.trans gr2
 refine oC (OpW.buildSliceO (arr := #[.int .u32 ((1 : Nat) : Int)]) g3.sat Tryd.underlying22 Tryd.zeroValue51 Tryd.sizeOf51 rfl rfl ?_)
 intro b5 w3 gr3 n1 lo1 o1
 have lo2 := Nat.le_trans g3.ext.size lo1
 refine ma (oN (Wp.ret ?_))
 have g5 := g3.trans gr3
 obtain ⟨h3, g4, l1, qb2, fr1⟩ := freeze_ex g5 o1 n1 lo2
 have f1 := U.own (l := [1]) qb2 (fun x hx => by simp at hx; omega) (cap := 1) rfl (Nat.le_refl _)
 refine fin1_ret rfl (resOf_tmp (v := .slice (some ⟨b5, 0, none⟩) 1 1) rfl) ?_
 refine ⟨h3, g4, ?_⟩
 exact N.cast (by unfold lowF; rw [if_pos (by omega)]) (U.ofDigs f1 digs_lit1)
 replace c4 : ¬ ((digs (val f.d)).length = 0) := (of_decide_eq_false c4)
 refine Wp.skip (sr (mv (ma (oN (Wp.ret (fin1_ret rfl (resOf_tmp (v := .slice b4 ((digs (val f.d)).length) c3) rfl) ?_))))))
 have g6 := g2.trans gr2
 refine ⟨h2, g6, ?_⟩
 exact (N.cast (by unfold lowF; rw [if_neg (by omega)]) hr1)
end Go.Ear
