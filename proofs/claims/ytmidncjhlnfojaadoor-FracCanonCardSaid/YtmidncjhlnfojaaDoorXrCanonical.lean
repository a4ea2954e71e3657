/- About package frac: XrCanonical. -/
import Derived.Test.YtmidncjhlnfojaaDoorNatLaw2
import Derived.Test.YtmidncjhlnfojaaDoorEarShort
import Derived.Test.YtmidncjhlnfojaaDoorProg
import Derived.Test.YtmidncjhlnfojaaDoorNatLaw3
import Derived.Test.YtmidncjhlnfojaaDoorEarFrac
import Derived.Test.YtmidncjhlnfojaaDoorEarDec
import Derived.Test.YtmidncjhlnfojaaDoorItoaLay
import Derived.Lib.ItoaMem
import Derived.Test.YtmidncjhlnfojaaDoorEarApi
import Derived.Test.YtmidncjhlnfojaaDoorEarRef2
import Derived.Test.YtmidncjhlnfojaaDoorK1
import Derived.Test.YtmidncjhlnfojaaDoorX12
set_option linter.all false
namespace Go.Ear
open Go.Proofs
set_option maxRecDepth 20000
set_option linter.unusedVariables false
set_option maxHeartbeats 2000000
theorem rCanonical_c {h : PH} {w : World} {v0 : Value} {a : Fr} (hs : Sat h w) (pv0 : F h v0 a) (hp0 : bf a ≤ 100000000) :
    Calls Tryd.prog 55 #[v0] w (Ret h w fun h' r => r = .bool (sameF a (frK a.rat))) := by
 obtain ⟨b1, c1, b2, c2, rfl, k1, k2, u1, u2⟩ := F.shape pv0
 have hbq1 := F.bq pv0
 have hbn := bf_n a
 have hbd := bf_d a
 have hbp := bf_pos a
 have hfk := bf_frK a.rat
 refine calls_ear (vs := [.agg #[.bool a.neg, .slice b1 a.n.length c1, .slice b2 a.d.length c2]]) Tryd.func55 rfl rfl ?_
 have g1 := Gr.refl hs
 refine sr (oC (OpW.boxK (v := .agg #[.bool a.neg, .slice b1 a.n.length c1, .slice b2 a.d.length c2]) (arr := #[.bool a.neg, .slice b1 a.n.length c1, .slice b2 a.d.length c2]) g1.sat rfl rfl ?_))
 intro b3 h1 w1 gr1 qb1
 refine ma (oN (wS ?_))
 have g2 := g1.trans gr1
 refine Wp.dagL 5 [3, 4, 5, 6, 2] [eqv (.agg #[.bool a.neg, .slice b1 a.n.length c1, .slice b2 a.d.length c2]), eqv (.agg #[.bool a.neg, .slice b1 a.n.length c1, .slice b2 a.d.length c2]), fun h _ x => Kn h x a.rat, eqv (.bool (sameF a (frK a.rat))), eqv (.bool (sameF a (frK a.rat)))] mixed g2.sat rfl (by decide +kernel) ⟨sQ _, sQ _, (stab_K a.rat), sQ _, sQ _, trivial⟩ ?_ ?_
 intro stab
 refine ⟨?_, ?_, ?_, ?_, ?_, trivial⟩
 intro ρ1 h2 w2 g3 hdd1 hdo1
 have e1 : ρ1 1 = .pointer (some ⟨b3, 0, none⟩) := hdo1 1 rfl
 have g4 := g2.trans g3
 refine gP (lA (cs := [.bool a.neg, .slice b1 a.n.length c1, .slice b2 a.d.length c2]) Tryd.isAgg24 Tryd.sizeOf24 e1 (g4.sat _ _ (g3.le _ _ qb1)) rfl rfl ?_)
 exact ⟨_, h2, rfl, g3, fun j x _ p => p, rfl⟩
 intro ρ2 h3 w3 g5 hdd2 hdo2
 have e2 : ρ2 1 = .pointer (some ⟨b3, 0, none⟩) := hdo2 1 rfl
 have g6 := g2.trans g5
 refine gP (lA (cs := [.bool a.neg, .slice b1 a.n.length c1, .slice b2 a.d.length c2]) Tryd.isAgg24 Tryd.sizeOf24 e2 (g6.sat _ _ (g5.le _ _ qb1)) rfl rfl ?_)
 exact ⟨_, h3, rfl, g5, fun j x _ p => p, rfl⟩
 intro ρ3 h4 w4 g7 hdd3 hdo3
 have e3 : ρ3 4 = .agg #[.bool a.neg, .slice b1 a.n.length c1, .slice b2 a.d.length c2] := hdd3 1 (by decide)
 have g8 := g2.trans g7
 refine gP (cF Tryd.call34 (rCanon_c (a := a) g8.sat (F.mk (U.mono u1 (gr1.le.trans g7.le)) (U.mono u2 (gr1.le.trans g7.le))) (by omega)) (cx e3 cxn) ?_)
 intro r1 h5 w5 gr2 hr1
 exact ⟨r1, h5, rfl, g7.trans gr2, fun j x _ => stab j _ _ _ _ x gr2, hr1⟩
 intro ρ4 h6 w6 g9 hdd4 hdo4
 have e4 : ρ4 3 = .agg #[.bool a.neg, .slice b1 a.n.length c1, .slice b2 a.d.length c2] := hdd4 0 (by decide)
 have q1 : Kn h6 (ρ4 5) a.rat := hdd4 2 (by decide)
 have g10 := g2.trans g9
 refine gP (cF Tryd.call22 (rSame_c (f := a) (g := frK a.rat) g10.sat (F.mk (U.mono u1 (gr1.le.trans g9.le)) (U.mono u2 (gr1.le.trans g9.le))) q1 (by first | omega | (simp only [bf_frK, frK_rat, wts_cons, wts_nil]; omega)) (by first | omega | (simp only [bf_frK, frK_rat, wts_cons, wts_nil]; omega))) (cx e4 (cx rfl cxn)) ?_)
 intro r2 h7 w7 gr3 hr2
 exact ⟨r2, h7, rfl, g9.trans gr3, fun j x _ => stab j _ _ _ _ x gr3, hr2⟩
 intro ρ5 h8 w8 g11 hdd5 hdo5
 have e5 : ρ5 6 = .bool (sameF a (frK a.rat)) := hdd5 3 (by decide)
 refine gP (OpW.assign (v := .bool (sameF a (frK a.rat))) e5 ?_)
 exact ⟨_, h8, rfl, g11, fun j x _ p => p, rfl⟩
 intro ρ6 h9 w9 g12 hdp1 hdo6
 have e6 : ρ6 2 = .bool (sameF a (frK a.rat)) := hdp1 4 rfl
 refine Ops.forget [(2, .bool (sameF a (frK a.rat)))] ⟨e6, trivial⟩ (fun ρ7 => (oN (Wp.ret (fin1_ret rfl (resOf_tmp (v := .bool (sameF a (frK a.rat))) rfl) ?_))))
 have g13 := g2.trans g12
 refine ⟨h9, g13, ?_⟩
 exact rfl
end Go.Ear
