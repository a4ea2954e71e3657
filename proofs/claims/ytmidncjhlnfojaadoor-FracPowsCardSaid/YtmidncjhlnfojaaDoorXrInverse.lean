/- About package frac: XrInverse. -/
import Derived.Test.YtmidncjhlnfojaaDoorNatLaw2
import Derived.Test.YtmidncjhlnfojaaDoorEarShort
import Derived.Test.YtmidncjhlnfojaaDoorProg
import Derived.Test.YtmidncjhlnfojaaDoorNatLaw3
import Derived.Test.YtmidncjhlnfojaaDoorEarFrac
import Derived.Test.YtmidncjhlnfojaaDoorEarDec
import Derived.Test.YtmidncjhlnfojaaDoorItoaLay
import Derived.Lib.ItoaMem
import Derived.Test.YtmidncjhlnfojaaDoorEarApi
import Derived.Test.YtmidncjhlnfojaaDoorEarRef2
import Derived.Test.YtmidncjhlnfojaaDoorK1
import Derived.Test.YtmidncjhlnfojaaDoorK10
import Derived.Test.YtmidncjhlnfojaaDoorK12
import Derived.Test.YtmidncjhlnfojaaDoorXrlow
set_option linter.all false
namespace Go.Ear
open Go.Proofs
set_option maxRecDepth 20000
set_option linter.unusedVariables false
set_option maxHeartbeats 2000000
theorem rInverse_c {h : PH} {w : World} {v0 : Value} {a : Fr} (hs : Sat h w) (pv0 : F h v0 a) (hp0 : bf a ≤ 134217000) (hp1 : a.rat ≠ 0) :
    Calls Tryd.prog 77 #[v0] w (Ret h w fun h' r => Kn h' r ((a.rat)⁻¹)) := by
 obtain ⟨b1, c1, b2, c2, rfl, k1, k2, u1, u2⟩ := F.shape pv0
 have hbq1 := F.bq pv0
 have ha1 := sz_valn (F.fit pv0).1
 have ha2 := sz_lowF (F.fit pv0).2
 have ha3 := lowF_ne a
 have ha4 := bf_n a
 have ha5 := bf_d a
 have ha6 := bf_pos a
 have hn0 : val a.n ≠ 0 := fun e => hp1 (rat_zero_iff.2 e)
 have l1 : (digs (lowF a)).length ≤ 536870912 := Nat.le_trans ha2 (by omega)
 have l2 : (digs (val a.n)).length ≤ 536870912 := Nat.le_trans ha1 (by omega)
 refine calls_ear (vs := [.agg #[.bool a.neg, .slice b1 a.n.length c1, .slice b2 a.d.length c2]]) Tryd.func77 rfl rfl ?_
 have g1 := Gr.refl hs
 refine sr (oC (OpW.boxK (v := .agg #[.bool a.neg, .slice b1 a.n.length c1, .slice b2 a.d.length c2]) (arr := #[.bool a.neg, .slice b1 a.n.length c1, .slice b2 a.d.length c2]) g1.sat rfl rfl ?_))
 intro b3 h1 w1 gr1 qb1
 have g2 := g1.trans gr1
 refine oC (OpW.allocO (arr := #[.bool false, .slice none 0 0, .slice none 0 0]) g2.sat Tryd.zeroValue24 rfl ?_)
 intro b4 w2 gr2 n1 lo1 o1
 have lo2 := Nat.le_trans g2.ext.size lo1
 refine oN (wS ?_)
 have g3 := g2.trans gr2
 refine Wp.dagL 8 [3, 4, 5, 6, 7, 8, 9, 10] [eqv (.pointer (some ⟨b3, 0, none⟩)), eqv (.bool a.neg), eqv (.agg #[.bool a.neg, .slice b1 a.n.length c1, .slice b2 a.d.length c2]), fun h _ x => N h x (lowF a), eqv (.pointer (some ⟨b3, 1, none⟩)), eqv (.slice b1 a.n.length c1), fun h _ x => N h x (val a.n), fun h _ x => Kn h x ((Fr.mk a.neg (digs (lowF a)) (digs (val a.n))).rat)] mixed g3.sat rfl (by decide +kernel) ⟨sQ _, sQ _, sQ _, (stab_N (lowF a)), sQ _, sQ _, (stab_N (val a.n)), (stab_K ((Fr.mk a.neg (digs (lowF a)) (digs (val a.n))).rat)), trivial⟩ ?_ ?_
 intro stab
 refine ⟨?_, ?_, ?_, ?_, ?_, ?_, ?_, ?_, trivial⟩
 intro ρ1 h2 w3 g4 hdd1 hdo1
 have e1 : ρ1 1 = .pointer (some ⟨b3, 0, none⟩) := hdo1 1 rfl
 refine gP (fA (o := 0) Tryd.underlying24 rfl Tryd.sizeOf4 (by decide) e1 rfl ?_)
 exact ⟨_, h2, rfl, g4, fun j x _ p => p, rfl⟩
 intro ρ2 h3 w4 g5 hdd2 hdo2
 have e2 : ρ2 3 = .pointer (some ⟨b3, 0, none⟩) := hdd2 0 (by decide)
 have g6 := g3.trans g5
 refine gP (lO (v := .bool a.neg) Tryd.isAgg4 e2 (g6.sat _ _ (g5.le _ _ qb1)) rfl ?_)
 exact ⟨_, h3, rfl, g5, fun j x _ p => p, rfl⟩
 intro ρ3 h4 w5 g7 hdd3 hdo3
 have e3 : ρ3 1 = .pointer (some ⟨b3, 0, none⟩) := hdo3 1 rfl
 have g8 := g3.trans g7
 refine gP (lA (cs := [.bool a.neg, .slice b1 a.n.length c1, .slice b2 a.d.length c2]) Tryd.isAgg24 Tryd.sizeOf24 e3 (g8.sat _ _ (g7.le _ _ qb1)) rfl rfl ?_)
 exact ⟨_, h4, rfl, g7, fun j x _ p => p, rfl⟩
 intro ρ4 h5 w6 g9 hdd4 hdo4
 have e4 : ρ4 5 = .agg #[.bool a.neg, .slice b1 a.n.length c1, .slice b2 a.d.length c2] := hdd4 2 (by decide)
 have g10 := g3.trans g9
 refine gP (cF Tryd.call94 (rlow_c (f := a) g10.sat (F.mk (U.mono u1 (gr1.le.trans g9.le)) (U.mono u2 (gr1.le.trans g9.le))) (by omega)) (cx e4 cxn) ?_)
 intro r1 h6 w7 gr3 hr1
 exact ⟨r1, h6, rfl, g9.trans gr3, fun j x _ => stab j _ _ _ _ x gr3, hr1⟩
 intro ρ5 h7 w8 g11 hdd5 hdo5
 have e5 : ρ5 1 = .pointer (some ⟨b3, 0, none⟩) := hdo5 1 rfl
 refine gP (fA (o := 1) Tryd.underlying24 rfl Tryd.sizeOf22 (by decide) e5 rfl ?_)
 exact ⟨_, h7, rfl, g11, fun j x _ p => p, rfl⟩
 intro ρ6 h8 w9 g12 hdd6 hdo6
 have e6 : ρ6 7 = .pointer (some ⟨b3, 1, none⟩) := hdd6 4 (by decide)
 have g13 := g3.trans g12
 refine gP (lO (v := .slice b1 a.n.length c1) Tryd.isAgg22 e6 (g13.sat _ _ (g12.le _ _ qb1)) rfl ?_)
 exact ⟨_, h8, rfl, g12, fun j x _ p => p, rfl⟩
 intro ρ7 h9 w10 g14 hdd7 hdo7
 have e7 : ρ7 8 = .slice b1 a.n.length c1 := hdd7 5 (by decide)
 have g15 := g3.trans g14
 refine gP (cF Tryd.call76 (rtrim_c (l := a.n) g15.sat (U.mono u1 (gr1.le.trans g14.le)) (by first | omega | (simp only [List.length_set, List.length_replicate]; omega))) (cx e7 cxn) ?_)
 intro r2 h10 w11 gr4 hr2
 exact ⟨r2, h10, rfl, g14.trans gr4, fun j x _ => stab j _ _ _ _ x gr4, hr2⟩
 intro ρ8 h11 w12 g16 hdd8 hdo8
 have e8 : ρ8 4 = .bool a.neg := hdd8 1 (by decide)
 have q1 : N h11 (ρ8 6) (lowF a) := hdd8 3 (by decide)
 have q2 : N h11 (ρ8 9) (val a.n) := hdd8 6 (by decide)
 have g17 := g3.trans g16
 refine gP (cF Tryd.call81 (rmake1_c (s := a.neg) (n := digs (lowF a)) (d := digs (val a.n)) g17.sat q1 q2 (by omega) (by first | omega | exact Nat.zero_le _)) (cx e8 (cx rfl (cx rfl cxn))) ?_)
 intro r3 h12 w13 gr5 hr3
 exact ⟨r3, h12, rfl, g16.trans gr5, fun j x _ => stab j _ _ _ _ x gr5, hr3⟩
 intro ρ9 h13 w14 g18 hdp1 hdo9
 have e9 : ρ9 2 = .pointer (some ⟨b4, 0, none⟩) := hdo9 2 rfl
 have q3 : Kn h13 (ρ9 10) ((Fr.mk a.neg (digs (lowF a)) (digs (val a.n))).rat) := hdp1 7 rfl
 obtain ⟨x1, hx1⟩ : ∃ x, ρ9 10 = x := ⟨_, rfl⟩
 rw [hx1] at q3
 obtain ⟨b5, c3, b6, c4, rfl, k3, k4, u3, u4⟩ := F.shape q3
 refine Ops.forget [(2, .pointer (some ⟨b4, 0, none⟩)), (10, .agg #[.bool ((frK ((Fr.mk a.neg (digs (lowF a)) (digs (val a.n))).rat)).neg), .slice b5 ((frK ((Fr.mk a.neg (digs (lowF a)) (digs (val a.n))).rat)).n.length) c3, .slice b6 ((frK ((Fr.mk a.neg (digs (lowF a)) (digs (val a.n))).rat)).d.length) c4])] ⟨e9, hx1, trivial⟩ (fun ρ10 => ?_)
 have o2 := g18.kp ⟨o1, n1⟩
 refine oC (sA (cs := [.bool ((frK ((Fr.mk a.neg (digs (lowF a)) (digs (val a.n))).rat)).neg), .slice b5 ((frK ((Fr.mk a.neg (digs (lowF a)) (digs (val a.n))).rat)).n.length) c3, .slice b6 ((frK ((Fr.mk a.neg (digs (lowF a)) (digs (val a.n))).rat)).d.length) c4]) Tryd.sizeOf24 rfl rfl rfl rfl o2.1 rfl ?_)
 intro w15 p1
 refine oN (Wp.ret (fin1_ret rfl (resOf_cellA (cs := [.bool ((frK ((Fr.mk a.neg (digs (lowF a)) (digs (val a.n))).rat)).neg), .slice b5 ((frK ((Fr.mk a.neg (digs (lowF a)) (digs (val a.n))).rat)).n.length) c3, .slice b6 ((frK ((Fr.mk a.neg (digs (lowF a)) (digs (val a.n))).rat)).d.length) c4]) Tryd.isAgg24 Tryd.sizeOf24 rfl p1.at_ (Nat.le_of_ble_eq_true rfl) rfl) ?_))
 have g19 := (g3.trans g18).put p1 o2.2 lo2
 refine ⟨h13, g19, ?_⟩
 exact (Kn.cast ((mk_rat hn0).trans (inv_F hp1)) (F.mk u3 u4))
end Go.Ear
