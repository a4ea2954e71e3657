/- About package frac: XrSize. -/
import Derived.Test.YtmidncjhlnfojaaDoorNatLaw2
import Derived.Test.YtmidncjhlnfojaaDoorEarShort
import Derived.Test.YtmidncjhlnfojaaDoorProg
import Derived.Test.YtmidncjhlnfojaaDoorNatLaw3
import Derived.Test.YtmidncjhlnfojaaDoorEarFrac
import Derived.Test.YtmidncjhlnfojaaDoorEarDec
import Derived.Test.YtmidncjhlnfojaaDoorItoaLay
import Derived.Lib.ItoaMem
import Derived.Test.YtmidncjhlnfojaaDoorEarApi
import Derived.Test.YtmidncjhlnfojaaDoorEarRef2
import Derived.Test.YtmidncjhlnfojaaDoorK1
import Derived.Test.YtmidncjhlnfojaaDoorK10
import Derived.Test.YtmidncjhlnfojaaDoorX10
import Derived.Test.YtmidncjhlnfojaaDoorX12
set_option linter.all false
namespace Go.Ear
open Go.Proofs
set_option maxRecDepth 20000
set_option linter.unusedVariables false
set_option maxHeartbeats 2000000
theorem rSize_c {h : PH} {w : World} {v0 : Value} {a : Fr} (hs : Sat h w) (pv0 : F h v0 a) (hp0 : bf a ≤ 100000000) :
    Calls Tryd.prog 57 #[v0] w (Ret h w fun h' r => r = .int .i64 ((sizeQ a.rat : Nat) : Int)) := by
 obtain ⟨b1, c1, b2, c2, rfl, k1, k2, u1, u2⟩ := F.shape pv0
 have hbq1 := F.bq pv0
 have hbn := bf_n a
 have hbd := bf_d a
 have hbp := bf_pos a
 have hq1 := bq_num a.rat
 have hq2 := bq_den a.rat
 have hlk := lowF_frK a.rat
 have hl1 := bitlen_sz a.rat.num.natAbs
 have hl2 := bitlen_sz a.rat.den
 have hbk := bq_K a.rat
 refine calls_ear (vs := [.agg #[.bool a.neg, .slice b1 a.n.length c1, .slice b2 a.d.length c2]]) Tryd.func57 rfl rfl ?_
 have g1 := Gr.refl hs
 refine sr (oC (OpW.boxO (v := .agg #[.bool a.neg, .slice b1 a.n.length c1, .slice b2 a.d.length c2]) (arr := #[.bool a.neg, .slice b1 a.n.length c1, .slice b2 a.d.length c2]) g1.sat rfl rfl ?_))
 intro b3 w1 gr1 n1 lo1 o1
 have lo2 := Nat.le_trans g1.ext.size lo1
 refine ma (oN (sr (oC (lA (cs := [.bool a.neg, .slice b1 a.n.length c1, .slice b2 a.d.length c2]) Tryd.isAgg24 Tryd.sizeOf24 rfl o1 rfl rfl ?_))))
 have g2 := g1.trans gr1
 refine oC (cF Tryd.call34 (rCanon_c (a := a) g2.sat (F.mk u1 u2) (by omega)) rfl ?_)
 intro r1 h1 w2 gr2 hr1
 obtain ⟨b4, c3, b5, c4, rfl, k3, k4, u3, u4⟩ := F.shape hr1
 have o2 := gr2.kp ⟨o1, n1⟩
 refine oC (sA (cs := [.bool ((frK a.rat).neg), .slice b4 ((frK a.rat).n.length) c3, .slice b5 ((frK a.rat).d.length) c4]) Tryd.sizeOf24 rfl rfl rfl rfl o2.1 rfl ?_)
 intro w3 p1
 refine oN (wS ?_)
 have g3 := (g2.trans gr2).put p1 o2.2 lo2
 refine Wp.dagL 8 [5, 6, 7, 8, 9, 10, 11, 2] [eqv (.pointer (some ⟨b3, 1, none⟩)), eqv (.slice b4 ((frK a.rat).n.length) c3), eqv (.int .i64 ((bitlen a.rat.num.natAbs : Nat) : Int)), eqv (.agg #[.bool ((frK a.rat).neg), .slice b4 ((frK a.rat).n.length) c3, .slice b5 ((frK a.rat).d.length) c4]), fun h _ x => N h x (lowF (frK a.rat)), eqv (.int .i64 ((bitlen (lowF (frK a.rat)) : Nat) : Int)), eqv (.int .i64 ((bitlen a.rat.num.natAbs + (bitlen (lowF (frK a.rat))) : Nat) : Int)), eqv (.int .i64 ((bitlen a.rat.num.natAbs + (bitlen (lowF (frK a.rat))) : Nat) : Int))] mixed g3.sat rfl (by decide +kernel) ⟨sQ _, sQ _, sQ _, sQ _, (stab_N (lowF (frK a.rat))), sQ _, sQ _, sQ _, trivial⟩ ?_ ?_
 intro stab
 refine ⟨?_, ?_, ?_, ?_, ?_, ?_, ?_, ?_, trivial⟩
 intro ρ1 h2 w4 g4 hdd1 hdo1
 have e1 : ρ1 1 = .pointer (some ⟨b3, 0, none⟩) := hdo1 1 rfl
 refine gP (fA (o := 1) Tryd.underlying24 rfl Tryd.sizeOf22 (by decide) e1 rfl ?_)
 exact ⟨_, h2, rfl, g4, fun j x _ p => p, rfl⟩
 intro ρ2 h3 w5 g5 hdd2 hdo2
 have e2 : ρ2 5 = .pointer (some ⟨b3, 1, none⟩) := hdd2 0 (by decide)
 have o4 := g5.kp ⟨p1.at_, o2.2⟩
 refine gP (lO (v := .slice b4 ((frK a.rat).n.length) c3) Tryd.isAgg22 e2 o4.1 rfl ?_)
 exact ⟨_, h3, rfl, g5, fun j x _ p => p, rfl⟩
 intro ρ3 h4 w6 g6 hdd3 hdo3
 have e3 : ρ3 6 = .slice b4 ((frK a.rat).n.length) c3 := hdd3 1 (by decide)
 have g7 := g3.trans g6
 refine gP (cF Tryd.call106 (rbits_c (a := a.rat.num.natAbs) g7.sat (U.mono u3 g6.le) (by omega)) (cx e3 cxn) ?_)
 intro r2 h5 w7 gr3 hr2
 exact ⟨r2, h5, rfl, g6.trans gr3, fun j x _ => stab j _ _ _ _ x gr3, hr2⟩
 intro ρ4 h6 w8 g8 hdd4 hdo4
 have e4 : ρ4 1 = .pointer (some ⟨b3, 0, none⟩) := hdo4 1 rfl
 have o5 := g8.kp ⟨p1.at_, o2.2⟩
 refine gP (lA (cs := [.bool ((frK a.rat).neg), .slice b4 ((frK a.rat).n.length) c3, .slice b5 ((frK a.rat).d.length) c4]) Tryd.isAgg24 Tryd.sizeOf24 e4 o5.1 rfl rfl ?_)
 exact ⟨_, h6, rfl, g8, fun j x _ p => p, rfl⟩
 intro ρ5 h7 w9 g9 hdd5 hdo5
 have e5 : ρ5 8 = .agg #[.bool ((frK a.rat).neg), .slice b4 ((frK a.rat).n.length) c3, .slice b5 ((frK a.rat).d.length) c4] := hdd5 3 (by decide)
 have g10 := g3.trans g9
 refine gP (cF Tryd.call94 (rlow_c (f := frK a.rat) g10.sat (F.mk (U.mono u3 g9.le) (U.mono u4 g9.le)) (by omega)) (cx e5 cxn) ?_)
 intro r3 h8 w10 gr4 hr3
 exact ⟨r3, h8, rfl, g9.trans gr4, fun j x _ => stab j _ _ _ _ x gr4, hr3⟩
 intro ρ6 h9 w11 g11 hdd6 hdo6
 have q1 : N h9 (ρ6 9) (lowF (frK a.rat)) := hdd6 4 (by decide)
 have g12 := g3.trans g11
 refine gP (cF Tryd.call106 (rbits_c (a := lowF (frK a.rat)) g12.sat q1 (by rw [hlk]; omega)) rfl ?_)
 intro r4 h10 w12 gr5 hr4
 exact ⟨r4, h10, rfl, g11.trans gr5, fun j x _ => stab j _ _ _ _ x gr5, hr4⟩
 intro ρ7 h11 w13 g13 hdd7 hdo7
 have e6 : ρ7 7 = .int .i64 ((bitlen a.rat.num.natAbs : Nat) : Int) := hdd7 2 (by decide)
 have e7 : ρ7 10 = .int .i64 ((bitlen (lowF (frK a.rat)) : Nat) : Int) := hdd7 5 (by decide)
 refine gP (OpW.add (a := ((bitlen a.rat.num.natAbs : Nat) : Int)) (b := ((bitlen (lowF (frK a.rat)) : Nat) : Int)) (r := ((bitlen a.rat.num.natAbs + (bitlen (lowF (frK a.rat))) : Nat) : Int)) e6 e7 (add_i64 (a := bitlen a.rat.num.natAbs) (b := bitlen (lowF (frK a.rat))) (by rw [hlk]; omega)) ?_)
 exact ⟨_, h11, rfl, g13, fun j x _ p => p, rfl⟩
 intro ρ8 h12 w14 g14 hdd8 hdo8
 have e8 : ρ8 11 = .int .i64 ((bitlen a.rat.num.natAbs + (bitlen (lowF (frK a.rat))) : Nat) : Int) := hdd8 6 (by decide)
 refine gP (OpW.assign (v := .int .i64 ((bitlen a.rat.num.natAbs + (bitlen (lowF (frK a.rat))) : Nat) : Int)) e8 ?_)
 exact ⟨_, h12, rfl, g14, fun j x _ p => p, rfl⟩
 intro ρ9 h13 w15 g15 hdp1 hdo9
 have e9 : ρ9 2 = .int .i64 ((bitlen a.rat.num.natAbs + (bitlen (lowF (frK a.rat))) : Nat) : Int) := hdp1 7 rfl
 refine Ops.forget [(2, .int .i64 ((bitlen a.rat.num.natAbs + (bitlen (lowF (frK a.rat))) : Nat) : Int))] ⟨e9, trivial⟩ (fun ρ10 => (oN (Wp.ret (fin1_ret rfl (resOf_tmp (v := .int .i64 ((bitlen a.rat.num.natAbs + (bitlen (lowF (frK a.rat))) : Nat) : Int)) rfl) ?_))))
 have g16 := g3.trans g15
 refine ⟨h13, g16, ?_⟩
 exact (natv (by rw [hlk]; rfl))
end Go.Ear
