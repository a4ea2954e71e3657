/- About package frac: XrFloor. -/
import Derived.Test.YtmidncjhlnfojaaDoorNatLaw2
import Derived.Test.YtmidncjhlnfojaaDoorEarShort
import Derived.Test.YtmidncjhlnfojaaDoorProg
import Derived.Test.YtmidncjhlnfojaaDoorNatLaw3
import Derived.Test.YtmidncjhlnfojaaDoorEarFrac
import Derived.Test.YtmidncjhlnfojaaDoorEarDec
import Derived.Test.YtmidncjhlnfojaaDoorItoaLay
import Derived.Lib.ItoaMem
import Derived.Test.YtmidncjhlnfojaaDoorEarApi
import Derived.Test.YtmidncjhlnfojaaDoorEarRef2
import Derived.Test.YtmidncjhlnfojaaDoorK1
import Derived.Test.YtmidncjhlnfojaaDoorX12
import Derived.Test.YtmidncjhlnfojaaDoorXrDown
set_option linter.all false
namespace Go.Ear
open Go.Proofs
set_option maxRecDepth 20000
set_option linter.unusedVariables false
set_option maxHeartbeats 2000000
theorem rFloor_c {h : PH} {w : World} {v0 : Value} {a : Fr} {d : Int} (hs : Sat h w) (pv0 : F h v0 a) (hp0 : bf a ≤ 50000000) (hp1 : 1 ≤ d) (hp2 : d ≤ 9223372036854775807) :
    Calls Tryd.prog 28 #[v0, .int .i64 d] w (Ret h w fun h' r => Kn h' r (floorQ a.rat d)) := by
 obtain ⟨b1, c1, b2, c2, rfl, k1, k2, u1, u2⟩ := F.shape pv0
 have hbq1 := F.bq pv0
 have hbn := bf_n a
 have hbd := bf_d a
 have hbp := bf_pos a
 have hsb := bq_intc (n := d) (by omega) hp2
 have hf := bq_floor (a.rat * (d : Rat))
 have hd0 : (d : Rat) ≠ 0 := fun e => by have := Rat.intCast_inj.1 (e.trans Rat.intCast_zero.symm); omega
 refine calls_ear (vs := [.agg #[.bool a.neg, .slice b1 a.n.length c1, .slice b2 a.d.length c2], .int .i64 d]) Tryd.func28 rfl rfl ?_
 have g1 := Gr.refl hs
 refine sr (oC (OpW.boxK (v := .agg #[.bool a.neg, .slice b1 a.n.length c1, .slice b2 a.d.length c2]) (arr := #[.bool a.neg, .slice b1 a.n.length c1, .slice b2 a.d.length c2]) g1.sat rfl rfl ?_))
 intro b3 h1 w1 gr1 qb1
 have g2 := g1.trans gr1
 refine oC (OpW.allocO (arr := #[.bool false, .slice none 0 0, .slice none 0 0]) g2.sat Tryd.zeroValue24 rfl ?_)
 intro b4 w2 gr2 n1 lo1 o1
 have lo2 := Nat.le_trans g2.ext.size lo1
 refine oN (wS ?_)
 have g3 := g2.trans gr2
 have hf1 := bq_mul a.rat ((d : Int) : Rat)
 have hf2 := bq_div (((a.rat * ((d : Int) : Rat)).floor : Int) : Rat) ((d : Int) : Rat)
 refine Wp.dagL 8 [5, 6, 7, 8, 9, 10, 11, 12] [eqv (.agg #[.bool a.neg, .slice b1 a.n.length c1, .slice b2 a.d.length c2]), eqv (.int .i64 d), fun h _ x => Kn h x ((d : Int) : Rat), fun h _ x => Kn h x (a.rat * ((d : Int) : Rat)), fun h _ x => Kn h x (((a.rat * ((d : Int) : Rat)).floor : Int) : Rat), eqv (.int .i64 d), fun h _ x => Kn h x ((d : Int) : Rat), fun h _ x => Kn h x ((((a.rat * ((d : Int) : Rat)).floor : Int) : Rat) / ((d : Int) : Rat))] mixed g3.sat rfl (by decide +kernel) ⟨sQ _, sQ _, (stab_K ((d : Int) : Rat)), (stab_K (a.rat * ((d : Int) : Rat))), (stab_K (((a.rat * ((d : Int) : Rat)).floor : Int) : Rat)), sQ _, (stab_K ((d : Int) : Rat)), (stab_K ((((a.rat * ((d : Int) : Rat)).floor : Int) : Rat) / ((d : Int) : Rat))), trivial⟩ ?_ ?_
 intro stab
 refine ⟨?_, ?_, ?_, ?_, ?_, ?_, ?_, ?_, trivial⟩
 intro ρ1 h2 w3 g4 hdd1 hdo1
 have e1 : ρ1 2 = .pointer (some ⟨b3, 0, none⟩) := hdo1 2 rfl
 have g5 := g3.trans g4
 refine gP (lA (cs := [.bool a.neg, .slice b1 a.n.length c1, .slice b2 a.d.length c2]) Tryd.isAgg24 Tryd.sizeOf24 e1 (g5.sat _ _ (g4.le _ _ qb1)) rfl rfl ?_)
 exact ⟨_, h2, rfl, g4, fun j x _ p => p, rfl⟩
 intro ρ2 h3 w4 g6 hdd2 hdo2
 have e2 : ρ2 1 = .int .i64 d := hdo2 1 rfl
 refine gP (OpW.move (v := .int .i64 d) e2 ?_)
 exact ⟨_, h3, rfl, g6, fun j x _ p => p, rfl⟩
 intro ρ3 h4 w5 g7 hdd3 hdo3
 have e3 : ρ3 6 = .int .i64 d := hdd3 1 (by decide)
 have g8 := g3.trans g7
 refine gP (cF Tryd.call38 (rOf_c (n := d) g8.sat  (by omega) (by omega)) (cx e3 cxn) ?_)
 intro r1 h5 w6 gr3 hr1
 exact ⟨r1, h5, rfl, g7.trans gr3, fun j x _ => stab j _ _ _ _ x gr3, hr1⟩
 intro ρ4 h6 w7 g9 hdd4 hdo4
 have e4 : ρ4 5 = .agg #[.bool a.neg, .slice b1 a.n.length c1, .slice b2 a.d.length c2] := hdd4 0 (by decide)
 have q1 : Kn h6 (ρ4 7) ((d : Int) : Rat) := hdd4 2 (by decide)
 have g10 := g3.trans g9
 refine gP (cF Tryd.call37 (rMul_c (a := a) (b := frK ((d : Int) : Rat)) g10.sat (F.mk (U.mono u1 (gr1.le.trans g9.le)) (U.mono u2 (gr1.le.trans g9.le))) q1 (by first | omega | (simp only [bf_frK, frK_rat, wts_cons, wts_nil]; omega))) (cx e4 (cx rfl cxn)) ?_)
 intro r2 h7 w8 gr4 hr2
 simp only [frK_rat, bf_frK, val_digs] at hr2
 exact ⟨r2, h7, rfl, g9.trans gr4, fun j x _ => stab j _ _ _ _ x gr4, hr2⟩
 intro ρ5 h8 w9 g11 hdd5 hdo5
 have q2 : Kn h8 (ρ5 8) (a.rat * ((d : Int) : Rat)) := hdd5 3 (by decide)
 have g12 := g3.trans g11
 refine gP (cF Tryd.call61 (rDown_c (a := frK (a.rat * ((d : Int) : Rat))) g12.sat q2 (by first | omega | (simp only [bf_frK, frK_rat, wts_cons, wts_nil]; omega))) rfl ?_)
 intro r3 h9 w10 gr5 hr3
 simp only [frK_rat, bf_frK, val_digs] at hr3
 exact ⟨r3, h9, rfl, g11.trans gr5, fun j x _ => stab j _ _ _ _ x gr5, hr3⟩
 intro ρ6 h10 w11 g13 hdd6 hdo6
 have e5 : ρ6 1 = .int .i64 d := hdo6 1 rfl
 refine gP (OpW.move (v := .int .i64 d) e5 ?_)
 exact ⟨_, h10, rfl, g13, fun j x _ p => p, rfl⟩
 intro ρ7 h11 w12 g14 hdd7 hdo7
 have e6 : ρ7 10 = .int .i64 d := hdd7 5 (by decide)
 have g15 := g3.trans g14
 refine gP (cF Tryd.call38 (rOf_c (n := d) g15.sat  (by omega) (by omega)) (cx e6 cxn) ?_)
 intro r4 h12 w13 gr6 hr4
 exact ⟨r4, h12, rfl, g14.trans gr6, fun j x _ => stab j _ _ _ _ x gr6, hr4⟩
 intro ρ8 h13 w14 g16 hdd8 hdo8
 have q3 : Kn h13 (ρ8 9) (((a.rat * ((d : Int) : Rat)).floor : Int) : Rat) := hdd8 4 (by decide)
 have q4 : Kn h13 (ρ8 11) ((d : Int) : Rat) := hdd8 6 (by decide)
 have g17 := g3.trans g16
 refine gP (cF Tryd.call49 (rDiv_c (a := frK (((a.rat * ((d : Int) : Rat)).floor : Int) : Rat)) (b := frK ((d : Int) : Rat)) g17.sat q3 q4 (by first | omega | (simp only [bf_frK, frK_rat, wts_cons, wts_nil]; omega)) (by first | assumption | (rw [frK_rat]; assumption) | omega)) rfl ?_)
 intro r5 h14 w15 gr7 hr5
 simp only [frK_rat, bf_frK, val_digs] at hr5
 exact ⟨r5, h14, rfl, g16.trans gr7, fun j x _ => stab j _ _ _ _ x gr7, hr5⟩
 intro ρ9 h15 w16 g18 hdp1 hdo9
 have e7 : ρ9 4 = .pointer (some ⟨b4, 0, none⟩) := hdo9 4 rfl
 have q5 : Kn h15 (ρ9 12) ((((a.rat * ((d : Int) : Rat)).floor : Int) : Rat) / ((d : Int) : Rat)) := hdp1 7 rfl
 obtain ⟨x1, hx1⟩ : ∃ x, ρ9 12 = x := ⟨_, rfl⟩
 rw [hx1] at q5
 obtain ⟨b5, c3, b6, c4, rfl, k3, k4, u3, u4⟩ := F.shape q5
 refine Ops.forget [(4, .pointer (some ⟨b4, 0, none⟩)), (12, .agg #[.bool ((frK ((((a.rat * ((d : Int) : Rat)).floor : Int) : Rat) / ((d : Int) : Rat))).neg), .slice b5 ((frK ((((a.rat * ((d : Int) : Rat)).floor : Int) : Rat) / ((d : Int) : Rat))).n.length) c3, .slice b6 ((frK ((((a.rat * ((d : Int) : Rat)).floor : Int) : Rat) / ((d : Int) : Rat))).d.length) c4])] ⟨e7, hx1, trivial⟩ (fun ρ10 => ?_)
 have o2 := g18.kp ⟨o1, n1⟩
 refine oC (sA (cs := [.bool ((frK ((((a.rat * ((d : Int) : Rat)).floor : Int) : Rat) / ((d : Int) : Rat))).neg), .slice b5 ((frK ((((a.rat * ((d : Int) : Rat)).floor : Int) : Rat) / ((d : Int) : Rat))).n.length) c3, .slice b6 ((frK ((((a.rat * ((d : Int) : Rat)).floor : Int) : Rat) / ((d : Int) : Rat))).d.length) c4]) Tryd.sizeOf24 rfl rfl rfl rfl o2.1 rfl ?_)
 intro w17 p1
 refine oN (Wp.ret (fin1_ret rfl (resOf_cellA (cs := [.bool ((frK ((((a.rat * ((d : Int) : Rat)).floor : Int) : Rat) / ((d : Int) : Rat))).neg), .slice b5 ((frK ((((a.rat * ((d : Int) : Rat)).floor : Int) : Rat) / ((d : Int) : Rat))).n.length) c3, .slice b6 ((frK ((((a.rat * ((d : Int) : Rat)).floor : Int) : Rat) / ((d : Int) : Rat))).d.length) c4]) Tryd.isAgg24 Tryd.sizeOf24 rfl p1.at_ (Nat.le_of_ble_eq_true rfl) rfl) ?_))
 have g19 := (g3.trans g18).put p1 o2.2 lo2
 refine ⟨h15, g19, ?_⟩
 exact (Kn.cast (by unfold floorQ; rw [if_neg (by omega), Rat.div_def]) (F.mk u3 u4))
end Go.Ear
