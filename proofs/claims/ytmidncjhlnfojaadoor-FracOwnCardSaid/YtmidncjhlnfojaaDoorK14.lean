/- About package frac: K14. -/
import Derived.Test.YtmidncjhlnfojaaDoorNatLaw2
import Derived.Test.YtmidncjhlnfojaaDoorEarShort
import Derived.Test.YtmidncjhlnfojaaDoorProg
import Derived.Test.YtmidncjhlnfojaaDoorNatLaw3
import Derived.Test.YtmidncjhlnfojaaDoorEarFrac
import Derived.Test.YtmidncjhlnfojaaDoorEarDec
import Derived.Test.YtmidncjhlnfojaaDoorItoaLay
import Derived.Lib.ItoaMem
import Derived.Test.YtmidncjhlnfojaaDoorEarApi
import Derived.Test.YtmidncjhlnfojaaDoorEarRef2
import Derived.Test.YtmidncjhlnfojaaDoorEarLaw
import Derived.Test.YtmidncjhlnfojaaDoorK12
import Derived.Test.YtmidncjhlnfojaaDoorK6
import Derived.Test.YtmidncjhlnfojaaDoorK7
import Derived.Test.YtmidncjhlnfojaaDoorK8
import Derived.Test.YtmidncjhlnfojaaDoorK9
set_option linter.all false
namespace Go.Ear
open Go.Proofs
set_option maxRecDepth 20000
set_option linter.unusedVariables false
set_option maxHeartbeats 2000000
theorem q_c {h : PH} {w : World} {n : Int} {d : Int} (hs : Sat h w) (hp0 : -9223372036854775808 ≤ n) (hp1 : n ≤ 9223372036854775807) (hp2 : -9223372036854775808 ≤ d) (hp3 : d ≤ 9223372036854775807) (hp4 : d ≠ 0) :
    Calls Tryd.prog 69 #[.int .i64 n, .int .i64 d] w (Ret h w fun h' r => Kn h' r (Q n d)) := by
 refine calls_ear (vs := [.int .i64 n, .int .i64 d]) Tryd.func69 rfl rfl ?_
 have g1 := Gr.refl hs
 refine sr (oC (OpW.allocO (arr := #[.bool false, .slice none 0 0, .slice none 0 0]) g1.sat Tryd.zeroValue24 rfl ?_))
 intro b1 w1 gr1 n1 lo1 o1
 have lo2 := Nat.le_trans g1.ext.size lo1
 refine oN (sr (mv (mv ?_)))
 have g2 := g1.trans gr1
 refine oC (cF Tryd.call30 (rMake_c (n := n) (d := d) g2.sat  (by omega) (by omega) (by omega) (by omega) (by omega)) rfl ?_)
 intro r1 h1 w2 gr2 hr1
 obtain ⟨b2, c1, b3, c2, rfl, k1, k2, u1, u2⟩ := F.shape hr1
 have o2 := gr2.kp ⟨o1, n1⟩
 refine oC (sA (cs := [.bool ((frK (((n : Int) : Rat) / ((d : Int) : Rat))).neg), .slice b2 ((frK (((n : Int) : Rat) / ((d : Int) : Rat))).n.length) c1, .slice b3 ((frK (((n : Int) : Rat) / ((d : Int) : Rat))).d.length) c2]) Tryd.sizeOf24 rfl rfl rfl rfl o2.1 rfl ?_)
 intro w3 p1
 refine oN (Wp.ret (fin1_ret rfl (resOf_cellA (cs := [.bool ((frK (((n : Int) : Rat) / ((d : Int) : Rat))).neg), .slice b2 ((frK (((n : Int) : Rat) / ((d : Int) : Rat))).n.length) c1, .slice b3 ((frK (((n : Int) : Rat) / ((d : Int) : Rat))).d.length) c2]) Tryd.isAgg24 Tryd.sizeOf24 rfl p1.at_ (Nat.le_of_ble_eq_true rfl) rfl) ?_))
 have g3 := (g2.trans gr2).put p1 o2.2 lo2
 refine ⟨h1, g3, ?_⟩
 exact (Kn.cast (Q_def _ _).symm (F.mk u1 u2))
attribute [local irreducible] textQ powQ powE floorQ decimalQ decimalE parseQ sizeQ
theorem make64_c {h : PH} {w : World} (hs : Sat h w) : Calls Tryd.prog 58 #[.int .i64 ((6 : Nat) : Int), .int .i64 (-4)] w (Ret h w fun h' r => ∃ x1 x2, r = .tuple #[x1, x2] ∧ Kn h' x1 (Q 6 (-4)) ∧ x2 = .int .i64 ((0 : Nat) : Int)) :=
  (Make_c (n := 6) (d := -4) hs (by decide) (by decide) (by decide) (by decide)).mono fun e w' ⟨r, h', he, hg, x1, x2, hr, h1, h2⟩ => ⟨r, h', he, hg, x1, x2, hr, Kn.cast (Q_def _ _).symm h1, h2.trans (by rw [show errDiv (((-4 : Int) : Int) : Rat) = 0 by decide +kernel]; rfl)⟩
theorem known_c {h : PH} {w : World}  (hs : Sat h w) (tb : Tab h) :
    Calls Tryd.prog 20 #[] w (Ret h w fun h' r => r = .bool true) := by
 have hkA := kA
 have hkB := kB
 have hkC := kC
 have hkP := kP
 have hkS := kS
 refine calls_ear (vs := []) Tryd.func20 rfl rfl ?_
 have g1 := Gr.refl hs
 refine sr (ma (oN (sr (oC (cF Tryd.call58 (make64_c  g1.sat  ) rfl ?_)))))
 intro r1 h1 w1 gr1 hr1
 obtain ⟨r2, r3, rfl, hr2, hr3⟩ := hr1
 obtain ⟨b1, c1, b2, c2, rfl, k1, k2, u1, u2⟩ := F.shape hr2
 subst hr3
 refine mv (oC (OpW.extract (v := .agg #[.bool ((frK (Q 6 (-4))).neg), .slice b1 ((frK (Q 6 (-4))).n.length) c1, .slice b2 ((frK (Q 6 (-4))).d.length) c2]) rfl rfl ?_))
 refine oC (OpW.extract (v := .int .i64 ((0 : Nat) : Int)) rfl rfl ?_)
 have g2 := g1.trans gr1
 refine oC (OpW.allocO (arr := #[.bool false, .slice none 0 0, .slice none 0 0]) g2.sat Tryd.zeroValue24 rfl ?_)
 intro b3 w2 gr2 n1 lo1 o1
 have lo2 := Nat.le_trans g2.ext.size lo1
 refine oC (sA (cs := [.bool ((frK (Q 6 (-4))).neg), .slice b1 ((frK (Q 6 (-4))).n.length) c1, .slice b2 ((frK (Q 6 (-4))).d.length) c2]) Tryd.sizeOf24 rfl rfl rfl rfl o1 rfl ?_)
 intro w3 p1
 refine ma (oN (sr ?_))
 have g3 := (g2.trans gr2).put p1 n1 lo2
 refine oC (cF Tryd.call69 (q_c (n := (-2)) (d := 3) g3.sat  (by omega) (by omega) (by omega) (by omega) (by omega)) rfl ?_)
 intro r4 h2 w4 gr3 hr4
 have hf1 := bq_Q (n := (-2)) (d := 3) (by omega) (by omega) (by omega) (by omega)
 obtain ⟨b4, c3, b5, c4, rfl, k3, k4, u3, u4⟩ := F.shape hr4
 have g4 := g3.trans gr3
 refine oC (cF Tryd.call21 (Pow_c (a := frK (Q (-2) 3)) (n := 3) g4.sat hr4 (by first | omega | (simp only [bf_frK, frK_rat, wts_cons, wts_nil]; omega)) (by omega) (by omega)) rfl ?_)
 intro r5 h3 w5 gr4 hr5
 simp only [frK_rat, bf_frK, val_digs] at hr5
 obtain ⟨r6, r7, rfl, hr6, hr7⟩ := hr5
 obtain ⟨b6, c5, b7, c6, rfl, k5, k6, u5, u6⟩ := F.shape hr6
 subst hr7
 refine mv (oC (OpW.extract (v := .agg #[.bool ((frK (powQ (Q (-2) 3) 3)).neg), .slice b6 ((frK (powQ (Q (-2) 3) 3)).n.length) c5, .slice b7 ((frK (powQ (Q (-2) 3) 3)).d.length) c6]) rfl rfl ?_))
 refine oC (OpW.extract (v := .int .i64 (powE (Q (-2) 3) 3)) rfl rfl ?_)
 have g5 := g4.trans gr4
 have o4 := gr4.kp (gr3.kp ⟨p1.at_, n1⟩)
 have lt1 := blk_lt o4.1
 refine oC (OpW.allocO (arr := #[.bool false, .slice none 0 0, .slice none 0 0]) g5.sat Tryd.zeroValue24 rfl ?_)
 intro b8 w6 gr5 n2 lo3 o3
 have lo4 := Nat.le_trans g5.ext.size lo3
 have ne1 : b3 ≠ b8 := Nat.ne_of_lt (Nat.lt_of_lt_of_le lt1 lo3)
 refine oC (sA (cs := [.bool ((frK (powQ (Q (-2) 3) 3)).neg), .slice b6 ((frK (powQ (Q (-2) 3) 3)).n.length) c5, .slice b7 ((frK (powQ (Q (-2) 3) 3)).d.length) c6]) Tryd.sizeOf24 rfl rfl rfl rfl o3 rfl ?_)
 intro w7 p2
 refine ma (oN (wS (fg [(1, .pointer (some ⟨b3, 0, none⟩)), (2, .int .i64 ((0 : Nat) : Int)), (3, .pointer (some ⟨b8, 0, none⟩)), (4, .int .i64 (powE (Q (-2) 3) 3))] rfl (fun ρ1 => (wR ?_)))))
 have g6 := (g5.trans gr5).put p2 n2 lo4
 refine oC (cF Tryd.call69 (q_c (n := 5) (d := 7) g6.sat  (by omega) (by omega) (by omega) (by omega) (by omega)) rfl ?_)
 intro r8 h4 w8 gr6 hr8
 have hf2 := bq_Q (n := 5) (d := 7) (by omega) (by omega) (by omega) (by omega)
 obtain ⟨b9, c7, b10, c8, rfl, k7, k8, u7, u8⟩ := F.shape hr8
 have g7 := g6.trans gr6
 refine oC (cF Tryd.call26 (Floor_c (a := frK (Q 5 7)) (d := 10) g7.sat hr8 (by first | omega | (simp only [bf_frK, frK_rat, wts_cons, wts_nil]; omega)) (by omega) (by omega)) rfl ?_)
 intro r9 h5 w9 gr7 hr9
 simp only [frK_rat, bf_frK, val_digs] at hr9
 obtain ⟨r10, r11, rfl, hr10, hr11⟩ := hr9
 obtain ⟨b11, c9, b12, c10, rfl, k9, k10, u9, u10⟩ := F.shape hr10
 subst hr11
 refine mv (oC (OpW.extract (v := .agg #[.bool ((frK (floorQ (Q 5 7) 10)).neg), .slice b11 ((frK (floorQ (Q 5 7) 10)).n.length) c9, .slice b12 ((frK (floorQ (Q 5 7) 10)).d.length) c10]) rfl rfl ?_))
 refine oC (OpW.extract (v := .int .i64 (if 10 < 1 then 2 else 0)) rfl rfl ?_)
 have g8 := g7.trans gr7
 have o7 := gr7.kp (gr6.kp (p2.kp ne1 (gr5.kp o4)))
 have lt2 := blk_lt o7.1
 have o8 := gr7.kp (gr6.kp ⟨p2.at_, n2⟩)
 have lt3 := blk_lt o8.1
 refine oC (OpW.allocO (arr := #[.bool false, .slice none 0 0, .slice none 0 0]) g8.sat Tryd.zeroValue24 rfl ?_)
 intro b13 w10 gr8 n3 lo5 o6
 have lo6 := Nat.le_trans g8.ext.size lo5
 have ne2 : b3 ≠ b13 := Nat.ne_of_lt (Nat.lt_of_lt_of_le lt2 lo5)
 have ne3 : b8 ≠ b13 := Nat.ne_of_lt (Nat.lt_of_lt_of_le lt3 lo5)
 refine oC (sA (cs := [.bool ((frK (floorQ (Q 5 7) 10)).neg), .slice b11 ((frK (floorQ (Q 5 7) 10)).n.length) c9, .slice b12 ((frK (floorQ (Q 5 7) 10)).d.length) c10]) Tryd.sizeOf24 rfl rfl rfl rfl o6 rfl ?_)
 intro w11 p3
 refine ma (oN (wS (fg [(1, .pointer (some ⟨b3, 0, none⟩)), (2, .int .i64 ((0 : Nat) : Int)), (3, .pointer (some ⟨b8, 0, none⟩)), (4, .int .i64 (powE (Q (-2) 3) 3)), (5, .pointer (some ⟨b13, 0, none⟩)), (6, .int .i64 (if 10 < 1 then 2 else 0))] rfl (fun ρ2 => (wR ?_)))))
 have g9 := (g8.trans gr8).put p3 n3 lo6
 refine oC (cF Tryd.call69 (q_c (n := 2) (d := 3) g9.sat  (by omega) (by omega) (by omega) (by omega) (by omega)) rfl ?_)
 intro r12 h6 w12 gr9 hr12
 have hf3 := bq_Q (n := 2) (d := 3) (by omega) (by omega) (by omega) (by omega)
 obtain ⟨b14, c11, b15, c12, rfl, k11, k12, u11, u12⟩ := F.shape hr12
 have g10 := g9.trans gr9
 refine oC (cF Tryd.call35 (Decimal_c (a := frK (Q 2 3)) (places := 3) g10.sat (tb.mono (((((gr1.le.trans gr3.le).trans gr4.le).trans gr6.le).trans gr7.le).trans gr9.le)) hr12 (by first | omega | (simp only [bf_frK, frK_rat, wts_cons, wts_nil]; omega)) (by omega) (by omega)) rfl ?_)
 intro r13 h7 w13 gr10 hr13
 simp only [frK_rat, bf_frK, val_digs] at hr13
 obtain ⟨r14, r15, rfl, hr14, hr15⟩ := hr13
 subst hr14
 subst hr15
 refine mv (oC (OpW.extract (v := .string (S (decimalQ (Q 2 3) 3))) rfl rfl ?_))
 refine oC (OpW.extract (v := .int .i64 (decimalE 3)) rfl rfl (ma (ma (oN (wS (fg [(1, .pointer (some ⟨b3, 0, none⟩)), (2, .int .i64 ((0 : Nat) : Int)), (3, .pointer (some ⟨b8, 0, none⟩)), (4, .int .i64 (powE (Q (-2) 3) 3)), (5, .pointer (some ⟨b13, 0, none⟩)), (6, .int .i64 (if 10 < 1 then 2 else 0)), (7, .string (S (decimalQ (Q 2 3) 3))), (8, .int .i64 (decimalE 3))] rfl (fun ρ3 => (wR ?_))))))))
 have g11 := g10.trans gr10
 refine oC (cF Tryd.call32 (Parse_c (l := ([45, 48, 49, 50, 46, 53, 48] : List UInt8)) g11.sat  (by decide)) rfl ?_)
 intro r16 h8 w14 gr11 hr16
 obtain ⟨r17, r18, rfl, hr17, hr18⟩ := hr16
 obtain ⟨b16, c13, b17, c14, rfl, k13, k14, u13, u14⟩ := F.shape hr17
 subst hr18
 refine mv (oC (OpW.extract (v := .agg #[.bool ((frK ((parseQ ([45, 48, 49, 50, 46, 53, 48] : List UInt8)).1)).neg), .slice b16 ((frK ((parseQ ([45, 48, 49, 50, 46, 53, 48] : List UInt8)).1)).n.length) c13, .slice b17 ((frK ((parseQ ([45, 48, 49, 50, 46, 53, 48] : List UInt8)).1)).d.length) c14]) rfl rfl ?_))
 refine oC (OpW.extract (v := .int .i64 ((parseQ ([45, 48, 49, 50, 46, 53, 48] : List UInt8)).2)) rfl rfl ?_)
 have g12 := g11.trans gr11
 have o11 := gr11.kp (gr10.kp (gr9.kp (p3.kp ne2 (gr8.kp o7))))
 have lt4 := blk_lt o11.1
 have o12 := gr11.kp (gr10.kp (gr9.kp (p3.kp ne3 (gr8.kp o8))))
 have lt5 := blk_lt o12.1
 have o13 := gr11.kp (gr10.kp (gr9.kp ⟨p3.at_, n3⟩))
 have lt6 := blk_lt o13.1
 refine oC (OpW.allocO (arr := #[.bool false, .slice none 0 0, .slice none 0 0]) g12.sat Tryd.zeroValue24 rfl ?_)
 intro b18 w15 gr12 n4 lo7 o10
 have lo8 := Nat.le_trans g12.ext.size lo7
 have ne4 : b3 ≠ b18 := Nat.ne_of_lt (Nat.lt_of_lt_of_le lt4 lo7)
 have ne5 : b8 ≠ b18 := Nat.ne_of_lt (Nat.lt_of_lt_of_le lt5 lo7)
 have ne6 : b13 ≠ b18 := Nat.ne_of_lt (Nat.lt_of_lt_of_le lt6 lo7)
 refine oC (sA (cs := [.bool ((frK ((parseQ ([45, 48, 49, 50, 46, 53, 48] : List UInt8)).1)).neg), .slice b16 ((frK ((parseQ ([45, 48, 49, 50, 46, 53, 48] : List UInt8)).1)).n.length) c13, .slice b17 ((frK ((parseQ ([45, 48, 49, 50, 46, 53, 48] : List UInt8)).1)).d.length) c14]) Tryd.sizeOf24 rfl rfl rfl rfl o10 rfl ?_)
 intro w16 p4
 refine ma (oN (wS (wS (fg [(1, .pointer (some ⟨b3, 0, none⟩)), (2, .int .i64 ((0 : Nat) : Int)), (3, .pointer (some ⟨b8, 0, none⟩)), (4, .int .i64 (powE (Q (-2) 3) 3)), (5, .pointer (some ⟨b13, 0, none⟩)), (6, .int .i64 (if 10 < 1 then 2 else 0)), (7, .string (S (decimalQ (Q 2 3) 3))), (8, .int .i64 (decimalE 3)), (9, .pointer (some ⟨b18, 0, none⟩)), (10, .int .i64 ((parseQ ([45, 48, 49, 50, 46, 53, 48] : List UInt8)).2))] rfl (fun ρ4 => (wR (mv (oC (OpW.neqI (a := ((0 : Nat) : Int)) (b := ((0 : Nat) : Int)) (r := false) rfl rfl (by decide) (mv (oL rfl rfl rfl (OpW.move (v := .int .i64 (powE (Q (-2) 3) 3)) rfl ?_))))))))))))
 refine oL rfl rfl rfl (OpW.neqI (a := (powE (Q (-2) 3) 3)) (b := ((0 : Nat) : Int)) (r := false) rfl rfl (by rw [eB0]; rfl) ?_)
 refine oC (pF (v := .bool false) rfl rfl (mv (oL rfl rfl rfl (OpW.move (v := .int .i64 (if 10 < 1 then 2 else 0)) rfl ?_))))
 refine oL rfl rfl rfl (OpW.neqI (a := (if 10 < 1 then 2 else 0)) (b := ((0 : Nat) : Int)) (r := false) rfl rfl rfl ?_)
 refine oC (pF (v := .bool false) rfl rfl (mv (oL rfl rfl rfl (OpW.move (v := .int .i64 (decimalE 3)) rfl ?_))))
 refine oL rfl rfl rfl (OpW.neqI (a := (decimalE 3)) (b := ((0 : Nat) : Int)) (r := false) rfl rfl (by rw [eE]; rfl) ?_)
 refine oC (pF (v := .bool false) rfl rfl (mv (oL rfl rfl rfl (OpW.move (v := .int .i64 ((parseQ ([45, 48, 49, 50, 46, 53, 48] : List UInt8)).2)) rfl ?_))))
 refine oL rfl rfl rfl (OpW.neqI (a := ((parseQ ([45, 48, 49, 50, 46, 53, 48] : List UInt8)).2)) (b := ((0 : Nat) : Int)) (r := false) rfl rfl (by rw [eP]; rfl) ?_)
 refine oC (pF (v := .bool false) rfl rfl (oN (Wp.cond_f rfl (Wp.skip (wS (fg [(1, .pointer (some ⟨b3, 0, none⟩)), (3, .pointer (some ⟨b8, 0, none⟩)), (5, .pointer (some ⟨b13, 0, none⟩)), (7, .string (S (decimalQ (Q 2 3) 3))), (9, .pointer (some ⟨b18, 0, none⟩))] rfl (fun ρ5 => (wR ?_))))))))
 have o15 := p4.kp ne4 (gr12.kp o11)
 refine oC (lA (cs := [.bool ((frK (Q 6 (-4))).neg), .slice b1 ((frK (Q 6 (-4))).n.length) c1, .slice b2 ((frK (Q 6 (-4))).d.length) c2]) Tryd.isAgg24 Tryd.sizeOf24 rfl o15.1 rfl rfl ?_)
 have g13 := (g12.trans gr12).put p4 n4 lo8
 refine oC (cF Tryd.call31 (Text_c (a := frK (Q 6 (-4))) g13.sat (tb.mono (((((((gr1.le.trans gr3.le).trans gr4.le).trans gr6.le).trans gr7.le).trans gr9.le).trans gr10.le).trans gr11.le)) (F.mk (U.mono u1 ((((((gr3.le.trans gr4.le).trans gr6.le).trans gr7.le).trans gr9.le).trans gr10.le).trans gr11.le)) (U.mono u2 ((((((gr3.le.trans gr4.le).trans gr6.le).trans gr7.le).trans gr9.le).trans gr10.le).trans gr11.le))) (by first | omega | (simp only [bf_frK, frK_rat, wts_cons, wts_nil]; omega))) rfl ?_)
 intro r19 h9 w17 gr13 hr19
 subst hr19
 refine oC (OpW.eqlSS (a := textQ (frK (Q 6 (-4))).rat) (b := ([45, 51, 47, 50] : List UInt8)) (r := true) rfl rfl (decide_eq_true (by first | (rw [frK_rat]; exact tA) | exact tA)) (mv ?_))
 have o16 := gr13.kp (p4.kp ne5 (gr12.kp o12))
 refine oL rfl rfl rfl (lA (cs := [.bool ((frK (powQ (Q (-2) 3) 3)).neg), .slice b6 ((frK (powQ (Q (-2) 3) 3)).n.length) c5, .slice b7 ((frK (powQ (Q (-2) 3) 3)).d.length) c6]) Tryd.isAgg24 Tryd.sizeOf24 rfl o16.1 rfl rfl ?_)
 have g14 := g13.trans gr13
 refine oL rfl rfl rfl (cF Tryd.call31 (Text_c (a := frK (powQ (Q (-2) 3) 3)) g14.sat (tb.mono ((((((((gr1.le.trans gr3.le).trans gr4.le).trans gr6.le).trans gr7.le).trans gr9.le).trans gr10.le).trans gr11.le).trans gr13.le)) (F.mk (U.mono u5 (((((gr6.le.trans gr7.le).trans gr9.le).trans gr10.le).trans gr11.le).trans gr13.le)) (U.mono u6 (((((gr6.le.trans gr7.le).trans gr9.le).trans gr10.le).trans gr11.le).trans gr13.le))) (by first | omega | (simp only [bf_frK, frK_rat, wts_cons, wts_nil]; omega))) rfl ?_)
 intro r20 h10 w18 gr14 hr20
 subst hr20
 refine oL rfl rfl rfl (OpW.eqlSS (a := textQ (frK (powQ (Q (-2) 3) 3)).rat) (b := ([45, 56, 47, 50, 55] : List UInt8)) (r := true) rfl rfl (decide_eq_true (by first | (rw [frK_rat]; exact tB) | exact tB)) ?_)
 refine oC (pT (v := .bool true) rfl rfl (mv ?_))
 have o17 := gr14.kp (gr13.kp (p4.kp ne6 (gr12.kp o13)))
 refine oL rfl rfl rfl (lA (cs := [.bool ((frK (floorQ (Q 5 7) 10)).neg), .slice b11 ((frK (floorQ (Q 5 7) 10)).n.length) c9, .slice b12 ((frK (floorQ (Q 5 7) 10)).d.length) c10]) Tryd.isAgg24 Tryd.sizeOf24 rfl o17.1 rfl rfl ?_)
 have g15 := g14.trans gr14
 refine oL rfl rfl rfl (cF Tryd.call31 (Text_c (a := frK (floorQ (Q 5 7) 10)) g15.sat (tb.mono (((((((((gr1.le.trans gr3.le).trans gr4.le).trans gr6.le).trans gr7.le).trans gr9.le).trans gr10.le).trans gr11.le).trans gr13.le).trans gr14.le)) (F.mk (U.mono u9 ((((gr9.le.trans gr10.le).trans gr11.le).trans gr13.le).trans gr14.le)) (U.mono u10 ((((gr9.le.trans gr10.le).trans gr11.le).trans gr13.le).trans gr14.le))) (by first | omega | (simp only [bf_frK, frK_rat, wts_cons, wts_nil]; omega))) rfl ?_)
 intro r21 h11 w19 gr15 hr21
 subst hr21
 refine oL rfl rfl rfl (OpW.eqlSS (a := textQ (frK (floorQ (Q 5 7) 10)).rat) (b := ([55, 47, 49, 48] : List UInt8)) (r := true) rfl rfl (decide_eq_true (by first | (rw [frK_rat]; exact tC) | exact tC)) ?_)
 refine oC (pT (v := .bool true) rfl rfl (mv (oL rfl rfl rfl (OpW.move (v := .string (S (decimalQ (Q 2 3) 3))) rfl ?_))))
 refine oL rfl rfl rfl (OpW.eqlSS (a := decimalQ (Q 2 3) 3) (b := ([48, 46, 54, 54, 55] : List UInt8)) (r := true) rfl rfl (decide_eq_true (by first | (rw [frK_rat]; exact tD) | exact tD)) ?_)
 refine oC (pT (v := .bool true) rfl rfl (mv ?_))
 have o18 := gr15.kp (gr14.kp (gr13.kp ⟨p4.at_, n4⟩))
 refine oL rfl rfl rfl (lA (cs := [.bool ((frK ((parseQ ([45, 48, 49, 50, 46, 53, 48] : List UInt8)).1)).neg), .slice b16 ((frK ((parseQ ([45, 48, 49, 50, 46, 53, 48] : List UInt8)).1)).n.length) c13, .slice b17 ((frK ((parseQ ([45, 48, 49, 50, 46, 53, 48] : List UInt8)).1)).d.length) c14]) Tryd.isAgg24 Tryd.sizeOf24 rfl o18.1 rfl rfl ?_)
 have g16 := g15.trans gr15
 refine oL rfl rfl rfl (cF Tryd.call31 (Text_c (a := frK ((parseQ ([45, 48, 49, 50, 46, 53, 48] : List UInt8)).1)) g16.sat (tb.mono ((((((((((gr1.le.trans gr3.le).trans gr4.le).trans gr6.le).trans gr7.le).trans gr9.le).trans gr10.le).trans gr11.le).trans gr13.le).trans gr14.le).trans gr15.le)) (F.mk (U.mono u13 ((gr13.le.trans gr14.le).trans gr15.le)) (U.mono u14 ((gr13.le.trans gr14.le).trans gr15.le))) (by first | omega | (simp only [bf_frK, frK_rat, wts_cons, wts_nil]; omega))) rfl ?_)
 intro r22 h12 w20 gr16 hr22
 subst hr22
 refine oL rfl rfl rfl (OpW.eqlSS (a := textQ (frK ((parseQ ([45, 48, 49, 50, 46, 53, 48] : List UInt8)).1)).rat) (b := ([45, 50, 53, 47, 50] : List UInt8)) (r := true) rfl rfl (decide_eq_true (by first | (rw [frK_rat]; exact tP) | exact tP)) ?_)
 refine oC (pT (v := .bool true) rfl rfl (mv ?_))
 have g17 := g16.trans gr16
 refine oL rfl rfl rfl (cF Tryd.call69 (q_c (n := 1) (d := 2) g17.sat  (by omega) (by omega) (by omega) (by omega) (by omega)) rfl ?_)
 intro r23 h13 w21 gr17 hr23
 have hf4 := bq_Q (n := 1) (d := 2) (by omega) (by omega) (by omega) (by omega)
 obtain ⟨b19, c15, b20, c16, rfl, k15, k16, u15, u16⟩ := F.shape hr23
 have g18 := g17.trans gr17
 refine oL rfl rfl rfl (cF Tryd.call69 (q_c (n := 1) (d := 3) g18.sat  (by omega) (by omega) (by omega) (by omega) (by omega)) rfl ?_)
 intro r24 h14 w22 gr18 hr24
 have hf5 := bq_Q (n := 1) (d := 3) (by omega) (by omega) (by omega) (by omega)
 obtain ⟨b21, c17, b22, c18, rfl, k17, k18, u17, u18⟩ := F.shape hr24
 have g19 := g18.trans gr18
 refine oL rfl rfl rfl (cF Tryd.call42 (Add_c (a := frK (Q 1 2)) (b := frK (Q 1 3)) g19.sat (F.mono hr23 gr18.le) hr24 (by first | omega | (simp only [bf_frK, frK_rat, wts_cons, wts_nil]; omega))) rfl ?_)
 intro r25 h15 w23 gr19 hr25
 have hf6 := bq_add (Q 1 2) (Q 1 3)
 simp only [frK_rat, bf_frK, val_digs] at hr25
 obtain ⟨b23, c19, b24, c20, rfl, k19, k20, u19, u20⟩ := F.shape hr25
 have g20 := g19.trans gr19
 refine oL rfl rfl rfl (cF Tryd.call31 (Text_c (a := frK ((Q 1 2) + (Q 1 3))) g20.sat (tb.mono ((((((((((((((gr1.le.trans gr3.le).trans gr4.le).trans gr6.le).trans gr7.le).trans gr9.le).trans gr10.le).trans gr11.le).trans gr13.le).trans gr14.le).trans gr15.le).trans gr16.le).trans gr17.le).trans gr18.le).trans gr19.le)) hr25 (by first | omega | (simp only [bf_frK, frK_rat, wts_cons, wts_nil]; omega))) rfl ?_)
 intro r26 h16 w24 gr20 hr26
 subst hr26
 refine oL rfl rfl rfl (OpW.eqlSS (a := textQ (frK ((Q 1 2) + (Q 1 3))).rat) (b := ([53, 47, 54] : List UInt8)) (r := true) rfl rfl (decide_eq_true (by first | (rw [frK_rat]; exact tS) | exact tS)) ?_)
 refine oC (pT (v := .bool true) rfl rfl (mv ?_))
 have g21 := g20.trans gr20
 refine oL rfl rfl rfl (cF Tryd.call69 (q_c (n := 1) (d := 2) g21.sat  (by omega) (by omega) (by omega) (by omega) (by omega)) rfl ?_)
 intro r27 h17 w25 gr21 hr27
 have hf7 := bq_Q (n := 1) (d := 2) (by omega) (by omega) (by omega) (by omega)
 obtain ⟨b25, c21, b26, c22, rfl, k21, k22, u21, u22⟩ := F.shape hr27
 have g22 := g21.trans gr21
 refine oL rfl rfl rfl (cF Tryd.call56 (Size_c (a := frK (Q 1 2)) g22.sat hr27 (by first | omega | (simp only [bf_frK, frK_rat, wts_cons, wts_nil]; omega))) rfl ?_)
 intro r28 h18 w26 gr22 hr28
 simp only [frK_rat, bf_frK, val_digs] at hr28
 subst hr28
 refine oL rfl rfl rfl (OpW.eqlI (a := ((sizeQ (Q 1 2) : Nat) : Int)) (b := ((3 : Nat) : Int)) (r := true) rfl rfl (by rw [tH]; rfl) ?_)
 refine oC (pT (v := .bool true) rfl rfl (mv ?_))
 have g23 := g22.trans gr22
 refine oL rfl rfl rfl (cF Tryd.call69 (q_c (n := 1) (d := 2) g23.sat  (by omega) (by omega) (by omega) (by omega) (by omega)) rfl ?_)
 intro r29 h19 w27 gr23 hr29
 have hf8 := bq_Q (n := 1) (d := 2) (by omega) (by omega) (by omega) (by omega)
 obtain ⟨b27, c23, b28, c24, rfl, k23, k24, u23, u24⟩ := F.shape hr29
 have g24 := g23.trans gr23
 refine oL rfl rfl rfl (cF Tryd.call69 (q_c (n := 2) (d := 3) g24.sat  (by omega) (by omega) (by omega) (by omega) (by omega)) rfl ?_)
 intro r30 h20 w28 gr24 hr30
 have hf9 := bq_Q (n := 2) (d := 3) (by omega) (by omega) (by omega) (by omega)
 obtain ⟨b29, c25, b30, c26, rfl, k25, k26, u25, u26⟩ := F.shape hr30
 have g25 := g24.trans gr24
 refine oL rfl rfl rfl (cF Tryd.call69 (q_c (n := 4) (d := 6) g25.sat  (by omega) (by omega) (by omega) (by omega) (by omega)) rfl ?_)
 intro r31 h21 w29 gr25 hr31
 have hf10 := bq_Q (n := 4) (d := 6) (by omega) (by omega) (by omega) (by omega)
 obtain ⟨b31, c27, b32, c28, rfl, k27, k28, u27, u28⟩ := F.shape hr31
 have g26 := g25.trans gr25
 have o20 := gr25.kp (gr24.kp (gr23.kp (gr22.kp (gr21.kp (gr20.kp (gr19.kp (gr18.kp (gr17.kp (gr16.kp (gr15.kp (gr14.kp (gr13.kp o15))))))))))))
 have lt7 := blk_lt o20.1
 have o21 := gr25.kp (gr24.kp (gr23.kp (gr22.kp (gr21.kp (gr20.kp (gr19.kp (gr18.kp (gr17.kp (gr16.kp (gr15.kp (gr14.kp o16)))))))))))
 have lt8 := blk_lt o21.1
 have o22 := gr25.kp (gr24.kp (gr23.kp (gr22.kp (gr21.kp (gr20.kp (gr19.kp (gr18.kp (gr17.kp (gr16.kp (gr15.kp o17))))))))))
 have lt9 := blk_lt o22.1
 have o23 := gr25.kp (gr24.kp (gr23.kp (gr22.kp (gr21.kp (gr20.kp (gr19.kp (gr18.kp (gr17.kp (gr16.kp o18)))))))))
 have lt10 := blk_lt o23.1
 refine oL rfl rfl rfl (OpW.buildSliceO (arr := #[.bool ((frK (Q 1 2)).neg), .slice b27 ((frK (Q 1 2)).n.length) c23, .slice b28 ((frK (Q 1 2)).d.length) c24, .bool ((frK (Q 2 3)).neg), .slice b29 ((frK (Q 2 3)).n.length) c25, .slice b30 ((frK (Q 2 3)).d.length) c26, .bool ((frK (Q 4 6)).neg), .slice b31 ((frK (Q 4 6)).n.length) c27, .slice b32 ((frK (Q 4 6)).d.length) c28]) g26.sat Tryd.underlying50 Tryd.zeroValue24 Tryd.sizeOf24 rfl (fillF3 (.bool ((frK (Q 1 2)).neg)) (.slice b27 ((frK (Q 1 2)).n.length) c23) (.slice b28 ((frK (Q 1 2)).d.length) c24) (.bool ((frK (Q 2 3)).neg)) (.slice b29 ((frK (Q 2 3)).n.length) c25) (.slice b30 ((frK (Q 2 3)).d.length) c26) (.bool ((frK (Q 4 6)).neg)) (.slice b31 ((frK (Q 4 6)).n.length) c27) (.slice b32 ((frK (Q 4 6)).d.length) c28)) ?_)
 intro b33 w30 gr26 n5 lo9 o19
 have lo10 := Nat.le_trans g26.ext.size lo9
 have ne7 : b3 ≠ b33 := Nat.ne_of_lt (Nat.lt_of_lt_of_le lt7 lo9)
 have ne8 : b8 ≠ b33 := Nat.ne_of_lt (Nat.lt_of_lt_of_le lt8 lo9)
 have ne9 : b13 ≠ b33 := Nat.ne_of_lt (Nat.lt_of_lt_of_le lt9 lo9)
 have ne10 : b18 ≠ b33 := Nat.ne_of_lt (Nat.lt_of_lt_of_le lt10 lo9)
 have g28 := g26.trans gr26
 obtain ⟨h22, g27, l1, qb1, fr1⟩ := freeze_ex g28 o19 n5 lo10
 have f1 : LR rpF h22 (.slice (some ⟨b33, 0, none⟩) 3 3) [frK (Q 1 2), frK (Q 2 3), frK (Q 4 6)] := LR.own' qb1 (css := [[.bool ((frK (Q 1 2)).neg), .slice b27 ((frK (Q 1 2)).n.length) c23, .slice b28 ((frK (Q 1 2)).d.length) c24], [.bool ((frK (Q 2 3)).neg), .slice b29 ((frK (Q 2 3)).n.length) c25, .slice b30 ((frK (Q 2 3)).d.length) c26], [.bool ((frK (Q 4 6)).neg), .slice b31 ((frK (Q 4 6)).n.length) c27, .slice b32 ((frK (Q 4 6)).d.length) c28]]) rfl (Rows.cons (F.mk (U.mono u23 ((gr24.le.trans gr25.le).trans l1)) (U.mono u24 ((gr24.le.trans gr25.le).trans l1))) (Rows.cons (F.mk (U.mono u25 (gr25.le.trans l1)) (U.mono u26 (gr25.le.trans l1))) (Rows.cons (F.mk (U.mono u27 l1) (U.mono u28 l1)) Rows.nil))) rfl (Nat.le_refl _)
 refine oL rfl rfl rfl (cF Tryd.call64 (Best_c (l := [frK (Q 1 2), frK (Q 2 3), frK (Q 4 6)]) g27.sat f1 (by first | omega | (simp only [bf_frK, frK_rat, wts_cons, wts_nil]; omega))) rfl ?_)
 intro r32 h23 w31 gr27 hr32
 subst hr32
 refine oL rfl rfl rfl (OpW.eqlI (a := (bestAt ([frK (Q 1 2), frK (Q 2 3), frK (Q 4 6)]) ([frK (Q 1 2), frK (Q 2 3), frK (Q 4 6)]).length)) (b := ((1 : Nat) : Int)) (r := true) rfl rfl (decide_eq_true tM) ?_)
 refine oC (pT (v := .bool true) rfl rfl (ma (oN (Wp.ret (fin1_ret rfl (resOf_tmp (v := .bool true) rfl) ?_)))))
 have g29 := g27.trans gr27
 refine ⟨h23, g29, ?_⟩
 exact rfl
end Go.Ear
