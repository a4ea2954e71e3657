/- About package frac: LawFracParses. -/
import Derived.Test.YtmidncjhlnfojaaDoorNatLaw2
import Derived.Test.YtmidncjhlnfojaaDoorEarShort
import Derived.Test.YtmidncjhlnfojaaDoorProg
import Derived.Test.YtmidncjhlnfojaaDoorNatLaw3
import Derived.Test.YtmidncjhlnfojaaDoorEarFrac
import Derived.Test.YtmidncjhlnfojaaDoorEarDec
import Derived.Test.YtmidncjhlnfojaaDoorItoaLay
import Derived.Lib.ItoaMem
import Derived.Test.YtmidncjhlnfojaaDoorEarApi
import Derived.Test.YtmidncjhlnfojaaDoorEarRef2
import Derived.Test.YtmidncjhlnfojaaDoorEarLaw
import Derived.Test.YtmidncjhlnfojaaDoorEarWhole
import Derived.Test.YtmidncjhlnfojaaDoorEarTexts
import Derived.Test.YtmidncjhlnfojaaDoorEarLaw2
import Derived.Test.YtmidncjhlnfojaaDoorK14
import Derived.Test.YtmidncjhlnfojaaDoorX12
import Derived.Test.YtmidncjhlnfojaaDoorX18
set_option linter.all false
namespace Go.Ear
open Go.Proofs
set_option maxRecDepth 20000
set_option linter.unusedVariables false
set_option maxHeartbeats 2000000
theorem fracParses_c {h : PH} {w : World} {l : List UInt8} (hs : Sat h w) (tb : Tab h) :
    Calls Tryd.prog 7 #[.string (S l)] w (Ret h w fun h' r => r = .bool true) := by
 have hbq := parseQ_bq (l := l)
 refine calls_ear (vs := [.string (S l)]) Tryd.func7 rfl rfl ?_
 have g1 := Gr.refl hs
 refine sr (ma (oN (wS (sr (Ops.cut (fun ρ' w' => w = w' ∧ ∃ ρb, ρ' = upds ρb [(0, .string (S l)), (14, .bool ((decide (200 < l.length)) && (decide (l.length ≤ 10000))))]) ?_ ?_)))))
 refine mv (oC (OpW.lenSS (s := l) Tryd.underlying9 rfl ?_))
 refine oC (OpW.gtr (a := ((l.length : Nat) : Int)) (b := ((200 : Nat) : Int)) (r := decide (200 < l.length)) rfl rfl (lt_nat (a := 200) (b := l.length)) (mv ?_))
 cases c1 : (decide (200 < l.length))
 replace c1 : ¬ (200 < l.length) := (of_decide_eq_false c1)
 refine oD rfl rfl rfl rfl (oD rfl rfl rfl rfl (oD rfl rfl rfl rfl (oC (pF (v := .bool false) rfl rfl (oN ?_)))))
 exact ⟨rfl, _, nm rfl⟩
 replace c1 : 200 < l.length := (of_decide_eq_true c1)
 refine oL rfl rfl rfl (OpW.move (v := .string (S l)) rfl ?_)
 refine oL rfl rfl rfl (OpW.lenSS (s := l) Tryd.underlying9 rfl ?_)
 refine oL rfl rfl rfl (OpW.leq (a := ((l.length : Nat) : Int)) (b := ((10000 : Nat) : Int)) (r := decide (l.length ≤ 10000)) rfl rfl (le_nat (a := l.length) (b := 10000)) ?_)
 refine oC (pT (v := .bool (decide (l.length ≤ 10000))) rfl rfl (oN ?_))
 exact ⟨rfl, _, nm rfl⟩
 rintro ρ1 w1 ⟨rfl, ρ2, rfl⟩
 refine Wp.cond (t := (decide (200 < l.length)) && (decide (l.length ≤ 10000))) rfl (fun c2 => ?_) (fun c2 => ?_)
 replace c2 : (200 < l.length) ∧ (l.length ≤ 10000) := ⟨(of_decide_eq_true (and_l c2)), (of_decide_eq_true (and_r c2))⟩
 refine sr (oC (cF Tryd.call20 (known_c  g1.sat (tb.mono (PH.le.refl _)) ) rfl ?_))
 intro r1 h1 w2 gr1 hr1
 subst hr1
 refine ma (oN (Wp.ret (fin1_ret rfl (resOf_tmp (v := .bool true) rfl) ?_)))
 have g2 := g1.trans gr1
 refine ⟨h1, g2, ?_⟩
 exact rfl
 replace c2 : ¬ ((200 < l.length) ∧ (l.length ≤ 10000)) := (fun pq => (and_f c2).elim (fun h => (of_decide_eq_false h) pq.1) (fun h => (of_decide_eq_false h) pq.2))
 have hlen : l.length ≤ 200 ∨ 10000 < l.length := by have hx := c2; omega
 have hbb := hbq hlen
 refine Wp.skip (sr (mv (oC (cF Tryd.call32 (ParseA_c (l := l) g1.sat  hlen) rfl ?_))))
 intro r2 h2 w3 gr2 hr2
 obtain ⟨r3, r4, rfl, hr3, hr4⟩ := hr2
 obtain ⟨b1, c3, b2, c4, rfl, k1, k2, u1, u2⟩ := F.shape hr3
 subst hr4
 refine mv (oC (OpW.extract (v := .agg #[.bool ((frK ((parseQ l).1)).neg), .slice b1 ((frK ((parseQ l).1)).n.length) c3, .slice b2 ((frK ((parseQ l).1)).d.length) c4]) rfl rfl ?_))
 refine oC (OpW.extract (v := .int .i64 ((parseQ l).2)) rfl rfl ?_)
 have g3 := g1.trans gr2
 refine oC (OpW.allocO (arr := #[.bool false, .slice none 0 0, .slice none 0 0]) g3.sat Tryd.zeroValue24 rfl ?_)
 intro b3 w4 gr3 n1 lo1 o1
 have lo2 := Nat.le_trans g3.ext.size lo1
 refine oC (sA (cs := [.bool ((frK ((parseQ l).1)).neg), .slice b1 ((frK ((parseQ l).1)).n.length) c3, .slice b2 ((frK ((parseQ l).1)).d.length) c4]) Tryd.sizeOf24 rfl rfl rfl rfl o1 rfl ?_)
 intro w5 p1
 refine ma (oN (sr (mv ?_)))
 have g4 := (g3.trans gr3).put p1 n1 lo2
 refine oC (cF Tryd.call39 (rParse_c (l := l) g4.sat  hlen) rfl ?_)
 intro r5 h3 w6 gr4 hr5
 obtain ⟨r6, r7, rfl, hr6, hr7⟩ := hr5
 obtain ⟨b4, c5, b5, c6, rfl, k3, k4, u3, u4⟩ := F.shape hr6
 subst hr7
 refine mv (oC (OpW.extract (v := .agg #[.bool ((frK ((parseQ l).1)).neg), .slice b4 ((frK ((parseQ l).1)).n.length) c5, .slice b5 ((frK ((parseQ l).1)).d.length) c6]) rfl rfl ?_))
 refine oC (OpW.extract (v := .int .i64 ((parseQ l).2)) rfl rfl ?_)
 have g5 := g4.trans gr4
 have o4 := gr4.kp ⟨p1.at_, n1⟩
 have lt1 := blk_lt o4.1
 refine oC (OpW.allocO (arr := #[.bool false, .slice none 0 0, .slice none 0 0]) g5.sat Tryd.zeroValue24 rfl ?_)
 intro b6 w7 gr5 n2 lo3 o3
 have lo4 := Nat.le_trans g5.ext.size lo3
 have ne1 : b3 ≠ b6 := Nat.ne_of_lt (Nat.lt_of_lt_of_le lt1 lo3)
 refine oC (sA (cs := [.bool ((frK ((parseQ l).1)).neg), .slice b4 ((frK ((parseQ l).1)).n.length) c5, .slice b5 ((frK ((parseQ l).1)).d.length) c6]) Tryd.sizeOf24 rfl rfl rfl rfl o3 rfl ?_)
 intro w8 p2
 refine ma (oN (wS (fg [(3, .pointer (some ⟨b3, 0, none⟩)), (4, .int .i64 ((parseQ l).2)), (5, .pointer (some ⟨b6, 0, none⟩)), (6, .int .i64 ((parseQ l).2))] rfl (fun ρ3 => (wR (mv (mv (oC (OpW.eqlI (a := ((parseQ l).2)) (b := ((parseQ l).2)) (r := true) rfl rfl (decide_eq_true rfl) (mv ?_))))))))))
 have o6 := p2.kp ne1 (gr5.kp o4)
 refine oL rfl rfl rfl (lA (cs := [.bool ((frK ((parseQ l).1)).neg), .slice b1 ((frK ((parseQ l).1)).n.length) c3, .slice b2 ((frK ((parseQ l).1)).d.length) c4]) Tryd.isAgg24 Tryd.sizeOf24 rfl o6.1 rfl rfl ?_)
 refine oL rfl rfl rfl (lA (cs := [.bool ((frK ((parseQ l).1)).neg), .slice b4 ((frK ((parseQ l).1)).n.length) c5, .slice b5 ((frK ((parseQ l).1)).d.length) c6]) Tryd.isAgg24 Tryd.sizeOf24 rfl p2.at_ rfl rfl ?_)
 have g6 := (g5.trans gr5).put p2 n2 lo4
 refine oL rfl rfl rfl (cF Tryd.call22 (rSame_c (f := frK ((parseQ l).1)) (g := frK ((parseQ l).1)) g6.sat (F.mk (U.mono u1 gr4.le) (U.mono u2 gr4.le)) (F.mk u3 u4) (by first | omega | (simp only [bf_frK, frK_rat, wts_cons, wts_nil]; omega)) (by first | omega | (simp only [bf_frK, frK_rat, wts_cons, wts_nil]; omega))) rfl ?_)
 intro r8 h4 w9 gr6 hr8
 replace hr8 := hr8.trans (congrArg Value.bool (sameF_self _))
 subst hr8
 refine oC (pT (v := .bool true) rfl rfl (mv ?_))
 have g7 := g6.trans gr6
 refine oL rfl rfl rfl (cF Tryd.call20 (known_c  g7.sat (tb.mono ((gr2.le.trans gr4.le).trans gr6.le)) ) rfl ?_)
 intro r9 h5 w10 gr7 hr9
 subst hr9
 refine oC (pT (v := .bool true) rfl rfl (ma (oN (Wp.ret (fin1_ret rfl (resOf_tmp (v := .bool true) rfl) ?_)))))
 have g8 := g7.trans gr7
 refine ⟨h5, g8, ?_⟩
 exact rfl
end Go.Ear
