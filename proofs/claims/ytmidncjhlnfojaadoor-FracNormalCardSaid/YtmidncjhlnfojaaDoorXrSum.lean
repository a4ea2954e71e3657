/- About package frac: XrSum. -/
import Derived.Test.YtmidncjhlnfojaaDoorNatLaw2
import Derived.Test.YtmidncjhlnfojaaDoorEarShort
import Derived.Test.YtmidncjhlnfojaaDoorProg
import Derived.Test.YtmidncjhlnfojaaDoorNatLaw3
import Derived.Test.YtmidncjhlnfojaaDoorEarFrac
import Derived.Test.YtmidncjhlnfojaaDoorEarDec
import Derived.Test.YtmidncjhlnfojaaDoorItoaLay
import Derived.Lib.ItoaMem
import Derived.Test.YtmidncjhlnfojaaDoorEarApi
import Derived.Test.YtmidncjhlnfojaaDoorEarRef2
import Derived.Test.YtmidncjhlnfojaaDoorK1
import Derived.Test.YtmidncjhlnfojaaDoorX12
set_option linter.all false
namespace Go.Ear
open Go.Proofs
set_option maxRecDepth 20000
set_option linter.unusedVariables false
set_option maxHeartbeats 2000000
theorem rSum_c {h : PH} {w : World} {v0 : Value} {l : List (Fr)} (hs : Sat h w) (pv0 : LR rpF h v0 l) (hp0 : wts l ≤ 60000000) :
    Calls Tryd.prog 62 #[v0] w (Ret h w fun h' r => Kn h' r (sumF l)) := by
 obtain ⟨b1, c1, rfl, k1⟩ := LR.shape pv0
 have hb1' : bq (((1 : Nat) : Int) : Rat) ≤ 2 := bq_intc (by decide) (by decide)
 have hz0 := bq_zero
 have hz1 := bq_one
 refine calls_ear (vs := [.slice b1 l.length c1]) Tryd.func62 rfl rfl ?_
 have g1 := Gr.refl hs
 refine sr (oC (OpW.allocO (arr := #[.bool false, .slice none 0 0, .slice none 0 0]) g1.sat Tryd.zeroValue24 rfl ?_))
 intro b2 w1 gr1 n1 lo1 o1
 have lo2 := Nat.le_trans g1.ext.size lo1
 refine oN (sr (oC (OpW.build (places := [(0, 1), (1, 1), (2, 1)]) (cs := [.bool false, .slice none 0 0, .slice none 0 0]) Tryd.underlying24 Tryd.zeroValue24 (fun _ => by kernel_rfl) rfl ?_)))
 have g2 := g1.trans gr1
 have lt1 := blk_lt o1
 refine oC (OpW.allocO (arr := #[.bool false, .slice none 0 0, .slice none 0 0]) g2.sat Tryd.zeroValue24 rfl ?_)
 intro b3 w2 gr2 n2 lo3 o2
 have lo4 := Nat.le_trans g2.ext.size lo3
 have ne1 : b2 ≠ b3 := Nat.ne_of_lt (Nat.lt_of_lt_of_le lt1 lo3)
 refine oC (sA (cs := [.bool false, .slice none 0 0, .slice none 0 0]) Tryd.sizeOf24 rfl rfl rfl rfl o2 rfl ?_)
 intro w3 p1
 refine oN (wS (sr (ma (oN (Wp.block ?_)))))
 have rel1 : RelA rpK h #[.bool false, .slice none 0 0, .slice none 0 0] [0] := RelA.lit (css := [[.bool false, .slice none 0 0, .slice none 0 0]]) (Rows.cons (Kz _) Rows.nil)
 replace rel1 := RelA.cast (m := [foldA 0 (l.take 0)]) rfl rel1
 have g3 := (g2.trans gr2).put p1 n2 lo4
 have o4 := p1.kp ne1 (gr2.kp ⟨o1, n1⟩)
 refine Wp.loop (σ := Nat × Array Value) (fun s (ρ : Env) (w' : World) => match s with | (k, aSb3) => ∃ ρb h', ρ = upds ρb [(0, .slice b1 l.length c1), (2, .pointer (some ⟨b2, 0, none⟩)), (3, .pointer (some ⟨b3, 0, none⟩)), (4, .int .i64 ((k : Nat) : Int))] ∧ Gr h w h' w' ∧ PH.le h h' ∧ w'.heap[b2]? = some (.cells #[.bool false, .slice none 0 0, .slice none 0 0] 24 (0, 0)) ∧ h' b2 = none ∧ w'.heap[b3]? = some (.cells aSb3 24 (0, 0)) ∧ h' b3 = none ∧ (k ≤ l.length) ∧ (RelA rpK h' aSb3 ([foldA 0 (l.take k)]))) (fun s => match s with | (k, aSb3) => l.length - k) (0, #[.bool false, .slice none 0 0, .slice none 0 0]) ?_ ?_
 exact ⟨_, h, nm rfl, g3, PH.le.refl _, o4.1, o4.2, p1.at_, n2, (by omega), rel1⟩
 rintro ⟨k, aSb3⟩ ρ1 w4 ⟨ρ2, h1, rfl, g4, l1, o5, n3, o6, n4, hk, hrelb3⟩
 have hb1 := bq_foldA_take pv0 0 k
 have hb2 := bf_getD l k
 have hb3 := LF.bq_getD pv0 k
 have hb4 := bf_n (l.getD k fr0)
 have hb5 := bf_d (l.getD k fr0)
 have hb7 := len_wts l
 refine wS (sr (mv (mv (oC (OpW.lenS Tryd.underlying50 (l := l.length) rfl ?_)))))
 refine oC (OpW.lss (a := ((k : Nat) : Int)) (b := ((l.length : Nat) : Int)) (r := decide (k < l.length)) rfl rfl (lt_nat (a := k) (b := l.length)) (oN (Wp.cond (t := decide (k < l.length)) rfl (fun c2 => ?_) (fun c2 => ?_))))
 replace c2 : k < l.length := (of_decide_eq_true c2)
 refine Wp.skip (wS (Wp.block ?_))
 obtain ⟨b6, o8, a1, e6, z1, cs2, qs1, qb1, qv2, qf2, qr2⟩ := LR.at' (LR.mono pv0 l1) fr0 (s := 3) rfl (i := k) (by omega)
 obtain ⟨b7, c5, b8, c6, rfl, k4, k5, u3, u4⟩ := F.open qr2
 have hbq1 : bq (l.getD k fr0).rat ≤ bf (l.getD k fr0) := F.bq qr2
 have hf1 := bq_add (foldA 0 (l.take k)) (l.getD k fr0).rat
 refine Wp.dagL 6 [12, 13, 14, 15, 16, 17] [fun h _ x => ∃ b4z c3z b5z c4z, x = .agg #[.bool ((frK (foldA 0 (l.take k))).neg), .slice b4z ((frK (foldA 0 (l.take k))).n.length) c3z, .slice b5z ((frK (foldA 0 (l.take k))).d.length) c4z] ∧ U h (.slice b4z ((frK (foldA 0 (l.take k))).n.length) c3z) ((frK (foldA 0 (l.take k))).n) ∧ U h (.slice b5z ((frK (foldA 0 (l.take k))).d.length) c4z) ((frK (foldA 0 (l.take k))).d), eqv (.slice b1 l.length c1), eqv (.int .i64 ((k : Nat) : Int)), eqv (.pointer (some ⟨b6, o8 + k * 3, none⟩)), eqv (.agg #[.bool ((l.getD k fr0).neg), .slice b7 ((l.getD k fr0).n.length) c5, .slice b8 ((l.getD k fr0).d.length) c6]), fun h _ x => Kn h x ((foldA 0 (l.take k)) + (l.getD k fr0).rat)] mixed g4.sat rfl (by decide +kernel) ⟨(fun _ _ _ _ _ g ⟨_, _, _, _, e, f0, f1⟩ => ⟨_, _, _, _, e, U.mono f0 g.le, U.mono f1 g.le⟩), sQ _, sQ _, sQ _, sQ _, (stab_K ((foldA 0 (l.take k)) + (l.getD k fr0).rat)), trivial⟩ ?_ ?_
 intro stab
 refine ⟨?_, ?_, ?_, ?_, ?_, ?_, trivial⟩
 intro ρ3 h2 w5 g5 hdd1 hdo1
 have e1 : ρ3 3 = .pointer (some ⟨b3, 0, none⟩) := hdo1 3 rfl
 have o7 := g5.kp ⟨o6, n4⟩
 obtain ⟨cs1, qv1, qf1, qr1⟩ := RelA.at' (hrelb3.mono g5.le) 0 (s := 3) rfl (i := 0) Nat.zero_lt_one
 replace qr1 : rpK.R h2 cs1 (foldA 0 (l.take k)) := qr1
 obtain ⟨b4, c3, b5, c4, rfl, k2, k3, u1, u2⟩ := F.open qr1
 refine gP (OpW.loadA (cs := [.bool ((frK (foldA 0 (l.take k))).neg), .slice b4 ((frK (foldA 0 (l.take k))).n.length) c3, .slice b5 ((frK (foldA 0 (l.take k))).d.length) c4]) Tryd.isAgg24 Tryd.sizeOf24 e1 o7.1 qf1 qv1 ?_)
 exact ⟨_, h2, rfl, g5, fun j x _ p => p, ⟨_, _, _, _, rfl, u1, u2⟩⟩
 intro ρ4 h3 w6 g6 hdd2 hdo2
 have e2 : ρ4 0 = .slice b1 l.length c1 := hdo2 0 rfl
 refine gP (OpW.move (v := .slice b1 l.length c1) e2 ?_)
 exact ⟨_, h3, rfl, g6, fun j x _ p => p, rfl⟩
 intro ρ5 h4 w7 g7 hdd3 hdo3
 have e3 : ρ5 4 = .int .i64 ((k : Nat) : Int) := hdo3 4 rfl
 refine gP (OpW.move (v := .int .i64 ((k : Nat) : Int)) e3 ?_)
 exact ⟨_, h4, rfl, g7, fun j x _ p => p, rfl⟩
 intro ρ6 h5 w8 g8 hdd4 hdo4
 have e4 : ρ6 13 = .slice b1 l.length c1 := hdd4 1 (by decide)
 have e5 : ρ6 14 = .int .i64 ((k : Nat) : Int) := hdd4 2 (by decide)
 refine gP (iA (b := b6) (off := o8) (l := l.length) (c := c1) (i := ((k : Nat) : Int)) (o := o8 + k * 3) Tryd.underlying50 Tryd.sizeOf24 (e4.trans (congrArg (fun x => Value.slice x l.length c1) qs1)) e5 (by omega) (by omega) ?_)
 exact ⟨_, h5, rfl, g8, fun j x _ p => p, rfl⟩
 intro ρ7 h6 w9 g9 hdd5 hdo5
 have e7 : ρ7 15 = .pointer (some ⟨b6, o8 + k * 3, none⟩) := hdd5 3 (by decide)
 have g10 := g4.trans g9
 refine gP (OpW.loadA (cs := [.bool ((l.getD k fr0).neg), .slice b7 ((l.getD k fr0).n.length) c5, .slice b8 ((l.getD k fr0).d.length) c6]) Tryd.isAgg24 Tryd.sizeOf24 e7 (g10.sat _ _ (g9.le _ _ qb1)) qf2 qv2 ?_)
 exact ⟨_, h6, rfl, g9, fun j x _ p => p, rfl⟩
 intro ρ8 h7 w10 g11 hdd6 hdo6
 have q1 : ∃ b4z c3z b5z c4z, (ρ8 12) = .agg #[.bool ((frK (foldA 0 (l.take k))).neg), .slice b4z ((frK (foldA 0 (l.take k))).n.length) c3z, .slice b5z ((frK (foldA 0 (l.take k))).d.length) c4z] ∧ U h7 (.slice b4z ((frK (foldA 0 (l.take k))).n.length) c3z) ((frK (foldA 0 (l.take k))).n) ∧ U h7 (.slice b5z ((frK (foldA 0 (l.take k))).d.length) c4z) ((frK (foldA 0 (l.take k))).d) := hdd6 0 (by decide)
 obtain ⟨b9, c7, b10, c8, e8, q2, q3⟩ := q1
 have e8 : ρ8 12 = .agg #[.bool ((frK (foldA 0 (l.take k))).neg), .slice b9 ((frK (foldA 0 (l.take k))).n.length) c7, .slice b10 ((frK (foldA 0 (l.take k))).d.length) c8] := e8
 have e9 : ρ8 16 = .agg #[.bool ((l.getD k fr0).neg), .slice b7 ((l.getD k fr0).n.length) c5, .slice b8 ((l.getD k fr0).d.length) c6] := hdd6 4 (by decide)
 have g12 := g4.trans g11
 refine gP (cF Tryd.call43 (rAdd_c (a := frK (foldA 0 (l.take k))) (b := l.getD k fr0) g12.sat (F.mk q2 q3) (F.mono qr2 g11.le) (by first | omega | (simp only [bf_frK, frK_rat, wts_cons, wts_nil]; omega))) (cx e8 (cx e9 cxn)) ?_)
 intro r1 h8 w11 gr3 hr1
 simp only [frK_rat, bf_frK, val_digs] at hr1
 exact ⟨r1, h8, rfl, g11.trans gr3, fun j x _ => stab j _ _ _ _ x gr3, hr1⟩
 intro ρ9 h9 w12 g13 hdp1 hdo7
 have e10 : ρ9 0 = .slice b1 l.length c1 := hdo7 0 rfl
 have e11 : ρ9 2 = .pointer (some ⟨b2, 0, none⟩) := hdo7 2 rfl
 have e12 : ρ9 3 = .pointer (some ⟨b3, 0, none⟩) := hdo7 3 rfl
 have e13 : ρ9 4 = .int .i64 ((k : Nat) : Int) := hdo7 4 rfl
 have q4 : Kn h9 (ρ9 17) ((foldA 0 (l.take k)) + (l.getD k fr0).rat) := hdp1 5 rfl
 obtain ⟨x1, hx1⟩ : ∃ x, ρ9 17 = x := ⟨_, rfl⟩
 rw [hx1] at q4
 obtain ⟨b11, c9, b12, c10, rfl, k6, k7, u5, u6⟩ := F.shape q4
 refine Ops.forget [(0, .slice b1 l.length c1), (2, .pointer (some ⟨b2, 0, none⟩)), (3, .pointer (some ⟨b3, 0, none⟩)), (4, .int .i64 ((k : Nat) : Int)), (17, .agg #[.bool ((frK ((foldA 0 (l.take k)) + (l.getD k fr0).rat)).neg), .slice b11 ((frK ((foldA 0 (l.take k)) + (l.getD k fr0).rat)).n.length) c9, .slice b12 ((frK ((foldA 0 (l.take k)) + (l.getD k fr0).rat)).d.length) c10])] ⟨e10, e11, e12, e13, hx1, trivial⟩ (fun ρ10 => ?_)
 have o9 := g13.kp ⟨o6, n4⟩
 refine oC (sR (cs := [.bool ((frK ((foldA 0 (l.take k)) + (l.getD k fr0).rat)).neg), .slice b11 ((frK ((foldA 0 (l.take k)) + (l.getD k fr0).rat)).n.length) c9, .slice b12 ((frK ((foldA 0 (l.take k)) + (l.getD k fr0).rat)).d.length) c10]) Tryd.sizeOf24 rfl rfl rfl rfl o9.1 (RelA.fit (hrelb3.mono g13.le) (s := 3) rfl Nat.zero_lt_one) ?_)
 intro w13 p2
 obtain ⟨a2, o10, rel2⟩ := RelA.storeA (hrelb3.mono g13.le) p2 (i := 0) rfl Nat.zero_lt_one q4
 replace rel2 : RelA rpK h9 a2 [(foldA 0 (l.take k)) + (l.getD k fr0).rat] := rel2
 refine oN (wR (mv (oC (OpW.add (a := ((k : Nat) : Int)) (b := ((1 : Nat) : Int)) (r := ((k + 1 : Nat) : Int)) rfl rfl (add_i64 (a := k) (b := 1) (by omega)) (ma (oN ?_))))))
 have g14 := (g4.trans g13).put p2 o9.2 lo4
 have o11 := p2.kp ne1 (g13.kp ⟨o5, n3⟩)
 exact ⟨(k + 1, a2), ⟨_, h9, nm rfl, g14, (l1.trans g13.le), o11.1, o11.2, o10, o9.2, (by omega), (RelA.cast (by rw [foldA_succ (by omega)]) rel2)⟩, (by dsimp only; omega)⟩
 replace c2 : ¬ (k < l.length) := (of_decide_eq_false c2)
 refine Wp.exit (sr ?_)
 obtain ⟨cs3, qv3, qf3, qr3⟩ := RelA.at' hrelb3 0 (s := 3) rfl (i := 0) Nat.zero_lt_one
 replace qr3 : rpK.R h1 cs3 (foldA 0 (l.take k)) := qr3
 obtain ⟨b13, c11, b14, c12, rfl, k8, k9, u7, u8⟩ := F.open qr3
 refine oC (OpW.loadA (cs := [.bool ((frK (foldA 0 (l.take k))).neg), .slice b13 ((frK (foldA 0 (l.take k))).n.length) c11, .slice b14 ((frK (foldA 0 (l.take k))).d.length) c12]) Tryd.isAgg24 Tryd.sizeOf24 rfl o6 qf3 qv3 ?_)
 refine oC (sA (cs := [.bool ((frK (foldA 0 (l.take k))).neg), .slice b13 ((frK (foldA 0 (l.take k))).n.length) c11, .slice b14 ((frK (foldA 0 (l.take k))).d.length) c12]) Tryd.sizeOf24 rfl rfl rfl rfl o5 rfl ?_)
 intro w14 p3
 refine oN (Wp.ret (fin1_ret rfl (resOf_cellA (cs := [.bool ((frK (foldA 0 (l.take k))).neg), .slice b13 ((frK (foldA 0 (l.take k))).n.length) c11, .slice b14 ((frK (foldA 0 (l.take k))).d.length) c12]) Tryd.isAgg24 Tryd.sizeOf24 rfl p3.at_ (Nat.le_of_ble_eq_true rfl) rfl) ?_))
 have g15 := g4.put p3 n3 lo2
 refine ⟨h1, g15, ?_⟩
 exact (Kn.cast (by rw [List.take_of_length_le (by omega)]; rfl) (F.mk u7 u8))
end Go.Ear
