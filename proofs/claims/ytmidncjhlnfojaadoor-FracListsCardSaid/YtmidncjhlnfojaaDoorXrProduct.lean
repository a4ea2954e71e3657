/- About package frac: XrProduct. -/
import Derived.Test.YtmidncjhlnfojaaDoorNatLaw2
import Derived.Test.YtmidncjhlnfojaaDoorEarShort
import Derived.Test.YtmidncjhlnfojaaDoorProg
import Derived.Test.YtmidncjhlnfojaaDoorNatLaw3
import Derived.Test.YtmidncjhlnfojaaDoorEarFrac
import Derived.Test.YtmidncjhlnfojaaDoorEarDec
import Derived.Test.YtmidncjhlnfojaaDoorItoaLay
import Derived.Lib.ItoaMem
import Derived.Test.YtmidncjhlnfojaaDoorEarApi
import Derived.Test.YtmidncjhlnfojaaDoorEarRef2
import Derived.Test.YtmidncjhlnfojaaDoorK1
import Derived.Test.YtmidncjhlnfojaaDoorX12
set_option linter.all false
namespace Go.Ear
open Go.Proofs
set_option maxRecDepth 20000
set_option linter.unusedVariables false
set_option maxHeartbeats 2000000
theorem rProduct_c {h : PH} {w : World} {v0 : Value} {l : List (Fr)} (hs : Sat h w) (pv0 : LR rpF h v0 l) (hp0 : wts l ≤ 60000000) :
    Calls Tryd.prog 63 #[v0] w (Ret h w fun h' r => Kn h' r (prodF l)) := by
 obtain ⟨b1, c1, rfl, k1⟩ := LR.shape pv0
 have hb1' : bq (((1 : Nat) : Int) : Rat) ≤ 2 := bq_intc (by decide) (by decide)
 have hz0 := bq_zero
 have hz1 := bq_one
 refine calls_ear (vs := [.slice b1 l.length c1]) Tryd.func63 rfl rfl ?_
 have g1 := Gr.refl hs
 refine sr (oC (OpW.allocO (arr := #[.bool false, .slice none 0 0, .slice none 0 0]) g1.sat Tryd.zeroValue24 rfl ?_))
 intro b2 w1 gr1 n1 lo1 o1
 have lo2 := Nat.le_trans g1.ext.size lo1
 refine oN (sr ?_)
 have g2 := g1.trans gr1
 refine oC (cF Tryd.call38 (rOf_c (n := ((1 : Nat) : Int)) g2.sat  (by omega) (by omega)) rfl ?_)
 intro r1 h1 w2 gr2 hr1
 obtain ⟨b3, c2, b4, c3, rfl, k2, k3, u1, u2⟩ := F.shape hr1
 have g3 := g2.trans gr2
 have o3 := gr2.kp ⟨o1, n1⟩
 have lt1 := blk_lt o3.1
 refine oC (OpW.allocO (arr := #[.bool false, .slice none 0 0, .slice none 0 0]) g3.sat Tryd.zeroValue24 rfl ?_)
 intro b5 w3 gr3 n2 lo3 o2
 have lo4 := Nat.le_trans g3.ext.size lo3
 have ne1 : b2 ≠ b5 := Nat.ne_of_lt (Nat.lt_of_lt_of_le lt1 lo3)
 refine oC (sA (cs := [.bool ((frK ((((1 : Nat) : Int) : Int) : Rat)).neg), .slice b3 ((frK ((((1 : Nat) : Int) : Int) : Rat)).n.length) c2, .slice b4 ((frK ((((1 : Nat) : Int) : Int) : Rat)).d.length) c3]) Tryd.sizeOf24 rfl rfl rfl rfl o2 rfl ?_)
 intro w4 p1
 refine oN (wS (sr (ma (oN (Wp.block ?_)))))
 have rel1 : RelA rpK h1 #[.bool ((frK ((((1 : Nat) : Int) : Int) : Rat)).neg), .slice b3 ((frK ((((1 : Nat) : Int) : Int) : Rat)).n.length) c2, .slice b4 ((frK ((((1 : Nat) : Int) : Int) : Rat)).d.length) c3] [((((1 : Nat) : Int) : Int) : Rat)] := RelA.lit (css := [[.bool ((frK ((((1 : Nat) : Int) : Int) : Rat)).neg), .slice b3 ((frK ((((1 : Nat) : Int) : Int) : Rat)).n.length) c2, .slice b4 ((frK ((((1 : Nat) : Int) : Int) : Rat)).d.length) c3]]) (Rows.cons (F.mk u1 u2) Rows.nil)
 replace rel1 := RelA.cast (m := [foldM 1 (l.take 0)]) rfl rel1
 have g4 := (g3.trans gr3).put p1 n2 lo4
 have o5 := p1.kp ne1 (gr3.kp o3)
 refine Wp.loop (σ := Nat × Array Value) (fun s (ρ : Env) (w' : World) => match s with | (k, aSb5) => ∃ ρb h', ρ = upds ρb [(0, .slice b1 l.length c1), (2, .pointer (some ⟨b2, 0, none⟩)), (3, .pointer (some ⟨b5, 0, none⟩)), (4, .int .i64 ((k : Nat) : Int))] ∧ Gr h w h' w' ∧ PH.le h1 h' ∧ w'.heap[b2]? = some (.cells #[.bool false, .slice none 0 0, .slice none 0 0] 24 (0, 0)) ∧ h' b2 = none ∧ w'.heap[b5]? = some (.cells aSb5 24 (0, 0)) ∧ h' b5 = none ∧ (k ≤ l.length) ∧ (RelA rpK h' aSb5 ([foldM 1 (l.take k)]))) (fun s => match s with | (k, aSb5) => l.length - k) (0, #[.bool ((frK ((((1 : Nat) : Int) : Int) : Rat)).neg), .slice b3 ((frK ((((1 : Nat) : Int) : Int) : Rat)).n.length) c2, .slice b4 ((frK ((((1 : Nat) : Int) : Int) : Rat)).d.length) c3]) ?_ ?_
 exact ⟨_, h1, nm rfl, g4, PH.le.refl _, o5.1, o5.2, p1.at_, n2, (by omega), rel1⟩
 rintro ⟨k, aSb5⟩ ρ1 w5 ⟨ρ2, h2, rfl, g5, l1, o6, n3, o7, n4, hk, hrelb5⟩
 have hb1 := bq_foldM_take pv0 1 k
 have hb2 := bf_getD l k
 have hb3 := LF.bq_getD pv0 k
 have hb4 := bf_n (l.getD k fr0)
 have hb5 := bf_d (l.getD k fr0)
 have hb7 := len_wts l
 refine wS (sr (mv (mv (oC (OpW.lenS Tryd.underlying50 (l := l.length) rfl ?_)))))
 refine oC (OpW.lss (a := ((k : Nat) : Int)) (b := ((l.length : Nat) : Int)) (r := decide (k < l.length)) rfl rfl (lt_nat (a := k) (b := l.length)) (oN (Wp.cond (t := decide (k < l.length)) rfl (fun c4 => ?_) (fun c4 => ?_))))
 replace c4 : k < l.length := (of_decide_eq_true c4)
 refine Wp.skip (wS (Wp.block ?_))
 obtain ⟨b8, o9, a1, e6, z1, cs2, qs1, qb1, qv2, qf2, qr2⟩ := LR.at' (LR.mono pv0 (gr2.le.trans l1)) fr0 (s := 3) rfl (i := k) (by omega)
 obtain ⟨b9, c7, b10, c8, rfl, k6, k7, u5, u6⟩ := F.open qr2
 have hbq1 : bq (l.getD k fr0).rat ≤ bf (l.getD k fr0) := F.bq qr2
 have hf1 := bq_mul (foldM 1 (l.take k)) (l.getD k fr0).rat
 refine Wp.dagL 6 [12, 13, 14, 15, 16, 17] [fun h _ x => ∃ b6z c5z b7z c6z, x = .agg #[.bool ((frK (foldM 1 (l.take k))).neg), .slice b6z ((frK (foldM 1 (l.take k))).n.length) c5z, .slice b7z ((frK (foldM 1 (l.take k))).d.length) c6z] ∧ U h (.slice b6z ((frK (foldM 1 (l.take k))).n.length) c5z) ((frK (foldM 1 (l.take k))).n) ∧ U h (.slice b7z ((frK (foldM 1 (l.take k))).d.length) c6z) ((frK (foldM 1 (l.take k))).d), eqv (.slice b1 l.length c1), eqv (.int .i64 ((k : Nat) : Int)), eqv (.pointer (some ⟨b8, o9 + k * 3, none⟩)), eqv (.agg #[.bool ((l.getD k fr0).neg), .slice b9 ((l.getD k fr0).n.length) c7, .slice b10 ((l.getD k fr0).d.length) c8]), fun h _ x => Kn h x ((foldM 1 (l.take k)) * (l.getD k fr0).rat)] mixed g5.sat rfl (by decide +kernel) ⟨(fun _ _ _ _ _ g ⟨_, _, _, _, e, f0, f1⟩ => ⟨_, _, _, _, e, U.mono f0 g.le, U.mono f1 g.le⟩), sQ _, sQ _, sQ _, sQ _, (stab_K ((foldM 1 (l.take k)) * (l.getD k fr0).rat)), trivial⟩ ?_ ?_
 intro stab
 refine ⟨?_, ?_, ?_, ?_, ?_, ?_, trivial⟩
 intro ρ3 h3 w6 g6 hdd1 hdo1
 have e1 : ρ3 3 = .pointer (some ⟨b5, 0, none⟩) := hdo1 3 rfl
 have o8 := g6.kp ⟨o7, n4⟩
 obtain ⟨cs1, qv1, qf1, qr1⟩ := RelA.at' (hrelb5.mono g6.le) 0 (s := 3) rfl (i := 0) Nat.zero_lt_one
 replace qr1 : rpK.R h3 cs1 (foldM 1 (l.take k)) := qr1
 obtain ⟨b6, c5, b7, c6, rfl, k4, k5, u3, u4⟩ := F.open qr1
 refine gP (OpW.loadA (cs := [.bool ((frK (foldM 1 (l.take k))).neg), .slice b6 ((frK (foldM 1 (l.take k))).n.length) c5, .slice b7 ((frK (foldM 1 (l.take k))).d.length) c6]) Tryd.isAgg24 Tryd.sizeOf24 e1 o8.1 qf1 qv1 ?_)
 exact ⟨_, h3, rfl, g6, fun j x _ p => p, ⟨_, _, _, _, rfl, u3, u4⟩⟩
 intro ρ4 h4 w7 g7 hdd2 hdo2
 have e2 : ρ4 0 = .slice b1 l.length c1 := hdo2 0 rfl
 refine gP (OpW.move (v := .slice b1 l.length c1) e2 ?_)
 exact ⟨_, h4, rfl, g7, fun j x _ p => p, rfl⟩
 intro ρ5 h5 w8 g8 hdd3 hdo3
 have e3 : ρ5 4 = .int .i64 ((k : Nat) : Int) := hdo3 4 rfl
 refine gP (OpW.move (v := .int .i64 ((k : Nat) : Int)) e3 ?_)
 exact ⟨_, h5, rfl, g8, fun j x _ p => p, rfl⟩
 intro ρ6 h6 w9 g9 hdd4 hdo4
 have e4 : ρ6 13 = .slice b1 l.length c1 := hdd4 1 (by decide)
 have e5 : ρ6 14 = .int .i64 ((k : Nat) : Int) := hdd4 2 (by decide)
 refine gP (iA (b := b8) (off := o9) (l := l.length) (c := c1) (i := ((k : Nat) : Int)) (o := o9 + k * 3) Tryd.underlying50 Tryd.sizeOf24 (e4.trans (congrArg (fun x => Value.slice x l.length c1) qs1)) e5 (by omega) (by omega) ?_)
 exact ⟨_, h6, rfl, g9, fun j x _ p => p, rfl⟩
 intro ρ7 h7 w10 g10 hdd5 hdo5
 have e7 : ρ7 15 = .pointer (some ⟨b8, o9 + k * 3, none⟩) := hdd5 3 (by decide)
 have g11 := g5.trans g10
 refine gP (OpW.loadA (cs := [.bool ((l.getD k fr0).neg), .slice b9 ((l.getD k fr0).n.length) c7, .slice b10 ((l.getD k fr0).d.length) c8]) Tryd.isAgg24 Tryd.sizeOf24 e7 (g11.sat _ _ (g10.le _ _ qb1)) qf2 qv2 ?_)
 exact ⟨_, h7, rfl, g10, fun j x _ p => p, rfl⟩
 intro ρ8 h8 w11 g12 hdd6 hdo6
 have q1 : ∃ b6z c5z b7z c6z, (ρ8 12) = .agg #[.bool ((frK (foldM 1 (l.take k))).neg), .slice b6z ((frK (foldM 1 (l.take k))).n.length) c5z, .slice b7z ((frK (foldM 1 (l.take k))).d.length) c6z] ∧ U h8 (.slice b6z ((frK (foldM 1 (l.take k))).n.length) c5z) ((frK (foldM 1 (l.take k))).n) ∧ U h8 (.slice b7z ((frK (foldM 1 (l.take k))).d.length) c6z) ((frK (foldM 1 (l.take k))).d) := hdd6 0 (by decide)
 obtain ⟨b11, c9, b12, c10, e8, q2, q3⟩ := q1
 have e8 : ρ8 12 = .agg #[.bool ((frK (foldM 1 (l.take k))).neg), .slice b11 ((frK (foldM 1 (l.take k))).n.length) c9, .slice b12 ((frK (foldM 1 (l.take k))).d.length) c10] := e8
 have e9 : ρ8 16 = .agg #[.bool ((l.getD k fr0).neg), .slice b9 ((l.getD k fr0).n.length) c7, .slice b10 ((l.getD k fr0).d.length) c8] := hdd6 4 (by decide)
 have g13 := g5.trans g12
 refine gP (cF Tryd.call37 (rMul_c (a := frK (foldM 1 (l.take k))) (b := l.getD k fr0) g13.sat (F.mk q2 q3) (F.mono qr2 g12.le) (by first | omega | (simp only [bf_frK, frK_rat, wts_cons, wts_nil]; omega))) (cx e8 (cx e9 cxn)) ?_)
 intro r2 h9 w12 gr4 hr2
 simp only [frK_rat, bf_frK, val_digs] at hr2
 exact ⟨r2, h9, rfl, g12.trans gr4, fun j x _ => stab j _ _ _ _ x gr4, hr2⟩
 intro ρ9 h10 w13 g14 hdp1 hdo7
 have e10 : ρ9 0 = .slice b1 l.length c1 := hdo7 0 rfl
 have e11 : ρ9 2 = .pointer (some ⟨b2, 0, none⟩) := hdo7 2 rfl
 have e12 : ρ9 3 = .pointer (some ⟨b5, 0, none⟩) := hdo7 3 rfl
 have e13 : ρ9 4 = .int .i64 ((k : Nat) : Int) := hdo7 4 rfl
 have q4 : Kn h10 (ρ9 17) ((foldM 1 (l.take k)) * (l.getD k fr0).rat) := hdp1 5 rfl
 obtain ⟨x1, hx1⟩ : ∃ x, ρ9 17 = x := ⟨_, rfl⟩
 rw [hx1] at q4
 obtain ⟨b13, c11, b14, c12, rfl, k8, k9, u7, u8⟩ := F.shape q4
 refine Ops.forget [(0, .slice b1 l.length c1), (2, .pointer (some ⟨b2, 0, none⟩)), (3, .pointer (some ⟨b5, 0, none⟩)), (4, .int .i64 ((k : Nat) : Int)), (17, .agg #[.bool ((frK ((foldM 1 (l.take k)) * (l.getD k fr0).rat)).neg), .slice b13 ((frK ((foldM 1 (l.take k)) * (l.getD k fr0).rat)).n.length) c11, .slice b14 ((frK ((foldM 1 (l.take k)) * (l.getD k fr0).rat)).d.length) c12])] ⟨e10, e11, e12, e13, hx1, trivial⟩ (fun ρ10 => ?_)
 have o10 := g14.kp ⟨o7, n4⟩
 refine oC (sR (cs := [.bool ((frK ((foldM 1 (l.take k)) * (l.getD k fr0).rat)).neg), .slice b13 ((frK ((foldM 1 (l.take k)) * (l.getD k fr0).rat)).n.length) c11, .slice b14 ((frK ((foldM 1 (l.take k)) * (l.getD k fr0).rat)).d.length) c12]) Tryd.sizeOf24 rfl rfl rfl rfl o10.1 (RelA.fit (hrelb5.mono g14.le) (s := 3) rfl Nat.zero_lt_one) ?_)
 intro w14 p2
 obtain ⟨a2, o11, rel2⟩ := RelA.storeA (hrelb5.mono g14.le) p2 (i := 0) rfl Nat.zero_lt_one q4
 replace rel2 : RelA rpK h10 a2 [(foldM 1 (l.take k)) * (l.getD k fr0).rat] := rel2
 refine oN (wR (mv (oC (OpW.add (a := ((k : Nat) : Int)) (b := ((1 : Nat) : Int)) (r := ((k + 1 : Nat) : Int)) rfl rfl (add_i64 (a := k) (b := 1) (by omega)) (ma (oN ?_))))))
 have g15 := (g5.trans g14).put p2 o10.2 lo4
 have o12 := p2.kp ne1 (g14.kp ⟨o6, n3⟩)
 exact ⟨(k + 1, a2), ⟨_, h10, nm rfl, g15, (l1.trans g14.le), o12.1, o12.2, o11, o10.2, (by omega), (RelA.cast (by rw [foldM_succ (by omega)]) rel2)⟩, (by dsimp only; omega)⟩
 replace c4 : ¬ (k < l.length) := (of_decide_eq_false c4)
 refine Wp.exit (sr ?_)
 obtain ⟨cs3, qv3, qf3, qr3⟩ := RelA.at' hrelb5 0 (s := 3) rfl (i := 0) Nat.zero_lt_one
 replace qr3 : rpK.R h2 cs3 (foldM 1 (l.take k)) := qr3
 obtain ⟨b15, c13, b16, c14, rfl, k10, k11, u9, u10⟩ := F.open qr3
 refine oC (OpW.loadA (cs := [.bool ((frK (foldM 1 (l.take k))).neg), .slice b15 ((frK (foldM 1 (l.take k))).n.length) c13, .slice b16 ((frK (foldM 1 (l.take k))).d.length) c14]) Tryd.isAgg24 Tryd.sizeOf24 rfl o7 qf3 qv3 ?_)
 refine oC (sA (cs := [.bool ((frK (foldM 1 (l.take k))).neg), .slice b15 ((frK (foldM 1 (l.take k))).n.length) c13, .slice b16 ((frK (foldM 1 (l.take k))).d.length) c14]) Tryd.sizeOf24 rfl rfl rfl rfl o6 rfl ?_)
 intro w15 p3
 refine oN (Wp.ret (fin1_ret rfl (resOf_cellA (cs := [.bool ((frK (foldM 1 (l.take k))).neg), .slice b15 ((frK (foldM 1 (l.take k))).n.length) c13, .slice b16 ((frK (foldM 1 (l.take k))).d.length) c14]) Tryd.isAgg24 Tryd.sizeOf24 rfl p3.at_ (Nat.le_of_ble_eq_true rfl) rfl) ?_))
 have g16 := g5.put p3 n3 lo2
 refine ⟨h2, g16, ?_⟩
 exact (Kn.cast (by rw [List.take_of_length_le (by omega)]; rfl) (F.mk u9 u10))
end Go.Ear
