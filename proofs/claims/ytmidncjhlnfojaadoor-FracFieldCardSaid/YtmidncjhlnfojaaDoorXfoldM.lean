/- About package frac: XfoldM. -/
import Derived.Test.YtmidncjhlnfojaaDoorNatLaw2
import Derived.Test.YtmidncjhlnfojaaDoorEarShort
import Derived.Test.YtmidncjhlnfojaaDoorProg
import Derived.Test.YtmidncjhlnfojaaDoorNatLaw3
import Derived.Test.YtmidncjhlnfojaaDoorEarFrac
import Derived.Test.YtmidncjhlnfojaaDoorK1
import Derived.Test.YtmidncjhlnfojaaDoorK4
set_option linter.all false
namespace Go.Ear
open Go.Proofs
set_option maxRecDepth 20000
set_option linter.unusedVariables false
set_option maxHeartbeats 2000000
theorem foldM_c {h : PH} {w : World} {v0 : Value} {q : Rat} {v2 : Value} {l : List (Fr)} (hs : Sat h w) (pv0 : Qn h v0 q) (pv2 : LR rpF h v2 l) (hp0 : bq q + wts l ≤ 134217728) :
    Calls Tryd.prog 102 #[v0, .func (.func 78) #[] #[], v2] w (Ret h w fun h' r => Qn h' r (foldM q l)) := by
 obtain ⟨b1, c1, b2, c2, rfl, k1, k2, u1, u2⟩ := Qn.shape pv0
 obtain ⟨b3, c3, rfl, k3⟩ := LR.shape pv2
 refine calls_ear (vs := [.agg #[.bool (decide (q.num < 0)), .slice b1 ((digs q.num.natAbs).length) c1, .slice b2 ((digs q.den).length) c2], .func (.func 78) #[] #[], .slice b3 l.length c3]) Tryd.func102 rfl rfl ?_
 have g1 := Gr.refl hs
 refine sr (oC (OpW.boxO (v := .agg #[.bool (decide (q.num < 0)), .slice b1 ((digs q.num.natAbs).length) c1, .slice b2 ((digs q.den).length) c2]) (arr := #[.bool (decide (q.num < 0)), .slice b1 ((digs q.num.natAbs).length) c1, .slice b2 ((digs q.den).length) c2]) g1.sat rfl rfl ?_))
 intro b4 w1 gr1 n1 lo1 o1
 have lo2 := Nat.le_trans g1.ext.size lo1
 have g2 := g1.trans gr1
 have lt1 := blk_lt o1
 refine oC (OpW.allocO (arr := #[.bool false, .slice none 0 0, .slice none 0 0]) g2.sat Tryd.zeroValue66 rfl ?_)
 intro b5 w2 gr2 n2 lo3 o2
 have lo4 := Nat.le_trans g2.ext.size lo3
 have ne1 : b4 ≠ b5 := Nat.ne_of_lt (Nat.lt_of_lt_of_le lt1 lo3)
 refine oN (wS (sr (mv (oC (OpW.lenS Tryd.underlying50 (l := l.length) rfl (mv (oN (Wp.block ?_))))))))
 have rel1 : RelA rpQ h #[.bool (decide (q.num < 0)), .slice b1 ((digs q.num.natAbs).length) c1, .slice b2 ((digs q.den).length) c2] [q] := RelA.lit (css := [[.bool (decide (q.num < 0)), .slice b1 ((digs q.num.natAbs).length) c1, .slice b2 ((digs q.den).length) c2]]) (Rows.cons (Qn.mk u1 u2 rfl rfl rfl) Rows.nil)
 replace rel1 := RelA.cast (m := [foldM q (l.take 0)]) rfl rel1
 have g3 := g2.trans gr2
 have o3 := gr2.kp ⟨o1, n1⟩
 refine Wp.loop (σ := Nat × Array Value) (fun s (ρ : Env) (w' : World) => match s with | (k, aSb4) => ∃ ρb h', ρ = upds ρb [(1, .func (.func 78) #[] #[]), (3, .pointer (some ⟨b4, 0, none⟩)), (6, .pointer (some ⟨b5, 0, none⟩)), (9, .slice b3 l.length c3), (10, .int .i64 ((l.length : Nat) : Int)), (11, .int .i64 ((k : Nat) : Int))] ∧ Gr h w h' w' ∧ PH.le h h' ∧ w'.heap[b4]? = some (.cells aSb4 66 (0, 0)) ∧ h' b4 = none ∧ w'.heap[b5]? = some (.cells #[.bool false, .slice none 0 0, .slice none 0 0] 66 (0, 0)) ∧ h' b5 = none ∧ (k ≤ l.length) ∧ (RelA rpQ h' aSb4 ([foldM q (l.take k)]))) (fun s => match s with | (k, aSb4) => l.length - k) (0, #[.bool (decide (q.num < 0)), .slice b1 ((digs q.num.natAbs).length) c1, .slice b2 ((digs q.den).length) c2]) ?_ ?_
 exact ⟨_, h, nm rfl, g3, PH.le.refl _, o3.1, o3.2, o2, n2, (by omega), rel1⟩
 rintro ⟨k, aSb4⟩ ρ1 w3 ⟨ρ2, h1, rfl, g4, l1, o4, n3, o5, n4, hk, hrelb4⟩
 have hb1 := bq_foldM_take pv2 q k
 have hb2 := bf_getD l k
 have hb3 := LF.bq_getD pv2 k
 have hb4 := bf_n (l.getD k fr0)
 have hb5 := bf_d (l.getD k fr0)
 have hb6 := bq_pos q
 have hb7 := len_wts l
 refine sr (oC (OpW.lss (a := ((k : Nat) : Int)) (b := ((l.length : Nat) : Int)) (r := decide (k < l.length)) rfl rfl (lt_nat (a := k) (b := l.length)) (oN (wS (Wp.cond (t := decide (k < l.length)) rfl (fun c4 => ?_) (fun c4 => ?_))))))
 replace c4 : k < l.length := (of_decide_eq_true c4)
 refine Wp.skip (wS (Wp.block (sr (oC (OpW.indexL (i := ((k : Nat) : Int)) (j := k) fr0 (s := 3) rfl Tryd.underlying50 Tryd.sizeOf24 rfl (LR.mono pv2 l1) rfl (by omega) (by omega) ?_)))))
 intro b6 o6 a1 e1 z1 cs1 qb1 qv1 qf1 qr1
 obtain ⟨b7, c5, b8, c6, rfl, k4, k5, u3, u4⟩ := F.open qr1
 have hbq1 : bq (l.getD k fr0).rat ≤ bf (l.getD k fr0) := F.bq qr1
 refine oC (OpW.loadA (cs := [.bool ((l.getD k fr0).neg), .slice b7 ((l.getD k fr0).n.length) c5, .slice b8 ((l.getD k fr0).d.length) c6]) Tryd.isAgg24 Tryd.sizeOf24 rfl (g4.sat _ _ qb1) qf1 qv1 ?_)
 have lt2 := blk_lt o4
 have lt3 := blk_lt o5
 refine oC (OpW.allocO (arr := #[.bool false, .slice none 0 0, .slice none 0 0]) g4.sat Tryd.zeroValue24 rfl ?_)
 intro b9 w4 gr3 n5 lo5 o7
 have lo6 := Nat.le_trans g4.ext.size lo5
 have ne2 : b4 ≠ b9 := Nat.ne_of_lt (Nat.lt_of_lt_of_le lt2 lo5)
 have ne3 : b5 ≠ b9 := Nat.ne_of_lt (Nat.lt_of_lt_of_le lt3 lo5)
 refine oC (sA (cs := [.bool ((l.getD k fr0).neg), .slice b7 ((l.getD k fr0).n.length) c5, .slice b8 ((l.getD k fr0).d.length) c6]) Tryd.sizeOf24 rfl rfl rfl rfl o7 rfl ?_)
 intro w5 p1
 refine oN (fg [(1, .func (.func 78) #[] #[]), (3, .pointer (some ⟨b4, 0, none⟩)), (6, .pointer (some ⟨b5, 0, none⟩)), (8, .pointer (some ⟨b9, 0, none⟩)), (9, .slice b3 l.length c3), (10, .int .i64 ((l.length : Nat) : Int)), (11, .int .i64 ((k : Nat) : Int))] rfl (fun ρ3 => ?_))
 have g5 := (g4.trans gr3).put p1 n5 lo6
 refine Wp.dagL 5 [15, 16, 17, 18, 19] [eqv (.func (.func 78) #[] #[]), fun h _ x => ∃ b10z c7z b11z c8z, x = .agg #[.bool (decide ((foldM q (l.take k)).num < 0)), .slice b10z ((digs ((foldM q (l.take k)).num.natAbs)).length) c7z, .slice b11z ((digs ((foldM q (l.take k)).den)).length) c8z] ∧ N h (.slice b10z ((digs ((foldM q (l.take k)).num.natAbs)).length) c7z) ((foldM q (l.take k)).num.natAbs) ∧ N h (.slice b11z ((digs ((foldM q (l.take k)).den)).length) c8z) ((foldM q (l.take k)).den), eqv (.agg #[.bool ((l.getD k fr0).neg), .slice b7 ((l.getD k fr0).n.length) c5, .slice b8 ((l.getD k fr0).d.length) c6]), fun h _ x => Qn h x ((l.getD k fr0).rat), fun h _ x => Qn h x ((foldM q (l.take k)) * ((l.getD k fr0).rat))] mixed g5.sat rfl (by decide +kernel) ⟨sQ _, (fun _ _ _ _ _ g ⟨_, _, _, _, e, f0, f1⟩ => ⟨_, _, _, _, e, N.mono f0 g.le, N.mono f1 g.le⟩), sQ _, (stab_Q ((l.getD k fr0).rat)), (stab_Q ((foldM q (l.take k)) * ((l.getD k fr0).rat))), trivial⟩ ?_ ?_
 intro stab
 refine ⟨?_, ?_, ?_, ?_, ?_, trivial⟩
 intro ρ4 h2 w6 g6 hdd1 hdo1
 have e2 : ρ4 1 = .func (.func 78) #[] #[] := hdo1 1 rfl
 refine gP (OpW.move (v := .func (.func 78) #[] #[]) e2 ?_)
 exact ⟨_, h2, rfl, g6, fun j x _ p => p, rfl⟩
 intro ρ5 h3 w7 g7 hdd2 hdo2
 have e3 : ρ5 3 = .pointer (some ⟨b4, 0, none⟩) := hdo2 3 rfl
 have o9 := g7.kp (p1.kp ne2 (gr3.kp ⟨o4, n3⟩))
 obtain ⟨cs2, qv2, qf2, qr2⟩ := RelA.at' (hrelb4.mono g7.le) 0 (s := 3) rfl (i := 0) Nat.zero_lt_one
 replace qr2 : rpQ.R h3 cs2 (foldM q (l.take k)) := qr2
 obtain ⟨b10, c7, b11, c8, rfl, k6, k7, u5, u6⟩ := Qn.open qr2
 refine gP (OpW.loadA (cs := [.bool (decide ((foldM q (l.take k)).num < 0)), .slice b10 ((digs ((foldM q (l.take k)).num.natAbs)).length) c7, .slice b11 ((digs ((foldM q (l.take k)).den)).length) c8]) Tryd.isAgg66 Tryd.sizeOf66 e3 o9.1 qf2 qv2 ?_)
 exact ⟨_, h3, rfl, g7, fun j x _ p => p, ⟨_, _, _, _, rfl, u5, u6⟩⟩
 intro ρ6 h4 w8 g8 hdd3 hdo3
 have e4 : ρ6 8 = .pointer (some ⟨b9, 0, none⟩) := hdo3 8 rfl
 have o10 := g8.kp ⟨p1.at_, n5⟩
 refine gP (lA (cs := [.bool ((l.getD k fr0).neg), .slice b7 ((l.getD k fr0).n.length) c5, .slice b8 ((l.getD k fr0).d.length) c6]) Tryd.isAgg24 Tryd.sizeOf24 e4 o10.1 rfl rfl ?_)
 exact ⟨_, h4, rfl, g8, fun j x _ p => p, rfl⟩
 intro ρ7 h5 w9 g9 hdd4 hdo4
 have e5 : ρ7 17 = .agg #[.bool ((l.getD k fr0).neg), .slice b7 ((l.getD k fr0).n.length) c5, .slice b8 ((l.getD k fr0).d.length) c6] := hdd4 2 (by decide)
 have g10 := g5.trans g9
 refine gP (cF Tryd.call70 (take_c (f := l.getD k fr0) g10.sat (F.mk (U.mono u3 g9.le) (U.mono u4 g9.le)) (by omega) (by omega)) (cx e5 cxn) ?_)
 intro r1 h6 w10 gr4 hr1
 exact ⟨r1, h6, rfl, g9.trans gr4, fun j x _ => stab j _ _ _ _ x gr4, hr1⟩
 intro ρ8 h7 w11 g11 hdd5 hdo5
 have e6 : ρ8 15 = .func (.func 78) #[] #[] := hdd5 0 (by decide)
 have q1 : ∃ b10z c7z b11z c8z, (ρ8 16) = .agg #[.bool (decide ((foldM q (l.take k)).num < 0)), .slice b10z ((digs ((foldM q (l.take k)).num.natAbs)).length) c7z, .slice b11z ((digs ((foldM q (l.take k)).den)).length) c8z] ∧ N h7 (.slice b10z ((digs ((foldM q (l.take k)).num.natAbs)).length) c7z) ((foldM q (l.take k)).num.natAbs) ∧ N h7 (.slice b11z ((digs ((foldM q (l.take k)).den)).length) c8z) ((foldM q (l.take k)).den) := hdd5 1 (by decide)
 obtain ⟨b12, c9, b13, c10, e7, q2, q3⟩ := q1
 have e7 : ρ8 16 = .agg #[.bool (decide ((foldM q (l.take k)).num < 0)), .slice b12 ((digs ((foldM q (l.take k)).num.natAbs)).length) c9, .slice b13 ((digs ((foldM q (l.take k)).den)).length) c10] := e7
 have q4 : Qn h7 (ρ8 18) ((l.getD k fr0).rat) := hdd5 3 (by decide)
 have g12 := g5.trans g11
 refine gP (OpW.callV (vs := [.agg #[.bool (decide ((foldM q (l.take k)).num < 0)), .slice b12 ((digs ((foldM q (l.take k)).num.natAbs)).length) c9, .slice b13 ((digs ((foldM q (l.take k)).den)).length) c10], (ρ8 18)]) e6 Tryd.call78 (cx e7 (cx rfl cxn)) (nmul_c (a := foldM q (l.take k)) (b := (l.getD k fr0).rat) g12.sat (Qn.mk q2 q3 rfl rfl rfl) q4 (by omega) (by omega)) ?_)
 intro r2 h8 w12 gr5 hr2
 exact ⟨r2, h8, rfl, g11.trans gr5, fun j x _ => stab j _ _ _ _ x gr5, hr2⟩
 intro ρ9 h9 w13 g13 hdp1 hdo6
 have e8 : ρ9 1 = .func (.func 78) #[] #[] := hdo6 1 rfl
 have e9 : ρ9 3 = .pointer (some ⟨b4, 0, none⟩) := hdo6 3 rfl
 have e10 : ρ9 6 = .pointer (some ⟨b5, 0, none⟩) := hdo6 6 rfl
 have e11 : ρ9 9 = .slice b3 l.length c3 := hdo6 9 rfl
 have e12 : ρ9 10 = .int .i64 ((l.length : Nat) : Int) := hdo6 10 rfl
 have e13 : ρ9 11 = .int .i64 ((k : Nat) : Int) := hdo6 11 rfl
 have q5 : Qn h9 (ρ9 19) ((foldM q (l.take k)) * ((l.getD k fr0).rat)) := hdp1 4 rfl
 obtain ⟨x1, hx1⟩ : ∃ x, ρ9 19 = x := ⟨_, rfl⟩
 rw [hx1] at q5
 obtain ⟨b14, c11, b15, c12, rfl, k8, k9, u7, u8⟩ := Qn.shape q5
 refine Ops.forget [(1, .func (.func 78) #[] #[]), (3, .pointer (some ⟨b4, 0, none⟩)), (6, .pointer (some ⟨b5, 0, none⟩)), (9, .slice b3 l.length c3), (10, .int .i64 ((l.length : Nat) : Int)), (11, .int .i64 ((k : Nat) : Int)), (19, .agg #[.bool (decide (((foldM q (l.take k)) * ((l.getD k fr0).rat)).num < 0)), .slice b14 ((digs (((foldM q (l.take k)) * ((l.getD k fr0).rat)).num.natAbs)).length) c11, .slice b15 ((digs (((foldM q (l.take k)) * ((l.getD k fr0).rat)).den)).length) c12])] ⟨e8, e9, e10, e11, e12, e13, hx1, trivial⟩ (fun ρ10 => ?_)
 have o11 := g13.kp (p1.kp ne2 (gr3.kp ⟨o4, n3⟩))
 refine oC (sR (cs := [.bool (decide (((foldM q (l.take k)) * ((l.getD k fr0).rat)).num < 0)), .slice b14 ((digs (((foldM q (l.take k)) * ((l.getD k fr0).rat)).num.natAbs)).length) c11, .slice b15 ((digs (((foldM q (l.take k)) * ((l.getD k fr0).rat)).den)).length) c12]) Tryd.sizeOf66 rfl rfl rfl rfl o11.1 (RelA.fit (hrelb4.mono g13.le) (s := 3) rfl Nat.zero_lt_one) ?_)
 intro w14 p2
 obtain ⟨a2, o12, rel2⟩ := RelA.storeA (hrelb4.mono g13.le) p2 (i := 0) rfl Nat.zero_lt_one q5
 replace rel2 : RelA rpQ h9 a2 [(foldM q (l.take k)) * ((l.getD k fr0).rat)] := rel2
 refine oN (wR (oC (OpW.add (a := ((k : Nat) : Int)) (b := ((1 : Nat) : Int)) (r := ((k + 1 : Nat) : Int)) rfl rfl (add_i64 (a := k) (b := 1) (by omega)) (mv (oN ?_)))))
 have g14 := (g5.trans g13).put p2 o11.2 lo2
 have o13 := p2.kp (Ne.symm ne1) (g13.kp (p1.kp ne3 (gr3.kp ⟨o5, n4⟩)))
 exact ⟨(k + 1, a2), ⟨_, h9, nm rfl, g14, (l1.trans g13.le), o12, o11.2, o13.1, o13.2, (by omega), (RelA.cast (by rw [foldM_succ (by omega)]) rel2)⟩, (by dsimp only; omega)⟩
 replace c4 : ¬ (k < l.length) := (of_decide_eq_false c4)
 refine Wp.exit (sr ?_)
 obtain ⟨cs3, qv3, qf3, qr3⟩ := RelA.at' hrelb4 0 (s := 3) rfl (i := 0) Nat.zero_lt_one
 replace qr3 : rpQ.R h1 cs3 (foldM q (l.take k)) := qr3
 obtain ⟨b16, c13, b17, c14, rfl, k10, k11, u9, u10⟩ := Qn.open qr3
 refine oC (OpW.loadA (cs := [.bool (decide ((foldM q (l.take k)).num < 0)), .slice b16 ((digs ((foldM q (l.take k)).num.natAbs)).length) c13, .slice b17 ((digs ((foldM q (l.take k)).den)).length) c14]) Tryd.isAgg66 Tryd.sizeOf66 rfl o4 qf3 qv3 ?_)
 refine oC (sA (cs := [.bool (decide ((foldM q (l.take k)).num < 0)), .slice b16 ((digs ((foldM q (l.take k)).num.natAbs)).length) c13, .slice b17 ((digs ((foldM q (l.take k)).den)).length) c14]) Tryd.sizeOf66 rfl rfl rfl rfl o5 rfl ?_)
 intro w15 p3
 refine oN (Wp.ret (fin1_ret rfl (resOf_cellA (cs := [.bool (decide ((foldM q (l.take k)).num < 0)), .slice b16 ((digs ((foldM q (l.take k)).num.natAbs)).length) c13, .slice b17 ((digs ((foldM q (l.take k)).den)).length) c14]) Tryd.isAgg66 Tryd.sizeOf66 rfl p3.at_ (Nat.le_of_ble_eq_true rfl) rfl) ?_))
 have g15 := g4.put p3 n4 lo4
 refine ⟨h1, g15, ?_⟩
 exact (Qn.cast (by rw [List.take_of_length_le (by omega)]) (Qn.mk u9 u10 rfl rfl rfl))
end Go.Ear
