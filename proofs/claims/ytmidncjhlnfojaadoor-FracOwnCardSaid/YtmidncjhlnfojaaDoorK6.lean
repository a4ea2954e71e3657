/- About package frac: K6. -/
import Derived.Test.YtmidncjhlnfojaaDoorNatLaw2
import Derived.Test.YtmidncjhlnfojaaDoorEarShort
import Derived.Test.YtmidncjhlnfojaaDoorProg
import Derived.Test.YtmidncjhlnfojaaDoorNatLaw3
import Derived.Test.YtmidncjhlnfojaaDoorEarFrac
import Derived.Test.YtmidncjhlnfojaaDoorK1
import Derived.Test.YtmidncjhlnfojaaDoorK4
import Derived.Test.YtmidncjhlnfojaaDoorK5
set_option linter.all false
namespace Go.Ear
open Go.Proofs
set_option maxRecDepth 20000
set_option linter.unusedVariables false
set_option maxHeartbeats 2000000
theorem foldA_c {h : PH} {w : World} {v0 : Value} {q : Rat} {v2 : Value} {l : List (Fr)} (hs : Sat h w) (pv0 : Qn h v0 q) (pv2 : LR rpF h v2 l) (hp0 : bq q + wts l ≤ 134217728) :
    Calls Tryd.prog 102 #[v0, .func (.func 98) #[] #[], v2] w (Ret h w fun h' r => Qn h' r (foldA q l)) := by
 obtain ⟨b1, c1, b2, c2, rfl, k1, k2, u1, u2⟩ := Qn.shape pv0
 obtain ⟨b3, c3, rfl, k3⟩ := LR.shape pv2
 refine calls_ear (vs := [.agg #[.bool (decide (q.num < 0)), .slice b1 ((digs q.num.natAbs).length) c1, .slice b2 ((digs q.den).length) c2], .func (.func 98) #[] #[], .slice b3 l.length c3]) Tryd.func102 rfl rfl ?_
 have g1 := Gr.refl hs
 refine sr (oC (OpW.boxO (v := .agg #[.bool (decide (q.num < 0)), .slice b1 ((digs q.num.natAbs).length) c1, .slice b2 ((digs q.den).length) c2]) (arr := #[.bool (decide (q.num < 0)), .slice b1 ((digs q.num.natAbs).length) c1, .slice b2 ((digs q.den).length) c2]) g1.sat rfl rfl ?_))
 intro b4 w1 gr1 n1 lo1 o1
 have lo2 := Nat.le_trans g1.ext.size lo1
 have g2 := g1.trans gr1
 have lt1 := blk_lt o1
 refine oC (OpW.allocO (arr := #[.bool false, .slice none 0 0, .slice none 0 0]) g2.sat Tryd.zeroValue66 rfl ?_)
 intro b5 w2 gr2 n2 lo3 o2
 have lo4 := Nat.le_trans g2.ext.size lo3
 have ne1 : b4 ≠ b5 := Nat.ne_of_lt (Nat.lt_of_lt_of_le lt1 lo3)
 refine oN (wS (sr (mv (oC (OpW.lenS Tryd.underlying50 (l := l.length) rfl (mv (oN (Wp.block ?_))))))))
 have rel1 : RelA rpQ h #[.bool (decide (q.num < 0)), .slice b1 ((digs q.num.natAbs).length) c1, .slice b2 ((digs q.den).length) c2] [q] := RelA.lit (css := [[.bool (decide (q.num < 0)), .slice b1 ((digs q.num.natAbs).length) c1, .slice b2 ((digs q.den).length) c2]]) (Rows.cons (Qn.mk u1 u2 rfl rfl rfl) Rows.nil)
 replace rel1 := RelA.cast (m := [foldA q (l.take 0)]) rfl rel1
 have g3 := g2.trans gr2
 have o3 := gr2.kp ⟨o1, n1⟩
 refine Wp.loop (σ := Nat × Array Value) (fun s (ρ : Env) (w' : World) => match s with | (k, aSb4) => ∃ ρb h', ρ = upds ρb [(1, .func (.func 98) #[] #[]), (3, .pointer (some ⟨b4, 0, none⟩)), (6, .pointer (some ⟨b5, 0, none⟩)), (9, .slice b3 l.length c3), (10, .int .i64 ((l.length : Nat) : Int)), (11, .int .i64 ((k : Nat) : Int))] ∧ Gr h w h' w' ∧ PH.le h h' ∧ w'.heap[b4]? = some (.cells aSb4 66 (0, 0)) ∧ h' b4 = none ∧ w'.heap[b5]? = some (.cells #[.bool false, .slice none 0 0, .slice none 0 0] 66 (0, 0)) ∧ h' b5 = none ∧ (k ≤ l.length) ∧ (RelA rpQ h' aSb4 ([foldA q (l.take k)]))) (fun s => match s with | (k, aSb4) => l.length - k) (0, #[.bool (decide (q.num < 0)), .slice b1 ((digs q.num.natAbs).length) c1, .slice b2 ((digs q.den).length) c2]) ?_ ?_
 exact ⟨_, h, nm rfl, g3, PH.le.refl _, o3.1, o3.2, o2, n2, (by omega), rel1⟩
 rintro ⟨k, aSb4⟩ ρ1 w3 ⟨ρ2, h1, rfl, g4, l1, o4, n3, o5, n4, hk, hrelb4⟩
 have hb1 := bq_foldA_take pv2 q k
 have hb2 := bf_getD l k
 have hb3 := LF.bq_getD pv2 k
 have hb4 := bf_n (l.getD k fr0)
 have hb5 := bf_d (l.getD k fr0)
 have hb6 := bq_pos q
 have hb7 := len_wts l
 refine sr (oC (OpW.lss (a := ((k : Nat) : Int)) (b := ((l.length : Nat) : Int)) (r := decide (k < l.length)) rfl rfl (lt_nat (a := k) (b := l.length)) (oN (wS (Wp.cond (t := decide (k < l.length)) rfl (fun c4 => ?_) (fun c4 => ?_))))))
 replace c4 : k < l.length := (of_decide_eq_true c4)
 refine Wp.skip (wS (Wp.block (sr (oC (OpW.indexL (i := ((k : Nat) : Int)) (j := k) fr0 (s := 3) rfl Tryd.underlying50 Tryd.sizeOf24 rfl (LR.mono pv2 l1) rfl (by omega) (by omega) ?_)))))
 intro b6 o6 a1 e1 z1 cs1 qb1 qv1 qf1 qr1
 obtain ⟨b7, c5, b8, c6, rfl, k4, k5, u3, u4⟩ := F.open qr1
 have hbq1 : bq (l.getD k fr0).rat ≤ bf (l.getD k fr0) := F.bq qr1
 refine oC (OpW.loadA (cs := [.bool ((l.getD k fr0).neg), .slice b7 ((l.getD k fr0).n.length) c5, .slice b8 ((l.getD k fr0).d.length) c6]) Tryd.isAgg24 Tryd.sizeOf24 rfl (g4.sat _ _ qb1) qf1 qv1 ?_)
 have lt2 := blk_lt o4
 have lt3 := blk_lt o5
 refine oC (OpW.allocO (arr := #[.bool false, .slice none 0 0, .slice none 0 0]) g4.sat Tryd.zeroValue24 rfl ?_)
 intro b9 w4 gr3 n5 lo5 o7
 have lo6 := Nat.le_trans g4.ext.size lo5
 have ne2 : b4 ≠ b9 := Nat.ne_of_lt (Nat.lt_of_lt_of_le lt2 lo5)
 have ne3 : b5 ≠ b9 := Nat.ne_of_lt (Nat.lt_of_lt_of_le lt3 lo5)
 refine oC (sA (cs := [.bool ((l.getD k fr0).neg), .slice b7 ((l.getD k fr0).n.length) c5, .slice b8 ((l.getD k fr0).d.length) c6]) Tryd.sizeOf24 rfl rfl rfl rfl o7 rfl ?_)
 intro w5 p1
 refine oN (fg [(1, .func (.func 98) #[] #[]), (3, .pointer (some ⟨b4, 0, none⟩)), (6, .pointer (some ⟨b5, 0, none⟩)), (8, .pointer (some ⟨b9, 0, none⟩)), (9, .slice b3 l.length c3), (10, .int .i64 ((l.length : Nat) : Int)), (11, .int .i64 ((k : Nat) : Int))] rfl (fun ρ3 => ?_))
 have g5 := (g4.trans gr3).put p1 n5 lo6
 refine Wp.dagL 5 [15, 16, 17, 18, 19] [eqv (.func (.func 98) #[] #[]), fun h _ x => ∃ b10z c7z b11z c8z, x = .agg #[.bool (decide ((foldA q (l.take k)).num < 0)), .slice b10z ((digs ((foldA q (l.take k)).num.natAbs)).length) c7z, .slice b11z ((digs ((foldA q (l.take k)).den)).length) c8z] ∧ N h (.slice b10z ((digs ((foldA q (l.take k)).num.natAbs)).length) c7z) ((foldA q (l.take k)).num.natAbs) ∧ N h (.slice b11z ((digs ((foldA q (l.take k)).den)).length) c8z) ((foldA q (l.take k)).den), eqv (.agg #[.bool ((l.getD k fr0).neg), .slice b7 ((l.getD k fr0).n.length) c5, .slice b8 ((l.getD k fr0).d.length) c6]), fun h _ x => Qn h x ((l.getD k fr0).rat), fun h _ x => Qn h x ((foldA q (l.take k)) + ((l.getD k fr0).rat))] mixed g5.sat rfl (by decide +kernel) ⟨sQ _, (fun _ _ _ _ _ g ⟨_, _, _, _, e, f0, f1⟩ => ⟨_, _, _, _, e, N.mono f0 g.le, N.mono f1 g.le⟩), sQ _, (stab_Q ((l.getD k fr0).rat)), (stab_Q ((foldA q (l.take k)) + ((l.getD k fr0).rat))), trivial⟩ ?_ ?_
 intro stab
 refine ⟨?_, ?_, ?_, ?_, ?_, trivial⟩
 intro ρ4 h2 w6 g6 hdd1 hdo1
 have e2 : ρ4 1 = .func (.func 98) #[] #[] := hdo1 1 rfl
 refine gP (OpW.move (v := .func (.func 98) #[] #[]) e2 ?_)
 exact ⟨_, h2, rfl, g6, fun j x _ p => p, rfl⟩
 intro ρ5 h3 w7 g7 hdd2 hdo2
 have e3 : ρ5 3 = .pointer (some ⟨b4, 0, none⟩) := hdo2 3 rfl
 have o9 := g7.kp (p1.kp ne2 (gr3.kp ⟨o4, n3⟩))
 obtain ⟨cs2, qv2, qf2, qr2⟩ := RelA.at' (hrelb4.mono g7.le) 0 (s := 3) rfl (i := 0) Nat.zero_lt_one
 replace qr2 : rpQ.R h3 cs2 (foldA q (l.take k)) := qr2
 obtain ⟨b10, c7, b11, c8, rfl, k6, k7, u5, u6⟩ := Qn.open qr2
 refine gP (OpW.loadA (cs := [.bool (decide ((foldA q (l.take k)).num < 0)), .slice b10 ((digs ((foldA q (l.take k)).num.natAbs)).length) c7, .slice b11 ((digs ((foldA q (l.take k)).den)).length) c8]) Tryd.isAgg66 Tryd.sizeOf66 e3 o9.1 qf2 qv2 ?_)
 exact ⟨_, h3, rfl, g7, fun j x _ p => p, ⟨_, _, _, _, rfl, u5, u6⟩⟩
 intro ρ6 h4 w8 g8 hdd3 hdo3
 have e4 : ρ6 8 = .pointer (some ⟨b9, 0, none⟩) := hdo3 8 rfl
 have o10 := g8.kp ⟨p1.at_, n5⟩
 refine gP (lA (cs := [.bool ((l.getD k fr0).neg), .slice b7 ((l.getD k fr0).n.length) c5, .slice b8 ((l.getD k fr0).d.length) c6]) Tryd.isAgg24 Tryd.sizeOf24 e4 o10.1 rfl rfl ?_)
 exact ⟨_, h4, rfl, g8, fun j x _ p => p, rfl⟩
 intro ρ7 h5 w9 g9 hdd4 hdo4
 have e5 : ρ7 17 = .agg #[.bool ((l.getD k fr0).neg), .slice b7 ((l.getD k fr0).n.length) c5, .slice b8 ((l.getD k fr0).d.length) c6] := hdd4 2 (by decide)
 have g10 := g5.trans g9
 refine gP (cF Tryd.call70 (take_c (f := l.getD k fr0) g10.sat (F.mk (U.mono u3 g9.le) (U.mono u4 g9.le)) (by omega) (by omega)) (cx e5 cxn) ?_)
 intro r1 h6 w10 gr4 hr1
 exact ⟨r1, h6, rfl, g9.trans gr4, fun j x _ => stab j _ _ _ _ x gr4, hr1⟩
 intro ρ8 h7 w11 g11 hdd5 hdo5
 have e6 : ρ8 15 = .func (.func 98) #[] #[] := hdd5 0 (by decide)
 have q1 : ∃ b10z c7z b11z c8z, (ρ8 16) = .agg #[.bool (decide ((foldA q (l.take k)).num < 0)), .slice b10z ((digs ((foldA q (l.take k)).num.natAbs)).length) c7z, .slice b11z ((digs ((foldA q (l.take k)).den)).length) c8z] ∧ N h7 (.slice b10z ((digs ((foldA q (l.take k)).num.natAbs)).length) c7z) ((foldA q (l.take k)).num.natAbs) ∧ N h7 (.slice b11z ((digs ((foldA q (l.take k)).den)).length) c8z) ((foldA q (l.take k)).den) := hdd5 1 (by decide)
 obtain ⟨b12, c9, b13, c10, e7, q2, q3⟩ := q1
 have e7 : ρ8 16 = .agg #[.bool (decide ((foldA q (l.take k)).num < 0)), .slice b12 ((digs ((foldA q (l.take k)).num.natAbs)).length) c9, .slice b13 ((digs ((foldA q (l.take k)).den)).length) c10] := e7
 have q4 : Qn h7 (ρ8 18) ((l.getD k fr0).rat) := hdd5 3 (by decide)
 have g12 := g5.trans g11
 refine gP (OpW.callV (vs := [.agg #[.bool (decide ((foldA q (l.take k)).num < 0)), .slice b12 ((digs ((foldA q (l.take k)).num.natAbs)).length) c9, .slice b13 ((digs ((foldA q (l.take k)).den)).length) c10], (ρ8 18)]) e6 Tryd.call98 (cx e7 (cx rfl cxn)) (nadd_c (a := foldA q (l.take k)) (b := (l.getD k fr0).rat) g12.sat (Qn.mk q2 q3 rfl rfl rfl) q4 (by omega) (by omega)) ?_)
 intro r2 h8 w12 gr5 hr2
 exact ⟨r2, h8, rfl, g11.trans gr5, fun j x _ => stab j _ _ _ _ x gr5, hr2⟩
 intro ρ9 h9 w13 g13 hdp1 hdo6
 have e8 : ρ9 1 = .func (.func 98) #[] #[] := hdo6 1 rfl
 have e9 : ρ9 3 = .pointer (some ⟨b4, 0, none⟩) := hdo6 3 rfl
 have e10 : ρ9 6 = .pointer (some ⟨b5, 0, none⟩) := hdo6 6 rfl
 have e11 : ρ9 9 = .slice b3 l.length c3 := hdo6 9 rfl
 have e12 : ρ9 10 = .int .i64 ((l.length : Nat) : Int) := hdo6 10 rfl
 have e13 : ρ9 11 = .int .i64 ((k : Nat) : Int) := hdo6 11 rfl
 have q5 : Qn h9 (ρ9 19) ((foldA q (l.take k)) + ((l.getD k fr0).rat)) := hdp1 4 rfl
 obtain ⟨x1, hx1⟩ : ∃ x, ρ9 19 = x := ⟨_, rfl⟩
 rw [hx1] at q5
 obtain ⟨b14, c11, b15, c12, rfl, k8, k9, u7, u8⟩ := Qn.shape q5
 refine Ops.forget [(1, .func (.func 98) #[] #[]), (3, .pointer (some ⟨b4, 0, none⟩)), (6, .pointer (some ⟨b5, 0, none⟩)), (9, .slice b3 l.length c3), (10, .int .i64 ((l.length : Nat) : Int)), (11, .int .i64 ((k : Nat) : Int)), (19, .agg #[.bool (decide (((foldA q (l.take k)) + ((l.getD k fr0).rat)).num < 0)), .slice b14 ((digs (((foldA q (l.take k)) + ((l.getD k fr0).rat)).num.natAbs)).length) c11, .slice b15 ((digs (((foldA q (l.take k)) + ((l.getD k fr0).rat)).den)).length) c12])] ⟨e8, e9, e10, e11, e12, e13, hx1, trivial⟩ (fun ρ10 => ?_)
 have o11 := g13.kp (p1.kp ne2 (gr3.kp ⟨o4, n3⟩))
 refine oC (sR (cs := [.bool (decide (((foldA q (l.take k)) + ((l.getD k fr0).rat)).num < 0)), .slice b14 ((digs (((foldA q (l.take k)) + ((l.getD k fr0).rat)).num.natAbs)).length) c11, .slice b15 ((digs (((foldA q (l.take k)) + ((l.getD k fr0).rat)).den)).length) c12]) Tryd.sizeOf66 rfl rfl rfl rfl o11.1 (RelA.fit (hrelb4.mono g13.le) (s := 3) rfl Nat.zero_lt_one) ?_)
 intro w14 p2
 obtain ⟨a2, o12, rel2⟩ := RelA.storeA (hrelb4.mono g13.le) p2 (i := 0) rfl Nat.zero_lt_one q5
 replace rel2 : RelA rpQ h9 a2 [(foldA q (l.take k)) + ((l.getD k fr0).rat)] := rel2
 refine oN (wR (oC (OpW.add (a := ((k : Nat) : Int)) (b := ((1 : Nat) : Int)) (r := ((k + 1 : Nat) : Int)) rfl rfl (add_i64 (a := k) (b := 1) (by omega)) (mv (oN ?_)))))
 have g14 := (g5.trans g13).put p2 o11.2 lo2
 have o13 := p2.kp (Ne.symm ne1) (g13.kp (p1.kp ne3 (gr3.kp ⟨o5, n4⟩)))
 exact ⟨(k + 1, a2), ⟨_, h9, nm rfl, g14, (l1.trans g13.le), o12, o11.2, o13.1, o13.2, (by omega), (RelA.cast (by rw [foldA_succ (by omega)]) rel2)⟩, (by dsimp only; omega)⟩
 replace c4 : ¬ (k < l.length) := (of_decide_eq_false c4)
 refine Wp.exit (sr ?_)
 obtain ⟨cs3, qv3, qf3, qr3⟩ := RelA.at' hrelb4 0 (s := 3) rfl (i := 0) Nat.zero_lt_one
 replace qr3 : rpQ.R h1 cs3 (foldA q (l.take k)) := qr3
 obtain ⟨b16, c13, b17, c14, rfl, k10, k11, u9, u10⟩ := Qn.open qr3
 refine oC (OpW.loadA (cs := [.bool (decide ((foldA q (l.take k)).num < 0)), .slice b16 ((digs ((foldA q (l.take k)).num.natAbs)).length) c13, .slice b17 ((digs ((foldA q (l.take k)).den)).length) c14]) Tryd.isAgg66 Tryd.sizeOf66 rfl o4 qf3 qv3 ?_)
 refine oC (sA (cs := [.bool (decide ((foldA q (l.take k)).num < 0)), .slice b16 ((digs ((foldA q (l.take k)).num.natAbs)).length) c13, .slice b17 ((digs ((foldA q (l.take k)).den)).length) c14]) Tryd.sizeOf66 rfl rfl rfl rfl o5 rfl ?_)
 intro w15 p3
 refine oN (Wp.ret (fin1_ret rfl (resOf_cellA (cs := [.bool (decide ((foldA q (l.take k)).num < 0)), .slice b16 ((digs ((foldA q (l.take k)).num.natAbs)).length) c13, .slice b17 ((digs ((foldA q (l.take k)).den)).length) c14]) Tryd.isAgg66 Tryd.sizeOf66 rfl p3.at_ (Nat.le_of_ble_eq_true rfl) rfl) ?_))
 have g15 := g4.put p3 n4 lo4
 refine ⟨h1, g15, ?_⟩
 exact (Qn.cast (by rw [List.take_of_length_le (by omega)]) (Qn.mk u9 u10 rfl rfl rfl))
theorem sum_c {h : PH} {w : World} {v0 : Value} {l : List (Fr)} (hs : Sat h w) (pv0 : LR rpF h v0 l) (hp0 : wts l ≤ 134217724) :
    Calls Tryd.prog 52 #[v0] w (Ret h w fun h' r => Kn h' r (sumF l)) := by
 obtain ⟨b1, c1, rfl, k1⟩ := LR.shape pv0
 have hbs := bq_foldA l (((0 : Nat) : Int) : Rat) (LF.bq pv0)
 have hz : bq (((0 : Nat) : Int) : Rat) ≤ 2 := bq_intc (by decide) (by decide)
 refine calls_ear (vs := [.slice b1 l.length c1]) Tryd.func52 rfl rfl ?_
 have g1 := Gr.refl hs
 refine sr (oC (OpW.allocO (arr := #[.bool false, .slice none 0 0, .slice none 0 0]) g1.sat Tryd.zeroValue24 rfl ?_))
 intro b2 w1 gr1 n1 lo1 o1
 have lo2 := Nat.le_trans g1.ext.size lo1
 refine oN (sr ?_)
 have g2 := g1.trans gr1
 refine oC (cF Tryd.call79 (whole_c (n := ((0 : Nat) : Int)) g2.sat  (by omega) (by omega)) rfl ?_)
 intro r1 h1 w2 gr2 hr1
 obtain ⟨b3, c2, b4, c3, rfl, k2, k3, u1, u2⟩ := Qn.shape hr1
 refine mv ?_
 have g3 := g2.trans gr2
 refine oC (cF Tryd.call102 (foldA_c (q := ((((0 : Nat) : Int) : Int) : Rat)) (l := l) g3.sat hr1 (LR.mono pv0 gr2.le) (by first | omega | (simp only [bf_frK, frK_rat, wts_cons, wts_nil]; omega))) rfl ?_)
 intro r2 h2 w3 gr3 hr2
 obtain ⟨b5, c4, b6, c5, rfl, k4, k5, u3, u4⟩ := Qn.shape hr2
 have g4 := g3.trans gr3
 refine oC (cF Tryd.call74 (give_c (q := foldA ((((0 : Nat) : Int) : Int) : Rat) l) g4.sat hr2 (by omega)) rfl ?_)
 intro r3 h3 w4 gr4 hr3
 obtain ⟨b7, c6, b8, c7, rfl, k6, k7, u5, u6⟩ := F.shape hr3
 have o2 := gr4.kp (gr3.kp (gr2.kp ⟨o1, n1⟩))
 refine oC (sA (cs := [.bool ((frK (foldA ((((0 : Nat) : Int) : Int) : Rat) l)).neg), .slice b7 ((frK (foldA ((((0 : Nat) : Int) : Int) : Rat) l)).n.length) c6, .slice b8 ((frK (foldA ((((0 : Nat) : Int) : Int) : Rat) l)).d.length) c7]) Tryd.sizeOf24 rfl rfl rfl rfl o2.1 rfl ?_)
 intro w5 p1
 refine oN (Wp.ret (fin1_ret rfl (resOf_cellA (cs := [.bool ((frK (foldA ((((0 : Nat) : Int) : Int) : Rat) l)).neg), .slice b7 ((frK (foldA ((((0 : Nat) : Int) : Int) : Rat) l)).n.length) c6, .slice b8 ((frK (foldA ((((0 : Nat) : Int) : Int) : Rat) l)).d.length) c7]) Tryd.isAgg24 Tryd.sizeOf24 rfl p1.at_ (Nat.le_of_ble_eq_true rfl) rfl) ?_))
 have g5 := (g4.trans gr4).put p1 o2.2 lo2
 refine ⟨h3, g5, ?_⟩
 exact (show Kn _ _ (sumF l) from (F.mk u5 u6))
theorem Add_c {h : PH} {w : World} {v0 : Value} {a : Fr} {v1 : Value} {b : Fr} (hs : Sat h w) (pv0 : F h v0 a) (pv1 : F h v1 b) (hp0 : bf a + bf b ≤ 134217000) :
    Calls Tryd.prog 42 #[v0, v1] w (Ret h w fun h' r => Kn h' r (a.rat + b.rat)) := by
 obtain ⟨b1, c1, b2, c2, rfl, k1, k2, u1, u2⟩ := F.shape pv0
 have hbq1 := F.bq pv0
 obtain ⟨b3, c3, b4, c4, rfl, k3, k4, u3, u4⟩ := F.shape pv1
 have hbq2 := F.bq pv1
 have hw := wts2 a b
 refine calls_ear (vs := [.agg #[.bool a.neg, .slice b1 a.n.length c1, .slice b2 a.d.length c2], .agg #[.bool b.neg, .slice b3 b.n.length c3, .slice b4 b.d.length c4]]) Tryd.func42 rfl rfl ?_
 have g1 := Gr.refl hs
 refine sr (oC (OpW.boxK (v := .agg #[.bool a.neg, .slice b1 a.n.length c1, .slice b2 a.d.length c2]) (arr := #[.bool a.neg, .slice b1 a.n.length c1, .slice b2 a.d.length c2]) g1.sat rfl rfl ?_))
 intro b5 h1 w1 gr1 qb1
 have g2 := g1.trans gr1
 refine oC (OpW.boxK (v := .agg #[.bool b.neg, .slice b3 b.n.length c3, .slice b4 b.d.length c4]) (arr := #[.bool b.neg, .slice b3 b.n.length c3, .slice b4 b.d.length c4]) g2.sat rfl rfl ?_)
 intro b6 h2 w2 gr2 qb2
 have g3 := g2.trans gr2
 refine oC (OpW.allocO (arr := #[.bool false, .slice none 0 0, .slice none 0 0]) g3.sat Tryd.zeroValue24 rfl ?_)
 intro b7 w3 gr3 n1 lo1 o1
 have lo2 := Nat.le_trans g3.ext.size lo1
 refine oN (sr ?_)
 have g4 := g3.trans gr3
 refine oC (lA (cs := [.bool a.neg, .slice b1 a.n.length c1, .slice b2 a.d.length c2]) Tryd.isAgg24 Tryd.sizeOf24 rfl (g4.sat _ _ (gr2.le _ _ qb1)) rfl rfl ?_)
 refine oC (lA (cs := [.bool b.neg, .slice b3 b.n.length c3, .slice b4 b.d.length c4]) Tryd.isAgg24 Tryd.sizeOf24 rfl (g4.sat _ _ qb2) rfl rfl ?_)
 have lt1 := blk_lt o1
 refine oC (OpW.buildSliceO (arr := #[.bool a.neg, .slice b1 a.n.length c1, .slice b2 a.d.length c2, .bool b.neg, .slice b3 b.n.length c3, .slice b4 b.d.length c4]) g4.sat Tryd.underlying50 Tryd.zeroValue24 Tryd.sizeOf24 rfl rfl ?_)
 intro b8 w4 gr4 n2 lo3 o2
 have lo4 := Nat.le_trans g4.ext.size lo3
 have ne1 : b7 ≠ b8 := Nat.ne_of_lt (Nat.lt_of_lt_of_le lt1 lo3)
 have g6 := g4.trans gr4
 obtain ⟨h3, g5, l1, qb3, fr1⟩ := freeze_ex g6 o2 n2 lo4
 have f1 : LR rpF h3 (.slice (some ⟨b8, 0, none⟩) 2 2) [a, b] := LR.own' qb3 (css := [[.bool a.neg, .slice b1 a.n.length c1, .slice b2 a.d.length c2], [.bool b.neg, .slice b3 b.n.length c3, .slice b4 b.d.length c4]]) rfl (Rows.cons (F.mk (U.mono u1 ((gr1.le.trans gr2.le).trans l1)) (U.mono u2 ((gr1.le.trans gr2.le).trans l1))) (Rows.cons (F.mk (U.mono u3 ((gr1.le.trans gr2.le).trans l1)) (U.mono u4 ((gr1.le.trans gr2.le).trans l1))) Rows.nil)) rfl (Nat.le_refl _)
 refine oC (cF Tryd.call52 (sum_c (l := [a, b]) g5.sat f1 (by first | omega | (simp only [bf_frK, frK_rat, wts_cons, wts_nil]; omega))) rfl ?_)
 intro r1 h4 w5 gr5 hr1
 obtain ⟨b9, c5, b10, c6, rfl, k5, k6, u5, u6⟩ := F.shape hr1
 have o3 := gr5.kp (oz fr1 ne1 (gr4.kp ⟨o1, n1⟩))
 refine oC (sA (cs := [.bool ((frK (sumF ([a, b]))).neg), .slice b9 ((frK (sumF ([a, b]))).n.length) c5, .slice b10 ((frK (sumF ([a, b]))).d.length) c6]) Tryd.sizeOf24 rfl rfl rfl rfl o3.1 rfl ?_)
 intro w6 p1
 refine oN (Wp.ret (fin1_ret rfl (resOf_cellA (cs := [.bool ((frK (sumF ([a, b]))).neg), .slice b9 ((frK (sumF ([a, b]))).n.length) c5, .slice b10 ((frK (sumF ([a, b]))).d.length) c6]) Tryd.isAgg24 Tryd.sizeOf24 rfl p1.at_ (Nat.le_of_ble_eq_true rfl) rfl) ?_))
 have g7 := (g5.trans gr5).put p1 o3.2 lo2
 refine ⟨h4, g7, ?_⟩
 exact (Kn.cast (sumF2 a b) (F.mk u5 u6))
theorem Div_c {h : PH} {w : World} {v0 : Value} {a : Fr} {v1 : Value} {b : Fr} (hs : Sat h w) (pv0 : F h v0 a) (pv1 : F h v1 b) (hp0 : bf a + bf b ≤ 134217000) :
    Calls Tryd.prog 47 #[v0, v1] w (Ret h w fun h' r => ∃ x1 x2, r = .tuple #[x1, x2] ∧ Kn h' x1 (a.rat / b.rat) ∧ x2 = .int .i64 (errDiv b.rat)) := by
 obtain ⟨b1, c1, b2, c2, rfl, k1, k2, u1, u2⟩ := F.shape pv0
 have hbq1 := F.bq pv0
 obtain ⟨b3, c3, b4, c4, rfl, k3, k4, u3, u4⟩ := F.shape pv1
 have hbq2 := F.bq pv1
 have hbn := bf_n a
 have hbd := bf_d a
 have hbp := bf_pos a
 have hbn2 := bf_n b
 have hbd2 := bf_d b
 have hbp2 := bf_pos b
 have hsb := bq_div a.rat b.rat
 rw [Rat.div_def] at hsb
 have hiv := bq_inv' b.rat
 refine calls_ear (vs := [.agg #[.bool a.neg, .slice b1 a.n.length c1, .slice b2 a.d.length c2], .agg #[.bool b.neg, .slice b3 b.n.length c3, .slice b4 b.d.length c4]]) Tryd.func47 rfl rfl ?_
 have g1 := Gr.refl hs
 refine sr (oC (OpW.boxK (v := .agg #[.bool a.neg, .slice b1 a.n.length c1, .slice b2 a.d.length c2]) (arr := #[.bool a.neg, .slice b1 a.n.length c1, .slice b2 a.d.length c2]) g1.sat rfl rfl ?_))
 intro b5 h1 w1 gr1 qb1
 have g2 := g1.trans gr1
 refine oC (OpW.boxK (v := .agg #[.bool b.neg, .slice b3 b.n.length c3, .slice b4 b.d.length c4]) (arr := #[.bool b.neg, .slice b3 b.n.length c3, .slice b4 b.d.length c4]) g2.sat rfl rfl ?_)
 intro b6 h2 w2 gr2 qb2
 have g3 := g2.trans gr2
 refine oC (OpW.allocO (arr := #[.bool false, .slice none 0 0, .slice none 0 0]) g3.sat Tryd.zeroValue24 rfl ?_)
 intro b7 w3 gr3 n1 lo1 o1
 have lo2 := Nat.le_trans g3.ext.size lo1
 refine ma (oN (sr ?_))
 have g4 := g3.trans gr3
 refine oC (lA (cs := [.bool b.neg, .slice b3 b.n.length c3, .slice b4 b.d.length c4]) Tryd.isAgg24 Tryd.sizeOf24 rfl (g4.sat _ _ qb2) rfl rfl ?_)
 refine oC (cF Tryd.call70 (take_c (f := b) g4.sat (F.mk (U.mono u3 (gr1.le.trans gr2.le)) (U.mono u4 (gr1.le.trans gr2.le))) (by omega) (by omega)) rfl ?_)
 intro r1 h3 w4 gr4 hr1
 obtain ⟨b8, c5, b9, c6, rfl, k5, k6, u5, u6⟩ := Qn.shape hr1
 have g5 := g4.trans gr4
 have o3 := gr4.kp ⟨o1, n1⟩
 have lt1 := blk_lt o3.1
 refine oC (OpW.allocO (arr := #[.bool false, .slice none 0 0, .slice none 0 0]) g5.sat Tryd.zeroValue66 rfl ?_)
 intro b10 w5 gr5 n2 lo3 o2
 have lo4 := Nat.le_trans g5.ext.size lo3
 have ne1 : b7 ≠ b10 := Nat.ne_of_lt (Nat.lt_of_lt_of_le lt1 lo3)
 refine oC (sA (cs := [.bool (decide (b.rat.num < 0)), .slice b8 ((digs b.rat.num.natAbs).length) c5, .slice b9 ((digs b.rat.den).length) c6]) Tryd.sizeOf66 rfl rfl rfl rfl o2 rfl ?_)
 intro w6 p1
 refine oN (wS (sr (oC (lA (cs := [.bool (decide (b.rat.num < 0)), .slice b8 ((digs b.rat.num.natAbs).length) c5, .slice b9 ((digs b.rat.den).length) c6]) Tryd.isAgg66 Tryd.sizeOf66 rfl p1.at_ rfl rfl ?_))))
 have g6 := (g5.trans gr5).put p1 n2 lo4
 refine oC (cF Tryd.call71 (zero_c (q := b.rat) g6.sat (Qn.mk u5 u6 rfl rfl rfl) ) rfl ?_)
 intro r2 h4 w7 gr6 hr2
 subst hr2
 refine oN (Wp.cond (t := decide (b.rat = 0)) rfl (fun c7 => ?_) (fun c7 => ?_))
 replace c7 : b.rat = 0 := (of_decide_eq_true c7)
 refine sr (oC (OpW.build (places := [(0, 1), (1, 1), (2, 1)]) (cs := [.bool false, .slice none 0 0, .slice none 0 0]) Tryd.underlying24 Tryd.zeroValue24 (fun _ => by kernel_rfl) rfl ?_))
 have o5 := gr6.kp (p1.kp ne1 (gr5.kp o3))
 refine oC (sA (cs := [.bool false, .slice none 0 0, .slice none 0 0]) Tryd.sizeOf24 rfl rfl rfl rfl o5.1 rfl ?_)
 intro w8 p2
 refine ma (oN (Wp.ret (fin2_ret rfl (resOf_cellA (cs := [.bool false, .slice none 0 0, .slice none 0 0]) Tryd.isAgg24 Tryd.sizeOf24 rfl p2.at_ (Nat.le_of_ble_eq_true rfl) rfl) (resOf_tmp (v := .int .i64 ((3 : Nat) : Int)) rfl) ?_)))
 have g7 := (g6.trans gr6).put p2 o5.2 lo2
 refine ⟨h4, g7, ?_⟩
 exact ⟨_, _, rfl, Kn.cast (by rw [(by assumption : b.rat = 0), div_zero']) (Kz _), intv (by unfold errDiv; rw [if_pos (by assumption)]; rfl)⟩
 replace c7 : ¬ (b.rat = 0) := (of_decide_eq_false c7)
 refine Wp.skip (wS ?_)
 have g8 := g6.trans gr6
 refine Wp.dagL 6 [12, 13, 14, 15, 16, 17] [eqv (.agg #[.bool a.neg, .slice b1 a.n.length c1, .slice b2 a.d.length c2]), fun h _ x => Qn h x a.rat, eqv (.agg #[.bool (decide (b.rat.num < 0)), .slice b8 ((digs b.rat.num.natAbs).length) c5, .slice b9 ((digs b.rat.den).length) c6]), fun h _ x => Qn h x (b.rat⁻¹), fun h _ x => Qn h x (a.rat * (b.rat⁻¹)), fun h _ x => Kn h x (a.rat * (b.rat⁻¹))] mixed g8.sat rfl (by decide +kernel) ⟨sQ _, (stab_Q a.rat), sQ _, (stab_Q (b.rat⁻¹)), (stab_Q (a.rat * (b.rat⁻¹))), (stab_K (a.rat * (b.rat⁻¹))), trivial⟩ ?_ ?_
 intro stab
 refine ⟨?_, ?_, ?_, ?_, ?_, ?_, trivial⟩
 intro ρ1 h5 w9 g9 hdd1 hdo1
 have e1 : ρ1 2 = .pointer (some ⟨b5, 0, none⟩) := hdo1 2 rfl
 have g10 := g8.trans g9
 refine gP (lA (cs := [.bool a.neg, .slice b1 a.n.length c1, .slice b2 a.d.length c2]) Tryd.isAgg24 Tryd.sizeOf24 e1 (g10.sat _ _ ((((gr2.le.trans gr4.le).trans gr6.le).trans g9.le) _ _ qb1)) rfl rfl ?_)
 exact ⟨_, h5, rfl, g9, fun j x _ p => p, rfl⟩
 intro ρ2 h6 w10 g11 hdd2 hdo2
 have e2 : ρ2 12 = .agg #[.bool a.neg, .slice b1 a.n.length c1, .slice b2 a.d.length c2] := hdd2 0 (by decide)
 have g12 := g8.trans g11
 refine gP (cF Tryd.call70 (take_c (f := a) g12.sat (F.mk (U.mono u1 ((((gr1.le.trans gr2.le).trans gr4.le).trans gr6.le).trans g11.le)) (U.mono u2 ((((gr1.le.trans gr2.le).trans gr4.le).trans gr6.le).trans g11.le))) (by omega) (by omega)) (cx e2 cxn) ?_)
 intro r3 h7 w11 gr7 hr3
 exact ⟨r3, h7, rfl, g11.trans gr7, fun j x _ => stab j _ _ _ _ x gr7, hr3⟩
 intro ρ3 h8 w12 g13 hdd3 hdo3
 have e3 : ρ3 6 = .pointer (some ⟨b10, 0, none⟩) := hdo3 6 rfl
 have o7 := g13.kp (gr6.kp ⟨p1.at_, n2⟩)
 refine gP (lA (cs := [.bool (decide (b.rat.num < 0)), .slice b8 ((digs b.rat.num.natAbs).length) c5, .slice b9 ((digs b.rat.den).length) c6]) Tryd.isAgg66 Tryd.sizeOf66 e3 o7.1 rfl rfl ?_)
 exact ⟨_, h8, rfl, g13, fun j x _ p => p, rfl⟩
 intro ρ4 h9 w13 g14 hdd4 hdo4
 have e4 : ρ4 14 = .agg #[.bool (decide (b.rat.num < 0)), .slice b8 ((digs b.rat.num.natAbs).length) c5, .slice b9 ((digs b.rat.den).length) c6] := hdd4 2 (by decide)
 have g15 := g8.trans g14
 refine gP (cF Tryd.call72 (inverse_c (q := b.rat) g15.sat (Qn.mk (N.mono u5 (gr6.le.trans g14.le)) (N.mono u6 (gr6.le.trans g14.le)) rfl rfl rfl) (by omega)) (cx e4 cxn) ?_)
 intro r4 h10 w14 gr8 hr4
 exact ⟨r4, h10, rfl, g14.trans gr8, fun j x _ => stab j _ _ _ _ x gr8, hr4⟩
 intro ρ5 h11 w15 g16 hdd5 hdo5
 have q1 : Qn h11 (ρ5 13) a.rat := hdd5 1 (by decide)
 have q2 : Qn h11 (ρ5 15) (b.rat⁻¹) := hdd5 3 (by decide)
 have g17 := g8.trans g16
 refine gP (cF Tryd.call78 (nmul_c (a := a.rat) (b := b.rat⁻¹) g17.sat q1 q2 (by omega) (by omega)) rfl ?_)
 intro r5 h12 w16 gr9 hr5
 exact ⟨r5, h12, rfl, g16.trans gr9, fun j x _ => stab j _ _ _ _ x gr9, hr5⟩
 intro ρ6 h13 w17 g18 hdd6 hdo6
 have q3 : Qn h13 (ρ6 16) (a.rat * (b.rat⁻¹)) := hdd6 4 (by decide)
 have g19 := g8.trans g18
 refine gP (cF Tryd.call74 (give_c (q := a.rat * (b.rat⁻¹)) g19.sat q3 (by omega)) rfl ?_)
 intro r6 h14 w18 gr10 hr6
 exact ⟨r6, h14, rfl, g18.trans gr10, fun j x _ => stab j _ _ _ _ x gr10, hr6⟩
 intro ρ7 h15 w19 g20 hdp1 hdo7
 have e5 : ρ7 4 = .pointer (some ⟨b7, 0, none⟩) := hdo7 4 rfl
 have q4 : Kn h15 (ρ7 17) (a.rat * (b.rat⁻¹)) := hdp1 5 rfl
 obtain ⟨x3, hx1⟩ : ∃ x, ρ7 17 = x := ⟨_, rfl⟩
 rw [hx1] at q4
 obtain ⟨b11, c8, b12, c9, rfl, k7, k8, u7, u8⟩ := F.shape q4
 refine Ops.forget [(4, .pointer (some ⟨b7, 0, none⟩)), (17, .agg #[.bool ((frK (a.rat * (b.rat⁻¹))).neg), .slice b11 ((frK (a.rat * (b.rat⁻¹))).n.length) c8, .slice b12 ((frK (a.rat * (b.rat⁻¹))).d.length) c9])] ⟨e5, hx1, trivial⟩ (fun ρ8 => ?_)
 have o8 := g20.kp (gr6.kp (p1.kp ne1 (gr5.kp o3)))
 refine oC (sA (cs := [.bool ((frK (a.rat * (b.rat⁻¹))).neg), .slice b11 ((frK (a.rat * (b.rat⁻¹))).n.length) c8, .slice b12 ((frK (a.rat * (b.rat⁻¹))).d.length) c9]) Tryd.sizeOf24 rfl rfl rfl rfl o8.1 rfl ?_)
 intro w20 p3
 refine ma (oN (Wp.ret (fin2_ret rfl (resOf_cellA (cs := [.bool ((frK (a.rat * (b.rat⁻¹))).neg), .slice b11 ((frK (a.rat * (b.rat⁻¹))).n.length) c8, .slice b12 ((frK (a.rat * (b.rat⁻¹))).d.length) c9]) Tryd.isAgg24 Tryd.sizeOf24 rfl p3.at_ (Nat.le_of_ble_eq_true rfl) rfl) (resOf_tmp (v := .int .i64 ((0 : Nat) : Int)) rfl) ?_)))
 have g21 := (g8.trans g20).put p3 o8.2 lo2
 refine ⟨h15, g21, ?_⟩
 exact ⟨_, _, rfl, (Kn.cast (Rat.div_def _ _).symm (F.mk u7 u8)), (intv (by unfold errDiv; rw [if_neg (by assumption)]; rfl))⟩
theorem Of_c {h : PH} {w : World} {n : Int} (hs : Sat h w) (hp0 : -9223372036854775808 ≤ n) (hp1 : n ≤ 9223372036854775807) :
    Calls Tryd.prog 51 #[.int .i64 n] w (Ret h w fun h' r => Kn h' r ((n : Int) : Rat)) := by
 have hsb := bq_intc hp0 hp1
 refine calls_ear (vs := [.int .i64 n]) Tryd.func51 rfl rfl ?_
 have g1 := Gr.refl hs
 refine sr (oC (OpW.allocO (arr := #[.bool false, .slice none 0 0, .slice none 0 0]) g1.sat Tryd.zeroValue24 rfl ?_))
 intro b1 w1 gr1 n1 lo1 o1
 have lo2 := Nat.le_trans g1.ext.size lo1
 refine oN (sr (mv ?_))
 have g2 := g1.trans gr1
 refine oC (cF Tryd.call79 (whole_c (n := n) g2.sat  (by omega) (by omega)) rfl ?_)
 intro r1 h1 w2 gr2 hr1
 obtain ⟨b2, c1, b3, c2, rfl, k1, k2, u1, u2⟩ := Qn.shape hr1
 have g3 := g2.trans gr2
 refine oC (cF Tryd.call74 (give_c (q := ((n : Int) : Rat)) g3.sat hr1 (by omega)) rfl ?_)
 intro r2 h2 w3 gr3 hr2
 obtain ⟨b4, c3, b5, c4, rfl, k3, k4, u3, u4⟩ := F.shape hr2
 have o2 := gr3.kp (gr2.kp ⟨o1, n1⟩)
 refine oC (sA (cs := [.bool ((frK ((n : Int) : Rat)).neg), .slice b4 ((frK ((n : Int) : Rat)).n.length) c3, .slice b5 ((frK ((n : Int) : Rat)).d.length) c4]) Tryd.sizeOf24 rfl rfl rfl rfl o2.1 rfl ?_)
 intro w4 p1
 refine oN (Wp.ret (fin1_ret rfl (resOf_cellA (cs := [.bool ((frK ((n : Int) : Rat)).neg), .slice b4 ((frK ((n : Int) : Rat)).n.length) c3, .slice b5 ((frK ((n : Int) : Rat)).d.length) c4]) Tryd.isAgg24 Tryd.sizeOf24 rfl p1.at_ (Nat.le_of_ble_eq_true rfl) rfl) ?_))
 have g4 := (g3.trans gr3).put p1 o2.2 lo2
 refine ⟨h2, g4, ?_⟩
 exact (F.mk u3 u4)
theorem Make_c {h : PH} {w : World} {n : Int} {d : Int} (hs : Sat h w) (hp0 : -9223372036854775808 ≤ n) (hp1 : n ≤ 9223372036854775807) (hp2 : -9223372036854775808 ≤ d) (hp3 : d ≤ 9223372036854775807) :
    Calls Tryd.prog 58 #[.int .i64 n, .int .i64 d] w (Ret h w fun h' r => ∃ x1 x2, r = .tuple #[x1, x2] ∧ Kn h' x1 (((n : Int) : Rat) / ((d : Int) : Rat)) ∧ x2 = .int .i64 (errDiv ((d : Int) : Rat))) := by
 have hs1 := bq_intc hp0 hp1
 have hs2 := bq_intc hp2 hp3
 refine calls_ear (vs := [.int .i64 n, .int .i64 d]) Tryd.func58 rfl rfl ?_
 have g1 := Gr.refl hs
 refine sr (oC (OpW.allocO (arr := #[.bool false, .slice none 0 0, .slice none 0 0]) g1.sat Tryd.zeroValue24 rfl ?_))
 intro b1 w1 gr1 n1 lo1 o1
 have lo2 := Nat.le_trans g1.ext.size lo1
 refine ma (oN (sr (mv ?_)))
 have g2 := g1.trans gr1
 refine oC (cF Tryd.call51 (Of_c (n := n) g2.sat  (by omega) (by omega)) rfl ?_)
 intro r1 h1 w2 gr2 hr1
 obtain ⟨b2, c1, b3, c2, rfl, k1, k2, u1, u2⟩ := F.shape hr1
 refine mv ?_
 have g3 := g2.trans gr2
 refine oC (cF Tryd.call51 (Of_c (n := d) g3.sat  (by omega) (by omega)) rfl ?_)
 intro r2 h2 w3 gr3 hr2
 obtain ⟨b4, c3, b5, c4, rfl, k3, k4, u3, u4⟩ := F.shape hr2
 have g4 := g3.trans gr3
 refine oC (cF Tryd.call47 (Div_c (a := frK ((n : Int) : Rat)) (b := frK ((d : Int) : Rat)) g4.sat (F.mono hr1 gr3.le) hr2 (by first | omega | (simp only [bf_frK, frK_rat, wts_cons, wts_nil]; omega))) rfl ?_)
 intro r3 h3 w4 gr4 hr3
 have hf1 := bq_div ((n : Int) : Rat) ((d : Int) : Rat)
 simp only [frK_rat, bf_frK, val_digs] at hr3
 obtain ⟨r4, r5, rfl, hr4, hr5⟩ := hr3
 obtain ⟨b6, c5, b7, c6, rfl, k5, k6, u5, u6⟩ := F.shape hr4
 subst hr5
 refine oC (OpW.extract (v := .agg #[.bool ((frK (((n : Int) : Rat) / ((d : Int) : Rat))).neg), .slice b6 ((frK (((n : Int) : Rat) / ((d : Int) : Rat))).n.length) c5, .slice b7 ((frK (((n : Int) : Rat) / ((d : Int) : Rat))).d.length) c6]) rfl rfl ?_)
 refine oC (OpW.extract (v := .int .i64 (errDiv ((d : Int) : Rat))) rfl rfl ?_)
 have o2 := gr4.kp (gr3.kp (gr2.kp ⟨o1, n1⟩))
 refine oC (sA (cs := [.bool ((frK (((n : Int) : Rat) / ((d : Int) : Rat))).neg), .slice b6 ((frK (((n : Int) : Rat) / ((d : Int) : Rat))).n.length) c5, .slice b7 ((frK (((n : Int) : Rat) / ((d : Int) : Rat))).d.length) c6]) Tryd.sizeOf24 rfl rfl rfl rfl o2.1 rfl ?_)
 intro w5 p1
 refine ma (oN (Wp.ret (fin2_ret rfl (resOf_cellA (cs := [.bool ((frK (((n : Int) : Rat) / ((d : Int) : Rat))).neg), .slice b6 ((frK (((n : Int) : Rat) / ((d : Int) : Rat))).n.length) c5, .slice b7 ((frK (((n : Int) : Rat) / ((d : Int) : Rat))).d.length) c6]) Tryd.isAgg24 Tryd.sizeOf24 rfl p1.at_ (Nat.le_of_ble_eq_true rfl) rfl) (resOf_tmp (v := .int .i64 (errDiv ((d : Int) : Rat))) rfl) ?_)))
 have g5 := (g4.trans gr4).put p1 o2.2 lo2
 refine ⟨h3, g5, ?_⟩
 exact ⟨_, _, rfl, (F.mk u5 u6), rfl⟩
theorem Cmp_c {h : PH} {w : World} {v0 : Value} {a : Fr} {v1 : Value} {b : Fr} (hs : Sat h w) (pv0 : F h v0 a) (pv1 : F h v1 b) (hp0 : bf a + bf b ≤ 134217000) :
    Calls Tryd.prog 41 #[v0, v1] w (Ret h w fun h' r => r = .int .i64 (sgQ (a.rat - b.rat))) := by
 obtain ⟨b1, c1, b2, c2, rfl, k1, k2, u1, u2⟩ := F.shape pv0
 have hbq1 := F.bq pv0
 obtain ⟨b3, c3, b4, c4, rfl, k3, k4, u3, u4⟩ := F.shape pv1
 have hbq2 := F.bq pv1
 have hbn := bf_n a
 have hbd := bf_d a
 have hbp := bf_pos a
 have hbn2 := bf_n b
 have hbd2 := bf_d b
 have hbp2 := bf_pos b
 have hn := bq_neg b.rat
 refine calls_ear (vs := [.agg #[.bool a.neg, .slice b1 a.n.length c1, .slice b2 a.d.length c2], .agg #[.bool b.neg, .slice b3 b.n.length c3, .slice b4 b.d.length c4]]) Tryd.func41 rfl rfl ?_
 have g1 := Gr.refl hs
 refine sr (oC (OpW.boxK (v := .agg #[.bool a.neg, .slice b1 a.n.length c1, .slice b2 a.d.length c2]) (arr := #[.bool a.neg, .slice b1 a.n.length c1, .slice b2 a.d.length c2]) g1.sat rfl rfl ?_))
 intro b5 h1 w1 gr1 qb1
 have g2 := g1.trans gr1
 refine oC (OpW.boxK (v := .agg #[.bool b.neg, .slice b3 b.n.length c3, .slice b4 b.d.length c4]) (arr := #[.bool b.neg, .slice b3 b.n.length c3, .slice b4 b.d.length c4]) g2.sat rfl rfl ?_)
 intro b6 h2 w2 gr2 qb2
 refine ma (oN (wS ?_))
 have g3 := g2.trans gr2
 refine Wp.dagL 8 [5, 6, 7, 8, 9, 10, 11, 4] [eqv (.agg #[.bool a.neg, .slice b1 a.n.length c1, .slice b2 a.d.length c2]), fun h _ x => Qn h x a.rat, eqv (.agg #[.bool b.neg, .slice b3 b.n.length c3, .slice b4 b.d.length c4]), fun h _ x => Qn h x b.rat, fun h _ x => Qn h x (-b.rat), fun h _ x => Qn h x (a.rat + (-b.rat)), eqv (.int .i64 (sgQ (a.rat + (-b.rat)))), eqv (.int .i64 (sgQ (a.rat + (-b.rat))))] mixed g3.sat rfl (by decide +kernel) ⟨sQ _, (stab_Q a.rat), sQ _, (stab_Q b.rat), (stab_Q (-b.rat)), (stab_Q (a.rat + (-b.rat))), sQ _, sQ _, trivial⟩ ?_ ?_
 intro stab
 refine ⟨?_, ?_, ?_, ?_, ?_, ?_, ?_, ?_, trivial⟩
 intro ρ1 h3 w3 g4 hdd1 hdo1
 have e1 : ρ1 2 = .pointer (some ⟨b5, 0, none⟩) := hdo1 2 rfl
 have g5 := g3.trans g4
 refine gP (lA (cs := [.bool a.neg, .slice b1 a.n.length c1, .slice b2 a.d.length c2]) Tryd.isAgg24 Tryd.sizeOf24 e1 (g5.sat _ _ ((gr2.le.trans g4.le) _ _ qb1)) rfl rfl ?_)
 exact ⟨_, h3, rfl, g4, fun j x _ p => p, rfl⟩
 intro ρ2 h4 w4 g6 hdd2 hdo2
 have e2 : ρ2 5 = .agg #[.bool a.neg, .slice b1 a.n.length c1, .slice b2 a.d.length c2] := hdd2 0 (by decide)
 have g7 := g3.trans g6
 refine gP (cF Tryd.call70 (take_c (f := a) g7.sat (F.mk (U.mono u1 ((gr1.le.trans gr2.le).trans g6.le)) (U.mono u2 ((gr1.le.trans gr2.le).trans g6.le))) (by omega) (by omega)) (cx e2 cxn) ?_)
 intro r1 h5 w5 gr3 hr1
 exact ⟨r1, h5, rfl, g6.trans gr3, fun j x _ => stab j _ _ _ _ x gr3, hr1⟩
 intro ρ3 h6 w6 g8 hdd3 hdo3
 have e3 : ρ3 3 = .pointer (some ⟨b6, 0, none⟩) := hdo3 3 rfl
 have g9 := g3.trans g8
 refine gP (lA (cs := [.bool b.neg, .slice b3 b.n.length c3, .slice b4 b.d.length c4]) Tryd.isAgg24 Tryd.sizeOf24 e3 (g9.sat _ _ (g8.le _ _ qb2)) rfl rfl ?_)
 exact ⟨_, h6, rfl, g8, fun j x _ p => p, rfl⟩
 intro ρ4 h7 w7 g10 hdd4 hdo4
 have e4 : ρ4 7 = .agg #[.bool b.neg, .slice b3 b.n.length c3, .slice b4 b.d.length c4] := hdd4 2 (by decide)
 have g11 := g3.trans g10
 refine gP (cF Tryd.call70 (take_c (f := b) g11.sat (F.mk (U.mono u3 ((gr1.le.trans gr2.le).trans g10.le)) (U.mono u4 ((gr1.le.trans gr2.le).trans g10.le))) (by omega) (by omega)) (cx e4 cxn) ?_)
 intro r2 h8 w8 gr4 hr2
 exact ⟨r2, h8, rfl, g10.trans gr4, fun j x _ => stab j _ _ _ _ x gr4, hr2⟩
 intro ρ5 h9 w9 g12 hdd5 hdo5
 have q1 : Qn h9 (ρ5 8) b.rat := hdd5 3 (by decide)
 have g13 := g3.trans g12
 refine gP (cF Tryd.call99 (minus_c (q := b.rat) g13.sat q1 ) rfl ?_)
 intro r3 h10 w10 gr5 hr3
 exact ⟨r3, h10, rfl, g12.trans gr5, fun j x _ => stab j _ _ _ _ x gr5, hr3⟩
 intro ρ6 h11 w11 g14 hdd6 hdo6
 have q2 : Qn h11 (ρ6 6) a.rat := hdd6 1 (by decide)
 have q3 : Qn h11 (ρ6 9) (-b.rat) := hdd6 4 (by decide)
 have g15 := g3.trans g14
 refine gP (cF Tryd.call98 (nadd_c (a := a.rat) (b := -b.rat) g15.sat q2 q3 (by omega) (by omega)) rfl ?_)
 intro r4 h12 w12 gr6 hr4
 exact ⟨r4, h12, rfl, g14.trans gr6, fun j x _ => stab j _ _ _ _ x gr6, hr4⟩
 intro ρ7 h13 w13 g16 hdd7 hdo7
 have q4 : Qn h13 (ρ7 10) (a.rat + (-b.rat)) := hdd7 5 (by decide)
 have g17 := g3.trans g16
 refine gP (cF Tryd.call97 (sign_c (q := a.rat + (-b.rat)) g17.sat q4 ) rfl ?_)
 intro r5 h14 w14 gr7 hr5
 exact ⟨r5, h14, rfl, g16.trans gr7, fun j x _ => stab j _ _ _ _ x gr7, hr5⟩
 intro ρ8 h15 w15 g18 hdd8 hdo8
 have e5 : ρ8 11 = .int .i64 (sgQ (a.rat + (-b.rat))) := hdd8 6 (by decide)
 refine gP (OpW.assign (v := .int .i64 (sgQ (a.rat + (-b.rat)))) e5 ?_)
 exact ⟨_, h15, rfl, g18, fun j x _ p => p, rfl⟩
 intro ρ9 h16 w16 g19 hdp1 hdo9
 have e6 : ρ9 4 = .int .i64 (sgQ (a.rat + (-b.rat))) := hdp1 7 rfl
 refine Ops.forget [(4, .int .i64 (sgQ (a.rat + (-b.rat))))] ⟨e6, trivial⟩ (fun ρ10 => (oN (Wp.ret (fin1_ret rfl (resOf_tmp (v := .int .i64 (sgQ (a.rat + (-b.rat)))) rfl) ?_))))
 have g20 := g3.trans g19
 refine ⟨h16, g20, ?_⟩
 exact (intv (by rw [Rat.sub_eq_add_neg]))
theorem Size_c {h : PH} {w : World} {v0 : Value} {a : Fr} (hs : Sat h w) (pv0 : F h v0 a) (hp0 : bf a ≤ 134217000) :
    Calls Tryd.prog 56 #[v0] w (Ret h w fun h' r => r = .int .i64 ((sizeQ a.rat : Nat) : Int)) := by
 obtain ⟨b1, c1, b2, c2, rfl, k1, k2, u1, u2⟩ := F.shape pv0
 have hbq1 := F.bq pv0
 have hbn := bf_n a
 have hbd := bf_d a
 have hbp := bf_pos a
 have hq1 := bq_num a.rat
 have hq2 := bq_den a.rat
 have hl1 := bitlen_sz a.rat.num.natAbs
 have hl2 := bitlen_sz a.rat.den
 refine calls_ear (vs := [.agg #[.bool a.neg, .slice b1 a.n.length c1, .slice b2 a.d.length c2]]) Tryd.func56 rfl rfl ?_
 have g1 := Gr.refl hs
 refine sr (oC (OpW.boxK (v := .agg #[.bool a.neg, .slice b1 a.n.length c1, .slice b2 a.d.length c2]) (arr := #[.bool a.neg, .slice b1 a.n.length c1, .slice b2 a.d.length c2]) g1.sat rfl rfl ?_))
 intro b3 h1 w1 gr1 qb1
 refine ma (oN (sr ?_))
 have g2 := g1.trans gr1
 refine oC (lA (cs := [.bool a.neg, .slice b1 a.n.length c1, .slice b2 a.d.length c2]) Tryd.isAgg24 Tryd.sizeOf24 rfl (g2.sat _ _ qb1) rfl rfl ?_)
 refine oC (cF Tryd.call70 (take_c (f := a) g2.sat (F.mk (U.mono u1 gr1.le) (U.mono u2 gr1.le)) (by omega) (by omega)) rfl ?_)
 intro r1 h2 w2 gr2 hr1
 obtain ⟨b4, c3, b5, c4, rfl, k3, k4, u3, u4⟩ := Qn.shape hr1
 have g3 := g2.trans gr2
 refine oC (OpW.allocO (arr := #[.bool false, .slice none 0 0, .slice none 0 0]) g3.sat Tryd.zeroValue66 rfl ?_)
 intro b6 w3 gr3 n1 lo1 o1
 have lo2 := Nat.le_trans g3.ext.size lo1
 refine oC (sA (cs := [.bool (decide (a.rat.num < 0)), .slice b4 ((digs a.rat.num.natAbs).length) c3, .slice b5 ((digs a.rat.den).length) c4]) Tryd.sizeOf66 rfl rfl rfl rfl o1 rfl ?_)
 intro w4 p1
 refine oN (wS ?_)
 have g4 := (g3.trans gr3).put p1 n1 lo2
 refine Wp.dagL 8 [6, 7, 8, 9, 10, 11, 12, 2] [eqv (.pointer (some ⟨b6, 1, none⟩)), eqv (.slice b4 ((digs a.rat.num.natAbs).length) c3), eqv (.int .i64 ((bitlen a.rat.num.natAbs : Nat) : Int)), eqv (.pointer (some ⟨b6, 2, none⟩)), eqv (.slice b5 ((digs a.rat.den).length) c4), eqv (.int .i64 ((bitlen a.rat.den : Nat) : Int)), eqv (.int .i64 ((bitlen a.rat.num.natAbs + (bitlen a.rat.den) : Nat) : Int)), eqv (.int .i64 ((bitlen a.rat.num.natAbs + (bitlen a.rat.den) : Nat) : Int))] mixed g4.sat rfl (by decide +kernel) ⟨sQ _, sQ _, sQ _, sQ _, sQ _, sQ _, sQ _, sQ _, trivial⟩ ?_ ?_
 intro stab
 refine ⟨?_, ?_, ?_, ?_, ?_, ?_, ?_, ?_, trivial⟩
 intro ρ1 h3 w5 g5 hdd1 hdo1
 have e1 : ρ1 3 = .pointer (some ⟨b6, 0, none⟩) := hdo1 3 rfl
 refine gP (fA (o := 1) Tryd.underlying66 rfl Tryd.sizeOf64 (by decide) e1 rfl ?_)
 exact ⟨_, h3, rfl, g5, fun j x _ p => p, rfl⟩
 intro ρ2 h4 w6 g6 hdd2 hdo2
 have e2 : ρ2 6 = .pointer (some ⟨b6, 1, none⟩) := hdd2 0 (by decide)
 have o3 := g6.kp ⟨p1.at_, n1⟩
 refine gP (lO (v := .slice b4 ((digs a.rat.num.natAbs).length) c3) Tryd.isAgg64 e2 o3.1 rfl ?_)
 exact ⟨_, h4, rfl, g6, fun j x _ p => p, rfl⟩
 intro ρ3 h5 w7 g7 hdd3 hdo3
 have e3 : ρ3 7 = .slice b4 ((digs a.rat.num.natAbs).length) c3 := hdd3 1 (by decide)
 have g8 := g4.trans g7
 refine gP (cF Tryd.call105 (size_c (a := a.rat.num.natAbs) g8.sat (N.mono u3 g7.le) (by omega)) (cx e3 cxn) ?_)
 intro r2 h6 w8 gr4 hr2
 exact ⟨r2, h6, rfl, g7.trans gr4, fun j x _ => stab j _ _ _ _ x gr4, hr2⟩
 intro ρ4 h7 w9 g9 hdd4 hdo4
 have e4 : ρ4 3 = .pointer (some ⟨b6, 0, none⟩) := hdo4 3 rfl
 refine gP (fA (o := 2) Tryd.underlying66 rfl Tryd.sizeOf64 (by decide) e4 rfl ?_)
 exact ⟨_, h7, rfl, g9, fun j x _ p => p, rfl⟩
 intro ρ5 h8 w10 g10 hdd5 hdo5
 have e5 : ρ5 9 = .pointer (some ⟨b6, 2, none⟩) := hdd5 3 (by decide)
 have o4 := g10.kp ⟨p1.at_, n1⟩
 refine gP (lO (v := .slice b5 ((digs a.rat.den).length) c4) Tryd.isAgg64 e5 o4.1 rfl ?_)
 exact ⟨_, h8, rfl, g10, fun j x _ p => p, rfl⟩
 intro ρ6 h9 w11 g11 hdd6 hdo6
 have e6 : ρ6 10 = .slice b5 ((digs a.rat.den).length) c4 := hdd6 4 (by decide)
 have g12 := g4.trans g11
 refine gP (cF Tryd.call105 (size_c (a := a.rat.den) g12.sat (N.mono u4 g11.le) (by omega)) (cx e6 cxn) ?_)
 intro r3 h10 w12 gr5 hr3
 exact ⟨r3, h10, rfl, g11.trans gr5, fun j x _ => stab j _ _ _ _ x gr5, hr3⟩
 intro ρ7 h11 w13 g13 hdd7 hdo7
 have e7 : ρ7 8 = .int .i64 ((bitlen a.rat.num.natAbs : Nat) : Int) := hdd7 2 (by decide)
 have e8 : ρ7 11 = .int .i64 ((bitlen a.rat.den : Nat) : Int) := hdd7 5 (by decide)
 refine gP (OpW.add (a := ((bitlen a.rat.num.natAbs : Nat) : Int)) (b := ((bitlen a.rat.den : Nat) : Int)) (r := ((bitlen a.rat.num.natAbs + (bitlen a.rat.den) : Nat) : Int)) e7 e8 (add_i64 (a := bitlen a.rat.num.natAbs) (b := bitlen a.rat.den) (by omega)) ?_)
 exact ⟨_, h11, rfl, g13, fun j x _ p => p, rfl⟩
 intro ρ8 h12 w14 g14 hdd8 hdo8
 have e9 : ρ8 12 = .int .i64 ((bitlen a.rat.num.natAbs + (bitlen a.rat.den) : Nat) : Int) := hdd8 6 (by decide)
 refine gP (OpW.assign (v := .int .i64 ((bitlen a.rat.num.natAbs + (bitlen a.rat.den) : Nat) : Int)) e9 ?_)
 exact ⟨_, h12, rfl, g14, fun j x _ p => p, rfl⟩
 intro ρ9 h13 w15 g15 hdp1 hdo9
 have e10 : ρ9 2 = .int .i64 ((bitlen a.rat.num.natAbs + (bitlen a.rat.den) : Nat) : Int) := hdp1 7 rfl
 refine Ops.forget [(2, .int .i64 ((bitlen a.rat.num.natAbs + (bitlen a.rat.den) : Nat) : Int))] ⟨e10, trivial⟩ (fun ρ10 => (oN (Wp.ret (fin1_ret rfl (resOf_tmp (v := .int .i64 ((bitlen a.rat.num.natAbs + (bitlen a.rat.den) : Nat) : Int)) rfl) ?_))))
 have g16 := g4.trans g15
 refine ⟨h13, g16, ?_⟩
 exact (natv rfl)
end Go.Ear
