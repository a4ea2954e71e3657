/- About package frac: X6. -/
import Derived.Test.YtmidncjhlnfojaaDoorNatLaw2
import Derived.Test.YtmidncjhlnfojaaDoorEarShort
import Derived.Test.YtmidncjhlnfojaaDoorProg
import Derived.Test.YtmidncjhlnfojaaDoorNatLaw3
import Derived.Test.YtmidncjhlnfojaaDoorEarFrac
import Derived.Test.YtmidncjhlnfojaaDoorK1
import Derived.Test.YtmidncjhlnfojaaDoorK4
import Derived.Test.YtmidncjhlnfojaaDoorK5
set_option linter.all false
namespace Go.Ear
open Go.Proofs
set_option maxRecDepth 20000
set_option linter.unusedVariables false
set_option maxHeartbeats 2000000
theorem foldM_c {h : PH} {w : World} {v0 : Value} {q : Rat} {v2 : Value} {l : List (Fr)} (hs : Sat h w) (pv0 : Qn h v0 q) (pv2 : LR rpF h v2 l) (hp0 : bq q + wts l ≤ 134217728) :
    Calls Tryd.prog 102 #[v0, .func (.func 78) #[] #[], v2] w (Ret h w fun h' r => Qn h' r (foldM q l)) := by
 obtain ⟨b1, c1, b2, c2, rfl, k1, k2, u1, u2⟩ := Qn.shape pv0
 obtain ⟨b3, c3, rfl, k3⟩ := LR.shape pv2
 refine calls_ear (vs := [.agg #[.bool (decide (q.num < 0)), .slice b1 ((digs q.num.natAbs).length) c1, .slice b2 ((digs q.den).length) c2], .func (.func 78) #[] #[], .slice b3 l.length c3]) Tryd.func102 rfl rfl ?_
 have g1 := Gr.refl hs
 refine sr (oC (OpW.boxO (v := .agg #[.bool (decide (q.num < 0)), .slice b1 ((digs q.num.natAbs).length) c1, .slice b2 ((digs q.den).length) c2]) (arr := #[.bool (decide (q.num < 0)), .slice b1 ((digs q.num.natAbs).length) c1, .slice b2 ((digs q.den).length) c2]) g1.sat rfl rfl ?_))
 intro b4 w1 gr1 n1 lo1 o1
 have lo2 := Nat.le_trans g1.ext.size lo1
 have g2 := g1.trans gr1
 have lt1 := blk_lt o1
 refine oC (OpW.allocO (arr := #[.bool false, .slice none 0 0, .slice none 0 0]) g2.sat Tryd.zeroValue66 rfl ?_)
 intro b5 w2 gr2 n2 lo3 o2
 have lo4 := Nat.le_trans g2.ext.size lo3
 have ne1 : b4 ≠ b5 := Nat.ne_of_lt (Nat.lt_of_lt_of_le lt1 lo3)
 refine oN (wS (sr (mv (oC (OpW.lenS Tryd.underlying50 (l := l.length) rfl (mv (oN (Wp.block ?_))))))))
 have rel1 : RelA rpQ h #[.bool (decide (q.num < 0)), .slice b1 ((digs q.num.natAbs).length) c1, .slice b2 ((digs q.den).length) c2] [q] := RelA.lit (css := [[.bool (decide (q.num < 0)), .slice b1 ((digs q.num.natAbs).length) c1, .slice b2 ((digs q.den).length) c2]]) (Rows.cons (Qn.mk u1 u2 rfl rfl rfl) Rows.nil)
 replace rel1 := RelA.cast (m := [foldM q (l.take 0)]) rfl rel1
 have g3 := g2.trans gr2
 have o3 := gr2.kp ⟨o1, n1⟩
 refine Wp.loop (σ := Nat × Array Value) (fun s (ρ : Env) (w' : World) => match s with | (k, aSb4) => ∃ ρb h', ρ = upds ρb [(1, .func (.func 78) #[] #[]), (3, .pointer (some ⟨b4, 0, none⟩)), (6, .pointer (some ⟨b5, 0, none⟩)), (9, .slice b3 l.length c3), (10, .int .i64 ((l.length : Nat) : Int)), (11, .int .i64 ((k : Nat) : Int))] ∧ Gr h w h' w' ∧ PH.le h h' ∧ w'.heap[b4]? = some (.cells aSb4 66 (0, 0)) ∧ h' b4 = none ∧ w'.heap[b5]? = some (.cells #[.bool false, .slice none 0 0, .slice none 0 0] 66 (0, 0)) ∧ h' b5 = none ∧ (k ≤ l.length) ∧ (RelA rpQ h' aSb4 ([foldM q (l.take k)]))) (fun s => match s with | (k, aSb4) => l.length - k) (0, #[.bool (decide (q.num < 0)), .slice b1 ((digs q.num.natAbs).length) c1, .slice b2 ((digs q.den).length) c2]) ?_ ?_
 exact ⟨_, h, nm rfl, g3, PH.le.refl _, o3.1, o3.2, o2, n2, (by omega), rel1⟩
 rintro ⟨k, aSb4⟩ ρ1 w3 ⟨ρ2, h1, rfl, g4, l1, o4, n3, o5, n4, hk, hrelb4⟩
 have hb1 := bq_foldM_take pv2 q k
 have hb2 := bf_getD l k
 have hb3 := LF.bq_getD pv2 k
 have hb4 := bf_n (l.getD k fr0)
 have hb5 := bf_d (l.getD k fr0)
 have hb6 := bq_pos q
 have hb7 := len_wts l
 refine sr (oC (OpW.lss (a := ((k : Nat) : Int)) (b := ((l.length : Nat) : Int)) (r := decide (k < l.length)) rfl rfl (lt_nat (a := k) (b := l.length)) (oN (wS (Wp.cond (t := decide (k < l.length)) rfl (fun c4 => ?_) (fun c4 => ?_))))))
 replace c4 : k < l.length := (of_decide_eq_true c4)
 refine Wp.skip (wS (Wp.block (sr (oC (OpW.indexL (i := ((k : Nat) : Int)) (j := k) fr0 (s := 3) rfl Tryd.underlying50 Tryd.sizeOf24 rfl (LR.mono pv2 l1) rfl (by omega) (by omega) ?_)))))
 intro b6 o6 a1 e1 z1 cs1 qb1 qv1 qf1 qr1
 obtain ⟨b7, c5, b8, c6, rfl, k4, k5, u3, u4⟩ := F.open qr1
 have hbq1 : bq (l.getD k fr0).rat ≤ bf (l.getD k fr0) := F.bq qr1
 refine oC (OpW.loadA (cs := [.bool ((l.getD k fr0).neg), .slice b7 ((l.getD k fr0).n.length) c5, .slice b8 ((l.getD k fr0).d.length) c6]) Tryd.isAgg24 Tryd.sizeOf24 rfl (g4.sat _ _ qb1) qf1 qv1 ?_)
 have lt2 := blk_lt o4
 have lt3 := blk_lt o5
 refine oC (OpW.allocO (arr := #[.bool false, .slice none 0 0, .slice none 0 0]) g4.sat Tryd.zeroValue24 rfl ?_)
 intro b9 w4 gr3 n5 lo5 o7
 have lo6 := Nat.le_trans g4.ext.size lo5
 have ne2 : b4 ≠ b9 := Nat.ne_of_lt (Nat.lt_of_lt_of_le lt2 lo5)
 have ne3 : b5 ≠ b9 := Nat.ne_of_lt (Nat.lt_of_lt_of_le lt3 lo5)
 refine oC (sA (cs := [.bool ((l.getD k fr0).neg), .slice b7 ((l.getD k fr0).n.length) c5, .slice b8 ((l.getD k fr0).d.length) c6]) Tryd.sizeOf24 rfl rfl rfl rfl o7 rfl ?_)
 intro w5 p1
 refine oN (fg [(1, .func (.func 78) #[] #[]), (3, .pointer (some ⟨b4, 0, none⟩)), (6, .pointer (some ⟨b5, 0, none⟩)), (8, .pointer (some ⟨b9, 0, none⟩)), (9, .slice b3 l.length c3), (10, .int .i64 ((l.length : Nat) : Int)), (11, .int .i64 ((k : Nat) : Int))] rfl (fun ρ3 => ?_))
 have g5 := (g4.trans gr3).put p1 n5 lo6
 refine Wp.dagL 5 [15, 16, 17, 18, 19] [eqv (.func (.func 78) #[] #[]), fun h _ x => ∃ b10z c7z b11z c8z, x = .agg #[.bool (decide ((foldM q (l.take k)).num < 0)), .slice b10z ((digs ((foldM q (l.take k)).num.natAbs)).length) c7z, .slice b11z ((digs ((foldM q (l.take k)).den)).length) c8z] ∧ N h (.slice b10z ((digs ((foldM q (l.take k)).num.natAbs)).length) c7z) ((foldM q (l.take k)).num.natAbs) ∧ N h (.slice b11z ((digs ((foldM q (l.take k)).den)).length) c8z) ((foldM q (l.take k)).den), eqv (.agg #[.bool ((l.getD k fr0).neg), .slice b7 ((l.getD k fr0).n.length) c5, .slice b8 ((l.getD k fr0).d.length) c6]), fun h _ x => Qn h x ((l.getD k fr0).rat), fun h _ x => Qn h x ((foldM q (l.take k)) * ((l.getD k fr0).rat))] mixed g5.sat rfl (by decide +kernel) ⟨sQ _, (fun _ _ _ _ _ g ⟨_, _, _, _, e, f0, f1⟩ => ⟨_, _, _, _, e, N.mono f0 g.le, N.mono f1 g.le⟩), sQ _, (stab_Q ((l.getD k fr0).rat)), (stab_Q ((foldM q (l.take k)) * ((l.getD k fr0).rat))), trivial⟩ ?_ ?_
 intro stab
 refine ⟨?_, ?_, ?_, ?_, ?_, trivial⟩
 intro ρ4 h2 w6 g6 hdd1 hdo1
 have e2 : ρ4 1 = .func (.func 78) #[] #[] := hdo1 1 rfl
 refine gP (OpW.move (v := .func (.func 78) #[] #[]) e2 ?_)
 exact ⟨_, h2, rfl, g6, fun j x _ p => p, rfl⟩
 intro ρ5 h3 w7 g7 hdd2 hdo2
 have e3 : ρ5 3 = .pointer (some ⟨b4, 0, none⟩) := hdo2 3 rfl
 have o9 := g7.kp (p1.kp ne2 (gr3.kp ⟨o4, n3⟩))
 obtain ⟨cs2, qv2, qf2, qr2⟩ := RelA.at' (hrelb4.mono g7.le) 0 (s := 3) rfl (i := 0) Nat.zero_lt_one
 replace qr2 : rpQ.R h3 cs2 (foldM q (l.take k)) := qr2
 obtain ⟨b10, c7, b11, c8, rfl, k6, k7, u5, u6⟩ := Qn.open qr2
 refine gP (OpW.loadA (cs := [.bool (decide ((foldM q (l.take k)).num < 0)), .slice b10 ((digs ((foldM q (l.take k)).num.natAbs)).length) c7, .slice b11 ((digs ((foldM q (l.take k)).den)).length) c8]) Tryd.isAgg66 Tryd.sizeOf66 e3 o9.1 qf2 qv2 ?_)
 exact ⟨_, h3, rfl, g7, fun j x _ p => p, ⟨_, _, _, _, rfl, u5, u6⟩⟩
 intro ρ6 h4 w8 g8 hdd3 hdo3
 have e4 : ρ6 8 = .pointer (some ⟨b9, 0, none⟩) := hdo3 8 rfl
 have o10 := g8.kp ⟨p1.at_, n5⟩
 refine gP (lA (cs := [.bool ((l.getD k fr0).neg), .slice b7 ((l.getD k fr0).n.length) c5, .slice b8 ((l.getD k fr0).d.length) c6]) Tryd.isAgg24 Tryd.sizeOf24 e4 o10.1 rfl rfl ?_)
 exact ⟨_, h4, rfl, g8, fun j x _ p => p, rfl⟩
 intro ρ7 h5 w9 g9 hdd4 hdo4
 have e5 : ρ7 17 = .agg #[.bool ((l.getD k fr0).neg), .slice b7 ((l.getD k fr0).n.length) c5, .slice b8 ((l.getD k fr0).d.length) c6] := hdd4 2 (by decide)
 have g10 := g5.trans g9
 refine gP (cF Tryd.call70 (take_c (f := l.getD k fr0) g10.sat (F.mk (U.mono u3 g9.le) (U.mono u4 g9.le)) (by omega) (by omega)) (cx e5 cxn) ?_)
 intro r1 h6 w10 gr4 hr1
 exact ⟨r1, h6, rfl, g9.trans gr4, fun j x _ => stab j _ _ _ _ x gr4, hr1⟩
 intro ρ8 h7 w11 g11 hdd5 hdo5
 have e6 : ρ8 15 = .func (.func 78) #[] #[] := hdd5 0 (by decide)
 have q1 : ∃ b10z c7z b11z c8z, (ρ8 16) = .agg #[.bool (decide ((foldM q (l.take k)).num < 0)), .slice b10z ((digs ((foldM q (l.take k)).num.natAbs)).length) c7z, .slice b11z ((digs ((foldM q (l.take k)).den)).length) c8z] ∧ N h7 (.slice b10z ((digs ((foldM q (l.take k)).num.natAbs)).length) c7z) ((foldM q (l.take k)).num.natAbs) ∧ N h7 (.slice b11z ((digs ((foldM q (l.take k)).den)).length) c8z) ((foldM q (l.take k)).den) := hdd5 1 (by decide)
 obtain ⟨b12, c9, b13, c10, e7, q2, q3⟩ := q1
 have e7 : ρ8 16 = .agg #[.bool (decide ((foldM q (l.take k)).num < 0)), .slice b12 ((digs ((foldM q (l.take k)).num.natAbs)).length) c9, .slice b13 ((digs ((foldM q (l.take k)).den)).length) c10] := e7
 have q4 : Qn h7 (ρ8 18) ((l.getD k fr0).rat) := hdd5 3 (by decide)
 have g12 := g5.trans g11
 refine gP (OpW.callV (vs := [.agg #[.bool (decide ((foldM q (l.take k)).num < 0)), .slice b12 ((digs ((foldM q (l.take k)).num.natAbs)).length) c9, .slice b13 ((digs ((foldM q (l.take k)).den)).length) c10], (ρ8 18)]) e6 Tryd.call78 (cx e7 (cx rfl cxn)) (nmul_c (a := foldM q (l.take k)) (b := (l.getD k fr0).rat) g12.sat (Qn.mk q2 q3 rfl rfl rfl) q4 (by omega) (by omega)) ?_)
 intro r2 h8 w12 gr5 hr2
 exact ⟨r2, h8, rfl, g11.trans gr5, fun j x _ => stab j _ _ _ _ x gr5, hr2⟩
 intro ρ9 h9 w13 g13 hdp1 hdo6
 have e8 : ρ9 1 = .func (.func 78) #[] #[] := hdo6 1 rfl
 have e9 : ρ9 3 = .pointer (some ⟨b4, 0, none⟩) := hdo6 3 rfl
 have e10 : ρ9 6 = .pointer (some ⟨b5, 0, none⟩) := hdo6 6 rfl
 have e11 : ρ9 9 = .slice b3 l.length c3 := hdo6 9 rfl
 have e12 : ρ9 10 = .int .i64 ((l.length : Nat) : Int) := hdo6 10 rfl
 have e13 : ρ9 11 = .int .i64 ((k : Nat) : Int) := hdo6 11 rfl
 have q5 : Qn h9 (ρ9 19) ((foldM q (l.take k)) * ((l.getD k fr0).rat)) := hdp1 4 rfl
 obtain ⟨x1, hx1⟩ : ∃ x, ρ9 19 = x := ⟨_, rfl⟩
 rw [hx1] at q5
 obtain ⟨b14, c11, b15, c12, rfl, k8, k9, u7, u8⟩ := Qn.shape q5
 refine Ops.forget [(1, .func (.func 78) #[] #[]), (3, .pointer (some ⟨b4, 0, none⟩)), (6, .pointer (some ⟨b5, 0, none⟩)), (9, .slice b3 l.length c3), (10, .int .i64 ((l.length : Nat) : Int)), (11, .int .i64 ((k : Nat) : Int)), (19, .agg #[.bool (decide (((foldM q (l.take k)) * ((l.getD k fr0).rat)).num < 0)), .slice b14 ((digs (((foldM q (l.take k)) * ((l.getD k fr0).rat)).num.natAbs)).length) c11, .slice b15 ((digs (((foldM q (l.take k)) * ((l.getD k fr0).rat)).den)).length) c12])] ⟨e8, e9, e10, e11, e12, e13, hx1, trivial⟩ (fun ρ10 => ?_)
 have o11 := g13.kp (p1.kp ne2 (gr3.kp ⟨o4, n3⟩))
 refine oC (sR (cs := [.bool (decide (((foldM q (l.take k)) * ((l.getD k fr0).rat)).num < 0)), .slice b14 ((digs (((foldM q (l.take k)) * ((l.getD k fr0).rat)).num.natAbs)).length) c11, .slice b15 ((digs (((foldM q (l.take k)) * ((l.getD k fr0).rat)).den)).length) c12]) Tryd.sizeOf66 rfl rfl rfl rfl o11.1 (RelA.fit (hrelb4.mono g13.le) (s := 3) rfl Nat.zero_lt_one) ?_)
 intro w14 p2
 obtain ⟨a2, o12, rel2⟩ := RelA.storeA (hrelb4.mono g13.le) p2 (i := 0) rfl Nat.zero_lt_one q5
 replace rel2 : RelA rpQ h9 a2 [(foldM q (l.take k)) * ((l.getD k fr0).rat)] := rel2
 refine oN (wR (oC (OpW.add (a := ((k : Nat) : Int)) (b := ((1 : Nat) : Int)) (r := ((k + 1 : Nat) : Int)) rfl rfl (add_i64 (a := k) (b := 1) (by omega)) (mv (oN ?_)))))
 have g14 := (g5.trans g13).put p2 o11.2 lo2
 have o13 := p2.kp (Ne.symm ne1) (g13.kp (p1.kp ne3 (gr3.kp ⟨o5, n4⟩)))
 exact ⟨(k + 1, a2), ⟨_, h9, nm rfl, g14, (l1.trans g13.le), o12, o11.2, o13.1, o13.2, (by omega), (RelA.cast (by rw [foldM_succ (by omega)]) rel2)⟩, (by dsimp only; omega)⟩
 replace c4 : ¬ (k < l.length) := (of_decide_eq_false c4)
 refine Wp.exit (sr ?_)
 obtain ⟨cs3, qv3, qf3, qr3⟩ := RelA.at' hrelb4 0 (s := 3) rfl (i := 0) Nat.zero_lt_one
 replace qr3 : rpQ.R h1 cs3 (foldM q (l.take k)) := qr3
 obtain ⟨b16, c13, b17, c14, rfl, k10, k11, u9, u10⟩ := Qn.open qr3
 refine oC (OpW.loadA (cs := [.bool (decide ((foldM q (l.take k)).num < 0)), .slice b16 ((digs ((foldM q (l.take k)).num.natAbs)).length) c13, .slice b17 ((digs ((foldM q (l.take k)).den)).length) c14]) Tryd.isAgg66 Tryd.sizeOf66 rfl o4 qf3 qv3 ?_)
 refine oC (sA (cs := [.bool (decide ((foldM q (l.take k)).num < 0)), .slice b16 ((digs ((foldM q (l.take k)).num.natAbs)).length) c13, .slice b17 ((digs ((foldM q (l.take k)).den)).length) c14]) Tryd.sizeOf66 rfl rfl rfl rfl o5 rfl ?_)
 intro w15 p3
 refine oN (Wp.ret (fin1_ret rfl (resOf_cellA (cs := [.bool (decide ((foldM q (l.take k)).num < 0)), .slice b16 ((digs ((foldM q (l.take k)).num.natAbs)).length) c13, .slice b17 ((digs ((foldM q (l.take k)).den)).length) c14]) Tryd.isAgg66 Tryd.sizeOf66 rfl p3.at_ (Nat.le_of_ble_eq_true rfl) rfl) ?_))
 have g15 := g4.put p3 n4 lo4
 refine ⟨h1, g15, ?_⟩
 exact (Qn.cast (by rw [List.take_of_length_le (by omega)]) (Qn.mk u9 u10 rfl rfl rfl))
theorem product_c {h : PH} {w : World} {v0 : Value} {l : List (Fr)} (hs : Sat h w) (pv0 : LR rpF h v0 l) (hp0 : wts l ≤ 134217724) :
    Calls Tryd.prog 53 #[v0] w (Ret h w fun h' r => Kn h' r (prodF l)) := by
 obtain ⟨b1, c1, rfl, k1⟩ := LR.shape pv0
 have hbs := bq_foldM l (((1 : Nat) : Int) : Rat) (LF.bq pv0)
 have hz : bq (((1 : Nat) : Int) : Rat) ≤ 2 := bq_intc (by decide) (by decide)
 refine calls_ear (vs := [.slice b1 l.length c1]) Tryd.func53 rfl rfl ?_
 have g1 := Gr.refl hs
 refine sr (oC (OpW.allocO (arr := #[.bool false, .slice none 0 0, .slice none 0 0]) g1.sat Tryd.zeroValue24 rfl ?_))
 intro b2 w1 gr1 n1 lo1 o1
 have lo2 := Nat.le_trans g1.ext.size lo1
 refine oN (sr ?_)
 have g2 := g1.trans gr1
 refine oC (cF Tryd.call79 (whole_c (n := ((1 : Nat) : Int)) g2.sat  (by omega) (by omega)) rfl ?_)
 intro r1 h1 w2 gr2 hr1
 obtain ⟨b3, c2, b4, c3, rfl, k2, k3, u1, u2⟩ := Qn.shape hr1
 refine mv ?_
 have g3 := g2.trans gr2
 refine oC (cF Tryd.call102 (foldM_c (q := ((((1 : Nat) : Int) : Int) : Rat)) (l := l) g3.sat hr1 (LR.mono pv0 gr2.le) (by first | omega | (simp only [bf_frK, frK_rat, wts_cons, wts_nil]; omega))) rfl ?_)
 intro r2 h2 w3 gr3 hr2
 obtain ⟨b5, c4, b6, c5, rfl, k4, k5, u3, u4⟩ := Qn.shape hr2
 have g4 := g3.trans gr3
 refine oC (cF Tryd.call74 (give_c (q := foldM ((((1 : Nat) : Int) : Int) : Rat) l) g4.sat hr2 (by omega)) rfl ?_)
 intro r3 h3 w4 gr4 hr3
 obtain ⟨b7, c6, b8, c7, rfl, k6, k7, u5, u6⟩ := F.shape hr3
 have o2 := gr4.kp (gr3.kp (gr2.kp ⟨o1, n1⟩))
 refine oC (sA (cs := [.bool ((frK (foldM ((((1 : Nat) : Int) : Int) : Rat) l)).neg), .slice b7 ((frK (foldM ((((1 : Nat) : Int) : Int) : Rat) l)).n.length) c6, .slice b8 ((frK (foldM ((((1 : Nat) : Int) : Int) : Rat) l)).d.length) c7]) Tryd.sizeOf24 rfl rfl rfl rfl o2.1 rfl ?_)
 intro w5 p1
 refine oN (Wp.ret (fin1_ret rfl (resOf_cellA (cs := [.bool ((frK (foldM ((((1 : Nat) : Int) : Int) : Rat) l)).neg), .slice b7 ((frK (foldM ((((1 : Nat) : Int) : Int) : Rat) l)).n.length) c6, .slice b8 ((frK (foldM ((((1 : Nat) : Int) : Int) : Rat) l)).d.length) c7]) Tryd.isAgg24 Tryd.sizeOf24 rfl p1.at_ (Nat.le_of_ble_eq_true rfl) rfl) ?_))
 have g5 := (g4.trans gr4).put p1 o2.2 lo2
 refine ⟨h3, g5, ?_⟩
 exact (show Kn _ _ (prodF l) from (F.mk u5 u6))
theorem Mul_c {h : PH} {w : World} {v0 : Value} {a : Fr} {v1 : Value} {b : Fr} (hs : Sat h w) (pv0 : F h v0 a) (pv1 : F h v1 b) (hp0 : bf a + bf b ≤ 134217000) :
    Calls Tryd.prog 48 #[v0, v1] w (Ret h w fun h' r => Kn h' r (a.rat * b.rat)) := by
 obtain ⟨b1, c1, b2, c2, rfl, k1, k2, u1, u2⟩ := F.shape pv0
 have hbq1 := F.bq pv0
 obtain ⟨b3, c3, b4, c4, rfl, k3, k4, u3, u4⟩ := F.shape pv1
 have hbq2 := F.bq pv1
 have hw := wts2 a b
 refine calls_ear (vs := [.agg #[.bool a.neg, .slice b1 a.n.length c1, .slice b2 a.d.length c2], .agg #[.bool b.neg, .slice b3 b.n.length c3, .slice b4 b.d.length c4]]) Tryd.func48 rfl rfl ?_
 have g1 := Gr.refl hs
 refine sr (oC (OpW.boxK (v := .agg #[.bool a.neg, .slice b1 a.n.length c1, .slice b2 a.d.length c2]) (arr := #[.bool a.neg, .slice b1 a.n.length c1, .slice b2 a.d.length c2]) g1.sat rfl rfl ?_))
 intro b5 h1 w1 gr1 qb1
 have g2 := g1.trans gr1
 refine oC (OpW.boxK (v := .agg #[.bool b.neg, .slice b3 b.n.length c3, .slice b4 b.d.length c4]) (arr := #[.bool b.neg, .slice b3 b.n.length c3, .slice b4 b.d.length c4]) g2.sat rfl rfl ?_)
 intro b6 h2 w2 gr2 qb2
 have g3 := g2.trans gr2
 refine oC (OpW.allocO (arr := #[.bool false, .slice none 0 0, .slice none 0 0]) g3.sat Tryd.zeroValue24 rfl ?_)
 intro b7 w3 gr3 n1 lo1 o1
 have lo2 := Nat.le_trans g3.ext.size lo1
 refine oN (sr ?_)
 have g4 := g3.trans gr3
 refine oC (lA (cs := [.bool a.neg, .slice b1 a.n.length c1, .slice b2 a.d.length c2]) Tryd.isAgg24 Tryd.sizeOf24 rfl (g4.sat _ _ (gr2.le _ _ qb1)) rfl rfl ?_)
 refine oC (lA (cs := [.bool b.neg, .slice b3 b.n.length c3, .slice b4 b.d.length c4]) Tryd.isAgg24 Tryd.sizeOf24 rfl (g4.sat _ _ qb2) rfl rfl ?_)
 have lt1 := blk_lt o1
 refine oC (OpW.buildSliceO (arr := #[.bool a.neg, .slice b1 a.n.length c1, .slice b2 a.d.length c2, .bool b.neg, .slice b3 b.n.length c3, .slice b4 b.d.length c4]) g4.sat Tryd.underlying50 Tryd.zeroValue24 Tryd.sizeOf24 rfl rfl ?_)
 intro b8 w4 gr4 n2 lo3 o2
 have lo4 := Nat.le_trans g4.ext.size lo3
 have ne1 : b7 ≠ b8 := Nat.ne_of_lt (Nat.lt_of_lt_of_le lt1 lo3)
 have g6 := g4.trans gr4
 obtain ⟨h3, g5, l1, qb3, fr1⟩ := freeze_ex g6 o2 n2 lo4
 have f1 : LR rpF h3 (.slice (some ⟨b8, 0, none⟩) 2 2) [a, b] := LR.own' qb3 (css := [[.bool a.neg, .slice b1 a.n.length c1, .slice b2 a.d.length c2], [.bool b.neg, .slice b3 b.n.length c3, .slice b4 b.d.length c4]]) rfl (Rows.cons (F.mk (U.mono u1 ((gr1.le.trans gr2.le).trans l1)) (U.mono u2 ((gr1.le.trans gr2.le).trans l1))) (Rows.cons (F.mk (U.mono u3 ((gr1.le.trans gr2.le).trans l1)) (U.mono u4 ((gr1.le.trans gr2.le).trans l1))) Rows.nil)) rfl (Nat.le_refl _)
 refine oC (cF Tryd.call53 (product_c (l := [a, b]) g5.sat f1 (by first | omega | (simp only [bf_frK, frK_rat, wts_cons, wts_nil]; omega))) rfl ?_)
 intro r1 h4 w5 gr5 hr1
 obtain ⟨b9, c5, b10, c6, rfl, k5, k6, u5, u6⟩ := F.shape hr1
 have o3 := gr5.kp (oz fr1 ne1 (gr4.kp ⟨o1, n1⟩))
 refine oC (sA (cs := [.bool ((frK (prodF ([a, b]))).neg), .slice b9 ((frK (prodF ([a, b]))).n.length) c5, .slice b10 ((frK (prodF ([a, b]))).d.length) c6]) Tryd.sizeOf24 rfl rfl rfl rfl o3.1 rfl ?_)
 intro w6 p1
 refine oN (Wp.ret (fin1_ret rfl (resOf_cellA (cs := [.bool ((frK (prodF ([a, b]))).neg), .slice b9 ((frK (prodF ([a, b]))).n.length) c5, .slice b10 ((frK (prodF ([a, b]))).d.length) c6]) Tryd.isAgg24 Tryd.sizeOf24 rfl p1.at_ (Nat.le_of_ble_eq_true rfl) rfl) ?_))
 have g7 := (g5.trans gr5).put p1 o3.2 lo2
 refine ⟨h4, g7, ?_⟩
 exact (Kn.cast (prodF2 a b) (F.mk u5 u6))
theorem Sub_c {h : PH} {w : World} {v0 : Value} {a : Fr} {v1 : Value} {b : Fr} (hs : Sat h w) (pv0 : F h v0 a) (pv1 : F h v1 b) (hp0 : bf a + bf b ≤ 134217000) :
    Calls Tryd.prog 44 #[v0, v1] w (Ret h w fun h' r => Kn h' r (a.rat - b.rat)) := by
 obtain ⟨b1, c1, b2, c2, rfl, k1, k2, u1, u2⟩ := F.shape pv0
 have hbq1 := F.bq pv0
 obtain ⟨b3, c3, b4, c4, rfl, k3, k4, u3, u4⟩ := F.shape pv1
 have hbq2 := F.bq pv1
 have hbn := bf_n a
 have hbd := bf_d a
 have hbp := bf_pos a
 have hbn2 := bf_n b
 have hbd2 := bf_d b
 have hbp2 := bf_pos b
 have hn := bq_neg b.rat
 have hsb := bq_sub a.rat b.rat
 rw [Rat.sub_eq_add_neg] at hsb
 refine calls_ear (vs := [.agg #[.bool a.neg, .slice b1 a.n.length c1, .slice b2 a.d.length c2], .agg #[.bool b.neg, .slice b3 b.n.length c3, .slice b4 b.d.length c4]]) Tryd.func44 rfl rfl ?_
 have g1 := Gr.refl hs
 refine sr (oC (OpW.boxK (v := .agg #[.bool a.neg, .slice b1 a.n.length c1, .slice b2 a.d.length c2]) (arr := #[.bool a.neg, .slice b1 a.n.length c1, .slice b2 a.d.length c2]) g1.sat rfl rfl ?_))
 intro b5 h1 w1 gr1 qb1
 have g2 := g1.trans gr1
 refine oC (OpW.boxK (v := .agg #[.bool b.neg, .slice b3 b.n.length c3, .slice b4 b.d.length c4]) (arr := #[.bool b.neg, .slice b3 b.n.length c3, .slice b4 b.d.length c4]) g2.sat rfl rfl ?_)
 intro b6 h2 w2 gr2 qb2
 have g3 := g2.trans gr2
 refine oC (OpW.allocO (arr := #[.bool false, .slice none 0 0, .slice none 0 0]) g3.sat Tryd.zeroValue24 rfl ?_)
 intro b7 w3 gr3 n1 lo1 o1
 have lo2 := Nat.le_trans g3.ext.size lo1
 refine oN (wS ?_)
 have g4 := g3.trans gr3
 refine Wp.dagL 7 [5, 6, 7, 8, 9, 10, 11] [eqv (.agg #[.bool a.neg, .slice b1 a.n.length c1, .slice b2 a.d.length c2]), fun h _ x => Qn h x a.rat, eqv (.agg #[.bool b.neg, .slice b3 b.n.length c3, .slice b4 b.d.length c4]), fun h _ x => Qn h x b.rat, fun h _ x => Qn h x (-b.rat), fun h _ x => Qn h x (a.rat + (-b.rat)), fun h _ x => Kn h x (a.rat + (-b.rat))] mixed g4.sat rfl (by decide +kernel) ⟨sQ _, (stab_Q a.rat), sQ _, (stab_Q b.rat), (stab_Q (-b.rat)), (stab_Q (a.rat + (-b.rat))), (stab_K (a.rat + (-b.rat))), trivial⟩ ?_ ?_
 intro stab
 refine ⟨?_, ?_, ?_, ?_, ?_, ?_, ?_, trivial⟩
 intro ρ1 h3 w4 g5 hdd1 hdo1
 have e1 : ρ1 2 = .pointer (some ⟨b5, 0, none⟩) := hdo1 2 rfl
 have g6 := g4.trans g5
 refine gP (lA (cs := [.bool a.neg, .slice b1 a.n.length c1, .slice b2 a.d.length c2]) Tryd.isAgg24 Tryd.sizeOf24 e1 (g6.sat _ _ ((gr2.le.trans g5.le) _ _ qb1)) rfl rfl ?_)
 exact ⟨_, h3, rfl, g5, fun j x _ p => p, rfl⟩
 intro ρ2 h4 w5 g7 hdd2 hdo2
 have e2 : ρ2 5 = .agg #[.bool a.neg, .slice b1 a.n.length c1, .slice b2 a.d.length c2] := hdd2 0 (by decide)
 have g8 := g4.trans g7
 refine gP (cF Tryd.call70 (take_c (f := a) g8.sat (F.mk (U.mono u1 ((gr1.le.trans gr2.le).trans g7.le)) (U.mono u2 ((gr1.le.trans gr2.le).trans g7.le))) (by omega) (by omega)) (cx e2 cxn) ?_)
 intro r1 h5 w6 gr4 hr1
 exact ⟨r1, h5, rfl, g7.trans gr4, fun j x _ => stab j _ _ _ _ x gr4, hr1⟩
 intro ρ3 h6 w7 g9 hdd3 hdo3
 have e3 : ρ3 3 = .pointer (some ⟨b6, 0, none⟩) := hdo3 3 rfl
 have g10 := g4.trans g9
 refine gP (lA (cs := [.bool b.neg, .slice b3 b.n.length c3, .slice b4 b.d.length c4]) Tryd.isAgg24 Tryd.sizeOf24 e3 (g10.sat _ _ (g9.le _ _ qb2)) rfl rfl ?_)
 exact ⟨_, h6, rfl, g9, fun j x _ p => p, rfl⟩
 intro ρ4 h7 w8 g11 hdd4 hdo4
 have e4 : ρ4 7 = .agg #[.bool b.neg, .slice b3 b.n.length c3, .slice b4 b.d.length c4] := hdd4 2 (by decide)
 have g12 := g4.trans g11
 refine gP (cF Tryd.call70 (take_c (f := b) g12.sat (F.mk (U.mono u3 ((gr1.le.trans gr2.le).trans g11.le)) (U.mono u4 ((gr1.le.trans gr2.le).trans g11.le))) (by omega) (by omega)) (cx e4 cxn) ?_)
 intro r2 h8 w9 gr5 hr2
 exact ⟨r2, h8, rfl, g11.trans gr5, fun j x _ => stab j _ _ _ _ x gr5, hr2⟩
 intro ρ5 h9 w10 g13 hdd5 hdo5
 have q1 : Qn h9 (ρ5 8) b.rat := hdd5 3 (by decide)
 have g14 := g4.trans g13
 refine gP (cF Tryd.call99 (minus_c (q := b.rat) g14.sat q1 ) rfl ?_)
 intro r3 h10 w11 gr6 hr3
 exact ⟨r3, h10, rfl, g13.trans gr6, fun j x _ => stab j _ _ _ _ x gr6, hr3⟩
 intro ρ6 h11 w12 g15 hdd6 hdo6
 have q2 : Qn h11 (ρ6 6) a.rat := hdd6 1 (by decide)
 have q3 : Qn h11 (ρ6 9) (-b.rat) := hdd6 4 (by decide)
 have g16 := g4.trans g15
 refine gP (cF Tryd.call98 (nadd_c (a := a.rat) (b := -b.rat) g16.sat q2 q3 (by omega) (by omega)) rfl ?_)
 intro r4 h12 w13 gr7 hr4
 exact ⟨r4, h12, rfl, g15.trans gr7, fun j x _ => stab j _ _ _ _ x gr7, hr4⟩
 intro ρ7 h13 w14 g17 hdd7 hdo7
 have q4 : Qn h13 (ρ7 10) (a.rat + (-b.rat)) := hdd7 5 (by decide)
 have g18 := g4.trans g17
 refine gP (cF Tryd.call74 (give_c (q := a.rat + (-b.rat)) g18.sat q4 (by omega)) rfl ?_)
 intro r5 h14 w15 gr8 hr5
 exact ⟨r5, h14, rfl, g17.trans gr8, fun j x _ => stab j _ _ _ _ x gr8, hr5⟩
 intro ρ8 h15 w16 g19 hdp1 hdo8
 have e5 : ρ8 4 = .pointer (some ⟨b7, 0, none⟩) := hdo8 4 rfl
 have q5 : Kn h15 (ρ8 11) (a.rat + (-b.rat)) := hdp1 6 rfl
 obtain ⟨x1, hx1⟩ : ∃ x, ρ8 11 = x := ⟨_, rfl⟩
 rw [hx1] at q5
 obtain ⟨b8, c5, b9, c6, rfl, k5, k6, u5, u6⟩ := F.shape q5
 refine Ops.forget [(4, .pointer (some ⟨b7, 0, none⟩)), (11, .agg #[.bool ((frK (a.rat + (-b.rat))).neg), .slice b8 ((frK (a.rat + (-b.rat))).n.length) c5, .slice b9 ((frK (a.rat + (-b.rat))).d.length) c6])] ⟨e5, hx1, trivial⟩ (fun ρ9 => ?_)
 have o2 := g19.kp ⟨o1, n1⟩
 refine oC (sA (cs := [.bool ((frK (a.rat + (-b.rat))).neg), .slice b8 ((frK (a.rat + (-b.rat))).n.length) c5, .slice b9 ((frK (a.rat + (-b.rat))).d.length) c6]) Tryd.sizeOf24 rfl rfl rfl rfl o2.1 rfl ?_)
 intro w17 p1
 refine oN (Wp.ret (fin1_ret rfl (resOf_cellA (cs := [.bool ((frK (a.rat + (-b.rat))).neg), .slice b8 ((frK (a.rat + (-b.rat))).n.length) c5, .slice b9 ((frK (a.rat + (-b.rat))).d.length) c6]) Tryd.isAgg24 Tryd.sizeOf24 rfl p1.at_ (Nat.le_of_ble_eq_true rfl) rfl) ?_))
 have g20 := (g4.trans g19).put p1 o2.2 lo2
 refine ⟨h15, g20, ?_⟩
 exact (Kn.cast (Rat.sub_eq_add_neg _ _).symm (F.mk u5 u6))
theorem Neg_c {h : PH} {w : World} {v0 : Value} {a : Fr} (hs : Sat h w) (pv0 : F h v0 a) (hp0 : bf a ≤ 134217000) :
    Calls Tryd.prog 45 #[v0] w (Ret h w fun h' r => Kn h' r (-a.rat)) := by
 obtain ⟨b1, c1, b2, c2, rfl, k1, k2, u1, u2⟩ := F.shape pv0
 have hbq1 := F.bq pv0
 have hbn := bf_n a
 have hbd := bf_d a
 have hbp := bf_pos a
 have hn := bq_neg a.rat
 refine calls_ear (vs := [.agg #[.bool a.neg, .slice b1 a.n.length c1, .slice b2 a.d.length c2]]) Tryd.func45 rfl rfl ?_
 have g1 := Gr.refl hs
 refine sr (oC (OpW.boxK (v := .agg #[.bool a.neg, .slice b1 a.n.length c1, .slice b2 a.d.length c2]) (arr := #[.bool a.neg, .slice b1 a.n.length c1, .slice b2 a.d.length c2]) g1.sat rfl rfl ?_))
 intro b3 h1 w1 gr1 qb1
 have g2 := g1.trans gr1
 refine oC (OpW.allocO (arr := #[.bool false, .slice none 0 0, .slice none 0 0]) g2.sat Tryd.zeroValue24 rfl ?_)
 intro b4 w2 gr2 n1 lo1 o1
 have lo2 := Nat.le_trans g2.ext.size lo1
 refine oN (sr ?_)
 have g3 := g2.trans gr2
 refine oC (lA (cs := [.bool a.neg, .slice b1 a.n.length c1, .slice b2 a.d.length c2]) Tryd.isAgg24 Tryd.sizeOf24 rfl (g3.sat _ _ qb1) rfl rfl ?_)
 refine oC (cF Tryd.call70 (take_c (f := a) g3.sat (F.mk (U.mono u1 gr1.le) (U.mono u2 gr1.le)) (by omega) (by omega)) rfl ?_)
 intro r1 h2 w3 gr3 hr1
 obtain ⟨b5, c3, b6, c4, rfl, k3, k4, u3, u4⟩ := Qn.shape hr1
 have g4 := g3.trans gr3
 refine oC (cF Tryd.call99 (minus_c (q := a.rat) g4.sat hr1 ) rfl ?_)
 intro r2 h3 w4 gr4 hr2
 obtain ⟨b7, c5, b8, c6, rfl, k5, k6, u5, u6⟩ := Qn.shape hr2
 have g5 := g4.trans gr4
 refine oC (cF Tryd.call74 (give_c (q := -a.rat) g5.sat hr2 (by omega)) rfl ?_)
 intro r3 h4 w5 gr5 hr3
 obtain ⟨b9, c7, b10, c8, rfl, k7, k8, u7, u8⟩ := F.shape hr3
 have o2 := gr5.kp (gr4.kp (gr3.kp ⟨o1, n1⟩))
 refine oC (sA (cs := [.bool ((frK (-a.rat)).neg), .slice b9 ((frK (-a.rat)).n.length) c7, .slice b10 ((frK (-a.rat)).d.length) c8]) Tryd.sizeOf24 rfl rfl rfl rfl o2.1 rfl ?_)
 intro w6 p1
 refine oN (Wp.ret (fin1_ret rfl (resOf_cellA (cs := [.bool ((frK (-a.rat)).neg), .slice b9 ((frK (-a.rat)).n.length) c7, .slice b10 ((frK (-a.rat)).d.length) c8]) Tryd.isAgg24 Tryd.sizeOf24 rfl p1.at_ (Nat.le_of_ble_eq_true rfl) rfl) ?_))
 have g6 := (g5.trans gr5).put p1 o2.2 lo2
 refine ⟨h4, g6, ?_⟩
 exact (F.mk u7 u8)
theorem Canon_c {h : PH} {w : World} {v0 : Value} {a : Fr} (hs : Sat h w) (pv0 : F h v0 a) (hp0 : bf a ≤ 134217000) :
    Calls Tryd.prog 50 #[v0] w (Ret h w fun h' r => Kn h' r a.rat) := by
 obtain ⟨b1, c1, b2, c2, rfl, k1, k2, u1, u2⟩ := F.shape pv0
 have hbq1 := F.bq pv0
 have hbn := bf_n a
 have hbd := bf_d a
 have hbp := bf_pos a
 refine calls_ear (vs := [.agg #[.bool a.neg, .slice b1 a.n.length c1, .slice b2 a.d.length c2]]) Tryd.func50 rfl rfl ?_
 have g1 := Gr.refl hs
 refine sr (oC (OpW.boxK (v := .agg #[.bool a.neg, .slice b1 a.n.length c1, .slice b2 a.d.length c2]) (arr := #[.bool a.neg, .slice b1 a.n.length c1, .slice b2 a.d.length c2]) g1.sat rfl rfl ?_))
 intro b3 h1 w1 gr1 qb1
 have g2 := g1.trans gr1
 refine oC (OpW.allocO (arr := #[.bool false, .slice none 0 0, .slice none 0 0]) g2.sat Tryd.zeroValue24 rfl ?_)
 intro b4 w2 gr2 n1 lo1 o1
 have lo2 := Nat.le_trans g2.ext.size lo1
 refine oN (sr ?_)
 have g3 := g2.trans gr2
 refine oC (lA (cs := [.bool a.neg, .slice b1 a.n.length c1, .slice b2 a.d.length c2]) Tryd.isAgg24 Tryd.sizeOf24 rfl (g3.sat _ _ qb1) rfl rfl ?_)
 refine oC (cF Tryd.call70 (take_c (f := a) g3.sat (F.mk (U.mono u1 gr1.le) (U.mono u2 gr1.le)) (by omega) (by omega)) rfl ?_)
 intro r1 h2 w3 gr3 hr1
 obtain ⟨b5, c3, b6, c4, rfl, k3, k4, u3, u4⟩ := Qn.shape hr1
 have g4 := g3.trans gr3
 refine oC (cF Tryd.call74 (give_c (q := a.rat) g4.sat hr1 (by omega)) rfl ?_)
 intro r2 h3 w4 gr4 hr2
 obtain ⟨b7, c5, b8, c6, rfl, k5, k6, u5, u6⟩ := F.shape hr2
 have o2 := gr4.kp (gr3.kp ⟨o1, n1⟩)
 refine oC (sA (cs := [.bool ((frK a.rat).neg), .slice b7 ((frK a.rat).n.length) c5, .slice b8 ((frK a.rat).d.length) c6]) Tryd.sizeOf24 rfl rfl rfl rfl o2.1 rfl ?_)
 intro w5 p1
 refine oN (Wp.ret (fin1_ret rfl (resOf_cellA (cs := [.bool ((frK a.rat).neg), .slice b7 ((frK a.rat).n.length) c5, .slice b8 ((frK a.rat).d.length) c6]) Tryd.isAgg24 Tryd.sizeOf24 rfl p1.at_ (Nat.le_of_ble_eq_true rfl) rfl) ?_))
 have g5 := (g4.trans gr4).put p1 o2.2 lo2
 refine ⟨h3, g5, ?_⟩
 exact (F.mk u5 u6)
theorem Sign_c {h : PH} {w : World} {v0 : Value} {a : Fr} (hs : Sat h w) (pv0 : F h v0 a) (hp0 : bf a ≤ 134217000) :
    Calls Tryd.prog 40 #[v0] w (Ret h w fun h' r => r = .int .i64 (sgQ a.rat)) := by
 obtain ⟨b1, c1, b2, c2, rfl, k1, k2, u1, u2⟩ := F.shape pv0
 have hbq1 := F.bq pv0
 have hbn := bf_n a
 have hbd := bf_d a
 have hbp := bf_pos a
 refine calls_ear (vs := [.agg #[.bool a.neg, .slice b1 a.n.length c1, .slice b2 a.d.length c2]]) Tryd.func40 rfl rfl ?_
 have g1 := Gr.refl hs
 refine sr (oC (OpW.boxK (v := .agg #[.bool a.neg, .slice b1 a.n.length c1, .slice b2 a.d.length c2]) (arr := #[.bool a.neg, .slice b1 a.n.length c1, .slice b2 a.d.length c2]) g1.sat rfl rfl ?_))
 intro b3 h1 w1 gr1 qb1
 refine ma (oN (sr ?_))
 have g2 := g1.trans gr1
 refine oC (lA (cs := [.bool a.neg, .slice b1 a.n.length c1, .slice b2 a.d.length c2]) Tryd.isAgg24 Tryd.sizeOf24 rfl (g2.sat _ _ qb1) rfl rfl ?_)
 refine oC (cF Tryd.call70 (take_c (f := a) g2.sat (F.mk (U.mono u1 gr1.le) (U.mono u2 gr1.le)) (by omega) (by omega)) rfl ?_)
 intro r1 h2 w2 gr2 hr1
 obtain ⟨b4, c3, b5, c4, rfl, k3, k4, u3, u4⟩ := Qn.shape hr1
 have g3 := g2.trans gr2
 refine oC (cF Tryd.call97 (sign_c (q := a.rat) g3.sat hr1 ) rfl ?_)
 intro r2 h3 w3 gr3 hr2
 subst hr2
 refine ma (oN (Wp.ret (fin1_ret rfl (resOf_tmp (v := .int .i64 (sgQ a.rat)) rfl) ?_)))
 have g4 := g3.trans gr3
 refine ⟨h3, g4, ?_⟩
 exact rfl
end Go.Ear
