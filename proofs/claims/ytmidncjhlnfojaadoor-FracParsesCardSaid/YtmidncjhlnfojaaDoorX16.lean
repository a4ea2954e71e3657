/- About package frac: X16. -/
import Derived.Test.YtmidncjhlnfojaaDoorNatLaw2
import Derived.Test.YtmidncjhlnfojaaDoorEarShort
import Derived.Test.YtmidncjhlnfojaaDoorProg
import Derived.Test.YtmidncjhlnfojaaDoorNatLaw3
import Derived.Test.YtmidncjhlnfojaaDoorEarFrac
import Derived.Test.YtmidncjhlnfojaaDoorEarDec
import Derived.Test.YtmidncjhlnfojaaDoorItoaLay
import Derived.Lib.ItoaMem
import Derived.Test.YtmidncjhlnfojaaDoorEarApi
import Derived.Test.YtmidncjhlnfojaaDoorEarRef2
import Derived.Test.YtmidncjhlnfojaaDoorEarLaw
import Derived.Test.YtmidncjhlnfojaaDoorEarWhole
import Derived.Test.YtmidncjhlnfojaaDoorEarTexts
import Derived.Test.YtmidncjhlnfojaaDoorK1
import Derived.Test.YtmidncjhlnfojaaDoorK10
import Derived.Test.YtmidncjhlnfojaaDoorK11
import Derived.Test.YtmidncjhlnfojaaDoorK12
import Derived.Test.YtmidncjhlnfojaaDoorX10
import Derived.Test.YtmidncjhlnfojaaDoorX12
import Derived.Test.YtmidncjhlnfojaaDoorXrDown
import Derived.Test.YtmidncjhlnfojaaDoorXrPow
set_option linter.all false
namespace Go.Ear
open Go.Proofs
set_option maxRecDepth 20000
set_option linter.unusedVariables false
set_option maxHeartbeats 2000000
theorem rdigits_c {h : PH} {w : World} {v0 : Value} {a : Nat} (hs : Sat h w) (pv0 : N h v0 a) (hp0 : sz a ≤ 50000000) :
    Calls Tryd.prog 91 #[v0] w (Ret h w fun h' r => r = .string (S (decT a))) := by
 obtain ⟨b1, c1, rfl, k1⟩ := N.shape pv0
 have hsa : (digs a).length ≤ 50000000 := hp0
 have hdl := decT_len a
 have hz := len_zero (n := a)
 have h10 := sz_small (n := 10) (by decide)
 refine calls_ear (vs := [.slice b1 ((digs a).length) c1]) Tryd.func91 rfl rfl ?_
 have g1 := Gr.refl hs
 refine sr (ma (oN (sr (mv (oC (cF Tryd.call76 (rtrim_c (l := digs a) g1.sat pv0 (by first | omega | (simp only [List.length_set, List.length_replicate]; omega))) rfl ?_))))))
 intro r1 h1 w1 gr1 hr1
 simp only [frK_rat, bf_frK, val_digs] at hr1
 obtain ⟨b2, c2, rfl, k2⟩ := N.shape hr1
 refine ma (oN (wS (sr (mv (oC (OpW.lenS Tryd.underlying22 (l := (digs a).length) rfl ?_))))))
 refine oC (OpW.eqlI (a := (((digs a).length : Nat) : Int)) (b := ((0 : Nat) : Int)) (r := decide ((digs a).length = 0)) rfl rfl (eq_nat (a := (digs a).length) (b := 0)) (oN (Wp.cond (t := decide ((digs a).length = 0)) rfl (fun c3 => ?_) (fun c3 => ?_))))
 replace c3 : (digs a).length = 0 := (of_decide_eq_true c3)
 refine sr (ma (oN (Wp.ret (fin1_ret rfl (resOf_tmp (v := .string (S ([48] : List UInt8))) rfl) ?_))))
 have g2 := g1.trans gr1
 refine ⟨h1, g2, ?_⟩
 exact (strv (by rw [hz.1 (by omega)]; exact (decT_small (u := 0) (by decide)).symm))
 replace c3 : ¬ ((digs a).length = 0) := (of_decide_eq_false c3)
 refine Wp.skip (sr (ma (oN (wS (Wp.block ?_)))))
 have g3 := g1.trans gr1
 refine Wp.loop (σ := Nat × List UInt8 × Option Addr × Nat) (fun s (ρ : Env) (w' : World) => match s with | (x, st, bS0, cS0) => ∃ ρb h', ρ = upds ρb [(0, .slice bS0 ((digs x).length) cS0), (3, .string (S st))] ∧ Gr h w h' w' ∧ PH.le h1 h' ∧ (decT a = (if x = 0 then [] else decT x) ++ st) ∧ (x ≤ a) ∧ (N h' (.slice bS0 ((digs x).length) cS0) x)) (fun s => match s with | (x, st, bS0, cS0) => x) (a, [], b2, c2) ?_ ?_
 exact ⟨_, h1, nm (by exact rfl), g3, PH.le.refl _, (by rw [if_neg (by omega)]; exact (List.append_nil _).symm), (by omega), hr1⟩
 rintro ⟨x, st, bS0, cS0⟩ ρ1 w2 ⟨ρ2, h2, rfl, g4, l1, hd, hxa, hS0⟩
 have hsx := sz_mono hxa
 have hxz := len_zero (n := x)
 have hrz := len_zero (n := x % 10)
 have hml := Nat.mod_lt x (show 0 < 10 by decide)
 have hdg := digs_getD0 (r := x % 10) (by omega)
 have hdl2 := congrArg List.length hd
 rw [List.length_append] at hdl2
 refine wS (sr (mv (oC (OpW.lenS Tryd.underlying22 (l := (digs x).length) rfl ?_))))
 refine oC (OpW.gtr (a := (((digs x).length : Nat) : Int)) (b := ((0 : Nat) : Int)) (r := decide (0 < (digs x).length)) rfl rfl (lt_nat (a := 0) (b := (digs x).length)) (oN (Wp.cond (t := decide (0 < (digs x).length)) rfl (fun c4 => ?_) (fun c4 => ?_))))
 replace c4 : 0 < (digs x).length := (of_decide_eq_true c4)
 refine Wp.skip (Wp.block (sr (ma (oN (sr (mv (oC (OpW.buildSliceO (arr := #[.int .u32 ((10 : Nat) : Int)]) g4.sat Tryd.underlying22 Tryd.zeroValue51 Tryd.sizeOf51 rfl rfl ?_))))))))
 intro b3 w3 gr2 n1 lo1 o1
 have lo2 := Nat.le_trans g4.ext.size lo1
 have g6 := g4.trans gr2
 obtain ⟨h3, g5, l2, qb1, fr1⟩ := freeze_ex g6 o1 n1 lo2
 have f1 := U.own (l := [10]) qb1 (fun x hx => by simp at hx; omega) (cap := 1) rfl (Nat.le_refl _)
 refine oC (cF Tryd.call108 (rdivide_c (a := x) (b := 10) g5.sat (N.mono hS0 l2) (U.ofDigs f1 (digs_lit (by decide) (by decide))) (by omega) (by omega) (by omega)) rfl ?_)
 intro r2 h4 w4 gr3 hr2
 obtain ⟨r3, r4, rfl, hr3, hr4⟩ := hr2
 obtain ⟨b4, c5, rfl, k3⟩ := N.shape hr3
 obtain ⟨b5, c6, rfl, k4⟩ := N.shape hr4
 refine mv (oC (OpW.extract (v := .slice b4 ((digs (x / 10)).length) c5) rfl rfl ?_))
 refine oC (OpW.extract (v := .slice b5 ((digs (x % 10)).length) c6) rfl rfl (ma (ma (oN (wS (fg [(0, .slice b4 ((digs (x / 10)).length) c5), (3, .string (S st)), (4, .slice b5 ((digs (x % 10)).length) c6)] rfl (fun ρ3 => (wR (oC (OpW.assign (v := .int .u8 ((48 : Nat) : Int)) rfl (oN (wS (sr (mv (oC (OpW.lenS Tryd.underlying22 (l := (digs (x % 10)).length) rfl ?_))))))))))))))))
 refine oC (OpW.gtr (a := (((digs (x % 10)).length : Nat) : Int)) (b := ((0 : Nat) : Int)) (r := decide (0 < (digs (x % 10)).length)) rfl rfl (lt_nat (a := 0) (b := (digs (x % 10)).length)) (oN (Wp.cut (fun ρ' w' => w4 = w' ∧ ∃ ρb, ρ' = upds ρb [(0, .slice b4 ((digs (x / 10)).length) c5), (3, .string (S st)), (5, .int .u8 ((48 + x % 10 : Nat) : Int))]) ?_ ?_)))
 refine Wp.cond (t := decide (0 < (digs (x % 10)).length)) rfl (fun c7 => ?_) (fun c7 => ?_)
 replace c7 : 0 < (digs (x % 10)).length := (of_decide_eq_true c7)
 refine wR (mv (mv (oC (OpW.indexU (i := ((0 : Nat) : Int)) (j := 0) Tryd.underlying22 Tryd.sizeOf51 rfl hr4 rfl (by omega) (by omega) ?_))))
 intro b6 o2 a1 e1 z1 qb2 qv1
 have bd1 := Fit.getD (hr4).1 0
 have g7 := g5.trans gr3
 refine oC (lO (v := .int .u32 (((digs (x % 10)).getD 0 0 : Nat) : Int)) Tryd.isAgg51 rfl (g7.sat _ _ qb2) qv1 ?_)
 refine oC (OpW.convI (a := (((digs (x % 10)).getD 0 0 : Nat) : Int)) (r := (((digs (x % 10)).getD 0 0 : Nat) : Int)) Tryd.underlying51 Tryd.underlying5 rfl (conv_u8' (by omega)) ?_)
 refine oC (OpW.add (a := ((48 : Nat) : Int)) (b := (((digs (x % 10)).getD 0 0 : Nat) : Int)) (r := ((48 + ((digs (x % 10)).getD 0 0) : Nat) : Int)) rfl rfl (add_u8 (a := 48) (b := (digs (x % 10)).getD 0 0) (by omega)) (ma (oN ?_)))
 exact ⟨rfl, _, named ⟨rfl, rfl, (natv (by rw [hdg])), trivial⟩⟩
 replace c7 : ¬ (0 < (digs (x % 10)).length) := (of_decide_eq_false c7)
 refine Wp.skip ?_
 exact ⟨rfl, _, named ⟨rfl, rfl, (natv (by have := hrz.1 (by omega); omega)), trivial⟩⟩
 rintro ρ4 w5 ⟨rfl, ρ5, rfl⟩
 refine wR (mv ?_)
 have g8 := g5.trans gr3
 refine oC (OpW.buildSliceO (arr := #[.int .u8 ((48 + x % 10 : Nat) : Int)]) g8.sat Tryd.underlying109 Tryd.zeroValue5 Tryd.sizeOf5 rfl rfl ?_)
 intro b7 w6 gr4 n2 lo3 o3
 have lo4 := Nat.le_trans g8.ext.size lo3
 refine oC (OpW.convB1 (m := 48 + x % 10) Tryd.underlying109 Tryd.underlying5 Tryd.underlying9 rfl o3 (by omega) (mv (oC (OpW.catSS (a := ([UInt8.ofNat (48 + x % 10)] : List UInt8)) (b := st) rfl rfl (by simp only [List.length_cons, List.length_nil]; omega) (ma (oN ?_))))))
 have g9 := g8.trans gr4
 exact ⟨(x / 10, [UInt8.ofNat (48 + x % 10)] ++ st, b4, c5), ⟨_, h4, nm (by exact rfl), g9, ((l1.trans l2).trans gr3.le), (decT_dig hd (by omega)), (by omega), hr3⟩, (by dsimp only; omega)⟩
 replace c4 : ¬ (0 < (digs x).length) := (of_decide_eq_false c4)
 refine Wp.exit (sr (mv (ma (oN (Wp.ret (fin1_ret rfl (resOf_tmp (v := .string (S st)) rfl) ?_))))))
 refine ⟨h2, g4, ?_⟩
 exact (strv (by rw [hd, if_pos (by omega)]; rfl))
theorem rnumber_c {h : PH} {w : World} {l : List UInt8} (hs : Sat h w) (hp0 : l.length ≤ 20000) :
    Calls Tryd.prog 95 #[.string (S l)] w (Ret h w fun h' r => ∃ x1 x2, r = .tuple #[x1, x2] ∧ N h' x1 (numN l) ∧ x2 = .bool (isNum l)) := by
 refine calls_ear (vs := [.string (S l)]) Tryd.func95 rfl rfl ?_
 have g1 := Gr.refl hs
 refine sr (ma (ma (oN (sr (ma (oN (wS (sr (ma (oN (Wp.block (Wp.loop (σ := Nat × Option Addr × Nat) (fun s (ρ : Env) (w' : World) => match s with | (k, bS4, cS4) => ∃ ρb h', ρ = upds ρb [(0, .string (S l)), (4, .slice bS4 ((digs (readN (l.take k))).length) cS4), (5, .int .i64 ((k : Nat) : Int))] ∧ Gr h w h' w' ∧ PH.le h h' ∧ (k ≤ l.length) ∧ ((l.take k).all isDig = true) ∧ (N h' (.slice bS4 ((digs (readN (l.take k))).length) cS4) (readN (l.take k)))) (fun s => match s with | (k, bS4, cS4) => l.length - k) (0, none, 0) ?_ ?_))))))))))))
 exact ⟨_, h, named ⟨rfl, (nilN rfl), rfl, trivial⟩, g1, PH.le.refl _, (by omega), rfl, (Nnil' rfl)⟩
 rintro ⟨k, bS4, cS4⟩ ρ1 w1 ⟨ρ2, h1, rfl, g2, l1, hk, hall, hS4⟩
 have hsr := sz_readN hall
 rw [List.length_take] at hsr
 have hs10 := sz_small (n := 10) (by decide)
 have hsm := sz_mul (readN (l.take k)) 10
 have hbb := UInt8.toNat_lt (l.getD k 0)
 have hsc := sz_small (n := val [(l.getD k 0).toNat - 48]) (by rw [val_one]; omega)
 refine wS (sr (mv (mv (oC (OpW.lenSS (s := l) Tryd.underlying9 rfl ?_)))))
 refine oC (OpW.lss (a := ((k : Nat) : Int)) (b := ((l.length : Nat) : Int)) (r := decide (k < l.length)) rfl rfl (lt_nat (a := k) (b := l.length)) (oN (Wp.cond (t := decide (k < l.length)) rfl (fun c1 => ?_) (fun c1 => ?_))))
 replace c1 : k < l.length := (of_decide_eq_true c1)
 refine Wp.skip (wS (Wp.block (wS (sr (Ops.cut (fun ρ' w' => w1 = w' ∧ ∃ ρb, ρ' = upds ρb [(0, .string (S l)), (4, .slice bS4 ((digs (readN (l.take k))).length) cS4), (5, .int .i64 ((k : Nat) : Int)), (21, .bool ((decide ((l.getD k 0).toNat < 48)) || (decide (57 < (l.getD k 0).toNat))))]) ?_ ?_)))))
 refine mv (mv ?_)
 have hby1 : (l.getD k 0).toNat < 256 := UInt8.toNat_lt _
 refine oC (OpW.indexSS (s := l) (i := k) Tryd.underlying9 rfl rfl (by omega) ?_)
 refine oC (OpW.lss (a := (((l.getD k 0).toNat : Nat) : Int)) (b := ((48 : Nat) : Int)) (r := decide ((l.getD k 0).toNat < 48)) rfl rfl (lt_nat (a := (l.getD k 0).toNat) (b := 48)) (mv ?_))
 cases c2 : (decide ((l.getD k 0).toNat < 48))
 replace c2 : ¬ ((l.getD k 0).toNat < 48) := (of_decide_eq_false c2)
 refine oL rfl rfl rfl (OpW.move (v := .string (S l)) rfl ?_)
 refine oL rfl rfl rfl (OpW.move (v := .int .i64 ((k : Nat) : Int)) rfl ?_)
 have hby2 : (l.getD k 0).toNat < 256 := UInt8.toNat_lt _
 refine oL rfl rfl rfl (OpW.indexSS (s := l) (i := k) Tryd.underlying9 rfl rfl (by omega) ?_)
 refine oL rfl rfl rfl (OpW.gtr (a := (((l.getD k 0).toNat : Nat) : Int)) (b := ((57 : Nat) : Int)) (r := decide (57 < (l.getD k 0).toNat)) rfl rfl (lt_nat (a := 57) (b := (l.getD k 0).toNat)) ?_)
 refine oC (pF (v := .bool (decide (57 < (l.getD k 0).toNat))) rfl rfl (oN ?_))
 exact ⟨rfl, _, nm rfl⟩
 replace c2 : (l.getD k 0).toNat < 48 := (of_decide_eq_true c2)
 refine oD rfl rfl rfl rfl (oD rfl rfl rfl rfl (oD rfl rfl rfl rfl (oD rfl rfl rfl rfl (oC (pT (v := .bool true) rfl rfl (oN ?_))))))
 exact ⟨rfl, _, nm rfl⟩
 rintro ρ3 w2 ⟨rfl, ρ4, rfl⟩
 refine Wp.cond (t := (decide ((l.getD k 0).toNat < 48)) || (decide (57 < (l.getD k 0).toNat))) rfl (fun c3 => ?_) (fun c3 => ?_)
 replace c3 : ((l.getD k 0).toNat < 48) ∨ (57 < (l.getD k 0).toNat) := ((or_t c3).imp (fun h => (of_decide_eq_true h)) (fun h => (of_decide_eq_true h)))
 refine sr (ma (ma (oN (Wp.ret (fin2_ret rfl (resOf_tmp (v := .slice none 0 0) rfl) (resOf_tmp (v := .bool false) rfl) ?_)))))
 refine ⟨h1, g2, ?_⟩
 have hna := not_all (l := l) (k := k) (by omega) (by omega)
 exact ⟨_, _, rfl, N.cast (by unfold numN; rw [hna]; rfl) (Nnil _ none 0), boolv (by unfold isNum; rw [hna]; rfl)⟩
 replace c3 : ¬ (((l.getD k 0).toNat < 48) ∨ (57 < (l.getD k 0).toNat)) := (fun pq => pq.elim (of_decide_eq_false (or_l c3)) (of_decide_eq_false (or_r c3)))
 refine Wp.skip (Wp.dagL 12 [22, 23, 24, 25, 26, 27, 28, 29, 30, 31, 32, 4] [eqv (.slice bS4 ((digs (readN (l.take k))).length) cS4), fun h _ x => LR rpU h x ([10]), fun h _ x => N h x ((readN (l.take k)) * 10), eqv (.string (S l)), eqv (.int .i64 ((k : Nat) : Int)), eqv (.int .u8 (((l.getD k 0).toNat : Nat) : Int)), eqv (.int .u8 (((l.getD k 0).toNat - 48 : Nat) : Int)), eqv (.int .u32 (((l.getD k 0).toNat - 48 : Nat) : Int)), fun h _ x => LR rpU h x ([(l.getD k 0).toNat - 48]), fun h _ x => N h x (val ([(l.getD k 0).toNat - 48])), fun h _ x => N h x (((readN (l.take k)) * 10) + (val ([(l.getD k 0).toNat - 48]))), fun h _ x => N h x (((readN (l.take k)) * 10) + (val ([(l.getD k 0).toNat - 48])))] mixed g2.sat rfl (by decide +kernel) ⟨sQ _, (stab_LR rpU ([10])), (stab_N ((readN (l.take k)) * 10)), sQ _, sQ _, sQ _, sQ _, sQ _, (stab_LR rpU ([(l.getD k 0).toNat - 48])), (stab_N (val ([(l.getD k 0).toNat - 48]))), (stab_N (((readN (l.take k)) * 10) + (val ([(l.getD k 0).toNat - 48])))), (stab_N (((readN (l.take k)) * 10) + (val ([(l.getD k 0).toNat - 48])))), trivial⟩ ?_ ?_)
 intro stab
 refine ⟨?_, ?_, ?_, ?_, ?_, ?_, ?_, ?_, ?_, ?_, ?_, ?_, trivial⟩
 intro ρ5 h2 w3 g3 hdd1 hdo1
 have e1 : ρ5 4 = .slice bS4 ((digs (readN (l.take k))).length) cS4 := hdo1 4 rfl
 refine gP (OpW.move (v := .slice bS4 ((digs (readN (l.take k))).length) cS4) e1 ?_)
 exact ⟨_, h2, rfl, g3, fun j x _ p => p, rfl⟩
 intro ρ6 h3 w4 g4 hdd2 hdo2
 have g5 := g2.trans g4
 refine gP (OpW.buildSliceO (arr := #[.int .u32 ((10 : Nat) : Int)]) g5.sat Tryd.underlying22 Tryd.zeroValue51 Tryd.sizeOf51 rfl rfl ?_)
 intro b1 w5 gr1 n1 lo1 o1
 obtain ⟨h5, gr3, le1, qb1, fr1⟩ := freeze_ex gr1 o1 n1 lo1
 have q1 : LR rpU h5 (.slice (some ⟨b1, 0, none⟩) 1 1) ([10]) := LR.own' qb1 (css := [[.int .u32 ((10 : Nat) : Int)]]) rfl ((show Rows rpU h3 [[.int .u32 ((10 : Nat) : Int)]] [10] from (Rows.cons ⟨rfl, (by omega)⟩ Rows.nil)).mono gr3.le) rfl (Nat.le_refl _)
 exact ⟨_, h5, rfl, g4.trans gr3, fun j x _ => stab j _ _ _ _ x gr3, q1⟩
 intro ρ7 h6 w6 g6 hdd3 hdo3
 have e2 : ρ7 22 = .slice bS4 ((digs (readN (l.take k))).length) cS4 := hdd3 0 (by decide)
 have q2 : LR rpU h6 (ρ7 23) ([10]) := hdd3 1 (by decide)
 have g7 := g2.trans g6
 refine gP (cF Tryd.call93 (rtimes_c (a := readN (l.take k)) (b := 10) g7.sat (N.mono hS4 g6.le) (U.ofDigs (LU.toU q2) (digs_lit (by decide) (by decide))) (by omega) (by omega)) (cx e2 (cx rfl cxn)) ?_)
 intro r1 h7 w7 gr4 hr1
 exact ⟨r1, h7, rfl, g6.trans gr4, fun j x _ => stab j _ _ _ _ x gr4, hr1⟩
 intro ρ8 h8 w8 g8 hdd4 hdo4
 have e3 : ρ8 0 = .string (S l) := hdo4 0 rfl
 refine gP (OpW.move (v := .string (S l)) e3 ?_)
 exact ⟨_, h8, rfl, g8, fun j x _ p => p, rfl⟩
 intro ρ9 h9 w9 g9 hdd5 hdo5
 have e4 : ρ9 5 = .int .i64 ((k : Nat) : Int) := hdo5 5 rfl
 refine gP (OpW.move (v := .int .i64 ((k : Nat) : Int)) e4 ?_)
 exact ⟨_, h9, rfl, g9, fun j x _ p => p, rfl⟩
 intro ρ10 h10 w10 g10 hdd6 hdo6
 have e5 : ρ10 25 = .string (S l) := hdd6 3 (by decide)
 have e6 : ρ10 26 = .int .i64 ((k : Nat) : Int) := hdd6 4 (by decide)
 have hby3 : (l.getD k 0).toNat < 256 := UInt8.toNat_lt _
 refine gP (OpW.indexSS (s := l) (i := k) Tryd.underlying9 e5 e6 (by omega) ?_)
 exact ⟨_, h10, rfl, g10, fun j x _ p => p, rfl⟩
 intro ρ11 h11 w11 g11 hdd7 hdo7
 have e7 : ρ11 27 = .int .u8 (((l.getD k 0).toNat : Nat) : Int) := hdd7 5 (by decide)
 refine gP (OpW.sub (a := (((l.getD k 0).toNat : Nat) : Int)) (b := ((48 : Nat) : Int)) (r := (((l.getD k 0).toNat - 48 : Nat) : Int)) e7 rfl ((in_u8 (by omega)).trans (by omega)) ?_)
 exact ⟨_, h11, rfl, g11, fun j x _ p => p, rfl⟩
 intro ρ12 h12 w12 g12 hdd8 hdo8
 have e8 : ρ12 28 = .int .u8 (((l.getD k 0).toNat - 48 : Nat) : Int) := hdd8 6 (by decide)
 refine gP (OpW.convI (a := (((l.getD k 0).toNat - 48 : Nat) : Int)) (r := (((l.getD k 0).toNat - 48 : Nat) : Int)) Tryd.underlying5 Tryd.underlying51 e8 (conv_u32' (by omega)) ?_)
 exact ⟨_, h12, rfl, g12, fun j x _ p => p, rfl⟩
 intro ρ13 h13 w13 g13 hdd9 hdo9
 have e9 : ρ13 29 = .int .u32 (((l.getD k 0).toNat - 48 : Nat) : Int) := hdd9 7 (by decide)
 have g14 := g2.trans g13
 refine gP (OpW.buildSliceO (arr := #[.int .u32 (((l.getD k 0).toNat - 48 : Nat) : Int)]) g14.sat Tryd.underlying22 Tryd.zeroValue51 Tryd.sizeOf51 rfl (by show Instr.fill _ _ [(0, ρ13 29)] = _; rw [e9]; rfl) ?_)
 intro b2 w14 gr5 n2 lo2 o2
 obtain ⟨h15, gr7, le2, qb2, fr2⟩ := freeze_ex gr5 o2 n2 lo2
 have q3 : LR rpU h15 (.slice (some ⟨b2, 0, none⟩) 1 1) ([(l.getD k 0).toNat - 48]) := LR.own' qb2 (css := [[.int .u32 (((l.getD k 0).toNat - 48 : Nat) : Int)]]) rfl ((show Rows rpU h13 [[.int .u32 (((l.getD k 0).toNat - 48 : Nat) : Int)]] [(l.getD k 0).toNat - 48] from (Rows.cons ⟨rfl, (by omega)⟩ Rows.nil)).mono gr7.le) rfl (Nat.le_refl _)
 exact ⟨_, h15, rfl, g13.trans gr7, fun j x _ => stab j _ _ _ _ x gr7, q3⟩
 intro ρ14 h16 w15 g15 hdd10 hdo10
 have q4 : LR rpU h16 (ρ14 30) ([(l.getD k 0).toNat - 48]) := hdd10 8 (by decide)
 have g16 := g2.trans g15
 refine gP (cF Tryd.call76 (rtrim_c (l := [(l.getD k 0).toNat - 48]) g16.sat (LU.toU q4) (Nat.le_of_ble_eq_true rfl)) rfl ?_)
 intro r2 h17 w16 gr8 hr2
 exact ⟨r2, h17, rfl, g15.trans gr8, fun j x _ => stab j _ _ _ _ x gr8, hr2⟩
 intro ρ15 h18 w17 g17 hdd11 hdo11
 have q5 : N h18 (ρ15 24) ((readN (l.take k)) * 10) := hdd11 2 (by decide)
 have q6 : N h18 (ρ15 31) (val ([(l.getD k 0).toNat - 48])) := hdd11 9 (by decide)
 have g18 := g2.trans g17
 refine gP (cF Tryd.call96 (rplus_c (a := (readN (l.take k)) * 10) (b := val ([(l.getD k 0).toNat - 48])) g18.sat q5 q6 (by omega) (by omega)) rfl ?_)
 intro r3 h19 w18 gr9 hr3
 exact ⟨r3, h19, rfl, g17.trans gr9, fun j x _ => stab j _ _ _ _ x gr9, hr3⟩
 intro ρ16 h20 w19 g19 hdd12 hdo12
 have q7 : N h20 (ρ16 32) (((readN (l.take k)) * 10) + (val ([(l.getD k 0).toNat - 48]))) := hdd12 10 (by decide)
 refine gP (OpW.assign (v := (ρ16 32)) rfl ?_)
 exact ⟨_, h20, rfl, g19, fun j x _ p => p, q7⟩
 intro ρ17 h21 w20 g20 hdp1 hdo13
 have e10 : ρ17 0 = .string (S l) := hdo13 0 rfl
 have q8 : N h21 (ρ17 4) (((readN (l.take k)) * 10) + (val ([(l.getD k 0).toNat - 48]))) := hdp1 11 rfl
 obtain ⟨x3, hx1⟩ : ∃ x, ρ17 4 = x := ⟨_, rfl⟩
 rw [hx1] at q8
 obtain ⟨b3, c4, rfl, k1⟩ := N.shape q8
 have e11 : ρ17 5 = .int .i64 ((k : Nat) : Int) := hdo13 5 rfl
 refine Ops.forget [(0, .string (S l)), (4, .slice b3 ((digs (((readN (l.take k)) * 10) + (val ([(l.getD k 0).toNat - 48])))).length) c4), (5, .int .i64 ((k : Nat) : Int))] ⟨e10, hx1, e11, trivial⟩ (fun ρ18 => (oN (wR (mv (oC (OpW.add (a := ((k : Nat) : Int)) (b := ((1 : Nat) : Int)) (r := ((k + 1 : Nat) : Int)) rfl rfl (add_i64 (a := k) (b := 1) (by omega)) (ma (oN ?_))))))))
 have g21 := g2.trans g20
 exact ⟨(k + 1, b3, c4), ⟨_, h21, named ⟨rfl, (congrArg (fun t => Value.slice b3 (digs t).length c4) (by rw [readN_take (by omega), val_one])), rfl, trivial⟩, g21, (l1.trans g20.le), (by omega), (all_take_succ hall (by omega) (isDig_of (by omega) (by omega))), (N.recast (by rw [readN_take (by omega), val_one]) q8)⟩, (by dsimp only; omega)⟩
 replace c1 : ¬ (k < l.length) := (of_decide_eq_false c1)
 refine Wp.exit (sr (mv (mv (oC (OpW.lenSS (s := l) Tryd.underlying9 rfl ?_)))))
 refine oC (OpW.gtr (a := ((l.length : Nat) : Int)) (b := ((0 : Nat) : Int)) (r := decide (0 < l.length)) rfl rfl (lt_nat (a := 0) (b := l.length)) (ma (ma (oN (Wp.ret (fin2_ret rfl (resOf_tmp (v := .slice bS4 ((digs (readN (l.take k))).length) cS4) rfl) (resOf_tmp (v := .bool (decide (0 < l.length))) rfl) ?_))))))
 refine ⟨h1, g2, ?_⟩
 have hal := all_of_take (by omega) hall
 exact ⟨_, _, rfl, N.cast (by unfold numN; rw [hal, List.take_of_length_le (by omega)]; rfl) hS4, boolv (by unfold isNum; rw [hal]; rfl)⟩
theorem rdigitsU_c {h : PH} {w : World} {v0 : Value} {l : List Nat} (hs : Sat h w) (pv0 : U h v0 l) (hp0 : digs (val l) = l) (hp1 : sz (val l) ≤ 50000000) :
    Calls Tryd.prog 91 #[v0] w (Ret h w fun h' r => r = .string (S (decT (val l)))) := rdigits_c hs (show U h v0 (digs (val l)) from hp0.symm ▸ pv0) hp1
theorem rText_c {h : PH} {w : World} {v0 : Value} {a : Fr} (hs : Sat h w) (pv0 : F h v0 a) (hp0 : bf a ≤ 40000000) :
    Calls Tryd.prog 33 #[v0] w (Ret h w fun h' r => r = .string (S (textQ a.rat))) := by
 obtain ⟨b1, c1, b2, c2, rfl, k1, k2, u1, u2⟩ := F.shape pv0
 have hbq1 := F.bq pv0
 have hbn := bf_n a
 have hbd := bf_d a
 have hbp := bf_pos a
 have hq1 := bq_num a.rat
 have hl1 := decT_len a.rat.num.natAbs
 have hl2 := decT_len (val (frK a.rat).d)
 have hsd := frK_sd a.rat
 have hbk := bq_K a.rat
 refine calls_ear (vs := [.agg #[.bool a.neg, .slice b1 a.n.length c1, .slice b2 a.d.length c2]]) Tryd.func33 rfl rfl ?_
 have g1 := Gr.refl hs
 refine sr (oC (OpW.boxO (v := .agg #[.bool a.neg, .slice b1 a.n.length c1, .slice b2 a.d.length c2]) (arr := #[.bool a.neg, .slice b1 a.n.length c1, .slice b2 a.d.length c2]) g1.sat rfl rfl ?_))
 intro b3 w1 gr1 n1 lo1 o1
 have lo2 := Nat.le_trans g1.ext.size lo1
 refine ma (oN (sr (oC (lA (cs := [.bool a.neg, .slice b1 a.n.length c1, .slice b2 a.d.length c2]) Tryd.isAgg24 Tryd.sizeOf24 rfl o1 rfl rfl ?_))))
 have g2 := g1.trans gr1
 refine oC (cF Tryd.call34 (rCanon_c (a := a) g2.sat (F.mk u1 u2) (by omega)) rfl ?_)
 intro r1 h1 w2 gr2 hr1
 obtain ⟨b4, c3, b5, c4, rfl, k3, k4, u3, u4⟩ := F.shape hr1
 have o2 := gr2.kp ⟨o1, n1⟩
 refine oC (sA (cs := [.bool ((frK a.rat).neg), .slice b4 ((frK a.rat).n.length) c3, .slice b5 ((frK a.rat).d.length) c4]) Tryd.sizeOf24 rfl rfl rfl rfl o2.1 rfl ?_)
 intro w3 p1
 refine oN (sr (oC (fA (o := 1) Tryd.underlying24 rfl Tryd.sizeOf22 (by decide) rfl rfl ?_)))
 refine oC (lO (v := .slice b4 ((frK a.rat).n.length) c3) Tryd.isAgg22 rfl p1.at_ rfl ?_)
 have g3 := (g2.trans gr2).put p1 o2.2 lo2
 refine oC (cF Tryd.call91 (rdigits_c (a := a.rat.num.natAbs) g3.sat u3 (by omega)) rfl ?_)
 intro r2 h2 w4 gr3 hr2
 subst hr2
 refine ma (oN (wS (sr (oC (fA (o := 0) Tryd.underlying24 rfl Tryd.sizeOf4 (by decide) rfl rfl ?_)))))
 have o4 := gr3.kp ⟨p1.at_, o2.2⟩
 refine oC (lO (v := .bool ((frK a.rat).neg)) Tryd.isAgg4 rfl o4.1 rfl (oN (Wp.cond (t := (frK a.rat).neg) rfl (fun c5 => ?_) (fun c5 => ?_))))
 replace c5 : ((frK a.rat).neg) = true := c5
 refine fg [(1, .pointer (some ⟨b3, 0, none⟩)), (3, .string (S (decT a.rat.num.natAbs)))] rfl (fun ρ1 => (wR (mv (oC (OpW.catSS (a := ([45] : List UInt8)) (b := decT a.rat.num.natAbs) rfl rfl (by first | omega | (simp only [List.length_cons, List.length_nil]; omega) | (simp only [List.length_append, List.length_cons, List.length_nil, List.length_replicate, List.length_drop, List.length_take]; omega)) (ma (oN (wS (sr (oC (fA (o := 2) Tryd.underlying24 rfl Tryd.sizeOf22 (by decide) rfl rfl ?_)))))))))))
 refine oC (lO (v := .slice b5 ((frK a.rat).d.length) c4) Tryd.isAgg22 rfl o4.1 rfl ?_)
 refine oC (OpW.lenS Tryd.underlying22 (l := (frK a.rat).d.length) rfl ?_)
 refine oC (OpW.gtr (a := (((frK a.rat).d.length : Nat) : Int)) (b := ((0 : Nat) : Int)) (r := decide (0 < (frK a.rat).d.length)) rfl rfl (lt_nat (a := 0) (b := (frK a.rat).d.length)) (oN (Wp.cond (t := decide (0 < (frK a.rat).d.length)) rfl (fun c6 => ?_) (fun c6 => ?_))))
 replace c6 : 0 < (frK a.rat).d.length := (of_decide_eq_true c6)
 refine wR (mv (oC (OpW.catSS (a := ([45] : List UInt8) ++ (decT a.rat.num.natAbs)) (b := ([47] : List UInt8)) rfl rfl (by first | omega | (simp only [List.length_cons, List.length_nil]; omega) | (simp only [List.length_append, List.length_cons, List.length_nil, List.length_replicate, List.length_drop, List.length_take]; omega)) ?_)))
 refine oC (fA (o := 2) Tryd.underlying24 rfl Tryd.sizeOf22 (by decide) rfl rfl ?_)
 refine oC (lO (v := .slice b5 ((frK a.rat).d.length) c4) Tryd.isAgg22 rfl o4.1 rfl ?_)
 have g4 := g3.trans gr3
 refine oC (cF Tryd.call91 (rdigitsU_c (l := (frK a.rat).d) g4.sat (U.mono u4 gr3.le) (frK_dd _) (by omega)) rfl ?_)
 intro r3 h3 w5 gr4 hr3
 subst hr3
 refine oC (OpW.catSS (a := (([45] : List UInt8) ++ (decT a.rat.num.natAbs)) ++ ([47] : List UInt8)) (b := decT (val ((frK a.rat).d))) rfl rfl (by first | omega | (simp only [List.length_cons, List.length_nil]; omega) | (simp only [List.length_append, List.length_cons, List.length_nil, List.length_replicate, List.length_drop, List.length_take]; omega)) (ma (oN (wS (fg [(3, .string (S (((([45] : List UInt8) ++ (decT a.rat.num.natAbs)) ++ ([47] : List UInt8)) ++ (decT (val ((frK a.rat).d))))))] rfl (fun ρ2 => (wR (mv (ma (oN (Wp.ret (fin1_ret rfl (resOf_tmp (v := .string (S (((([45] : List UInt8) ++ (decT a.rat.num.natAbs)) ++ ([47] : List UInt8)) ++ (decT (val ((frK a.rat).d)))))) rfl) ?_))))))))))))
 have g5 := g4.trans gr4
 refine ⟨h3, g5, ?_⟩
 exact (strv (by rw [textQ_frK]; (first | rw [if_pos (by assumption), if_pos (by assumption)] | rw [if_pos (by assumption), if_neg (by assumption)] | rw [if_neg (by assumption), if_pos (by assumption)] | rw [if_neg (by assumption), if_neg (by assumption)]) <;> simp))
 replace c6 : ¬ (0 < (frK a.rat).d.length) := (of_decide_eq_false c6)
 refine Wp.skip (sr (mv (ma (oN (Wp.ret (fin1_ret rfl (resOf_tmp (v := .string (S (([45] : List UInt8) ++ (decT a.rat.num.natAbs)))) rfl) ?_))))))
 have g6 := g3.trans gr3
 refine ⟨h2, g6, ?_⟩
 exact (strv (by rw [textQ_frK]; (first | rw [if_pos (by assumption), if_pos (by assumption)] | rw [if_pos (by assumption), if_neg (by assumption)] | rw [if_neg (by assumption), if_pos (by assumption)] | rw [if_neg (by assumption), if_neg (by assumption)]) <;> simp))
 replace c5 : ¬ (((frK a.rat).neg) = true) := (raw_f c5)
 refine Wp.skip (wS (wS (fg [(1, .pointer (some ⟨b3, 0, none⟩)), (3, .string (S (decT a.rat.num.natAbs)))] rfl (fun ρ3 => (wR (oC (fA (o := 2) Tryd.underlying24 rfl Tryd.sizeOf22 (by decide) rfl rfl ?_)))))))
 refine oC (lO (v := .slice b5 ((frK a.rat).d.length) c4) Tryd.isAgg22 rfl o4.1 rfl ?_)
 refine oC (OpW.lenS Tryd.underlying22 (l := (frK a.rat).d.length) rfl ?_)
 refine oC (OpW.gtr (a := (((frK a.rat).d.length : Nat) : Int)) (b := ((0 : Nat) : Int)) (r := decide (0 < (frK a.rat).d.length)) rfl rfl (lt_nat (a := 0) (b := (frK a.rat).d.length)) (oN (Wp.cond (t := decide (0 < (frK a.rat).d.length)) rfl (fun c7 => ?_) (fun c7 => ?_))))
 replace c7 : 0 < (frK a.rat).d.length := (of_decide_eq_true c7)
 refine wR (mv (oC (OpW.catSS (a := decT a.rat.num.natAbs) (b := ([47] : List UInt8)) rfl rfl (by first | omega | (simp only [List.length_cons, List.length_nil]; omega) | (simp only [List.length_append, List.length_cons, List.length_nil, List.length_replicate, List.length_drop, List.length_take]; omega)) ?_)))
 refine oC (fA (o := 2) Tryd.underlying24 rfl Tryd.sizeOf22 (by decide) rfl rfl ?_)
 refine oC (lO (v := .slice b5 ((frK a.rat).d.length) c4) Tryd.isAgg22 rfl o4.1 rfl ?_)
 have g7 := g3.trans gr3
 refine oC (cF Tryd.call91 (rdigitsU_c (l := (frK a.rat).d) g7.sat (U.mono u4 gr3.le) (frK_dd _) (by omega)) rfl ?_)
 intro r4 h4 w6 gr5 hr4
 subst hr4
 refine oC (OpW.catSS (a := (decT a.rat.num.natAbs) ++ ([47] : List UInt8)) (b := decT (val ((frK a.rat).d))) rfl rfl (by first | omega | (simp only [List.length_cons, List.length_nil]; omega) | (simp only [List.length_append, List.length_cons, List.length_nil, List.length_replicate, List.length_drop, List.length_take]; omega)) (ma (oN (wS (fg [(3, .string (S (((decT a.rat.num.natAbs) ++ ([47] : List UInt8)) ++ (decT (val ((frK a.rat).d))))))] rfl (fun ρ4 => (wR (mv (ma (oN (Wp.ret (fin1_ret rfl (resOf_tmp (v := .string (S (((decT a.rat.num.natAbs) ++ ([47] : List UInt8)) ++ (decT (val ((frK a.rat).d)))))) rfl) ?_))))))))))))
 have g8 := g7.trans gr5
 refine ⟨h4, g8, ?_⟩
 exact (strv (by rw [textQ_frK]; (first | rw [if_pos (by assumption), if_pos (by assumption)] | rw [if_pos (by assumption), if_neg (by assumption)] | rw [if_neg (by assumption), if_pos (by assumption)] | rw [if_neg (by assumption), if_neg (by assumption)]) <;> simp))
 replace c7 : ¬ (0 < (frK a.rat).d.length) := (of_decide_eq_false c7)
 refine Wp.skip (sr (mv (ma (oN (Wp.ret (fin1_ret rfl (resOf_tmp (v := .string (S (decT a.rat.num.natAbs))) rfl) ?_))))))
 have g9 := g3.trans gr3
 refine ⟨h2, g9, ?_⟩
 exact (strv (by rw [textQ_frK]; (first | rw [if_pos (by assumption), if_pos (by assumption)] | rw [if_pos (by assumption), if_neg (by assumption)] | rw [if_neg (by assumption), if_pos (by assumption)] | rw [if_neg (by assumption), if_neg (by assumption)]) <;> simp))
theorem rdigitsE_c {h : PH} {w : World} {v0 : Value} {l : List Nat} {n : Nat} (hs : Sat h w) (pv0 : U h v0 l) (hp0 : digs n = l) (hp1 : sz n ≤ 50000000) :
    Calls Tryd.prog 91 #[v0] w (Ret h w fun h' r => r = .string (S (decT n))) := rdigits_c hs (show U h v0 (digs n) from hp0.symm ▸ pv0) hp1
theorem rDecimal_c {h : PH} {w : World} {v0 : Value} {a : Fr} {pn : Nat} (hs : Sat h w) (pv0 : F h v0 a) (hp0 : bf a ≤ 1000) (hp1 : pn ≤ 1000) :
    Calls Tryd.prog 36 #[v0, .int .i64 ((pn : Nat) : Int)] w (Ret h w fun h' r => r = .string (S (decimalQ a.rat ((pn : Nat) : Int)))) := by
 obtain ⟨b1, c1, b2, c2, rfl, k1, k2, u1, u2⟩ := F.shape pv0
 have hbq1 := F.bq pv0
 have hbn := bf_n a
 have hbd := bf_d a
 have hbp := bf_pos a
 have hq1 := bq_num a.rat
 have hq2 := bq_den a.rat
 have hdz := a.rat.den_nz
 have h10 := sz_small (n := 10) (by decide)
 have h2 := sz_small (n := 2) (by decide)
 have hsp := sz_pow 10 pn
 have hpm := Nat.mul_le_mul_left pn h10
 have hs1 := sz_mul a.rat.num.natAbs (10 ^ pn)
 have hs2 := sz_mul (a.rat.num.natAbs * 10 ^ pn) 2
 have hs3 := sz_add (a.rat.num.natAbs * 10 ^ pn * 2) a.rat.den
 have hs4 := sz_mul a.rat.den 2
 have hs5 := sz_mono (Nat.div_le_self (a.rat.num.natAbs * 10 ^ pn * 2 + a.rat.den) (a.rat.den * 2))
 have hdl := decT_len (decN a.rat pn)
 have hsn : sz (decN a.rat pn) ≤ 300000 := by unfold decN; omega
 have hbt := bq_intc (n := ((10 : Nat) : Int)) (by decide) (by decide)
 have hbk := bq_K a.rat
 have hbfm : bf (Fr.mk false (frK a.rat).n (frK a.rat).d) = bq a.rat := bf_frK a.rat
 have hbp := bq_powR10 pn
 have hb12 := bq_quo (n := ((1 : Nat) : Int)) (d := ((2 : Nat) : Int)) (by decide) (by decide) (by decide) (by decide)
 have hnn := frK_natn (decN a.rat pn)
 have hba := bq_abs a.rat
 have hbm := bq_mul (Fr.mk false (frK a.rat).n (frK a.rat).d).rat (powR (((10 : Nat) : Int) : Rat) ((pn : Nat) : Int))
 have hbs := bq_add ((Fr.mk false (frK a.rat).n (frK a.rat).d).rat * powR (((10 : Nat) : Int) : Rat) ((pn : Nat) : Int)) ((((1 : Nat) : Int) : Rat) / (((2 : Nat) : Int) : Rat))
 refine calls_ear (vs := [.agg #[.bool a.neg, .slice b1 a.n.length c1, .slice b2 a.d.length c2], .int .i64 ((pn : Nat) : Int)]) Tryd.func36 rfl rfl ?_
 have g1 := Gr.refl hs
 refine sr (oC (OpW.boxK (v := .agg #[.bool a.neg, .slice b1 a.n.length c1, .slice b2 a.d.length c2]) (arr := #[.bool a.neg, .slice b1 a.n.length c1, .slice b2 a.d.length c2]) g1.sat rfl rfl ?_))
 intro b3 h1 w1 gr1 qb1
 refine ma (oN (sr ?_))
 have g2 := g1.trans gr1
 refine oC (cF Tryd.call38 (rOf_c (n := ((10 : Nat) : Int)) g2.sat  (by omega) (by omega)) rfl ?_)
 intro r1 h2 w2 gr2 hr1
 obtain ⟨b4, c3, b5, c4, rfl, k3, k4, u3, u4⟩ := F.shape hr1
 refine mv ?_
 have g3 := g2.trans gr2
 refine oC (cF Tryd.call24 (rPow_c (a := frK ((((10 : Nat) : Int) : Int) : Rat)) (n := ((pn : Nat) : Int)) g3.sat hr1 (by first | omega | (simp only [bf_frK, frK_rat, wts_cons, wts_nil]; omega)) (by omega) (by omega) (by omega)) rfl ?_)
 intro r2 h3 w3 gr3 hr2
 simp only [frK_rat, bf_frK, val_digs] at hr2
 obtain ⟨b6, c5, b7, c6, rfl, k5, k6, u5, u6⟩ := F.shape hr2
 have g4 := g3.trans gr3
 refine oC (OpW.allocO (arr := #[.bool false, .slice none 0 0, .slice none 0 0]) g4.sat Tryd.zeroValue24 rfl ?_)
 intro b8 w4 gr4 n1 lo1 o1
 have lo2 := Nat.le_trans g4.ext.size lo1
 refine oC (sA (cs := [.bool ((frK (powR ((((10 : Nat) : Int) : Int) : Rat) ((pn : Nat) : Int))).neg), .slice b6 ((frK (powR ((((10 : Nat) : Int) : Int) : Rat) ((pn : Nat) : Int))).n.length) c5, .slice b7 ((frK (powR ((((10 : Nat) : Int) : Int) : Rat) ((pn : Nat) : Int))).d.length) c6]) Tryd.sizeOf24 rfl rfl rfl rfl o1 rfl ?_)
 intro w5 p1
 refine oN (sr ?_)
 have g5 := (g4.trans gr4).put p1 n1 lo2
 refine oC (lA (cs := [.bool a.neg, .slice b1 a.n.length c1, .slice b2 a.d.length c2]) Tryd.isAgg24 Tryd.sizeOf24 rfl (g5.sat _ _ ((gr2.le.trans gr3.le) _ _ qb1)) rfl rfl ?_)
 refine oC (cF Tryd.call34 (rCanon_c (a := a) g5.sat (F.mk (U.mono u1 ((gr1.le.trans gr2.le).trans gr3.le)) (U.mono u2 ((gr1.le.trans gr2.le).trans gr3.le))) (by omega)) rfl ?_)
 intro r3 h4 w6 gr5 hr3
 obtain ⟨b9, c7, b10, c8, rfl, k7, k8, u7, u8⟩ := F.shape hr3
 have g6 := g5.trans gr5
 have o4 := gr5.kp ⟨p1.at_, n1⟩
 have lt1 := blk_lt o4.1
 refine oC (OpW.allocO (arr := #[.bool false, .slice none 0 0, .slice none 0 0]) g6.sat Tryd.zeroValue24 rfl ?_)
 intro b11 w7 gr6 n2 lo3 o3
 have lo4 := Nat.le_trans g6.ext.size lo3
 have ne1 : b8 ≠ b11 := Nat.ne_of_lt (Nat.lt_of_lt_of_le lt1 lo3)
 refine oC (sA (cs := [.bool ((frK a.rat).neg), .slice b9 ((frK a.rat).n.length) c7, .slice b10 ((frK a.rat).d.length) c8]) Tryd.sizeOf24 rfl rfl rfl rfl o3 rfl ?_)
 intro w8 p2
 refine oN (wS (fg [(1, .int .i64 ((pn : Nat) : Int)), (2, .pointer (some ⟨b3, 0, none⟩)), (5, .pointer (some ⟨b8, 0, none⟩)), (6, .pointer (some ⟨b11, 0, none⟩))] rfl (fun ρ1 => (wR (oC (fA (o := 0) Tryd.underlying24 rfl Tryd.sizeOf4 (by decide) rfl rfl ?_))))))
 refine oC (s1 (v := .bool false) Tryd.sizeOf4 rfl rfl rfl p2.at_ rfl ?_)
 intro w9 p3
 refine oN (sr (oC (lA (cs := [.bool false, .slice b9 ((frK a.rat).n.length) c7, .slice b10 ((frK a.rat).d.length) c8]) Tryd.isAgg24 Tryd.sizeOf24 rfl p3.at_ rfl rfl ?_)))
 have o7 := p3.kp ne1 (p2.kp ne1 (gr6.kp o4))
 refine oC (lA (cs := [.bool ((frK (powR ((((10 : Nat) : Int) : Int) : Rat) ((pn : Nat) : Int))).neg), .slice b6 ((frK (powR ((((10 : Nat) : Int) : Int) : Rat) ((pn : Nat) : Int))).n.length) c5, .slice b7 ((frK (powR ((((10 : Nat) : Int) : Int) : Rat) ((pn : Nat) : Int))).d.length) c6]) Tryd.isAgg24 Tryd.sizeOf24 rfl o7.1 rfl rfl ?_)
 have g7 := ((g6.trans gr6).put p2 n2 lo4).put p3 n2 lo4
 refine oC (cF Tryd.call37 (rMul_c (a := Fr.mk false ((frK a.rat).n) ((frK a.rat).d)) (b := frK (powR ((((10 : Nat) : Int) : Int) : Rat) ((pn : Nat) : Int))) g7.sat (F.mk u7 u8) (F.mk (U.mono u5 gr5.le) (U.mono u6 gr5.le)) (by first | omega | (simp only [bf_frK, frK_rat, wts_cons, wts_nil]; omega))) rfl ?_)
 intro r4 h5 w10 gr7 hr4
 have hf1 := bq_mul (Fr.mk false ((frK a.rat).n) ((frK a.rat).d)).rat (powR ((((10 : Nat) : Int) : Int) : Rat) ((pn : Nat) : Int))
 simp only [frK_rat, bf_frK, val_digs] at hr4
 obtain ⟨b12, c9, b13, c10, rfl, k9, k10, u9, u10⟩ := F.shape hr4
 have g8 := g7.trans gr7
 refine oC (cF Tryd.call30 (rMake_c (n := ((1 : Nat) : Int)) (d := ((2 : Nat) : Int)) g8.sat  (by omega) (by omega) (by omega) (by omega) (by omega)) rfl ?_)
 intro r5 h6 w11 gr8 hr5
 obtain ⟨b14, c11, b15, c12, rfl, k11, k12, u11, u12⟩ := F.shape hr5
 have g9 := g8.trans gr8
 refine oC (cF Tryd.call43 (rAdd_c (a := frK ((Fr.mk false ((frK a.rat).n) ((frK a.rat).d)).rat * (powR ((((10 : Nat) : Int) : Int) : Rat) ((pn : Nat) : Int)))) (b := frK (((((1 : Nat) : Int) : Int) : Rat) / ((((2 : Nat) : Int) : Int) : Rat))) g9.sat (F.mono hr4 gr8.le) hr5 (by first | omega | (simp only [bf_frK, frK_rat, wts_cons, wts_nil]; omega))) rfl ?_)
 intro r6 h7 w12 gr9 hr6
 have hf2 := bq_add ((Fr.mk false ((frK a.rat).n) ((frK a.rat).d)).rat * (powR ((((10 : Nat) : Int) : Int) : Rat) ((pn : Nat) : Int))) (((((1 : Nat) : Int) : Int) : Rat) / ((((2 : Nat) : Int) : Int) : Rat))
 simp only [frK_rat, bf_frK, val_digs] at hr6
 obtain ⟨b16, c13, b17, c14, rfl, k13, k14, u13, u14⟩ := F.shape hr6
 have g10 := g9.trans gr9
 refine oC (cF Tryd.call61 (rDown_c (a := frK (((Fr.mk false ((frK a.rat).n) ((frK a.rat).d)).rat * (powR ((((10 : Nat) : Int) : Int) : Rat) ((pn : Nat) : Int))) + (((((1 : Nat) : Int) : Int) : Rat) / ((((2 : Nat) : Int) : Int) : Rat)))) g10.sat hr6 (by first | omega | (simp only [bf_frK, frK_rat, wts_cons, wts_nil]; omega))) rfl ?_)
 intro r7 h8 w13 gr10 hr7
 simp only [frK_rat, bf_frK, val_digs] at hr7
 replace hr7 := Kn.cast (congrArg (fun z : Int => (z : Rat)) (dec_down a.rat pn)) hr7
 obtain ⟨b18, c15, b19, c16, rfl, k15, k16, u15, u16⟩ := F.shape hr7
 have g11 := g10.trans gr10
 have o9 := gr10.kp (gr9.kp (gr8.kp (gr7.kp o7)))
 have lt2 := blk_lt o9.1
 have o10 := gr10.kp (gr9.kp (gr8.kp (gr7.kp ⟨p3.at_, n2⟩)))
 have lt3 := blk_lt o10.1
 refine oC (OpW.allocO (arr := #[.bool false, .slice none 0 0, .slice none 0 0]) g11.sat Tryd.zeroValue24 rfl ?_)
 intro b20 w14 gr11 n3 lo5 o8
 have lo6 := Nat.le_trans g11.ext.size lo5
 have ne2 : b8 ≠ b20 := Nat.ne_of_lt (Nat.lt_of_lt_of_le lt2 lo5)
 have ne3 : b11 ≠ b20 := Nat.ne_of_lt (Nat.lt_of_lt_of_le lt3 lo5)
 refine oC (sA (cs := [.bool ((frK (((decN a.rat pn : Nat) : Int) : Rat)).neg), .slice b18 ((frK (((decN a.rat pn : Nat) : Int) : Rat)).n.length) c15, .slice b19 ((frK (((decN a.rat pn : Nat) : Int) : Rat)).d.length) c16]) Tryd.sizeOf24 rfl rfl rfl rfl o8 rfl ?_)
 intro w15 p4
 refine oN (wS (fg [(1, .int .i64 ((pn : Nat) : Int)), (2, .pointer (some ⟨b3, 0, none⟩)), (7, .pointer (some ⟨b20, 0, none⟩))] rfl (fun ρ2 => (wR (oC (fA (o := 1) Tryd.underlying24 rfl Tryd.sizeOf22 (by decide) rfl rfl ?_))))))
 refine oC (lO (v := .slice b18 ((frK (((decN a.rat pn : Nat) : Int) : Rat)).n.length) c15) Tryd.isAgg22 rfl p4.at_ rfl ?_)
 have g12 := (g11.trans gr11).put p4 n3 lo6
 refine oC (cF Tryd.call91 (rdigitsE_c (l := (frK (((decN a.rat pn : Nat) : Int) : Rat)).n) (n := decN a.rat pn) g12.sat u15 hnn.symm (by omega)) rfl ?_)
 intro r8 h9 w16 gr12 hr8
 subst hr8
 refine ma (oN (wS (Wp.block ?_)))
 have g13 := g12.trans gr12
 have o12 := gr12.kp (p4.kp ne2 (gr11.kp o9))
 have o13 := gr12.kp (p4.kp ne3 (gr11.kp o10))
 have o14 := gr12.kp ⟨p4.at_, n3⟩
 refine Wp.loop (σ := Nat) (fun (j : Nat) (ρ : Env) (w' : World) => ∃ ρb h', ρ = upds ρb [(1, .int .i64 ((pn : Nat) : Int)), (2, .pointer (some ⟨b3, 0, none⟩)), (7, .pointer (some ⟨b20, 0, none⟩)), (8, .string (S (List.replicate j (48 : UInt8) ++ decT (decN a.rat pn))))] ∧ Gr h w h' w' ∧ PH.le h9 h' ∧ w'.heap[b8]? = some (.cells #[.bool ((frK (powR ((((10 : Nat) : Int) : Int) : Rat) ((pn : Nat) : Int))).neg), .slice b6 ((frK (powR ((((10 : Nat) : Int) : Int) : Rat) ((pn : Nat) : Int))).n.length) c5, .slice b7 ((frK (powR ((((10 : Nat) : Int) : Int) : Rat) ((pn : Nat) : Int))).d.length) c6] 24 (0, 0)) ∧ h' b8 = none ∧ w'.heap[b11]? = some (.cells #[.bool false, .slice b9 ((frK a.rat).n.length) c7, .slice b10 ((frK a.rat).d.length) c8] 24 (0, 0)) ∧ h' b11 = none ∧ w'.heap[b20]? = some (.cells #[.bool ((frK (((decN a.rat pn : Nat) : Int) : Rat)).neg), .slice b18 ((frK (((decN a.rat pn : Nat) : Int) : Rat)).n.length) c15, .slice b19 ((frK (((decN a.rat pn : Nat) : Int) : Rat)).d.length) c16] 24 (0, 0)) ∧ h' b20 = none ∧ (j = 0 ∨ j + (decT (decN a.rat pn)).length ≤ pn + 1)) (fun (j : Nat) => pn + 1 - j) 0 ?_ ?_
 exact ⟨_, h9, nm rfl, g13, PH.le.refl _, o12.1, o12.2, o13.1, o13.2, o14.1, o14.2, (by omega)⟩
 rintro j ρ3 w17 ⟨ρ4, h10, rfl, g14, l1, o15, n4, o16, n5, o17, n6, hj⟩
 have hrl : ((List.replicate j (48 : UInt8) ++ decT (decN a.rat pn)) : List UInt8).length = j + (decT (decN a.rat pn)).length := by simp
 refine wS (sr (mv (oC (OpW.lenSS (s := (List.replicate j (48 : UInt8) ++ decT (decN a.rat pn))) Tryd.underlying9 rfl (mv (oC (OpW.leq (a := (((List.replicate j (48 : UInt8) ++ decT (decN a.rat pn)).length : Nat) : Int)) (b := ((pn : Nat) : Int)) (r := decide ((List.replicate j (48 : UInt8) ++ decT (decN a.rat pn)).length ≤ pn)) rfl rfl (le_nat (a := (List.replicate j (48 : UInt8) ++ decT (decN a.rat pn)).length) (b := pn)) (oN (Wp.cond (t := decide ((List.replicate j (48 : UInt8) ++ decT (decN a.rat pn)).length ≤ pn)) rfl (fun c17 => ?_) (fun c17 => ?_))))))))))
 replace c17 : (List.replicate j (48 : UInt8) ++ decT (decN a.rat pn)).length ≤ pn := (of_decide_eq_true c17)
 refine Wp.skip (Wp.block (wR (mv (oC (OpW.catSS (a := ([48] : List UInt8)) (b := (List.replicate j (48 : UInt8) ++ decT (decN a.rat pn))) rfl rfl (by first | omega | (simp only [List.length_cons, List.length_nil]; omega) | (simp only [List.length_append, List.length_cons, List.length_nil, List.length_replicate, List.length_drop, List.length_take]; omega)) (ma (oN ?_)))))))
 exact ⟨(j + 1), ⟨_, h10, nm rfl, g14, l1, o15, n4, o16, n5, o17, n6, (by omega)⟩, (by omega)⟩
 replace c17 : ¬ ((List.replicate j (48 : UInt8) ++ decT (decN a.rat pn)).length ≤ pn) := (of_decide_eq_false c17)
 have hpt : (List.replicate j (48 : UInt8) ++ decT (decN a.rat pn)) = padT pn (decT (decN a.rat pn)) := by
   unfold padT
   rw [show j = pn + 1 - (decT (decN a.rat pn)).length by omega]
 refine Wp.exit (wS (sr (mv (oC (OpW.gtr (a := ((pn : Nat) : Int)) (b := ((0 : Nat) : Int)) (r := decide (0 < pn)) rfl rfl (lt_nat (a := 0) (b := pn)) (oN (Wp.cond (t := decide (0 < pn)) rfl (fun c18 => ?_) (fun c18 => ?_))))))))
 replace c18 : 0 < pn := (of_decide_eq_true c18)
 refine Wp.dagL 15 [32, 33, 34, 35, 36, 37, 38, 39, 40, 41, 42, 43, 44, 45, 8] [eqv (.string (S (List.replicate j (48 : UInt8) ++ decT (decN a.rat pn)))), eqv (.string (S (List.replicate j (48 : UInt8) ++ decT (decN a.rat pn)))), eqv (.int .i64 (((List.replicate j (48 : UInt8) ++ decT (decN a.rat pn)).length : Nat) : Int)), eqv (.int .i64 ((pn : Nat) : Int)), eqv (.int .i64 (((List.replicate j (48 : UInt8) ++ decT (decN a.rat pn)).length - pn : Nat) : Int)), eqv (.string (S ((List.replicate j (48 : UInt8) ++ decT (decN a.rat pn)).take ((List.replicate j (48 : UInt8) ++ decT (decN a.rat pn)).length - pn)))), eqv (.string (S (((List.replicate j (48 : UInt8) ++ decT (decN a.rat pn)).take ((List.replicate j (48 : UInt8) ++ decT (decN a.rat pn)).length - pn)) ++ ([46] : List UInt8)))), eqv (.string (S (List.replicate j (48 : UInt8) ++ decT (decN a.rat pn)))), eqv (.string (S (List.replicate j (48 : UInt8) ++ decT (decN a.rat pn)))), eqv (.int .i64 (((List.replicate j (48 : UInt8) ++ decT (decN a.rat pn)).length : Nat) : Int)), eqv (.int .i64 ((pn : Nat) : Int)), eqv (.int .i64 (((List.replicate j (48 : UInt8) ++ decT (decN a.rat pn)).length - pn : Nat) : Int)), eqv (.string (S ((List.replicate j (48 : UInt8) ++ decT (decN a.rat pn)).drop ((List.replicate j (48 : UInt8) ++ decT (decN a.rat pn)).length - pn)))), eqv (.string (S ((((List.replicate j (48 : UInt8) ++ decT (decN a.rat pn)).take ((List.replicate j (48 : UInt8) ++ decT (decN a.rat pn)).length - pn)) ++ ([46] : List UInt8)) ++ ((List.replicate j (48 : UInt8) ++ decT (decN a.rat pn)).drop ((List.replicate j (48 : UInt8) ++ decT (decN a.rat pn)).length - pn))))), eqv (.string (S ((((List.replicate j (48 : UInt8) ++ decT (decN a.rat pn)).take ((List.replicate j (48 : UInt8) ++ decT (decN a.rat pn)).length - pn)) ++ ([46] : List UInt8)) ++ ((List.replicate j (48 : UInt8) ++ decT (decN a.rat pn)).drop ((List.replicate j (48 : UInt8) ++ decT (decN a.rat pn)).length - pn)))))] mixed g14.sat rfl (by decide +kernel) ⟨sQ _, sQ _, sQ _, sQ _, sQ _, sQ _, sQ _, sQ _, sQ _, sQ _, sQ _, sQ _, sQ _, sQ _, sQ _, trivial⟩ ?_ ?_
 intro stab
 refine ⟨?_, ?_, ?_, ?_, ?_, ?_, ?_, ?_, ?_, ?_, ?_, ?_, ?_, ?_, ?_, trivial⟩
 intro ρ5 h11 w18 g15 hdd1 hdo1
 have e1 : ρ5 8 = .string (S (List.replicate j (48 : UInt8) ++ decT (decN a.rat pn))) := hdo1 8 rfl
 refine gP (OpW.move (v := .string (S (List.replicate j (48 : UInt8) ++ decT (decN a.rat pn)))) e1 ?_)
 exact ⟨_, h11, rfl, g15, fun j x _ p => p, rfl⟩
 intro ρ6 h12 w19 g16 hdd2 hdo2
 have e2 : ρ6 8 = .string (S (List.replicate j (48 : UInt8) ++ decT (decN a.rat pn))) := hdo2 8 rfl
 refine gP (OpW.move (v := .string (S (List.replicate j (48 : UInt8) ++ decT (decN a.rat pn)))) e2 ?_)
 exact ⟨_, h12, rfl, g16, fun j x _ p => p, rfl⟩
 intro ρ7 h13 w20 g17 hdd3 hdo3
 have e3 : ρ7 33 = .string (S (List.replicate j (48 : UInt8) ++ decT (decN a.rat pn))) := hdd3 1 (by decide)
 refine gP (OpW.lenSS (s := (List.replicate j (48 : UInt8) ++ decT (decN a.rat pn))) Tryd.underlying9 e3 ?_)
 exact ⟨_, h13, rfl, g17, fun j x _ p => p, rfl⟩
 intro ρ8 h14 w21 g18 hdd4 hdo4
 have e4 : ρ8 1 = .int .i64 ((pn : Nat) : Int) := hdo4 1 rfl
 refine gP (OpW.move (v := .int .i64 ((pn : Nat) : Int)) e4 ?_)
 exact ⟨_, h14, rfl, g18, fun j x _ p => p, rfl⟩
 intro ρ9 h15 w22 g19 hdd5 hdo5
 have e5 : ρ9 34 = .int .i64 (((List.replicate j (48 : UInt8) ++ decT (decN a.rat pn)).length : Nat) : Int) := hdd5 2 (by decide)
 have e6 : ρ9 35 = .int .i64 ((pn : Nat) : Int) := hdd5 3 (by decide)
 refine gP (OpW.sub (a := (((List.replicate j (48 : UInt8) ++ decT (decN a.rat pn)).length : Nat) : Int)) (b := ((pn : Nat) : Int)) (r := (((List.replicate j (48 : UInt8) ++ decT (decN a.rat pn)).length - pn : Nat) : Int)) e5 e6 ((in_i64 (by omega)).trans (by omega)) ?_)
 exact ⟨_, h15, rfl, g19, fun j x _ p => p, rfl⟩
 intro ρ10 h16 w23 g20 hdd6 hdo6
 have e7 : ρ10 32 = .string (S (List.replicate j (48 : UInt8) ++ decT (decN a.rat pn))) := hdd6 0 (by decide)
 have e8 : ρ10 36 = .int .i64 (((List.replicate j (48 : UInt8) ++ decT (decN a.rat pn)).length - pn : Nat) : Int) := hdd6 4 (by decide)
 refine gP (OpW.sliceSTo (s := (List.replicate j (48 : UInt8) ++ decT (decN a.rat pn))) (m := (List.replicate j (48 : UInt8) ++ decT (decN a.rat pn)).length - pn) Tryd.underlying9 e7 e8 (by omega) ?_)
 exact ⟨_, h16, rfl, g20, fun j x _ p => p, rfl⟩
 intro ρ11 h17 w24 g21 hdd7 hdo7
 have e9 : ρ11 37 = .string (S ((List.replicate j (48 : UInt8) ++ decT (decN a.rat pn)).take ((List.replicate j (48 : UInt8) ++ decT (decN a.rat pn)).length - pn))) := hdd7 5 (by decide)
 refine gP (OpW.catSS (a := (List.replicate j (48 : UInt8) ++ decT (decN a.rat pn)).take ((List.replicate j (48 : UInt8) ++ decT (decN a.rat pn)).length - pn)) (b := ([46] : List UInt8)) e9 rfl (by simp only [List.length_take, List.length_cons, List.length_nil]; omega) ?_)
 exact ⟨_, h17, rfl, g21, fun j x _ p => p, rfl⟩
 intro ρ12 h18 w25 g22 hdd8 hdo8
 have e10 : ρ12 8 = .string (S (List.replicate j (48 : UInt8) ++ decT (decN a.rat pn))) := hdo8 8 rfl
 refine gP (OpW.move (v := .string (S (List.replicate j (48 : UInt8) ++ decT (decN a.rat pn)))) e10 ?_)
 exact ⟨_, h18, rfl, g22, fun j x _ p => p, rfl⟩
 intro ρ13 h19 w26 g23 hdd9 hdo9
 have e11 : ρ13 8 = .string (S (List.replicate j (48 : UInt8) ++ decT (decN a.rat pn))) := hdo9 8 rfl
 refine gP (OpW.move (v := .string (S (List.replicate j (48 : UInt8) ++ decT (decN a.rat pn)))) e11 ?_)
 exact ⟨_, h19, rfl, g23, fun j x _ p => p, rfl⟩
 intro ρ14 h20 w27 g24 hdd10 hdo10
 have e12 : ρ14 40 = .string (S (List.replicate j (48 : UInt8) ++ decT (decN a.rat pn))) := hdd10 8 (by decide)
 refine gP (OpW.lenSS (s := (List.replicate j (48 : UInt8) ++ decT (decN a.rat pn))) Tryd.underlying9 e12 ?_)
 exact ⟨_, h20, rfl, g24, fun j x _ p => p, rfl⟩
 intro ρ15 h21 w28 g25 hdd11 hdo11
 have e13 : ρ15 1 = .int .i64 ((pn : Nat) : Int) := hdo11 1 rfl
 refine gP (OpW.move (v := .int .i64 ((pn : Nat) : Int)) e13 ?_)
 exact ⟨_, h21, rfl, g25, fun j x _ p => p, rfl⟩
 intro ρ16 h22 w29 g26 hdd12 hdo12
 have e14 : ρ16 41 = .int .i64 (((List.replicate j (48 : UInt8) ++ decT (decN a.rat pn)).length : Nat) : Int) := hdd12 9 (by decide)
 have e15 : ρ16 42 = .int .i64 ((pn : Nat) : Int) := hdd12 10 (by decide)
 refine gP (OpW.sub (a := (((List.replicate j (48 : UInt8) ++ decT (decN a.rat pn)).length : Nat) : Int)) (b := ((pn : Nat) : Int)) (r := (((List.replicate j (48 : UInt8) ++ decT (decN a.rat pn)).length - pn : Nat) : Int)) e14 e15 ((in_i64 (by omega)).trans (by omega)) ?_)
 exact ⟨_, h22, rfl, g26, fun j x _ p => p, rfl⟩
 intro ρ17 h23 w30 g27 hdd13 hdo13
 have e16 : ρ17 39 = .string (S (List.replicate j (48 : UInt8) ++ decT (decN a.rat pn))) := hdd13 7 (by decide)
 have e17 : ρ17 43 = .int .i64 (((List.replicate j (48 : UInt8) ++ decT (decN a.rat pn)).length - pn : Nat) : Int) := hdd13 11 (by decide)
 refine gP (OpW.sliceSFrom (s := (List.replicate j (48 : UInt8) ++ decT (decN a.rat pn))) (l := (List.replicate j (48 : UInt8) ++ decT (decN a.rat pn)).length - pn) Tryd.underlying9 e16 e17 (by omega) ?_)
 exact ⟨_, h23, rfl, g27, fun j x _ p => p, rfl⟩
 intro ρ18 h24 w31 g28 hdd14 hdo14
 have e18 : ρ18 38 = .string (S (((List.replicate j (48 : UInt8) ++ decT (decN a.rat pn)).take ((List.replicate j (48 : UInt8) ++ decT (decN a.rat pn)).length - pn)) ++ ([46] : List UInt8))) := hdd14 6 (by decide)
 have e19 : ρ18 44 = .string (S ((List.replicate j (48 : UInt8) ++ decT (decN a.rat pn)).drop ((List.replicate j (48 : UInt8) ++ decT (decN a.rat pn)).length - pn))) := hdd14 12 (by decide)
 refine gP (OpW.catSS (a := ((List.replicate j (48 : UInt8) ++ decT (decN a.rat pn)).take ((List.replicate j (48 : UInt8) ++ decT (decN a.rat pn)).length - pn)) ++ ([46] : List UInt8)) (b := (List.replicate j (48 : UInt8) ++ decT (decN a.rat pn)).drop ((List.replicate j (48 : UInt8) ++ decT (decN a.rat pn)).length - pn)) e18 e19 (by simp only [List.length_append, List.length_take, List.length_drop, List.length_cons, List.length_nil, List.length_replicate] at hrl ⊢; omega) ?_)
 exact ⟨_, h24, rfl, g28, fun j x _ p => p, rfl⟩
 intro ρ19 h25 w32 g29 hdd15 hdo15
 have e20 : ρ19 45 = .string (S ((((List.replicate j (48 : UInt8) ++ decT (decN a.rat pn)).take ((List.replicate j (48 : UInt8) ++ decT (decN a.rat pn)).length - pn)) ++ ([46] : List UInt8)) ++ ((List.replicate j (48 : UInt8) ++ decT (decN a.rat pn)).drop ((List.replicate j (48 : UInt8) ++ decT (decN a.rat pn)).length - pn)))) := hdd15 13 (by decide)
 refine gP (OpW.assign (v := .string (S ((((List.replicate j (48 : UInt8) ++ decT (decN a.rat pn)).take ((List.replicate j (48 : UInt8) ++ decT (decN a.rat pn)).length - pn)) ++ ([46] : List UInt8)) ++ ((List.replicate j (48 : UInt8) ++ decT (decN a.rat pn)).drop ((List.replicate j (48 : UInt8) ++ decT (decN a.rat pn)).length - pn))))) e20 ?_)
 exact ⟨_, h25, rfl, g29, fun j x _ p => p, rfl⟩
 intro ρ20 h26 w33 g30 hdp1 hdo16
 have e21 : ρ20 2 = .pointer (some ⟨b3, 0, none⟩) := hdo16 2 rfl
 have e22 : ρ20 7 = .pointer (some ⟨b20, 0, none⟩) := hdo16 7 rfl
 have e23 : ρ20 8 = .string (S ((((List.replicate j (48 : UInt8) ++ decT (decN a.rat pn)).take ((List.replicate j (48 : UInt8) ++ decT (decN a.rat pn)).length - pn)) ++ ([46] : List UInt8)) ++ ((List.replicate j (48 : UInt8) ++ decT (decN a.rat pn)).drop ((List.replicate j (48 : UInt8) ++ decT (decN a.rat pn)).length - pn)))) := hdp1 14 rfl
 refine Ops.forget [(2, .pointer (some ⟨b3, 0, none⟩)), (7, .pointer (some ⟨b20, 0, none⟩)), (8, .string (S ((((List.replicate j (48 : UInt8) ++ decT (decN a.rat pn)).take ((List.replicate j (48 : UInt8) ++ decT (decN a.rat pn)).length - pn)) ++ ([46] : List UInt8)) ++ ((List.replicate j (48 : UInt8) ++ decT (decN a.rat pn)).drop ((List.replicate j (48 : UInt8) ++ decT (decN a.rat pn)).length - pn)))))] ⟨e21, e22, e23, trivial⟩ (fun ρ21 => (oN (wS (sr (Ops.cut (fun ρ' w' => w33 = w' ∧ ∃ ρb, ρ' = upds ρb [(8, .string (S ((((List.replicate j (48 : UInt8) ++ decT (decN a.rat pn)).take ((List.replicate j (48 : UInt8) ++ decT (decN a.rat pn)).length - pn)) ++ ([46] : List UInt8)) ++ ((List.replicate j (48 : UInt8) ++ decT (decN a.rat pn)).drop ((List.replicate j (48 : UInt8) ++ decT (decN a.rat pn)).length - pn))))), (53, .bool (a.neg && (decide (0 < (frK (((decN a.rat pn : Nat) : Int) : Rat)).n.length))))]) ?_ ?_)))))
 refine oC (fA (o := 0) Tryd.underlying24 rfl Tryd.sizeOf4 (by decide) rfl rfl ?_)
 have g31 := g14.trans g30
 refine oC (lO (v := .bool a.neg) Tryd.isAgg4 rfl (g31.sat _ _ ((((((((((gr2.le.trans gr3.le).trans gr5.le).trans gr7.le).trans gr8.le).trans gr9.le).trans gr10.le).trans gr12.le).trans l1).trans g30.le) _ _ qb1)) rfl (mv ?_))
 cases c19 : a.neg
 replace c19 : ¬ (a.neg = true) := (raw_f c19)
 refine oD rfl rfl rfl rfl (oD rfl rfl rfl rfl (oD rfl rfl rfl rfl (oD rfl rfl rfl rfl (oC (pF (v := .bool false) rfl rfl (oN ?_))))))
 exact ⟨rfl, _, nm rfl⟩
 replace c19 : a.neg = true := c19
 refine oL rfl rfl rfl (fA (o := 1) Tryd.underlying24 rfl Tryd.sizeOf22 (by decide) rfl rfl ?_)
 have o18 := g30.kp ⟨o17, n6⟩
 refine oL rfl rfl rfl (lO (v := .slice b18 ((frK (((decN a.rat pn : Nat) : Int) : Rat)).n.length) c15) Tryd.isAgg22 rfl o18.1 rfl ?_)
 refine oL rfl rfl rfl (OpW.lenS Tryd.underlying22 (l := (frK (((decN a.rat pn : Nat) : Int) : Rat)).n.length) rfl ?_)
 refine oL rfl rfl rfl (OpW.gtr (a := (((frK (((decN a.rat pn : Nat) : Int) : Rat)).n.length : Nat) : Int)) (b := ((0 : Nat) : Int)) (r := decide (0 < (frK (((decN a.rat pn : Nat) : Int) : Rat)).n.length)) rfl rfl (lt_nat (a := 0) (b := (frK (((decN a.rat pn : Nat) : Int) : Rat)).n.length)) ?_)
 refine oC (pT (v := .bool (decide (0 < (frK (((decN a.rat pn : Nat) : Int) : Rat)).n.length))) rfl rfl (oN ?_))
 exact ⟨rfl, _, nm rfl⟩
 rintro ρ22 w34 ⟨rfl, ρ23, rfl⟩
 refine Wp.cond (t := a.neg && (decide (0 < (frK (((decN a.rat pn : Nat) : Int) : Rat)).n.length))) rfl (fun c20 => ?_) (fun c20 => ?_)
 replace c20 : (a.neg = true) ∧ (0 < (frK (((decN a.rat pn : Nat) : Int) : Rat)).n.length) := ⟨(and_l c20), (of_decide_eq_true (and_r c20))⟩
 refine wR (mv (oC (OpW.catSS (a := ([45] : List UInt8)) (b := (((List.replicate j (48 : UInt8) ++ decT (decN a.rat pn)).take ((List.replicate j (48 : UInt8) ++ decT (decN a.rat pn)).length - pn)) ++ ([46] : List UInt8)) ++ ((List.replicate j (48 : UInt8) ++ decT (decN a.rat pn)).drop ((List.replicate j (48 : UInt8) ++ decT (decN a.rat pn)).length - pn))) rfl rfl (by simp only [List.length_append, List.length_take, List.length_drop, List.length_cons, List.length_nil, List.length_replicate] at hrl ⊢; omega) (ma (oN (sr (mv (ma (oN (Wp.ret (fin1_ret rfl (resOf_tmp (v := .string (S (([45] : List UInt8) ++ ((((List.replicate j (48 : UInt8) ++ decT (decN a.rat pn)).take ((List.replicate j (48 : UInt8) ++ decT (decN a.rat pn)).length - pn)) ++ ([46] : List UInt8)) ++ ((List.replicate j (48 : UInt8) ++ decT (decN a.rat pn)).drop ((List.replicate j (48 : UInt8) ++ decT (decN a.rat pn)).length - pn)))))) rfl) ?_)))))))))))
 have g32 := g14.trans g30
 refine ⟨h26, g32, ?_⟩
 exact (strv (by first | exact rdec_neg (by omega) (by assumption) hpt.symm (by first | exact (dotT_pos (by omega)).symm | exact (dotT_zero (by omega)).symm) | exact rdec_nonneg (by omega) (by assumption) hpt.symm (by first | exact (dotT_pos (by omega)).symm | exact (dotT_zero (by omega)).symm)))
 replace c20 : ¬ ((a.neg = true) ∧ (0 < (frK (((decN a.rat pn : Nat) : Int) : Rat)).n.length)) := (fun pq => (and_f c20).elim (fun h => (raw_f h) pq.1) (fun h => (of_decide_eq_false h) pq.2))
 refine Wp.skip (sr (mv (ma (oN (Wp.ret (fin1_ret rfl (resOf_tmp (v := .string (S ((((List.replicate j (48 : UInt8) ++ decT (decN a.rat pn)).take ((List.replicate j (48 : UInt8) ++ decT (decN a.rat pn)).length - pn)) ++ ([46] : List UInt8)) ++ ((List.replicate j (48 : UInt8) ++ decT (decN a.rat pn)).drop ((List.replicate j (48 : UInt8) ++ decT (decN a.rat pn)).length - pn))))) rfl) ?_))))))
 have g33 := g14.trans g30
 refine ⟨h26, g33, ?_⟩
 exact (strv (by first | exact rdec_neg (by omega) (by assumption) hpt.symm (by first | exact (dotT_pos (by omega)).symm | exact (dotT_zero (by omega)).symm) | exact rdec_nonneg (by omega) (by assumption) hpt.symm (by first | exact (dotT_pos (by omega)).symm | exact (dotT_zero (by omega)).symm)))
 replace c18 : ¬ (0 < pn) := (of_decide_eq_false c18)
 refine Wp.skip (wS (sr (Ops.cut (fun ρ' w' => w17 = w' ∧ ∃ ρb, ρ' = upds ρb [(8, .string (S (List.replicate j (48 : UInt8) ++ decT (decN a.rat pn)))), (53, .bool (a.neg && (decide (0 < (frK (((decN a.rat pn : Nat) : Int) : Rat)).n.length))))]) ?_ ?_)))
 refine oC (fA (o := 0) Tryd.underlying24 rfl Tryd.sizeOf4 (by decide) rfl rfl ?_)
 refine oC (lO (v := .bool a.neg) Tryd.isAgg4 rfl (g14.sat _ _ (((((((((gr2.le.trans gr3.le).trans gr5.le).trans gr7.le).trans gr8.le).trans gr9.le).trans gr10.le).trans gr12.le).trans l1) _ _ qb1)) rfl (mv ?_))
 cases c21 : a.neg
 replace c21 : ¬ (a.neg = true) := (raw_f c21)
 refine oD rfl rfl rfl rfl (oD rfl rfl rfl rfl (oD rfl rfl rfl rfl (oD rfl rfl rfl rfl (oC (pF (v := .bool false) rfl rfl (oN ?_))))))
 exact ⟨rfl, _, nm rfl⟩
 replace c21 : a.neg = true := c21
 refine oL rfl rfl rfl (fA (o := 1) Tryd.underlying24 rfl Tryd.sizeOf22 (by decide) rfl rfl ?_)
 refine oL rfl rfl rfl (lO (v := .slice b18 ((frK (((decN a.rat pn : Nat) : Int) : Rat)).n.length) c15) Tryd.isAgg22 rfl o17 rfl ?_)
 refine oL rfl rfl rfl (OpW.lenS Tryd.underlying22 (l := (frK (((decN a.rat pn : Nat) : Int) : Rat)).n.length) rfl ?_)
 refine oL rfl rfl rfl (OpW.gtr (a := (((frK (((decN a.rat pn : Nat) : Int) : Rat)).n.length : Nat) : Int)) (b := ((0 : Nat) : Int)) (r := decide (0 < (frK (((decN a.rat pn : Nat) : Int) : Rat)).n.length)) rfl rfl (lt_nat (a := 0) (b := (frK (((decN a.rat pn : Nat) : Int) : Rat)).n.length)) ?_)
 refine oC (pT (v := .bool (decide (0 < (frK (((decN a.rat pn : Nat) : Int) : Rat)).n.length))) rfl rfl (oN ?_))
 exact ⟨rfl, _, nm rfl⟩
 rintro ρ24 w35 ⟨rfl, ρ25, rfl⟩
 refine Wp.cond (t := a.neg && (decide (0 < (frK (((decN a.rat pn : Nat) : Int) : Rat)).n.length))) rfl (fun c22 => ?_) (fun c22 => ?_)
 replace c22 : (a.neg = true) ∧ (0 < (frK (((decN a.rat pn : Nat) : Int) : Rat)).n.length) := ⟨(and_l c22), (of_decide_eq_true (and_r c22))⟩
 refine wR (mv (oC (OpW.catSS (a := ([45] : List UInt8)) (b := (List.replicate j (48 : UInt8) ++ decT (decN a.rat pn))) rfl rfl (by simp only [List.length_append, List.length_take, List.length_drop, List.length_cons, List.length_nil, List.length_replicate] at hrl ⊢; omega) (ma (oN (wS (fg [(8, .string (S (([45] : List UInt8) ++ (List.replicate j (48 : UInt8) ++ decT (decN a.rat pn)))))] rfl (fun ρ26 => (wR (mv (ma (oN (Wp.ret (fin1_ret rfl (resOf_tmp (v := .string (S (([45] : List UInt8) ++ (List.replicate j (48 : UInt8) ++ decT (decN a.rat pn))))) rfl) ?_))))))))))))))
 refine ⟨h10, g14, ?_⟩
 exact (strv (by first | exact rdec_neg (by omega) (by assumption) hpt.symm (by first | exact (dotT_pos (by omega)).symm | exact (dotT_zero (by omega)).symm) | exact rdec_nonneg (by omega) (by assumption) hpt.symm (by first | exact (dotT_pos (by omega)).symm | exact (dotT_zero (by omega)).symm)))
 replace c22 : ¬ ((a.neg = true) ∧ (0 < (frK (((decN a.rat pn : Nat) : Int) : Rat)).n.length)) := (fun pq => (and_f c22).elim (fun h => (raw_f h) pq.1) (fun h => (of_decide_eq_false h) pq.2))
 refine Wp.skip (sr (mv (ma (oN (Wp.ret (fin1_ret rfl (resOf_tmp (v := .string (S (List.replicate j (48 : UInt8) ++ decT (decN a.rat pn)))) rfl) ?_))))))
 refine ⟨h10, g14, ?_⟩
 exact (strv (by first | exact rdec_neg (by omega) (by assumption) hpt.symm (by first | exact (dotT_pos (by omega)).symm | exact (dotT_zero (by omega)).symm) | exact rdec_nonneg (by omega) (by assumption) hpt.symm (by first | exact (dotT_pos (by omega)).symm | exact (dotT_zero (by omega)).symm)))
theorem rDecimalI_c {h : PH} {w : World} {v0 : Value} {a : Fr} {places : Int} (hs : Sat h w) (pv0 : F h v0 a) (hp0 : bf a ≤ 1000) (hp1 : 0 ≤ places) (hp2 : places ≤ 1000) :
    Calls Tryd.prog 36 #[v0, .int .i64 places] w (Ret h w fun h' r => r = .string (S (decimalQ a.rat places))) := by
  obtain ⟨pn, rfl⟩ : ∃ x : Nat, places = (x : Int) := ⟨places.toNat, by omega⟩
  exact rDecimal_c hs pv0 hp0 (by omega)
end Go.Ear
