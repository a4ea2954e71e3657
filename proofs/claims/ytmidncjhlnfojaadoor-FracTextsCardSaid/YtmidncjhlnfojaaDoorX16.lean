/- About package frac: X16. -/
import Derived.Test.YtmidncjhlnfojaaDoorNatLaw2
import Derived.Test.YtmidncjhlnfojaaDoorEarShort
import Derived.Test.YtmidncjhlnfojaaDoorProg
import Derived.Test.YtmidncjhlnfojaaDoorNatLaw3
import Derived.Test.YtmidncjhlnfojaaDoorEarFrac
import Derived.Test.YtmidncjhlnfojaaDoorEarDec
import Derived.Test.YtmidncjhlnfojaaDoorItoaLay
import Derived.Lib.ItoaMem
import Derived.Test.YtmidncjhlnfojaaDoorEarApi
import Derived.Test.YtmidncjhlnfojaaDoorEarRef2
import Derived.Test.YtmidncjhlnfojaaDoorEarLaw
import Derived.Test.YtmidncjhlnfojaaDoorEarWhole
import Derived.Test.YtmidncjhlnfojaaDoorEarText
import Derived.Test.YtmidncjhlnfojaaDoorK1
import Derived.Test.YtmidncjhlnfojaaDoorK10
import Derived.Test.YtmidncjhlnfojaaDoorK11
import Derived.Test.YtmidncjhlnfojaaDoorX10
import Derived.Test.YtmidncjhlnfojaaDoorX12
set_option linter.all false
namespace Go.Ear
open Go.Proofs
set_option maxRecDepth 20000
set_option linter.unusedVariables false
set_option maxHeartbeats 2000000
theorem rdigits_c {h : PH} {w : World} {v0 : Value} {a : Nat} (hs : Sat h w) (pv0 : N h v0 a) (hp0 : sz a ≤ 50000000) :
    Calls Tryd.prog 91 #[v0] w (Ret h w fun h' r => r = .string (S (decT a))) := by
 obtain ⟨b1, c1, rfl, k1⟩ := N.shape pv0
 have hsa : (digs a).length ≤ 50000000 := hp0
 have hdl := decT_len a
 have hz := len_zero (n := a)
 have h10 := sz_small (n := 10) (by decide)
 refine calls_ear (vs := [.slice b1 ((digs a).length) c1]) Tryd.func91 rfl rfl ?_
 have g1 := Gr.refl hs
 refine sr (ma (oN (sr (mv (oC (cF Tryd.call76 (rtrim_c (l := digs a) g1.sat pv0 (by first | omega | (simp only [List.length_set, List.length_replicate]; omega))) rfl ?_))))))
 intro r1 h1 w1 gr1 hr1
 simp only [frK_rat, bf_frK, val_digs] at hr1
 obtain ⟨b2, c2, rfl, k2⟩ := N.shape hr1
 refine ma (oN (wS (sr (mv (oC (OpW.lenS Tryd.underlying22 (l := (digs a).length) rfl ?_))))))
 refine oC (OpW.eqlI (a := (((digs a).length : Nat) : Int)) (b := ((0 : Nat) : Int)) (r := decide ((digs a).length = 0)) rfl rfl (eq_nat (a := (digs a).length) (b := 0)) (oN (Wp.cond (t := decide ((digs a).length = 0)) rfl (fun c3 => ?_) (fun c3 => ?_))))
 replace c3 : (digs a).length = 0 := (of_decide_eq_true c3)
 refine sr (ma (oN (Wp.ret (fin1_ret rfl (resOf_tmp (v := .string (S ([48] : List UInt8))) rfl) ?_))))
 have g2 := g1.trans gr1
 refine ⟨h1, g2, ?_⟩
 exact (strv (by rw [hz.1 (by omega)]; exact (decT_small (u := 0) (by decide)).symm))
 replace c3 : ¬ ((digs a).length = 0) := (of_decide_eq_false c3)
 refine Wp.skip (sr (ma (oN (wS (Wp.block ?_)))))
 have g3 := g1.trans gr1
 refine Wp.loop (σ := Nat × List UInt8 × Option Addr × Nat) (fun s (ρ : Env) (w' : World) => match s with | (x, st, bS0, cS0) => ∃ ρb h', ρ = upds ρb [(0, .slice bS0 ((digs x).length) cS0), (3, .string (S st))] ∧ Gr h w h' w' ∧ PH.le h1 h' ∧ (decT a = (if x = 0 then [] else decT x) ++ st) ∧ (x ≤ a) ∧ (N h' (.slice bS0 ((digs x).length) cS0) x)) (fun s => match s with | (x, st, bS0, cS0) => x) (a, [], b2, c2) ?_ ?_
 exact ⟨_, h1, nm (by exact rfl), g3, PH.le.refl _, (by rw [if_neg (by omega)]; exact (List.append_nil _).symm), (by omega), hr1⟩
 rintro ⟨x, st, bS0, cS0⟩ ρ1 w2 ⟨ρ2, h2, rfl, g4, l1, hd, hxa, hS0⟩
 have hsx := sz_mono hxa
 have hxz := len_zero (n := x)
 have hrz := len_zero (n := x % 10)
 have hml := Nat.mod_lt x (show 0 < 10 by decide)
 have hdg := digs_getD0 (r := x % 10) (by omega)
 have hdl2 := congrArg List.length hd
 rw [List.length_append] at hdl2
 refine wS (sr (mv (oC (OpW.lenS Tryd.underlying22 (l := (digs x).length) rfl ?_))))
 refine oC (OpW.gtr (a := (((digs x).length : Nat) : Int)) (b := ((0 : Nat) : Int)) (r := decide (0 < (digs x).length)) rfl rfl (lt_nat (a := 0) (b := (digs x).length)) (oN (Wp.cond (t := decide (0 < (digs x).length)) rfl (fun c4 => ?_) (fun c4 => ?_))))
 replace c4 : 0 < (digs x).length := (of_decide_eq_true c4)
 refine Wp.skip (Wp.block (sr (ma (oN (sr (mv (oC (OpW.buildSliceO (arr := #[.int .u32 ((10 : Nat) : Int)]) g4.sat Tryd.underlying22 Tryd.zeroValue51 Tryd.sizeOf51 rfl rfl ?_))))))))
 intro b3 w3 gr2 n1 lo1 o1
 have lo2 := Nat.le_trans g4.ext.size lo1
 have g6 := g4.trans gr2
 obtain ⟨h3, g5, l2, qb1, fr1⟩ := freeze_ex g6 o1 n1 lo2
 have f1 := U.own (l := [10]) qb1 (fun x hx => by simp at hx; omega) (cap := 1) rfl (Nat.le_refl _)
 refine oC (cF Tryd.call108 (rdivide_c (a := x) (b := 10) g5.sat (N.mono hS0 l2) (U.ofDigs f1 (digs_lit (by decide) (by decide))) (by omega) (by omega) (by omega)) rfl ?_)
 intro r2 h4 w4 gr3 hr2
 obtain ⟨r3, r4, rfl, hr3, hr4⟩ := hr2
 obtain ⟨b4, c5, rfl, k3⟩ := N.shape hr3
 obtain ⟨b5, c6, rfl, k4⟩ := N.shape hr4
 refine mv (oC (OpW.extract (v := .slice b4 ((digs (x / 10)).length) c5) rfl rfl ?_))
 refine oC (OpW.extract (v := .slice b5 ((digs (x % 10)).length) c6) rfl rfl (ma (ma (oN (wS (fg [(0, .slice b4 ((digs (x / 10)).length) c5), (3, .string (S st)), (4, .slice b5 ((digs (x % 10)).length) c6)] rfl (fun ρ3 => (wR (oC (OpW.assign (v := .int .u8 ((48 : Nat) : Int)) rfl (oN (wS (sr (mv (oC (OpW.lenS Tryd.underlying22 (l := (digs (x % 10)).length) rfl ?_))))))))))))))))
 refine oC (OpW.gtr (a := (((digs (x % 10)).length : Nat) : Int)) (b := ((0 : Nat) : Int)) (r := decide (0 < (digs (x % 10)).length)) rfl rfl (lt_nat (a := 0) (b := (digs (x % 10)).length)) (oN (Wp.cut (fun ρ' w' => w4 = w' ∧ ∃ ρb, ρ' = upds ρb [(0, .slice b4 ((digs (x / 10)).length) c5), (3, .string (S st)), (5, .int .u8 ((48 + x % 10 : Nat) : Int))]) ?_ ?_)))
 refine Wp.cond (t := decide (0 < (digs (x % 10)).length)) rfl (fun c7 => ?_) (fun c7 => ?_)
 replace c7 : 0 < (digs (x % 10)).length := (of_decide_eq_true c7)
 refine wR (mv (mv (oC (OpW.indexU (i := ((0 : Nat) : Int)) (j := 0) Tryd.underlying22 Tryd.sizeOf51 rfl hr4 rfl (by omega) (by omega) ?_))))
 intro b6 o2 a1 e1 z1 qb2 qv1
 have bd1 := Fit.getD (hr4).1 0
 have g7 := g5.trans gr3
 refine oC (lO (v := .int .u32 (((digs (x % 10)).getD 0 0 : Nat) : Int)) Tryd.isAgg51 rfl (g7.sat _ _ qb2) qv1 ?_)
 refine oC (OpW.convI (a := (((digs (x % 10)).getD 0 0 : Nat) : Int)) (r := (((digs (x % 10)).getD 0 0 : Nat) : Int)) Tryd.underlying51 Tryd.underlying5 rfl (conv_u8' (by omega)) ?_)
 refine oC (OpW.add (a := ((48 : Nat) : Int)) (b := (((digs (x % 10)).getD 0 0 : Nat) : Int)) (r := ((48 + ((digs (x % 10)).getD 0 0) : Nat) : Int)) rfl rfl (add_u8 (a := 48) (b := (digs (x % 10)).getD 0 0) (by omega)) (ma (oN ?_)))
 exact ⟨rfl, _, named ⟨rfl, rfl, (natv (by rw [hdg])), trivial⟩⟩
 replace c7 : ¬ (0 < (digs (x % 10)).length) := (of_decide_eq_false c7)
 refine Wp.skip ?_
 exact ⟨rfl, _, named ⟨rfl, rfl, (natv (by have := hrz.1 (by omega); omega)), trivial⟩⟩
 rintro ρ4 w5 ⟨rfl, ρ5, rfl⟩
 refine wR (mv ?_)
 have g8 := g5.trans gr3
 refine oC (OpW.buildSliceO (arr := #[.int .u8 ((48 + x % 10 : Nat) : Int)]) g8.sat Tryd.underlying109 Tryd.zeroValue5 Tryd.sizeOf5 rfl rfl ?_)
 intro b7 w6 gr4 n2 lo3 o3
 have lo4 := Nat.le_trans g8.ext.size lo3
 refine oC (OpW.convB1 (m := 48 + x % 10) Tryd.underlying109 Tryd.underlying5 Tryd.underlying9 rfl o3 (by omega) (mv (oC (OpW.catSS (a := ([UInt8.ofNat (48 + x % 10)] : List UInt8)) (b := st) rfl rfl (by simp only [List.length_cons, List.length_nil]; omega) (ma (oN ?_))))))
 have g9 := g8.trans gr4
 exact ⟨(x / 10, [UInt8.ofNat (48 + x % 10)] ++ st, b4, c5), ⟨_, h4, nm (by exact rfl), g9, ((l1.trans l2).trans gr3.le), (decT_dig hd (by omega)), (by omega), hr3⟩, (by dsimp only; omega)⟩
 replace c4 : ¬ (0 < (digs x).length) := (of_decide_eq_false c4)
 refine Wp.exit (sr (mv (ma (oN (Wp.ret (fin1_ret rfl (resOf_tmp (v := .string (S st)) rfl) ?_))))))
 refine ⟨h2, g4, ?_⟩
 exact (strv (by rw [hd, if_pos (by omega)]; rfl))
theorem rnumber_c {h : PH} {w : World} {l : List UInt8} (hs : Sat h w) (hp0 : l.length ≤ 20000) :
    Calls Tryd.prog 95 #[.string (S l)] w (Ret h w fun h' r => ∃ x1 x2, r = .tuple #[x1, x2] ∧ N h' x1 (numN l) ∧ x2 = .bool (isNum l)) := by
 refine calls_ear (vs := [.string (S l)]) Tryd.func95 rfl rfl ?_
 have g1 := Gr.refl hs
 refine sr (ma (ma (oN (sr (ma (oN (wS (sr (ma (oN (Wp.block (Wp.loop (σ := Nat × Option Addr × Nat) (fun s (ρ : Env) (w' : World) => match s with | (k, bS4, cS4) => ∃ ρb h', ρ = upds ρb [(0, .string (S l)), (4, .slice bS4 ((digs (readN (l.take k))).length) cS4), (5, .int .i64 ((k : Nat) : Int))] ∧ Gr h w h' w' ∧ PH.le h h' ∧ (k ≤ l.length) ∧ ((l.take k).all isDig = true) ∧ (N h' (.slice bS4 ((digs (readN (l.take k))).length) cS4) (readN (l.take k)))) (fun s => match s with | (k, bS4, cS4) => l.length - k) (0, none, 0) ?_ ?_))))))))))))
 exact ⟨_, h, named ⟨rfl, (nilN rfl), rfl, trivial⟩, g1, PH.le.refl _, (by omega), rfl, (Nnil' rfl)⟩
 rintro ⟨k, bS4, cS4⟩ ρ1 w1 ⟨ρ2, h1, rfl, g2, l1, hk, hall, hS4⟩
 have hsr := sz_readN hall
 rw [List.length_take] at hsr
 have hs10 := sz_small (n := 10) (by decide)
 have hsm := sz_mul (readN (l.take k)) 10
 have hbb := UInt8.toNat_lt (l.getD k 0)
 have hsc := sz_small (n := val [(l.getD k 0).toNat - 48]) (by rw [val_one]; omega)
 refine wS (sr (mv (mv (oC (OpW.lenSS (s := l) Tryd.underlying9 rfl ?_)))))
 refine oC (OpW.lss (a := ((k : Nat) : Int)) (b := ((l.length : Nat) : Int)) (r := decide (k < l.length)) rfl rfl (lt_nat (a := k) (b := l.length)) (oN (Wp.cond (t := decide (k < l.length)) rfl (fun c1 => ?_) (fun c1 => ?_))))
 replace c1 : k < l.length := (of_decide_eq_true c1)
 refine Wp.skip (wS (Wp.block (wS (sr (Ops.cut (fun ρ' w' => w1 = w' ∧ ∃ ρb, ρ' = upds ρb [(0, .string (S l)), (4, .slice bS4 ((digs (readN (l.take k))).length) cS4), (5, .int .i64 ((k : Nat) : Int)), (21, .bool ((decide ((l.getD k 0).toNat < 48)) || (decide (57 < (l.getD k 0).toNat))))]) ?_ ?_)))))
 refine mv (mv ?_)
 have hby1 : (l.getD k 0).toNat < 256 := UInt8.toNat_lt _
 refine oC (OpW.indexSS (s := l) (i := k) Tryd.underlying9 rfl rfl (by omega) ?_)
 refine oC (OpW.lss (a := (((l.getD k 0).toNat : Nat) : Int)) (b := ((48 : Nat) : Int)) (r := decide ((l.getD k 0).toNat < 48)) rfl rfl (lt_nat (a := (l.getD k 0).toNat) (b := 48)) (mv ?_))
 cases c2 : (decide ((l.getD k 0).toNat < 48))
 replace c2 : ¬ ((l.getD k 0).toNat < 48) := (of_decide_eq_false c2)
 refine oL rfl rfl rfl (OpW.move (v := .string (S l)) rfl ?_)
 refine oL rfl rfl rfl (OpW.move (v := .int .i64 ((k : Nat) : Int)) rfl ?_)
 have hby2 : (l.getD k 0).toNat < 256 := UInt8.toNat_lt _
 refine oL rfl rfl rfl (OpW.indexSS (s := l) (i := k) Tryd.underlying9 rfl rfl (by omega) ?_)
 refine oL rfl rfl rfl (OpW.gtr (a := (((l.getD k 0).toNat : Nat) : Int)) (b := ((57 : Nat) : Int)) (r := decide (57 < (l.getD k 0).toNat)) rfl rfl (lt_nat (a := 57) (b := (l.getD k 0).toNat)) ?_)
 refine oC (pF (v := .bool (decide (57 < (l.getD k 0).toNat))) rfl rfl (oN ?_))
 exact ⟨rfl, _, nm rfl⟩
 replace c2 : (l.getD k 0).toNat < 48 := (of_decide_eq_true c2)
 refine oD rfl rfl rfl rfl (oD rfl rfl rfl rfl (oD rfl rfl rfl rfl (oD rfl rfl rfl rfl (oC (pT (v := .bool true) rfl rfl (oN ?_))))))
 exact ⟨rfl, _, nm rfl⟩
 rintro ρ3 w2 ⟨rfl, ρ4, rfl⟩
 refine Wp.cond (t := (decide ((l.getD k 0).toNat < 48)) || (decide (57 < (l.getD k 0).toNat))) rfl (fun c3 => ?_) (fun c3 => ?_)
 replace c3 : ((l.getD k 0).toNat < 48) ∨ (57 < (l.getD k 0).toNat) := ((or_t c3).imp (fun h => (of_decide_eq_true h)) (fun h => (of_decide_eq_true h)))
 refine sr (ma (ma (oN (Wp.ret (fin2_ret rfl (resOf_tmp (v := .slice none 0 0) rfl) (resOf_tmp (v := .bool false) rfl) ?_)))))
 refine ⟨h1, g2, ?_⟩
 have hna := not_all (l := l) (k := k) (by omega) (by omega)
 exact ⟨_, _, rfl, N.cast (by unfold numN; rw [hna]; rfl) (Nnil _ none 0), boolv (by unfold isNum; rw [hna]; rfl)⟩
 replace c3 : ¬ (((l.getD k 0).toNat < 48) ∨ (57 < (l.getD k 0).toNat)) := (fun pq => pq.elim (of_decide_eq_false (or_l c3)) (of_decide_eq_false (or_r c3)))
 refine Wp.skip (Wp.dagL 12 [22, 23, 24, 25, 26, 27, 28, 29, 30, 31, 32, 4] [eqv (.slice bS4 ((digs (readN (l.take k))).length) cS4), fun h _ x => LR rpU h x ([10]), fun h _ x => N h x ((readN (l.take k)) * 10), eqv (.string (S l)), eqv (.int .i64 ((k : Nat) : Int)), eqv (.int .u8 (((l.getD k 0).toNat : Nat) : Int)), eqv (.int .u8 (((l.getD k 0).toNat - 48 : Nat) : Int)), eqv (.int .u32 (((l.getD k 0).toNat - 48 : Nat) : Int)), fun h _ x => LR rpU h x ([(l.getD k 0).toNat - 48]), fun h _ x => N h x (val ([(l.getD k 0).toNat - 48])), fun h _ x => N h x (((readN (l.take k)) * 10) + (val ([(l.getD k 0).toNat - 48]))), fun h _ x => N h x (((readN (l.take k)) * 10) + (val ([(l.getD k 0).toNat - 48])))] mixed g2.sat rfl (by decide +kernel) ⟨sQ _, (stab_LR rpU ([10])), (stab_N ((readN (l.take k)) * 10)), sQ _, sQ _, sQ _, sQ _, sQ _, (stab_LR rpU ([(l.getD k 0).toNat - 48])), (stab_N (val ([(l.getD k 0).toNat - 48]))), (stab_N (((readN (l.take k)) * 10) + (val ([(l.getD k 0).toNat - 48])))), (stab_N (((readN (l.take k)) * 10) + (val ([(l.getD k 0).toNat - 48])))), trivial⟩ ?_ ?_)
 intro stab
 refine ⟨?_, ?_, ?_, ?_, ?_, ?_, ?_, ?_, ?_, ?_, ?_, ?_, trivial⟩
 intro ρ5 h2 w3 g3 hdd1 hdo1
 have e1 : ρ5 4 = .slice bS4 ((digs (readN (l.take k))).length) cS4 := hdo1 4 rfl
 refine gP (OpW.move (v := .slice bS4 ((digs (readN (l.take k))).length) cS4) e1 ?_)
 exact ⟨_, h2, rfl, g3, fun j x _ p => p, rfl⟩
 intro ρ6 h3 w4 g4 hdd2 hdo2
 have g5 := g2.trans g4
 refine gP (OpW.buildSliceO (arr := #[.int .u32 ((10 : Nat) : Int)]) g5.sat Tryd.underlying22 Tryd.zeroValue51 Tryd.sizeOf51 rfl rfl ?_)
 intro b1 w5 gr1 n1 lo1 o1
 obtain ⟨h5, gr3, le1, qb1, fr1⟩ := freeze_ex gr1 o1 n1 lo1
 have q1 : LR rpU h5 (.slice (some ⟨b1, 0, none⟩) 1 1) ([10]) := LR.own' qb1 (css := [[.int .u32 ((10 : Nat) : Int)]]) rfl ((show Rows rpU h3 [[.int .u32 ((10 : Nat) : Int)]] [10] from (Rows.cons ⟨rfl, (by omega)⟩ Rows.nil)).mono gr3.le) rfl (Nat.le_refl _)
 exact ⟨_, h5, rfl, g4.trans gr3, fun j x _ => stab j _ _ _ _ x gr3, q1⟩
 intro ρ7 h6 w6 g6 hdd3 hdo3
 have e2 : ρ7 22 = .slice bS4 ((digs (readN (l.take k))).length) cS4 := hdd3 0 (by decide)
 have q2 : LR rpU h6 (ρ7 23) ([10]) := hdd3 1 (by decide)
 have g7 := g2.trans g6
 refine gP (cF Tryd.call93 (rtimes_c (a := readN (l.take k)) (b := 10) g7.sat (N.mono hS4 g6.le) (U.ofDigs (LU.toU q2) (digs_lit (by decide) (by decide))) (by omega) (by omega)) (cx e2 (cx rfl cxn)) ?_)
 intro r1 h7 w7 gr4 hr1
 exact ⟨r1, h7, rfl, g6.trans gr4, fun j x _ => stab j _ _ _ _ x gr4, hr1⟩
 intro ρ8 h8 w8 g8 hdd4 hdo4
 have e3 : ρ8 0 = .string (S l) := hdo4 0 rfl
 refine gP (OpW.move (v := .string (S l)) e3 ?_)
 exact ⟨_, h8, rfl, g8, fun j x _ p => p, rfl⟩
 intro ρ9 h9 w9 g9 hdd5 hdo5
 have e4 : ρ9 5 = .int .i64 ((k : Nat) : Int) := hdo5 5 rfl
 refine gP (OpW.move (v := .int .i64 ((k : Nat) : Int)) e4 ?_)
 exact ⟨_, h9, rfl, g9, fun j x _ p => p, rfl⟩
 intro ρ10 h10 w10 g10 hdd6 hdo6
 have e5 : ρ10 25 = .string (S l) := hdd6 3 (by decide)
 have e6 : ρ10 26 = .int .i64 ((k : Nat) : Int) := hdd6 4 (by decide)
 have hby3 : (l.getD k 0).toNat < 256 := UInt8.toNat_lt _
 refine gP (OpW.indexSS (s := l) (i := k) Tryd.underlying9 e5 e6 (by omega) ?_)
 exact ⟨_, h10, rfl, g10, fun j x _ p => p, rfl⟩
 intro ρ11 h11 w11 g11 hdd7 hdo7
 have e7 : ρ11 27 = .int .u8 (((l.getD k 0).toNat : Nat) : Int) := hdd7 5 (by decide)
 refine gP (OpW.sub (a := (((l.getD k 0).toNat : Nat) : Int)) (b := ((48 : Nat) : Int)) (r := (((l.getD k 0).toNat - 48 : Nat) : Int)) e7 rfl ((in_u8 (by omega)).trans (by omega)) ?_)
 exact ⟨_, h11, rfl, g11, fun j x _ p => p, rfl⟩
 intro ρ12 h12 w12 g12 hdd8 hdo8
 have e8 : ρ12 28 = .int .u8 (((l.getD k 0).toNat - 48 : Nat) : Int) := hdd8 6 (by decide)
 refine gP (OpW.convI (a := (((l.getD k 0).toNat - 48 : Nat) : Int)) (r := (((l.getD k 0).toNat - 48 : Nat) : Int)) Tryd.underlying5 Tryd.underlying51 e8 (conv_u32' (by omega)) ?_)
 exact ⟨_, h12, rfl, g12, fun j x _ p => p, rfl⟩
 intro ρ13 h13 w13 g13 hdd9 hdo9
 have e9 : ρ13 29 = .int .u32 (((l.getD k 0).toNat - 48 : Nat) : Int) := hdd9 7 (by decide)
 have g14 := g2.trans g13
 refine gP (OpW.buildSliceO (arr := #[.int .u32 (((l.getD k 0).toNat - 48 : Nat) : Int)]) g14.sat Tryd.underlying22 Tryd.zeroValue51 Tryd.sizeOf51 rfl (by show Instr.fill _ _ [(0, ρ13 29)] = _; rw [e9]; rfl) ?_)
 intro b2 w14 gr5 n2 lo2 o2
 obtain ⟨h15, gr7, le2, qb2, fr2⟩ := freeze_ex gr5 o2 n2 lo2
 have q3 : LR rpU h15 (.slice (some ⟨b2, 0, none⟩) 1 1) ([(l.getD k 0).toNat - 48]) := LR.own' qb2 (css := [[.int .u32 (((l.getD k 0).toNat - 48 : Nat) : Int)]]) rfl ((show Rows rpU h13 [[.int .u32 (((l.getD k 0).toNat - 48 : Nat) : Int)]] [(l.getD k 0).toNat - 48] from (Rows.cons ⟨rfl, (by omega)⟩ Rows.nil)).mono gr7.le) rfl (Nat.le_refl _)
 exact ⟨_, h15, rfl, g13.trans gr7, fun j x _ => stab j _ _ _ _ x gr7, q3⟩
 intro ρ14 h16 w15 g15 hdd10 hdo10
 have q4 : LR rpU h16 (ρ14 30) ([(l.getD k 0).toNat - 48]) := hdd10 8 (by decide)
 have g16 := g2.trans g15
 refine gP (cF Tryd.call76 (rtrim_c (l := [(l.getD k 0).toNat - 48]) g16.sat (LU.toU q4) (Nat.le_of_ble_eq_true rfl)) rfl ?_)
 intro r2 h17 w16 gr8 hr2
 exact ⟨r2, h17, rfl, g15.trans gr8, fun j x _ => stab j _ _ _ _ x gr8, hr2⟩
 intro ρ15 h18 w17 g17 hdd11 hdo11
 have q5 : N h18 (ρ15 24) ((readN (l.take k)) * 10) := hdd11 2 (by decide)
 have q6 : N h18 (ρ15 31) (val ([(l.getD k 0).toNat - 48])) := hdd11 9 (by decide)
 have g18 := g2.trans g17
 refine gP (cF Tryd.call96 (rplus_c (a := (readN (l.take k)) * 10) (b := val ([(l.getD k 0).toNat - 48])) g18.sat q5 q6 (by omega) (by omega)) rfl ?_)
 intro r3 h19 w18 gr9 hr3
 exact ⟨r3, h19, rfl, g17.trans gr9, fun j x _ => stab j _ _ _ _ x gr9, hr3⟩
 intro ρ16 h20 w19 g19 hdd12 hdo12
 have q7 : N h20 (ρ16 32) (((readN (l.take k)) * 10) + (val ([(l.getD k 0).toNat - 48]))) := hdd12 10 (by decide)
 refine gP (OpW.assign (v := (ρ16 32)) rfl ?_)
 exact ⟨_, h20, rfl, g19, fun j x _ p => p, q7⟩
 intro ρ17 h21 w20 g20 hdp1 hdo13
 have e10 : ρ17 0 = .string (S l) := hdo13 0 rfl
 have q8 : N h21 (ρ17 4) (((readN (l.take k)) * 10) + (val ([(l.getD k 0).toNat - 48]))) := hdp1 11 rfl
 obtain ⟨x3, hx1⟩ : ∃ x, ρ17 4 = x := ⟨_, rfl⟩
 rw [hx1] at q8
 obtain ⟨b3, c4, rfl, k1⟩ := N.shape q8
 have e11 : ρ17 5 = .int .i64 ((k : Nat) : Int) := hdo13 5 rfl
 refine Ops.forget [(0, .string (S l)), (4, .slice b3 ((digs (((readN (l.take k)) * 10) + (val ([(l.getD k 0).toNat - 48])))).length) c4), (5, .int .i64 ((k : Nat) : Int))] ⟨e10, hx1, e11, trivial⟩ (fun ρ18 => (oN (wR (mv (oC (OpW.add (a := ((k : Nat) : Int)) (b := ((1 : Nat) : Int)) (r := ((k + 1 : Nat) : Int)) rfl rfl (add_i64 (a := k) (b := 1) (by omega)) (ma (oN ?_))))))))
 have g21 := g2.trans g20
 exact ⟨(k + 1, b3, c4), ⟨_, h21, named ⟨rfl, (congrArg (fun t => Value.slice b3 (digs t).length c4) (by rw [readN_take (by omega), val_one])), rfl, trivial⟩, g21, (l1.trans g20.le), (by omega), (all_take_succ hall (by omega) (isDig_of (by omega) (by omega))), (N.recast (by rw [readN_take (by omega), val_one]) q8)⟩, (by dsimp only; omega)⟩
 replace c1 : ¬ (k < l.length) := (of_decide_eq_false c1)
 refine Wp.exit (sr (mv (mv (oC (OpW.lenSS (s := l) Tryd.underlying9 rfl ?_)))))
 refine oC (OpW.gtr (a := ((l.length : Nat) : Int)) (b := ((0 : Nat) : Int)) (r := decide (0 < l.length)) rfl rfl (lt_nat (a := 0) (b := l.length)) (ma (ma (oN (Wp.ret (fin2_ret rfl (resOf_tmp (v := .slice bS4 ((digs (readN (l.take k))).length) cS4) rfl) (resOf_tmp (v := .bool (decide (0 < l.length))) rfl) ?_))))))
 refine ⟨h1, g2, ?_⟩
 have hal := all_of_take (by omega) hall
 exact ⟨_, _, rfl, N.cast (by unfold numN; rw [hal, List.take_of_length_le (by omega)]; rfl) hS4, boolv (by unfold isNum; rw [hal]; rfl)⟩
theorem rdigitsU_c {h : PH} {w : World} {v0 : Value} {l : List Nat} (hs : Sat h w) (pv0 : U h v0 l) (hp0 : digs (val l) = l) (hp1 : sz (val l) ≤ 50000000) :
    Calls Tryd.prog 91 #[v0] w (Ret h w fun h' r => r = .string (S (decT (val l)))) := rdigits_c hs (show U h v0 (digs (val l)) from hp0.symm ▸ pv0) hp1
theorem rText_c {h : PH} {w : World} {v0 : Value} {a : Fr} (hs : Sat h w) (pv0 : F h v0 a) (hp0 : bf a ≤ 40000000) :
    Calls Tryd.prog 33 #[v0] w (Ret h w fun h' r => r = .string (S (textQ a.rat))) := by
 obtain ⟨b1, c1, b2, c2, rfl, k1, k2, u1, u2⟩ := F.shape pv0
 have hbq1 := F.bq pv0
 have hbn := bf_n a
 have hbd := bf_d a
 have hbp := bf_pos a
 have hq1 := bq_num a.rat
 have hl1 := decT_len a.rat.num.natAbs
 have hl2 := decT_len (val (frK a.rat).d)
 have hsd := frK_sd a.rat
 have hbk := bq_K a.rat
 refine calls_ear (vs := [.agg #[.bool a.neg, .slice b1 a.n.length c1, .slice b2 a.d.length c2]]) Tryd.func33 rfl rfl ?_
 have g1 := Gr.refl hs
 refine sr (oC (OpW.boxO (v := .agg #[.bool a.neg, .slice b1 a.n.length c1, .slice b2 a.d.length c2]) (arr := #[.bool a.neg, .slice b1 a.n.length c1, .slice b2 a.d.length c2]) g1.sat rfl rfl ?_))
 intro b3 w1 gr1 n1 lo1 o1
 have lo2 := Nat.le_trans g1.ext.size lo1
 refine ma (oN (sr (oC (lA (cs := [.bool a.neg, .slice b1 a.n.length c1, .slice b2 a.d.length c2]) Tryd.isAgg24 Tryd.sizeOf24 rfl o1 rfl rfl ?_))))
 have g2 := g1.trans gr1
 refine oC (cF Tryd.call34 (rCanon_c (a := a) g2.sat (F.mk u1 u2) (by omega)) rfl ?_)
 intro r1 h1 w2 gr2 hr1
 obtain ⟨b4, c3, b5, c4, rfl, k3, k4, u3, u4⟩ := F.shape hr1
 have o2 := gr2.kp ⟨o1, n1⟩
 refine oC (sA (cs := [.bool ((frK a.rat).neg), .slice b4 ((frK a.rat).n.length) c3, .slice b5 ((frK a.rat).d.length) c4]) Tryd.sizeOf24 rfl rfl rfl rfl o2.1 rfl ?_)
 intro w3 p1
 refine oN (sr (oC (fA (o := 1) Tryd.underlying24 rfl Tryd.sizeOf22 (by decide) rfl rfl ?_)))
 refine oC (lO (v := .slice b4 ((frK a.rat).n.length) c3) Tryd.isAgg22 rfl p1.at_ rfl ?_)
 have g3 := (g2.trans gr2).put p1 o2.2 lo2
 refine oC (cF Tryd.call91 (rdigits_c (a := a.rat.num.natAbs) g3.sat u3 (by omega)) rfl ?_)
 intro r2 h2 w4 gr3 hr2
 subst hr2
 refine ma (oN (wS (sr (oC (fA (o := 0) Tryd.underlying24 rfl Tryd.sizeOf4 (by decide) rfl rfl ?_)))))
 have o4 := gr3.kp ⟨p1.at_, o2.2⟩
 refine oC (lO (v := .bool ((frK a.rat).neg)) Tryd.isAgg4 rfl o4.1 rfl (oN (Wp.cond (t := (frK a.rat).neg) rfl (fun c5 => ?_) (fun c5 => ?_))))
 replace c5 : ((frK a.rat).neg) = true := c5
 refine fg [(1, .pointer (some ⟨b3, 0, none⟩)), (3, .string (S (decT a.rat.num.natAbs)))] rfl (fun ρ1 => (wR (mv (oC (OpW.catSS (a := ([45] : List UInt8)) (b := decT a.rat.num.natAbs) rfl rfl (by first | omega | (simp only [List.length_cons, List.length_nil]; omega) | (simp only [List.length_append, List.length_cons, List.length_nil, List.length_replicate, List.length_drop, List.length_take]; omega)) (ma (oN (wS (sr (oC (fA (o := 2) Tryd.underlying24 rfl Tryd.sizeOf22 (by decide) rfl rfl ?_)))))))))))
 refine oC (lO (v := .slice b5 ((frK a.rat).d.length) c4) Tryd.isAgg22 rfl o4.1 rfl ?_)
 refine oC (OpW.lenS Tryd.underlying22 (l := (frK a.rat).d.length) rfl ?_)
 refine oC (OpW.gtr (a := (((frK a.rat).d.length : Nat) : Int)) (b := ((0 : Nat) : Int)) (r := decide (0 < (frK a.rat).d.length)) rfl rfl (lt_nat (a := 0) (b := (frK a.rat).d.length)) (oN (Wp.cond (t := decide (0 < (frK a.rat).d.length)) rfl (fun c6 => ?_) (fun c6 => ?_))))
 replace c6 : 0 < (frK a.rat).d.length := (of_decide_eq_true c6)
 refine wR (mv (oC (OpW.catSS (a := ([45] : List UInt8) ++ (decT a.rat.num.natAbs)) (b := ([47] : List UInt8)) rfl rfl (by first | omega | (simp only [List.length_cons, List.length_nil]; omega) | (simp only [List.length_append, List.length_cons, List.length_nil, List.length_replicate, List.length_drop, List.length_take]; omega)) ?_)))
 refine oC (fA (o := 2) Tryd.underlying24 rfl Tryd.sizeOf22 (by decide) rfl rfl ?_)
 refine oC (lO (v := .slice b5 ((frK a.rat).d.length) c4) Tryd.isAgg22 rfl o4.1 rfl ?_)
 have g4 := g3.trans gr3
 refine oC (cF Tryd.call91 (rdigitsU_c (l := (frK a.rat).d) g4.sat (U.mono u4 gr3.le) (frK_dd _) (by omega)) rfl ?_)
 intro r3 h3 w5 gr4 hr3
 subst hr3
 refine oC (OpW.catSS (a := (([45] : List UInt8) ++ (decT a.rat.num.natAbs)) ++ ([47] : List UInt8)) (b := decT (val ((frK a.rat).d))) rfl rfl (by first | omega | (simp only [List.length_cons, List.length_nil]; omega) | (simp only [List.length_append, List.length_cons, List.length_nil, List.length_replicate, List.length_drop, List.length_take]; omega)) (ma (oN (wS (fg [(3, .string (S (((([45] : List UInt8) ++ (decT a.rat.num.natAbs)) ++ ([47] : List UInt8)) ++ (decT (val ((frK a.rat).d))))))] rfl (fun ρ2 => (wR (mv (ma (oN (Wp.ret (fin1_ret rfl (resOf_tmp (v := .string (S (((([45] : List UInt8) ++ (decT a.rat.num.natAbs)) ++ ([47] : List UInt8)) ++ (decT (val ((frK a.rat).d)))))) rfl) ?_))))))))))))
 have g5 := g4.trans gr4
 refine ⟨h3, g5, ?_⟩
 exact (strv (by rw [textQ_frK]; (first | rw [if_pos (by assumption), if_pos (by assumption)] | rw [if_pos (by assumption), if_neg (by assumption)] | rw [if_neg (by assumption), if_pos (by assumption)] | rw [if_neg (by assumption), if_neg (by assumption)]) <;> simp))
 replace c6 : ¬ (0 < (frK a.rat).d.length) := (of_decide_eq_false c6)
 refine Wp.skip (sr (mv (ma (oN (Wp.ret (fin1_ret rfl (resOf_tmp (v := .string (S (([45] : List UInt8) ++ (decT a.rat.num.natAbs)))) rfl) ?_))))))
 have g6 := g3.trans gr3
 refine ⟨h2, g6, ?_⟩
 exact (strv (by rw [textQ_frK]; (first | rw [if_pos (by assumption), if_pos (by assumption)] | rw [if_pos (by assumption), if_neg (by assumption)] | rw [if_neg (by assumption), if_pos (by assumption)] | rw [if_neg (by assumption), if_neg (by assumption)]) <;> simp))
 replace c5 : ¬ (((frK a.rat).neg) = true) := (raw_f c5)
 refine Wp.skip (wS (wS (fg [(1, .pointer (some ⟨b3, 0, none⟩)), (3, .string (S (decT a.rat.num.natAbs)))] rfl (fun ρ3 => (wR (oC (fA (o := 2) Tryd.underlying24 rfl Tryd.sizeOf22 (by decide) rfl rfl ?_)))))))
 refine oC (lO (v := .slice b5 ((frK a.rat).d.length) c4) Tryd.isAgg22 rfl o4.1 rfl ?_)
 refine oC (OpW.lenS Tryd.underlying22 (l := (frK a.rat).d.length) rfl ?_)
 refine oC (OpW.gtr (a := (((frK a.rat).d.length : Nat) : Int)) (b := ((0 : Nat) : Int)) (r := decide (0 < (frK a.rat).d.length)) rfl rfl (lt_nat (a := 0) (b := (frK a.rat).d.length)) (oN (Wp.cond (t := decide (0 < (frK a.rat).d.length)) rfl (fun c7 => ?_) (fun c7 => ?_))))
 replace c7 : 0 < (frK a.rat).d.length := (of_decide_eq_true c7)
 refine wR (mv (oC (OpW.catSS (a := decT a.rat.num.natAbs) (b := ([47] : List UInt8)) rfl rfl (by first | omega | (simp only [List.length_cons, List.length_nil]; omega) | (simp only [List.length_append, List.length_cons, List.length_nil, List.length_replicate, List.length_drop, List.length_take]; omega)) ?_)))
 refine oC (fA (o := 2) Tryd.underlying24 rfl Tryd.sizeOf22 (by decide) rfl rfl ?_)
 refine oC (lO (v := .slice b5 ((frK a.rat).d.length) c4) Tryd.isAgg22 rfl o4.1 rfl ?_)
 have g7 := g3.trans gr3
 refine oC (cF Tryd.call91 (rdigitsU_c (l := (frK a.rat).d) g7.sat (U.mono u4 gr3.le) (frK_dd _) (by omega)) rfl ?_)
 intro r4 h4 w6 gr5 hr4
 subst hr4
 refine oC (OpW.catSS (a := (decT a.rat.num.natAbs) ++ ([47] : List UInt8)) (b := decT (val ((frK a.rat).d))) rfl rfl (by first | omega | (simp only [List.length_cons, List.length_nil]; omega) | (simp only [List.length_append, List.length_cons, List.length_nil, List.length_replicate, List.length_drop, List.length_take]; omega)) (ma (oN (wS (fg [(3, .string (S (((decT a.rat.num.natAbs) ++ ([47] : List UInt8)) ++ (decT (val ((frK a.rat).d))))))] rfl (fun ρ4 => (wR (mv (ma (oN (Wp.ret (fin1_ret rfl (resOf_tmp (v := .string (S (((decT a.rat.num.natAbs) ++ ([47] : List UInt8)) ++ (decT (val ((frK a.rat).d)))))) rfl) ?_))))))))))))
 have g8 := g7.trans gr5
 refine ⟨h4, g8, ?_⟩
 exact (strv (by rw [textQ_frK]; (first | rw [if_pos (by assumption), if_pos (by assumption)] | rw [if_pos (by assumption), if_neg (by assumption)] | rw [if_neg (by assumption), if_pos (by assumption)] | rw [if_neg (by assumption), if_neg (by assumption)]) <;> simp))
 replace c7 : ¬ (0 < (frK a.rat).d.length) := (of_decide_eq_false c7)
 refine Wp.skip (sr (mv (ma (oN (Wp.ret (fin1_ret rfl (resOf_tmp (v := .string (S (decT a.rat.num.natAbs))) rfl) ?_))))))
 have g9 := g3.trans gr3
 refine ⟨h2, g9, ?_⟩
 exact (strv (by rw [textQ_frK]; (first | rw [if_pos (by assumption), if_pos (by assumption)] | rw [if_pos (by assumption), if_neg (by assumption)] | rw [if_neg (by assumption), if_pos (by assumption)] | rw [if_neg (by assumption), if_neg (by assumption)]) <;> simp))
end Go.Ear
