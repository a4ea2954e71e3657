/- About package frac: X18. -/
import Derived.Test.YtmidncjhlnfojaaDoorNatLaw2
import Derived.Test.YtmidncjhlnfojaaDoorEarShort
import Derived.Test.YtmidncjhlnfojaaDoorProg
import Derived.Test.YtmidncjhlnfojaaDoorNatLaw3
import Derived.Test.YtmidncjhlnfojaaDoorEarFrac
import Derived.Test.YtmidncjhlnfojaaDoorEarDec
import Derived.Test.YtmidncjhlnfojaaDoorItoaLay
import Derived.Lib.ItoaMem
import Derived.Test.YtmidncjhlnfojaaDoorEarApi
import Derived.Test.YtmidncjhlnfojaaDoorEarRef2
import Derived.Test.YtmidncjhlnfojaaDoorEarLaw
import Derived.Test.YtmidncjhlnfojaaDoorEarWhole
import Derived.Test.YtmidncjhlnfojaaDoorEarTexts
import Derived.Test.YtmidncjhlnfojaaDoorK10
import Derived.Test.YtmidncjhlnfojaaDoorK12
import Derived.Test.YtmidncjhlnfojaaDoorK9
import Derived.Test.YtmidncjhlnfojaaDoorX10
import Derived.Test.YtmidncjhlnfojaaDoorX12
import Derived.Test.YtmidncjhlnfojaaDoorX16
import Derived.Test.YtmidncjhlnfojaaDoorXrPow
set_option linter.all false
namespace Go.Ear
open Go.Proofs
set_option maxRecDepth 20000
set_option linter.unusedVariables false
set_option maxHeartbeats 2000000
theorem ParseL_c {h : PH} {w : World} {l : List UInt8} (hs : Sat h w) (hp0 : 10000 < l.length) :
    Calls Tryd.prog 32 #[.string (S l)] w (Ret h w fun h' r => ∃ x1 x2, r = .tuple #[x1, x2] ∧ Kn h' x1 ((parseQ l).1) ∧ x2 = .int .i64 ((parseQ l).2)) := by
 refine calls_ear (vs := [.string (S l)]) Tryd.func32 rfl rfl ?_
 have g1 := Gr.refl hs
 refine sr (oC (OpW.allocO (arr := #[.bool false, .slice none 0 0, .slice none 0 0]) g1.sat Tryd.zeroValue24 rfl ?_))
 intro b1 w1 gr1 n1 lo1 o1
 have lo2 := Nat.le_trans g1.ext.size lo1
 refine ma (oN (wS (sr (mv (oC (OpW.lenSS (s := l) Tryd.underlying9 rfl ?_))))))
 refine oC (OpW.gtr (a := ((l.length : Nat) : Int)) (b := ((10000 : Nat) : Int)) (r := decide (10000 < l.length)) rfl rfl (lt_nat (a := 10000) (b := l.length)) (oN (Wp.cond (t := decide (10000 < l.length)) rfl (fun c1 => ?_) (fun c1 => ?_))))
 replace c1 : 10000 < l.length := (of_decide_eq_true c1)
 refine sr (oC (OpW.build (places := [(0, 1), (1, 1), (2, 1)]) (cs := [.bool false, .slice none 0 0, .slice none 0 0]) Tryd.underlying24 Tryd.zeroValue24 (fun _ => by kernel_rfl) rfl ?_))
 refine oC (sA (cs := [.bool false, .slice none 0 0, .slice none 0 0]) Tryd.sizeOf24 rfl rfl rfl rfl o1 rfl ?_)
 intro w2 p1
 refine ma (oN (Wp.ret (fin2_ret rfl (resOf_cellA (cs := [.bool false, .slice none 0 0, .slice none 0 0]) Tryd.isAgg24 Tryd.sizeOf24 rfl p1.at_ (Nat.le_of_ble_eq_true rfl) rfl) (resOf_tmp (v := .int .i64 ((5 : Nat) : Int)) rfl) ?_)))
 have g2 := (g1.trans gr1).put p1 n1 lo2
 refine ⟨h, g2, ?_⟩
 exact ⟨_, _, rfl, (Kn.cast (congrArg Prod.fst (parse_0 (by omega))).symm (Kz _)), (intv (congrArg Prod.snd (parse_0 (by omega))).symm)⟩
 replace c1 : ¬ (10000 < l.length) := (of_decide_eq_false c1)
 omega
theorem ParseA_c {h : PH} {w : World} {l : List UInt8} (hs : Sat h w) (hp0 : l.length ≤ 200 ∨ 10000 < l.length) :
    Calls Tryd.prog 32 #[.string (S l)] w (Ret h w fun h' r => ∃ x1 x2, r = .tuple #[x1, x2] ∧ Kn h' x1 ((parseQ l).1) ∧ x2 = .int .i64 ((parseQ l).2)) := by
  rcases hp0 with h1 | h1
  · exact Parse_c hs (by omega)
  · exact ParseL_c hs h1
theorem rParse_c {h : PH} {w : World} {l : List UInt8} (hs : Sat h w) (hp0 : l.length ≤ 200 ∨ 10000 < l.length) :
    Calls Tryd.prog 39 #[.string (S l)] w (Ret h w fun h' r => ∃ x1 x2, r = .tuple #[x1, x2] ∧ Kn h' x1 ((parseQ l).1) ∧ x2 = .int .i64 ((parseQ l).2)) := by
 refine calls_ear (vs := [.string (S l)]) Tryd.func39 rfl rfl ?_
 have g1 := Gr.refl hs
 refine sr (oC (OpW.allocO (arr := #[.bool false, .slice none 0 0, .slice none 0 0]) g1.sat Tryd.zeroValue24 rfl ?_))
 intro b1 w1 gr1 n1 lo1 o1
 have lo2 := Nat.le_trans g1.ext.size lo1
 refine ma (oN (wS (sr (mv (oC (OpW.lenSS (s := l) Tryd.underlying9 rfl ?_))))))
 refine oC (OpW.gtr (a := ((l.length : Nat) : Int)) (b := ((10000 : Nat) : Int)) (r := decide (10000 < l.length)) rfl rfl (lt_nat (a := 10000) (b := l.length)) (oN (Wp.cond (t := decide (10000 < l.length)) rfl (fun c1 => ?_) (fun c1 => ?_))))
 replace c1 : 10000 < l.length := (of_decide_eq_true c1)
 refine sr (oC (OpW.build (places := [(0, 1), (1, 1), (2, 1)]) (cs := [.bool false, .slice none 0 0, .slice none 0 0]) Tryd.underlying24 Tryd.zeroValue24 (fun _ => by kernel_rfl) rfl ?_))
 refine oC (sA (cs := [.bool false, .slice none 0 0, .slice none 0 0]) Tryd.sizeOf24 rfl rfl rfl rfl o1 rfl ?_)
 intro w2 p1
 refine ma (oN (Wp.ret (fin2_ret rfl (resOf_cellA (cs := [.bool false, .slice none 0 0, .slice none 0 0]) Tryd.isAgg24 Tryd.sizeOf24 rfl p1.at_ (Nat.le_of_ble_eq_true rfl) rfl) (resOf_tmp (v := .int .i64 ((5 : Nat) : Int)) rfl) ?_)))
 have g2 := (g1.trans gr1).put p1 n1 lo2
 refine ⟨h, g2, ?_⟩
 exact ⟨_, _, rfl, (Kn.fst (parse_0 (by omega)) (Kz _)), (intv (congrArg Prod.snd (parse_0 (by omega))).symm)⟩
 replace c1 : ¬ (10000 < l.length) := (of_decide_eq_false c1)
 have hl2 : l.length ≤ 200 := by omega
 have hml := mOf_len l
 have h10 := sz_small (n := 10) (by decide)
 have h1 := sz_one
 have hb10 : bq (((10 : Nat) : Int) : Rat) ≤ 2 := bq_intc (by decide) (by decide)
 refine Wp.skip (sr (Ops.cut (fun ρ' w' => w1 = w' ∧ ∃ ρb, ρ' = upds ρb [(0, .string (S l)), (2, .pointer (some ⟨b1, 0, none⟩)), (4, .bool ((decide (0 < l.length)) && (decide ((l.getD 0 0).toNat = 45))))]) ?_ ?_))
 refine mv (oC (OpW.lenSS (s := l) Tryd.underlying9 rfl ?_))
 refine oC (OpW.gtr (a := ((l.length : Nat) : Int)) (b := ((0 : Nat) : Int)) (r := decide (0 < l.length)) rfl rfl (lt_nat (a := 0) (b := l.length)) (mv ?_))
 cases c2 : (decide (0 < l.length))
 replace c2 : ¬ (0 < l.length) := (of_decide_eq_false c2)
 refine oD rfl rfl rfl rfl (oD rfl rfl rfl rfl (oD rfl rfl rfl rfl (oC (pF (v := .bool false) rfl rfl (ma (oN ?_))))))
 exact ⟨rfl, _, nm rfl⟩
 replace c2 : 0 < l.length := (of_decide_eq_true c2)
 refine oL rfl rfl rfl (OpW.move (v := .string (S l)) rfl ?_)
 have hby1 : (l.getD 0 0).toNat < 256 := UInt8.toNat_lt _
 refine oL rfl rfl rfl (OpW.indexSS (s := l) (i := 0) Tryd.underlying9 rfl rfl (by omega) ?_)
 refine oL rfl rfl rfl (OpW.eqlI (a := (((l.getD 0 0).toNat : Nat) : Int)) (b := ((45 : Nat) : Int)) (r := decide ((l.getD 0 0).toNat = 45)) rfl rfl (eq_nat (a := (l.getD 0 0).toNat) (b := 45)) ?_)
 refine oC (pT (v := .bool (decide ((l.getD 0 0).toNat = 45))) rfl rfl (ma (oN ?_)))
 exact ⟨rfl, _, nm rfl⟩
 rintro ρ1 w3 ⟨rfl, ρ2, rfl⟩
 refine wS (sr (mv (oN (Wp.cut (fun ρ' w' => w1 = w' ∧ ∃ ρb, ρ' = upds ρb [(0, .string (S (mOf l))), (2, .pointer (some ⟨b1, 0, none⟩)), (4, .bool ((decide (0 < l.length)) && (decide ((l.getD 0 0).toNat = 45))))]) ?_ ?_))))
 refine Wp.cond (t := (decide (0 < l.length)) && (decide ((l.getD 0 0).toNat = 45))) rfl (fun c3 => ?_) (fun c3 => ?_)
 replace c3 : (0 < l.length) ∧ ((l.getD 0 0).toNat = 45) := ⟨(of_decide_eq_true (and_l c3)), (of_decide_eq_true (and_r c3))⟩
 refine wR (mv (oC (OpW.sliceSFrom (s := l) (l := 1) Tryd.underlying9 rfl rfl (by omega) (ma (oN ?_)))))
 exact ⟨rfl, _, named ⟨(strv (mOf_t (by assumption))), rfl, rfl, trivial⟩⟩
 replace c3 : ¬ ((0 < l.length) ∧ ((l.getD 0 0).toNat = 45)) := (fun pq => (and_f c3).elim (fun h => (of_decide_eq_false h) pq.1) (fun h => (of_decide_eq_false h) pq.2))
 refine Wp.skip ?_
 exact ⟨rfl, _, named ⟨(strv (mOf_f (by assumption))), rfl, rfl, trivial⟩⟩
 rintro ρ3 w4 ⟨rfl, ρ4, rfl⟩
 refine sr (mv (oC (OpW.lenSS (s := mOf l) Tryd.underlying9 rfl (ma (oN (wS (sr (mv (oC (OpW.lenSS (s := mOf l) Tryd.underlying9 rfl ?_))))))))))
 refine oC (OpW.sub (a := (((mOf l).length : Nat) : Int)) (b := ((1 : Nat) : Int)) (r := ((((mOf l).length : Nat) : Int) - ((1 : Nat) : Int))) rfl rfl (in_i64 (by omega)) (ma (oN (Wp.block ?_))))
 have g3 := g1.trans gr1
 refine Wp.loop (σ := Nat × Nat) (fun s (ρ : Env) (w' : World) => match s with | (k, c) => ∃ ρb h', ρ = upds ρb [(0, .string (S (mOf l))), (2, .pointer (some ⟨b1, 0, none⟩)), (4, .bool ((decide (0 < l.length)) && (decide ((l.getD 0 0).toNat = 45)))), (5, .int .i64 ((c : Nat) : Int)), (6, .int .i64 (((k : Nat) : Int) - 1))] ∧ Gr h w h' w' ∧ PH.le h h' ∧ w'.heap[b1]? = some (.cells #[.bool false, .slice none 0 0, .slice none 0 0] 24 (0, 0)) ∧ h' b1 = none ∧ (k ≤ (mOf l).length) ∧ (CutInv (mOf l) k c)) (fun s => match s with | (k, c) => k) ((mOf l).length, (mOf l).length) ?_ ?_
 exact ⟨_, h, named ⟨(by exact rfl), (by exact rfl), (by exact rfl), (by exact rfl), (by exact (intv (by omega))), trivial⟩, g3, PH.le.refl _, o1, n1, (by omega), (cut_init _)⟩
 rintro ⟨k, c⟩ ρ5 w5 ⟨ρ6, h1, rfl, g4, l1, o3, n2, hk, hc⟩
 have hcl := hc.2.1
 have hck := hc.1
 refine wS (sr (mv (oC (OpW.geq (a := (((k : Nat) : Int) - 1)) (b := ((0 : Nat) : Int)) (r := decide (((0 : Nat) : Int) ≤ (((k : Nat) : Int) - 1))) rfl rfl rfl (oN (Wp.cond (t := decide (((0 : Nat) : Int) ≤ (((k : Nat) : Int) - 1))) rfl (fun c4 => ?_) (fun c4 => ?_)))))))
 replace c4 : ((0 : Nat) : Int) ≤ (((k : Nat) : Int) - 1) := (of_decide_eq_true c4)
 refine Wp.skip (wS (Wp.block (sr (Ops.cut (fun ρ' w' => w5 = w' ∧ ∃ ρb, ρ' = upds ρb [(0, .string (S (mOf l))), (2, .pointer (some ⟨b1, 0, none⟩)), (4, .bool ((decide (0 < l.length)) && (decide ((l.getD 0 0).toNat = 45)))), (5, .int .i64 ((c : Nat) : Int)), (6, .int .i64 (((k : Nat) : Int) - 1)), (45, .bool ((decide (((mOf l).getD (k - 1) 0).toNat = 46)) || (decide (((mOf l).getD (k - 1) 0).toNat = 47))))]) ?_ ?_))))
 refine mv (mv ?_)
 have hby2 : ((mOf l).getD (k - 1) 0).toNat < 256 := UInt8.toNat_lt _
 refine oC (OpW.indexSS (s := mOf l) (i := k - 1) Tryd.underlying9 rfl (intv (a := (((k : Nat) : Int) - 1)) (by omega)) (by omega) ?_)
 refine oC (OpW.eqlI (a := ((((mOf l).getD (k - 1) 0).toNat : Nat) : Int)) (b := ((46 : Nat) : Int)) (r := decide (((mOf l).getD (k - 1) 0).toNat = 46)) rfl rfl (eq_nat (a := ((mOf l).getD (k - 1) 0).toNat) (b := 46)) (mv ?_))
 cases c5 : (decide (((mOf l).getD (k - 1) 0).toNat = 46))
 replace c5 : ¬ (((mOf l).getD (k - 1) 0).toNat = 46) := (of_decide_eq_false c5)
 refine oL rfl rfl rfl (OpW.move (v := .string (S (mOf l))) rfl ?_)
 refine oL rfl rfl rfl (OpW.move (v := .int .i64 (((k : Nat) : Int) - 1)) rfl ?_)
 have hby3 : ((mOf l).getD (k - 1) 0).toNat < 256 := UInt8.toNat_lt _
 refine oL rfl rfl rfl (OpW.indexSS (s := mOf l) (i := k - 1) Tryd.underlying9 rfl (intv (a := (((k : Nat) : Int) - 1)) (by omega)) (by omega) ?_)
 refine oL rfl rfl rfl (OpW.eqlI (a := ((((mOf l).getD (k - 1) 0).toNat : Nat) : Int)) (b := ((47 : Nat) : Int)) (r := decide (((mOf l).getD (k - 1) 0).toNat = 47)) rfl rfl (eq_nat (a := ((mOf l).getD (k - 1) 0).toNat) (b := 47)) ?_)
 refine oC (pF (v := .bool (decide (((mOf l).getD (k - 1) 0).toNat = 47))) rfl rfl (oN ?_))
 exact ⟨rfl, _, nm rfl⟩
 replace c5 : ((mOf l).getD (k - 1) 0).toNat = 46 := (of_decide_eq_true c5)
 refine oD rfl rfl rfl rfl (oD rfl rfl rfl rfl (oD rfl rfl rfl rfl (oD rfl rfl rfl rfl (oC (pT (v := .bool true) rfl rfl (oN ?_))))))
 exact ⟨rfl, _, nm rfl⟩
 rintro ρ7 w6 ⟨rfl, ρ8, rfl⟩
 refine Wp.cond (t := (decide (((mOf l).getD (k - 1) 0).toNat = 46)) || (decide (((mOf l).getD (k - 1) 0).toNat = 47))) rfl (fun c6 => ?_) (fun c6 => ?_)
 replace c6 : (((mOf l).getD (k - 1) 0).toNat = 46) ∨ (((mOf l).getD (k - 1) 0).toNat = 47) := ((or_t c6).imp (fun h => (of_decide_eq_true h)) (fun h => (of_decide_eq_true h)))
 have hmk := c6
 refine wR (mv (ma (oN (wR (mv (oC (OpW.sub (a := (((k : Nat) : Int) - 1)) (b := ((1 : Nat) : Int)) (r := (((k : Nat) : Int) - 1 - 1)) rfl rfl ((in_i64 (by omega)).trans (by omega)) (ma (oN ?_)))))))))
 exact ⟨(k - 1, k - 1), ⟨_, h1, named ⟨(by exact rfl), (by exact rfl), (by exact rfl), (by exact (intv (by omega))), (by exact (intv (by omega))), trivial⟩, g4, l1, o3, n2, (by omega), (cut_yes (by omega) hk hmk)⟩, (by dsimp only; omega)⟩
 replace c6 : ¬ ((((mOf l).getD (k - 1) 0).toNat = 46) ∨ (((mOf l).getD (k - 1) 0).toNat = 47)) := (fun pq => pq.elim (of_decide_eq_false (or_l c6)) (of_decide_eq_false (or_r c6)))
 have hmk := c6
 refine Wp.skip (wR (mv (oC (OpW.sub (a := (((k : Nat) : Int) - 1)) (b := ((1 : Nat) : Int)) (r := (((k : Nat) : Int) - 1 - 1)) rfl rfl ((in_i64 (by omega)).trans (by omega)) (ma (oN ?_))))))
 exact ⟨(k - 1, c), ⟨_, h1, named ⟨(by exact rfl), (by exact rfl), (by exact rfl), (by exact rfl), (by exact (intv (by omega))), trivial⟩, g4, l1, o3, n2, (by omega), (cut_no hc (by omega) hmk)⟩, (by dsimp only; omega)⟩
 replace c4 : ¬ (((0 : Nat) : Int) ≤ (((k : Nat) : Int) - 1)) := (of_decide_eq_false c4)
 have hc0 : CutInv (mOf l) 0 c := by rw [show k = 0 by omega] at hc; exact hc
 have hsn := sz_numN ((mOf l).take c)
 have hsm := sz_numN ((mOf l).drop (c + 1))
 have htl : ((mOf l).take c).length ≤ 200 := by simp only [List.length_take]; omega
 have hdl : ((mOf l).drop (c + 1)).length ≤ 200 := by simp only [List.length_drop]; omega
 have hnd : (digs (numN ((mOf l).take c))).length ≤ 200 := Nat.le_trans hsn htl
 have hmd : (digs (numN ((mOf l).drop (c + 1)))).length ≤ 200 := Nat.le_trans hsm hdl
 have hsp := sz_pow 10 ((mOf l).length - c - 1)
 have hpm := Nat.mul_le_mul (show (mOf l).length - c - 1 ≤ 200 by omega) h10
 have hpd : (digs (10 ^ ((mOf l).length - c - 1))).length ≤ 401 := Nat.le_trans hsp (by omega)
 have hs1 := sz_mul (numN ((mOf l).take c)) (10 ^ ((mOf l).length - c - 1))
 have hs2 := sz_add (numN ((mOf l).take c) * 10 ^ ((mOf l).length - c - 1)) (numN ((mOf l).drop (c + 1)))
 have hsd : (digs (numN ((mOf l).take c) * 10 ^ ((mOf l).length - c - 1) + numN ((mOf l).drop (c + 1)))).length ≤ 1000 := Nat.le_trans hs2 (by omega)
 have hp0' : 10 ^ ((mOf l).length - c - 1) ≠ 0 := Nat.pos_iff_ne_zero.1 (Nat.pow_pos (by decide))
 have hbp := bq_powR10 ((mOf l).length - c - 1)
 refine Wp.exit (sr (mv (mv (oC (OpW.sliceSTo (s := mOf l) (m := c) Tryd.underlying9 rfl rfl (by omega) ?_)))))
 refine oC (cF Tryd.call95 (rnumber_c (l := (mOf l).take c) g4.sat  (by omega)) rfl ?_)
 intro r1 h2 w7 gr2 hr1
 obtain ⟨r2, r3, rfl, hr2, hr3⟩ := hr1
 obtain ⟨b2, c7, rfl, k1⟩ := N.shape hr2
 subst hr3
 refine mv (oC (OpW.extract (v := .slice b2 ((digs (numN ((mOf l).take c))).length) c7) rfl rfl ?_))
 refine oC (OpW.extract (v := .bool (isNum ((mOf l).take c))) rfl rfl (ma (ma (oN (wS (wS (fg [(0, .string (S (mOf l))), (2, .pointer (some ⟨b1, 0, none⟩)), (4, .bool ((decide (0 < l.length)) && (decide ((l.getD 0 0).toNat = 45)))), (5, .int .i64 ((c : Nat) : Int)), (7, .slice b2 ((digs (numN ((mOf l).take c))).length) c7), (8, .bool (isNum ((mOf l).take c)))] rfl (fun ρ9 => (wR (mv (oC (OpW.notB (a := isNum ((mOf l).take c)) (r := !(isNum ((mOf l).take c))) rfl rfl (oN (Wp.cond (t := !(isNum ((mOf l).take c))) rfl (fun c8 => ?_) (fun c8 => ?_)))))))))))))))
 replace c8 : ¬ (isNum ((mOf l).take c) = true) := (raw_f (not_t c8))
 have hn := c8
 refine sr (oC (OpW.build (places := [(0, 1), (1, 1), (2, 1)]) (cs := [.bool false, .slice none 0 0, .slice none 0 0]) Tryd.underlying24 Tryd.zeroValue24 (fun _ => by kernel_rfl) rfl ?_))
 have o4 := gr2.kp ⟨o3, n2⟩
 refine oC (sA (cs := [.bool false, .slice none 0 0, .slice none 0 0]) Tryd.sizeOf24 rfl rfl rfl rfl o4.1 rfl ?_)
 intro w8 p2
 refine ma (oN (Wp.ret (fin2_ret rfl (resOf_cellA (cs := [.bool false, .slice none 0 0, .slice none 0 0]) Tryd.isAgg24 Tryd.sizeOf24 rfl p2.at_ (Nat.le_of_ble_eq_true rfl) rfl) (resOf_tmp (v := .int .i64 ((4 : Nat) : Int)) rfl) ?_)))
 have g5 := (g4.trans gr2).put p2 o4.2 lo2
 refine ⟨h2, g5, ?_⟩
 exact ⟨_, _, rfl, (Kn.fst ((pm (by omega)).trans (pz1 hc0 hn)) (Kz _)), (intv (congrArg Prod.snd ((pm (by omega)).trans (pz1 hc0 hn))).symm)⟩
 replace c8 : ¬ (¬ (isNum ((mOf l).take c) = true)) := (fun n => n (not_f c8))
 have hn := Classical.not_not.1 c8
 refine Wp.skip (wS (sr (mv (mv (oC (OpW.lenSS (s := mOf l) Tryd.underlying9 rfl ?_))))))
 refine oC (OpW.eqlI (a := ((c : Nat) : Int)) (b := (((mOf l).length : Nat) : Int)) (r := decide (c = (mOf l).length)) rfl rfl (eq_nat (a := c) (b := (mOf l).length)) (oN (Wp.cond (t := decide (c = (mOf l).length)) rfl (fun c9 => ?_) (fun c9 => ?_))))
 replace c9 : c = (mOf l).length := (of_decide_eq_true c9)
 have he := c9
 refine wS (fg [(2, .pointer (some ⟨b1, 0, none⟩)), (4, .bool ((decide (0 < l.length)) && (decide ((l.getD 0 0).toNat = 45)))), (7, .slice b2 ((digs (numN ((mOf l).take c))).length) c7)] rfl (fun ρ10 => (wR (mv (mv ?_)))))
 have g6 := g4.trans gr2
 refine oC (cF Tryd.call81 (rmake1_c (s := (decide (0 < l.length)) && (decide ((l.getD 0 0).toNat = 45))) (n := digs (numN ((mOf l).take c))) (d := []) g6.sat hr2 (U.nil _ none _) (by omega) (Nat.zero_le _)) rfl ?_)
 intro r4 h3 w9 gr3 hr4
 replace hr4 := Kn.cast (frm1.trans (congrArg Prod.fst ((pm (by omega)).trans (pz2 hc0 hn he))).symm) hr4
 obtain ⟨b3, c10, b4, c11, rfl, k2, k3, u1, u2⟩ := F.shape hr4
 have o6 := gr3.kp (gr2.kp ⟨o3, n2⟩)
 refine oC (sA (cs := [.bool ((frK ((parseQ l).1)).neg), .slice b3 ((frK ((parseQ l).1)).n.length) c10, .slice b4 ((frK ((parseQ l).1)).d.length) c11]) Tryd.sizeOf24 rfl rfl rfl rfl o6.1 rfl ?_)
 intro w10 p3
 refine ma (oN (Wp.ret (fin2_ret rfl (resOf_cellA (cs := [.bool ((frK ((parseQ l).1)).neg), .slice b3 ((frK ((parseQ l).1)).n.length) c10, .slice b4 ((frK ((parseQ l).1)).d.length) c11]) Tryd.isAgg24 Tryd.sizeOf24 rfl p3.at_ (Nat.le_of_ble_eq_true rfl) rfl) (resOf_tmp (v := .int .i64 ((0 : Nat) : Int)) rfl) ?_)))
 have g7 := (g6.trans gr3).put p3 o6.2 lo2
 refine ⟨h3, g7, ?_⟩
 exact ⟨_, _, rfl, (F.mk u1 u2), (intv (congrArg Prod.snd ((pm (by omega)).trans (pz2 hc0 hn he))).symm)⟩
 replace c9 : ¬ (c = (mOf l).length) := (of_decide_eq_false c9)
 have he := c9
 refine Wp.skip (wS (fg [(0, .string (S (mOf l))), (2, .pointer (some ⟨b1, 0, none⟩)), (4, .bool ((decide (0 < l.length)) && (decide ((l.getD 0 0).toNat = 45)))), (5, .int .i64 ((c : Nat) : Int)), (7, .slice b2 ((digs (numN ((mOf l).take c))).length) c7)] rfl (fun ρ11 => (wR (mv (mv (oC (OpW.add (a := ((c : Nat) : Int)) (b := ((1 : Nat) : Int)) (r := ((c + 1 : Nat) : Int)) rfl rfl (add_i64 (a := c) (b := 1) (by omega)) ?_))))))))
 refine oC (OpW.sliceSFrom (s := mOf l) (l := c + 1) Tryd.underlying9 rfl rfl (by omega) ?_)
 have g8 := g4.trans gr2
 refine oC (cF Tryd.call95 (rnumber_c (l := (mOf l).drop (c + 1)) g8.sat  (by omega)) rfl ?_)
 intro r5 h4 w11 gr4 hr5
 obtain ⟨r6, r7, rfl, hr6, hr7⟩ := hr5
 obtain ⟨b5, c12, rfl, k4⟩ := N.shape hr6
 subst hr7
 refine mv (oC (OpW.extract (v := .slice b5 ((digs (numN ((mOf l).drop (c + 1)))).length) c12) rfl rfl ?_))
 refine oC (OpW.extract (v := .bool (isNum ((mOf l).drop (c + 1)))) rfl rfl (ma (ma (oN (wS (wS (fg [(0, .string (S (mOf l))), (2, .pointer (some ⟨b1, 0, none⟩)), (4, .bool ((decide (0 < l.length)) && (decide ((l.getD 0 0).toNat = 45)))), (5, .int .i64 ((c : Nat) : Int)), (7, .slice b2 ((digs (numN ((mOf l).take c))).length) c7), (9, .slice b5 ((digs (numN ((mOf l).drop (c + 1)))).length) c12), (10, .bool (isNum ((mOf l).drop (c + 1))))] rfl (fun ρ12 => (wR (mv (oC (OpW.notB (a := isNum ((mOf l).drop (c + 1))) (r := !(isNum ((mOf l).drop (c + 1)))) rfl rfl (oN (Wp.cond (t := !(isNum ((mOf l).drop (c + 1)))) rfl (fun c13 => ?_) (fun c13 => ?_)))))))))))))))
 replace c13 : ¬ (isNum ((mOf l).drop (c + 1)) = true) := (raw_f (not_t c13))
 have ht := c13
 refine sr (oC (OpW.build (places := [(0, 1), (1, 1), (2, 1)]) (cs := [.bool false, .slice none 0 0, .slice none 0 0]) Tryd.underlying24 Tryd.zeroValue24 (fun _ => by kernel_rfl) rfl ?_))
 have o8 := gr4.kp (gr2.kp ⟨o3, n2⟩)
 refine oC (sA (cs := [.bool false, .slice none 0 0, .slice none 0 0]) Tryd.sizeOf24 rfl rfl rfl rfl o8.1 rfl ?_)
 intro w12 p4
 refine ma (oN (Wp.ret (fin2_ret rfl (resOf_cellA (cs := [.bool false, .slice none 0 0, .slice none 0 0]) Tryd.isAgg24 Tryd.sizeOf24 rfl p4.at_ (Nat.le_of_ble_eq_true rfl) rfl) (resOf_tmp (v := .int .i64 ((4 : Nat) : Int)) rfl) ?_)))
 have g9 := (g8.trans gr4).put p4 o8.2 lo2
 refine ⟨h4, g9, ?_⟩
 exact ⟨_, _, rfl, (Kn.fst ((pm (by omega)).trans (pz3 hc0 hn he ht)) (Kz _)), (intv (congrArg Prod.snd ((pm (by omega)).trans (pz3 hc0 hn he ht))).symm)⟩
 replace c13 : ¬ (¬ (isNum ((mOf l).drop (c + 1)) = true)) := (fun n => n (not_f c13))
 have ht := Classical.not_not.1 c13
 refine Wp.skip (wS (sr (mv (mv ?_))))
 have hby4 : ((mOf l).getD c 0).toNat < 256 := UInt8.toNat_lt _
 refine oC (OpW.indexSS (s := mOf l) (i := c) Tryd.underlying9 rfl rfl (by omega) ?_)
 refine oC (OpW.eqlI (a := ((((mOf l).getD c 0).toNat : Nat) : Int)) (b := ((47 : Nat) : Int)) (r := decide (((mOf l).getD c 0).toNat = 47)) rfl rfl (eq_nat (a := ((mOf l).getD c 0).toNat) (b := 47)) (oN (Wp.cond (t := decide (((mOf l).getD c 0).toNat = 47)) rfl (fun c14 => ?_) (fun c14 => ?_))))
 replace c14 : ((mOf l).getD c 0).toNat = 47 := (of_decide_eq_true c14)
 have hsl := c14
 refine wS (wS (fg [(2, .pointer (some ⟨b1, 0, none⟩)), (4, .bool ((decide (0 < l.length)) && (decide ((l.getD 0 0).toNat = 45)))), (7, .slice b2 ((digs (numN ((mOf l).take c))).length) c7), (9, .slice b5 ((digs (numN ((mOf l).drop (c + 1)))).length) c12)] rfl (fun ρ13 => (wR (mv (oC (OpW.lenS Tryd.underlying22 (l := (digs (numN ((mOf l).drop (c + 1)))).length) rfl ?_)))))))
 refine oC (OpW.eqlI (a := (((digs (numN ((mOf l).drop (c + 1)))).length : Nat) : Int)) (b := ((0 : Nat) : Int)) (r := decide ((digs (numN ((mOf l).drop (c + 1)))).length = 0)) rfl rfl (eq_nat (a := (digs (numN ((mOf l).drop (c + 1)))).length) (b := 0)) (oN (Wp.cond (t := decide ((digs (numN ((mOf l).drop (c + 1)))).length = 0)) rfl (fun c15 => ?_) (fun c15 => ?_))))
 replace c15 : (digs (numN ((mOf l).drop (c + 1)))).length = 0 := (of_decide_eq_true c15)
 have hz := c15
 refine sr (oC (OpW.build (places := [(0, 1), (1, 1), (2, 1)]) (cs := [.bool false, .slice none 0 0, .slice none 0 0]) Tryd.underlying24 Tryd.zeroValue24 (fun _ => by kernel_rfl) rfl ?_))
 have o10 := gr4.kp (gr2.kp ⟨o3, n2⟩)
 refine oC (sA (cs := [.bool false, .slice none 0 0, .slice none 0 0]) Tryd.sizeOf24 rfl rfl rfl rfl o10.1 rfl ?_)
 intro w13 p5
 refine ma (oN (Wp.ret (fin2_ret rfl (resOf_cellA (cs := [.bool false, .slice none 0 0, .slice none 0 0]) Tryd.isAgg24 Tryd.sizeOf24 rfl p5.at_ (Nat.le_of_ble_eq_true rfl) rfl) (resOf_tmp (v := .int .i64 ((3 : Nat) : Int)) rfl) ?_)))
 have g10 := (g8.trans gr4).put p5 o10.2 lo2
 refine ⟨h4, g10, ?_⟩
 exact ⟨_, _, rfl, (Kn.fst ((pm (by omega)).trans (pz4 hc0 hn he ht hsl hz)) (Kz _)), (intv (congrArg Prod.snd ((pm (by omega)).trans (pz4 hc0 hn he ht hsl hz))).symm)⟩
 replace c15 : ¬ ((digs (numN ((mOf l).drop (c + 1)))).length = 0) := (of_decide_eq_false c15)
 have hz := c15
 refine Wp.skip (sr (mv (mv (mv ?_))))
 have g11 := g8.trans gr4
 refine oC (cF Tryd.call81 (rmake1_c (s := (decide (0 < l.length)) && (decide ((l.getD 0 0).toNat = 45))) (n := digs (numN ((mOf l).take c))) (d := digs (numN ((mOf l).drop (c + 1)))) g11.sat (U.mono hr2 gr4.le) hr6 (by omega) (by omega)) rfl ?_)
 intro r8 h5 w14 gr5 hr8
 replace hr8 := Kn.cast ((frm2 (fun e => hz (len_zero.2 e))).trans (congrArg Prod.fst ((pm (by omega)).trans (pz5 hc0 hn he ht hsl hz))).symm) hr8
 obtain ⟨b6, c16, b7, c17, rfl, k5, k6, u3, u4⟩ := F.shape hr8
 have o12 := gr5.kp (gr4.kp (gr2.kp ⟨o3, n2⟩))
 refine oC (sA (cs := [.bool ((frK ((parseQ l).1)).neg), .slice b6 ((frK ((parseQ l).1)).n.length) c16, .slice b7 ((frK ((parseQ l).1)).d.length) c17]) Tryd.sizeOf24 rfl rfl rfl rfl o12.1 rfl ?_)
 intro w15 p6
 refine ma (oN (Wp.ret (fin2_ret rfl (resOf_cellA (cs := [.bool ((frK ((parseQ l).1)).neg), .slice b6 ((frK ((parseQ l).1)).n.length) c16, .slice b7 ((frK ((parseQ l).1)).d.length) c17]) Tryd.isAgg24 Tryd.sizeOf24 rfl p6.at_ (Nat.le_of_ble_eq_true rfl) rfl) (resOf_tmp (v := .int .i64 ((0 : Nat) : Int)) rfl) ?_)))
 have g12 := (g11.trans gr5).put p6 o12.2 lo2
 refine ⟨h5, g12, ?_⟩
 exact ⟨_, _, rfl, (F.mk u3 u4), (intv (congrArg Prod.snd ((pm (by omega)).trans (pz5 hc0 hn he ht hsl hz))).symm)⟩
 replace c14 : ¬ (((mOf l).getD c 0).toNat = 47) := (of_decide_eq_false c14)
 have hsl := c14
 refine Wp.skip (wS (fg [(0, .string (S (mOf l))), (2, .pointer (some ⟨b1, 0, none⟩)), (4, .bool ((decide (0 < l.length)) && (decide ((l.getD 0 0).toNat = 45)))), (5, .int .i64 ((c : Nat) : Int)), (7, .slice b2 ((digs (numN ((mOf l).take c))).length) c7), (9, .slice b5 ((digs (numN ((mOf l).drop (c + 1)))).length) c12)] rfl (fun ρ14 => (wR ?_))))
 have g13 := g8.trans gr4
 refine oC (cF Tryd.call38 (rOf_c (n := ((10 : Nat) : Int)) g13.sat  (by omega) (by omega)) rfl ?_)
 intro r9 h6 w16 gr6 hr9
 obtain ⟨b8, c18, b9, c19, rfl, k7, k8, u5, u6⟩ := F.shape hr9
 refine mv (oC (OpW.lenSS (s := mOf l) Tryd.underlying9 rfl (mv (oC (OpW.sub (a := (((mOf l).length : Nat) : Int)) (b := ((c : Nat) : Int)) (r := ((((mOf l).length) - c : Nat) : Int)) rfl rfl (sub_i64 (a := (mOf l).length) (b := c) (by omega) (by omega)) ?_)))))
 refine oC (OpW.sub (a := ((((mOf l).length) - c : Nat) : Int)) (b := ((1 : Nat) : Int)) (r := (((((mOf l).length) - c) - 1 : Nat) : Int)) rfl rfl (sub_i64 (a := ((mOf l).length) - c) (b := 1) (by omega) (by omega)) ?_)
 have g14 := g13.trans gr6
 refine oC (cF Tryd.call24 (rPow_c (a := frK ((((10 : Nat) : Int) : Int) : Rat)) (n := (((((mOf l).length) - c) - 1 : Nat) : Int)) g14.sat hr9 (by first | omega | (simp only [bf_frK, frK_rat, wts_cons, wts_nil]; omega)) (by omega) (by omega) (fun h => by omega)) rfl ?_)
 intro r10 h7 w17 gr7 hr10
 simp only [frK_rat, bf_frK, val_digs] at hr10
 replace hr10 := Kn.cast (powR10 _) hr10
 obtain ⟨b10, c20, b11, c21, rfl, k9, k10, u7, u8⟩ := F.shape hr10
 refine oC (OpW.field1 (v := .slice b10 ((frK (((10 ^ ((mOf l).length - c - 1) : Nat) : Int) : Rat)).n.length) c20) Tryd.underlying24 rfl Tryd.isAgg22 rfl rfl (ma (oN (wS (fg [(2, .pointer (some ⟨b1, 0, none⟩)), (4, .bool ((decide (0 < l.length)) && (decide ((l.getD 0 0).toNat = 45)))), (7, .slice b2 ((digs (numN ((mOf l).take c))).length) c7), (9, .slice b5 ((digs (numN ((mOf l).drop (c + 1)))).length) c12), (11, .slice b10 ((frK (((10 ^ ((mOf l).length - c - 1) : Nat) : Int) : Rat)).n.length) c20)] rfl (fun ρ15 => (wR (mv (mv (mv ?_))))))))))
 have g15 := g14.trans gr7
 refine oC (cF Tryd.call93 (rtimes_c (a := numN ((mOf l).take c)) (b := 10 ^ ((mOf l).length - c - 1)) g15.sat (N.mono hr2 ((gr4.le.trans gr6.le).trans gr7.le)) (U.ofDigs u7 (frK_natn _).symm) (by omega) (by omega)) rfl ?_)
 intro r11 h8 w18 gr8 hr11
 obtain ⟨b12, c22, rfl, k11⟩ := N.shape hr11
 refine mv ?_
 have g16 := g15.trans gr8
 refine oC (cF Tryd.call96 (rplus_c (a := (numN ((mOf l).take c)) * (10 ^ ((mOf l).length - c - 1))) (b := numN ((mOf l).drop (c + 1))) g16.sat hr11 (N.mono hr6 ((gr6.le.trans gr7.le).trans gr8.le)) (by omega) (by omega)) rfl ?_)
 intro r12 h9 w19 gr9 hr12
 obtain ⟨b13, c23, rfl, k12⟩ := N.shape hr12
 refine mv ?_
 have g17 := g16.trans gr9
 refine oC (cF Tryd.call81 (rmake1_c (s := (decide (0 < l.length)) && (decide ((l.getD 0 0).toNat = 45))) (n := digs (((numN ((mOf l).take c)) * (10 ^ ((mOf l).length - c - 1))) + (numN ((mOf l).drop (c + 1))))) (d := digs (10 ^ ((mOf l).length - c - 1))) g17.sat hr12 (U.mono (U.ofDigs u7 (frK_natn _).symm) (gr8.le.trans gr9.le)) (by omega) (by omega)) rfl ?_)
 intro r13 h10 w20 gr10 hr13
 replace hr13 := Kn.cast ((frm2 hp0').trans (congrArg Prod.fst ((pm (by omega)).trans (pz6 hc0 hn he ht hsl))).symm) hr13
 obtain ⟨b14, c24, b15, c25, rfl, k13, k14, u9, u10⟩ := F.shape hr13
 have o14 := gr10.kp (gr9.kp (gr8.kp (gr7.kp (gr6.kp (gr4.kp (gr2.kp ⟨o3, n2⟩))))))
 refine oC (sA (cs := [.bool ((frK ((parseQ l).1)).neg), .slice b14 ((frK ((parseQ l).1)).n.length) c24, .slice b15 ((frK ((parseQ l).1)).d.length) c25]) Tryd.sizeOf24 rfl rfl rfl rfl o14.1 rfl ?_)
 intro w21 p7
 refine ma (oN (Wp.ret (fin2_ret rfl (resOf_cellA (cs := [.bool ((frK ((parseQ l).1)).neg), .slice b14 ((frK ((parseQ l).1)).n.length) c24, .slice b15 ((frK ((parseQ l).1)).d.length) c25]) Tryd.isAgg24 Tryd.sizeOf24 rfl p7.at_ (Nat.le_of_ble_eq_true rfl) rfl) (resOf_tmp (v := .int .i64 ((0 : Nat) : Int)) rfl) ?_)))
 have g18 := (g17.trans gr10).put p7 o14.2 lo2
 refine ⟨h10, g18, ?_⟩
 exact ⟨_, _, rfl, (F.mk u9 u10), (intv (congrArg Prod.snd ((pm (by omega)).trans (pz6 hc0 hn he ht hsl))).symm)⟩
end Go.Ear
