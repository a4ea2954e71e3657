/- About package frac: K7. -/
import Derived.Test.YtmidncjhlnfojaaDoorNatLaw2
import Derived.Test.YtmidncjhlnfojaaDoorEarShort
import Derived.Test.YtmidncjhlnfojaaDoorProg
import Derived.Test.YtmidncjhlnfojaaDoorNatLaw3
import Derived.Test.YtmidncjhlnfojaaDoorEarFrac
import Derived.Test.YtmidncjhlnfojaaDoorEarDec
import Derived.Test.YtmidncjhlnfojaaDoorItoaLay
import Derived.Lib.ItoaMem
import Derived.Test.YtmidncjhlnfojaaDoorK1
import Derived.Test.YtmidncjhlnfojaaDoorK4
set_option linter.all false
namespace Go.Ear
open Go.Proofs
set_option maxRecDepth 20000
set_option linter.unusedVariables false
set_option maxHeartbeats 2000000
theorem itoa_c {h : PH} {w : World} {n : Nat} (hs : Sat h w) (tb : Tab h) (hp0 : n < 1000000000) :
    Calls Tryd.prog 118 #[.int .i64 ((n : Nat) : Int)] w (Ret h w fun h' r => r = .string (S (decT n))) := by
  have := Any.strconv_Itoa itoaLays (n : Int) (by omega) (by omega) w (tb.is hs (by kernel_rfl))
  refine Calls.mono this ?_
  rintro e w' ⟨rfl, k, os, rfl⟩
  exact ⟨_, h, rfl, Gr.grown hs k os, by rw [Lib.itoa_nonneg]; rfl⟩
theorem text_c {h : PH} {w : World} {v0 : Value} {a : Nat} (hs : Sat h w) (tb : Tab h) (pv0 : N h v0 a) (hp0 : sz a ≤ 1073741824) :
    Calls Tryd.prog 84 #[v0] w (Ret h w fun h' r => r = .string (S (decT a))) := by
 obtain ⟨b1, c1, rfl, k1⟩ := N.shape pv0
 have hdl := decT_len a
 have hz := len_zero (n := a)
 refine calls_ear (vs := [.slice b1 ((digs a).length) c1]) Tryd.func84 rfl rfl ?_
 have g1 := Gr.refl hs
 refine sr (ma (oN (wS (sr (mv (oC (OpW.lenS Tryd.underlying64 (l := (digs a).length) rfl ?_)))))))
 refine oC (OpW.eqlI (a := (((digs a).length : Nat) : Int)) (b := ((0 : Nat) : Int)) (r := decide ((digs a).length = 0)) rfl rfl (eq_nat (a := (digs a).length) (b := 0)) (oN (Wp.cond (t := decide ((digs a).length = 0)) rfl (fun c2 => ?_) (fun c2 => ?_))))
 replace c2 : (digs a).length = 0 := (of_decide_eq_true c2)
 refine sr (ma (oN (Wp.ret (fin1_ret rfl (resOf_tmp (v := .string (S ([48] : List UInt8))) rfl) ?_))))
 refine ⟨h, g1, ?_⟩
 exact (strv (by rw [hz.1 (by omega)]; exact (decT_small (u := 0) (by decide)).symm))
 replace c2 : ¬ ((digs a).length = 0) := (of_decide_eq_false c2)
 refine Wp.skip (sr (ma (oN (wS (Wp.block (Wp.loop (σ := Nat × List (List UInt8) × Option Addr × Nat × Value) (fun s (ρ : Env) (w' : World) => match s with | (a1, ps, bS0, cS0, vOs3) => ∃ ρb h', ρ = upds ρb [(0, .slice bS0 ((digs a1).length) cS0), (3, vOs3)] ∧ Gr h w h' w' ∧ PH.le h h' ∧ (decT a = (if a1 = 0 then [] else decT a1) ++ catR ps) ∧ (sz a1 ≤ 1073741824) ∧ (ps.length ≤ (catR ps).length) ∧ (N h' (.slice bS0 ((digs a1).length) cS0) a1) ∧ (OwnL rpS w.heap.size h' w' 9 vOs3 ps)) (fun s => match s with | (a1, ps, bS0, cS0, vOs3) => a1) (a, [], b1, c1, .slice none 0 0) ?_ ?_))))))
 exact ⟨_, h, nm (by exact rfl), g1, PH.le.refl _, (by rw [if_neg (by omega)]; exact (List.append_nil _).symm), (by omega), (Nat.le_refl _), pv0, (OwnL.nil rpS w.heap.size h w 9)⟩
 rintro ⟨a1, ps, bS0, cS0, vOs3⟩ ρ1 w1 ⟨ρ2, h1, rfl, g2, l1, hd, hs1, hpl, hS0, hO3⟩
 have hz1 := len_zero (n := a1)
 have hdl2 := congrArg List.length hd
 rw [List.length_append] at hdl2
 have hq1 := sz_mono (Nat.div_le_self a1 1000000000)
 have hz2 := len_zero (n := a1 / 1000000000)
 have hml := Nat.mod_lt a1 (show 0 < 1000000000 by decide)
 have hdp := decT_pos (a1 % 1000000000)
 refine wS (sr (mv (oC (OpW.lenS Tryd.underlying64 (l := (digs a1).length) rfl ?_))))
 refine oC (OpW.gtr (a := (((digs a1).length : Nat) : Int)) (b := ((0 : Nat) : Int)) (r := decide (0 < (digs a1).length)) rfl rfl (lt_nat (a := 0) (b := (digs a1).length)) (oN (Wp.cond (t := decide (0 < (digs a1).length)) rfl (fun c3 => ?_) (fun c3 => ?_))))
 replace c3 : 0 < (digs a1).length := (of_decide_eq_true c3)
 refine Wp.skip (Wp.block (sr (ma (oN (sr (mv (oC (cF Tryd.call117 (over_c (a := a1) (d := 1000000000) g2.sat hS0 (by omega) (by omega) (by omega)) rfl ?_))))))))
 intro r1 h2 w2 gr1 hr1
 have ow1 := OwnL.gr hO3 gr1
 obtain ⟨r2, r3, rfl, hr2, hr3⟩ := hr1
 obtain ⟨b2, c4, rfl, k2⟩ := N.shape hr2
 subst hr3
 refine mv (oC (OpW.extract (v := .slice b2 ((digs (a1 / 1000000000)).length) c4) rfl rfl ?_))
 refine oC (OpW.extract (v := .int .u32 ((a1 % 1000000000 : Nat) : Int)) rfl rfl (ma (ma (oN (wS (fg [(0, .slice b2 ((digs (a1 / 1000000000)).length) c4), (3, vOs3), (4, .int .u32 ((a1 % 1000000000 : Nat) : Int))] rfl (fun ρ3 => (wR (mv (oC (OpW.convI (a := ((a1 % 1000000000 : Nat) : Int)) (r := ((a1 % 1000000000 : Nat) : Int)) Tryd.underlying51 Tryd.underlying3 rfl (conv_i64 (by omega)) ?_)))))))))))
 have g3 := g2.trans gr1
 refine oC (cF Tryd.call118 (itoa_c (n := a1 % 1000000000) g3.sat (tb.mono (l1.trans gr1.le)) (by omega)) rfl ?_)
 intro r4 h3 w3 gr2 hr4
 have ow2 := OwnL.gr ow1 gr2
 subst hr4
 refine ma (oN (wS (Wp.block ?_)))
 have g4 := g3.trans gr2
 refine Wp.loop (σ := Nat) (fun (j : Nat) (ρ : Env) (w' : World) => ∃ ρb h', ρ = upds ρb [(0, .slice b2 ((digs (a1 / 1000000000)).length) c4), (3, vOs3), (5, .string (S (List.replicate j 48 ++ decT (a1 % 1000000000))))] ∧ Gr h w h' w' ∧ PH.le h3 h' ∧ (j = 0 ∨ (a1 / 1000000000 ≠ 0 ∧ j + (decT (a1 % 1000000000)).length ≤ 9)) ∧ (OwnL rpS w.heap.size h' w' 9 vOs3 ps)) (fun (j : Nat) => 9 - j) 0 ?_ ?_
 exact ⟨_, h3, nm rfl, g4, PH.le.refl _, (by omega), ow2⟩
 rintro j ρ4 w4 ⟨ρ5, h4, rfl, g5, l2, hj, hKvOs3⟩
 have hrl : (List.replicate j 48 ++ decT (a1 % 1000000000) : List UInt8).length = j + (decT (a1 % 1000000000)).length := by simp
 refine wS (sr (Ops.cut (fun ρ' w' => w4 = w' ∧ ∃ ρb, ρ' = upds ρb [(0, .slice b2 ((digs (a1 / 1000000000)).length) c4), (3, vOs3), (5, .string (S (List.replicate j 48 ++ decT (a1 % 1000000000)))), (29, .bool ((decide (0 < (digs (a1 / 1000000000)).length)) && (decide ((List.replicate j 48 ++ decT (a1 % 1000000000)).length < 9))))]) ?_ ?_))
 refine mv (oC (OpW.lenS Tryd.underlying64 (l := (digs (a1 / 1000000000)).length) rfl ?_))
 refine oC (OpW.gtr (a := (((digs (a1 / 1000000000)).length : Nat) : Int)) (b := ((0 : Nat) : Int)) (r := decide (0 < (digs (a1 / 1000000000)).length)) rfl rfl (lt_nat (a := 0) (b := (digs (a1 / 1000000000)).length)) (mv ?_))
 cases c5 : (decide (0 < (digs (a1 / 1000000000)).length))
 replace c5 : ¬ (0 < (digs (a1 / 1000000000)).length) := (of_decide_eq_false c5)
 refine oD rfl rfl rfl rfl (oD rfl rfl rfl rfl (oD rfl rfl rfl rfl (oC (pF (v := .bool false) rfl rfl (oN ?_)))))
 exact ⟨rfl, _, nm rfl⟩
 replace c5 : 0 < (digs (a1 / 1000000000)).length := (of_decide_eq_true c5)
 refine oL rfl rfl rfl (OpW.move (v := .string (S (List.replicate j 48 ++ decT (a1 % 1000000000)))) rfl ?_)
 refine oL rfl rfl rfl (OpW.lenSS (s := (List.replicate j 48 ++ decT (a1 % 1000000000))) Tryd.underlying9 rfl ?_)
 refine oL rfl rfl rfl (OpW.lss (a := (((List.replicate j 48 ++ decT (a1 % 1000000000)).length : Nat) : Int)) (b := ((9 : Nat) : Int)) (r := decide ((List.replicate j 48 ++ decT (a1 % 1000000000)).length < 9)) rfl rfl (lt_nat (a := (List.replicate j 48 ++ decT (a1 % 1000000000)).length) (b := 9)) ?_)
 refine oC (pT (v := .bool (decide ((List.replicate j 48 ++ decT (a1 % 1000000000)).length < 9))) rfl rfl (oN ?_))
 exact ⟨rfl, _, nm rfl⟩
 rintro ρ6 w5 ⟨rfl, ρ7, rfl⟩
 refine Wp.cond (t := (decide (0 < (digs (a1 / 1000000000)).length)) && (decide ((List.replicate j 48 ++ decT (a1 % 1000000000)).length < 9))) rfl (fun c6 => ?_) (fun c6 => ?_)
 replace c6 : (0 < (digs (a1 / 1000000000)).length) ∧ ((List.replicate j 48 ++ decT (a1 % 1000000000)).length < 9) := ⟨(of_decide_eq_true (and_l c6)), (of_decide_eq_true (and_r c6))⟩
 refine Wp.skip (Wp.block (wR (mv (oC (OpW.catSS (a := ([48] : List UInt8)) (b := (List.replicate j 48 ++ decT (a1 % 1000000000))) rfl rfl (by first | omega | (simp only [List.length_cons, List.length_nil]; omega) | (simp only [List.length_append, List.length_cons, List.length_nil, List.length_replicate, List.length_drop, List.length_take]; omega)) (ma (oN ?_)))))))
 exact ⟨(j + 1), ⟨_, h4, nm rfl, g5, l2, (by omega), hKvOs3⟩, (by omega)⟩
 replace c6 : ¬ ((0 < (digs (a1 / 1000000000)).length) ∧ ((List.replicate j 48 ++ decT (a1 % 1000000000)).length < 9)) := (fun pq => (and_f c6).elim (fun h => (of_decide_eq_false h) pq.1) (fun h => (of_decide_eq_false h) pq.2))
 have hst : (List.replicate j 48 ++ decT (a1 % 1000000000)) = if a1 / 1000000000 = 0 then decT (a1 % 1000000000) else List.replicate (9 - (decT (a1 % 1000000000)).length) 48 ++ decT (a1 % 1000000000) := by
   split
   · rename_i h0; rw [show j = 0 by omega]; rfl
   · rename_i h0; rw [show j = 9 - (decT (a1 % 1000000000)).length by omega]
 refine Wp.exit (wR (oC (OpW.move (v := vOs3) rfl (mv (oC (OpW.buildSliceO (arr := #[.string (S (List.replicate j 48 ++ decT (a1 % 1000000000)))]) g5.sat Tryd.underlying105 Tryd.zeroValue9 Tryd.sizeOf9 rfl rfl ?_))))))
 intro b3 w6 gr3 n1 lo1 o1
 have ne1 := (OwnL.ne_new hKvOs3 lo1)
 have ow3 := OwnL.gr hKvOs3 gr3
 have lo2 := Nat.le_trans g5.ext.size lo1
 have g7 := g5.trans gr3
 obtain ⟨h5, g6, l3, qb1, fr1⟩ := freeze_ex g7 o1 n1 lo2
 have ow4 := OwnL.freezeOther ow3 l3 fr1 ne1
 have f1 : LR rpS h5 (.slice (some ⟨b3, 0, none⟩) 1 1) [(List.replicate j 48 ++ decT (a1 % 1000000000))] := LR.own' qb1 (css := [[.string (S (List.replicate j 48 ++ decT (a1 % 1000000000)))]]) rfl (Rows.cons rfl Rows.nil) rfl (Nat.le_refl _)
 refine oC (OpW.appendL (r := rpS) (lo := w.heap.size) (i := Tryd.t9) (v := vOs3) (x := .slice (some ⟨b3, 0, none⟩) 1 1) (l := ps) (m := [(List.replicate j 48 ++ decT (a1 % 1000000000))]) Tryd.underlying105 Tryd.type9 rfl rfl rfl g6.sat g6.ext.size rfl rfl ow4 f1 (by simp only [List.length_cons, List.length_nil]; omega) (show _ * _ ≤ _ by simp only [List.length_cons, List.length_nil, Tryd.t9]; omega) ?_)
 intro vO1 w7 ow5 oo1 hbl1
 have g8 := OwnL.ow ow4 g6 (Nat.le_refl _) oo1
 refine oC (OpW.assign (v := vO1) rfl (oN ?_))
 exact ⟨(a1 / 1000000000, ps ++ [(List.replicate j 48 ++ decT (a1 % 1000000000))], b2, c4, vO1), ⟨_, h5, nm (by exact rfl), g8, ((((l1.trans gr1.le).trans gr2.le).trans l2).trans l3), (decT_step hd (by omega) hst), (by omega), (by rw [catR_snoc, List.length_append, List.length_append, List.length_append]; simp only [List.length_singleton]; omega), (N.mono hr2 ((gr2.le.trans l2).trans l3)), ow5⟩, (Nat.div_lt_self (by omega) (by decide))⟩
 replace c3 : ¬ (0 < (digs a1).length) := (of_decide_eq_false c3)
 have ha0 : a1 = 0 := by omega
 rw [if_pos ha0, List.nil_append] at hd
 obtain ⟨h6, g9, l4, fr2, q1⟩ := OwnL.freeze g2 (Nat.le_refl _) hO3
 obtain ⟨b4, c7, e1, k3⟩ := LR.shape q1
 subst e1
 refine Wp.exit (sr (ma (oN (wS (sr (mv (oC (OpW.lenS Tryd.underlying105 (l := ps.length) rfl ?_))))))))
 refine oC (OpW.sub (a := ((ps.length : Nat) : Int)) (b := ((1 : Nat) : Int)) (r := (((ps.length : Nat) : Int) - ((1 : Nat) : Int))) rfl rfl (in_i64 (by omega)) (ma (oN (Wp.block (Wp.loop (σ := Nat) (fun (k : Nat) (ρ : Env) (w' : World) => ∃ ρb h', ρ = upds ρb [(3, .slice b4 ps.length c7), (6, .string (S (catR (ps.drop k)))), (7, .int .i64 (((k : Nat) : Int) - 1))] ∧ Gr h w h' w' ∧ PH.le h6 h' ∧ (k ≤ ps.length)) (fun (k : Nat) => k) ps.length ?_ ?_)))))
 exact ⟨_, h6, named ⟨rfl, (strv (by rw [List.drop_length]; rfl)), (intv (by omega)), trivial⟩, g9, PH.le.refl _, (by omega)⟩
 rintro k ρ8 w8 ⟨ρ9, h7, rfl, g10, l5, hk⟩
 have hcl := catR_len ps (k - 1)
 have hce := fun h1 => congrArg List.length (catR_drop (l := ps) (k := k) h1 hk)
 rw [List.length_append] at hce
 refine wS (sr (mv (oC (OpW.geq (a := (((k : Nat) : Int) - 1)) (b := ((0 : Nat) : Int)) (r := decide (((0 : Nat) : Int) ≤ (((k : Nat) : Int) - 1))) rfl rfl rfl (oN (Wp.cond (t := decide (((0 : Nat) : Int) ≤ (((k : Nat) : Int) - 1))) rfl (fun c8 => ?_) (fun c8 => ?_)))))))
 replace c8 : ((0 : Nat) : Int) ≤ (((k : Nat) : Int) - 1) := (of_decide_eq_true c8)
 have hce2 := hce (by omega)
 refine Wp.skip (wS (Wp.block (wR (mv (mv (mv (oC (OpW.indexL (i := (((k : Nat) : Int) - 1)) (j := k - 1) [] (s := 1) rfl Tryd.underlying105 Tryd.sizeOf9 rfl (LR.mono q1 l5) rfl (by omega) (by omega) ?_))))))))
 intro b5 o2 a1 e2 z1 cs1 qb2 qv1 qf1 qr1
 obtain rfl := qr1
 refine oC (lO (v := .string (S (ps.getD (k - 1) []))) Tryd.isAgg9 rfl (g10.sat _ _ qb2) (cut_cell qv1 0 (by decide) rfl) ?_)
 refine oC (OpW.catSS (a := catR (ps.drop k)) (b := ps.getD (k - 1) []) rfl rfl (by first | omega | (simp only [List.length_cons, List.length_nil]; omega) | (simp only [List.length_append, List.length_cons, List.length_nil, List.length_replicate, List.length_drop, List.length_take]; omega)) (ma (oN (fg [(3, .slice b4 ps.length c7), (6, .string (S ((catR (ps.drop k)) ++ (ps.getD (k - 1) [])))), (7, .int .i64 (((k : Nat) : Int) - 1))] rfl (fun ρ10 => (wR (mv (oC (OpW.sub (a := (((k : Nat) : Int) - 1)) (b := ((1 : Nat) : Int)) (r := (((k : Nat) : Int) - 1 - 1)) rfl rfl ((in_i64 (by omega)).trans (by omega)) (ma (oN ?_)))))))))))
 exact ⟨(k - 1), ⟨_, h7, named ⟨rfl, (strv (catR_drop (by omega) hk).symm), (intv (by omega)), trivial⟩, g10, l5, (by omega)⟩, (by omega)⟩
 replace c8 : ¬ (((0 : Nat) : Int) ≤ (((k : Nat) : Int) - 1)) := (of_decide_eq_false c8)
 refine Wp.exit (sr (mv (ma (oN (Wp.ret (fin1_ret rfl (resOf_tmp (v := .string (S (catR (ps.drop k)))) rfl) ?_))))))
 refine ⟨h7, g10, ?_⟩
 exact (strv (by rw [show k = 0 by omega, List.drop_zero, hd]))
theorem read_c {h : PH} {w : World} {l : List UInt8} (hs : Sat h w) (hp0 : l.length ≤ 20000) :
    Calls Tryd.prog 87 #[.string (S l)] w (Ret h w fun h' r => ∃ x1 x2, r = .tuple #[x1, x2] ∧ N h' x1 (readN (tw l)) ∧ x2 = .int .i64 (((tw l).length : Nat) : Int)) := by
 refine calls_ear (vs := [.string (S l)]) Tryd.func87 rfl rfl ?_
 have g1 := Gr.refl hs
 refine sr (ma (ma (oN (sr (ma (oN (sr (ma (oN (wS (sr (mv (oC (OpW.rangeSS (l := l) g1.sat Tryd.underlying9 rfl ?_))))))))))))))
 intro b1 w1 gr1 n1 lo1 o1
 have lo2 := Nat.le_trans g1.ext.size lo1
 refine oN (Wp.block ?_)
 have g2 := g1.trans gr1
 refine Wp.loop (σ := Nat × Option Addr × Nat) (fun s (ρ : Env) (w' : World) => match s with | (k, bS4, cS4) => ∃ ρb h', ρ = upds ρb [(4, .slice bS4 ((digs (readN (l.take k))).length) cS4), (5, .int .i64 ((k : Nat) : Int)), (9, .pointer (some ⟨b1, 0, none⟩))] ∧ Gr h w h' w' ∧ PH.le h h' ∧ w'.heap[b1]? = some (.stringIter (S l) k) ∧ h' b1 = none ∧ (k ≤ l.length) ∧ ((l.take k).all isDig = true) ∧ (N h' (.slice bS4 ((digs (readN (l.take k))).length) cS4) (readN (l.take k)))) (fun s => match s with | (k, bS4, cS4) => l.length - k) (0, none, 0) ?_ ?_
 exact ⟨_, h, named ⟨(nilN rfl), rfl, rfl, trivial⟩, g2, PH.le.refl _, o1, n1, (by omega), rfl, (Nnil' rfl)⟩
 rintro ⟨k, bS4, cS4⟩ ρ1 w2 ⟨ρ2, h1, rfl, g3, l1, o2, n2, hk, hall, hS4⟩
 have hsr := sz_readN hall
 rw [List.length_take] at hsr
 have hs10 := sz_small (n := 10) (by decide)
 have hsm := sz_mul (readN (l.take k)) 10
 refine sr (oC (OpW.nextSS (l := l) (p := k) rfl o2 (fun hend => ?_) (fun r wd w' hgo pp hr => ?_)))
 have hend1 := hend
 refine oC (OpW.extract (v := .bool false) rfl rfl (oN (wS (Wp.cond_f rfl ?_))))
 have htw := tw_eq hall hk (.inl (by omega))
 refine Wp.exit (sr (mv (mv (ma (ma (oN (Wp.ret (fin2_ret rfl (resOf_tmp (v := .slice bS4 ((digs (readN (l.take k))).length) cS4) rfl) (resOf_tmp (v := .int .i64 ((k : Nat) : Int)) rfl) ?_))))))))
 refine ⟨h1, g3, ?_⟩
 exact ⟨_, _, rfl, (N.cast (by rw [htw]) hS4), (natv (by rw [htw, List.length_take]; omega))⟩
 revert r wd w' hgo pp hr
 intro rn1 wd1 w3 hgo1 p1 hr1
 have o3 := p1.at_
 refine oC (OpW.extract (v := .bool true) rfl rfl (oN (wS (Wp.cond_t rfl (Wp.skip (Wp.block (sr (oC (OpW.extract (v := .int .i32 ((rn1 : Nat) : Int)) rfl rfl (ma (oN (wS (sr (Ops.cut (fun ρ' w' => w3 = w' ∧ ∃ ρb, ρ' = upds ρb [(4, .slice bS4 ((digs (readN (l.take k))).length) cS4), (5, .int .i64 ((k : Nat) : Int)), (7, .int .i32 ((rn1 : Nat) : Int)), (9, .pointer (some ⟨b1, 0, none⟩)), (18, .bool ((decide (rn1 < 48)) || (decide (57 < rn1))))]) ?_ ?_))))))))))))))
 refine mv (oC (OpW.lss (a := ((rn1 : Nat) : Int)) (b := ((48 : Nat) : Int)) (r := decide (rn1 < 48)) rfl rfl (lt_nat (a := rn1) (b := 48)) (mv ?_)))
 cases c1 : (decide (rn1 < 48))
 replace c1 : ¬ (rn1 < 48) := (of_decide_eq_false c1)
 refine oL rfl rfl rfl (OpW.move (v := .int .i32 ((rn1 : Nat) : Int)) rfl ?_)
 refine oL rfl rfl rfl (OpW.gtr (a := ((rn1 : Nat) : Int)) (b := ((57 : Nat) : Int)) (r := decide (57 < rn1)) rfl rfl (lt_nat (a := 57) (b := rn1)) ?_)
 refine oC (pF (v := .bool (decide (57 < rn1))) rfl rfl (oN ?_))
 exact ⟨rfl, _, nm rfl⟩
 replace c1 : rn1 < 48 := (of_decide_eq_true c1)
 refine oD rfl rfl rfl rfl (oD rfl rfl rfl rfl (oC (pT (v := .bool true) rfl rfl (oN ?_))))
 exact ⟨rfl, _, nm rfl⟩
 rintro ρ3 w4 ⟨rfl, ρ4, rfl⟩
 refine Wp.cond (t := (decide (rn1 < 48)) || (decide (57 < rn1))) rfl (fun c2 => ?_) (fun c2 => ?_)
 replace c2 : (rn1 < 48) ∨ (57 < rn1) := ((or_t c2).imp (fun h => (of_decide_eq_true h)) (fun h => (of_decide_eq_true h)))
 have htw := tw_eq hall hk (.inr (isDig_no (by omega)))
 refine Wp.exit (sr (mv (mv (ma (ma (oN (Wp.ret (fin2_ret rfl (resOf_tmp (v := .slice bS4 ((digs (readN (l.take k))).length) cS4) rfl) (resOf_tmp (v := .int .i64 ((k : Nat) : Int)) rfl) ?_))))))))
 have g4 := g3.put p1 n2 lo2
 refine ⟨h1, g4, ?_⟩
 exact ⟨_, _, rfl, (N.cast (by rw [htw]) hS4), (natv (by rw [htw, List.length_take]; omega))⟩
 replace c2 : ¬ ((rn1 < 48) ∨ (57 < rn1)) := (fun pq => pq.elim (of_decide_eq_false (or_l c2)) (of_decide_eq_false (or_r c2)))
 have hrk : rn1 = (l.getD k 0).toNat ∧ wd1 = 1 ∧ 48 ≤ rn1 ∧ rn1 ≤ 57 := by omega
 have hs57 := sz_small (n := rn1 - 48) (by omega)
 refine Wp.skip (sr (mv ?_))
 have g5 := g3.put p1 n2 lo2
 refine oC (cF Tryd.call86 (small_c (n := 10) g5.sat  (by omega)) rfl ?_)
 intro r1 h2 w5 gr2 hr2
 obtain ⟨b2, c3, rfl, k1⟩ := N.shape hr2
 have g6 := g5.trans gr2
 refine oC (cF Tryd.call89 (mul_c (a := readN (l.take k)) (b := 10) g6.sat (N.mono hS4 gr2.le) hr2 (by omega) (by omega)) rfl ?_)
 intro r2 h3 w6 gr3 hr3
 obtain ⟨b3, c4, rfl, k2⟩ := N.shape hr3
 refine mv (oC (OpW.sub (a := ((rn1 : Nat) : Int)) (b := ((48 : Nat) : Int)) (r := ((rn1 - 48 : Nat) : Int)) rfl rfl ((in_i32 (by omega)).trans (by omega)) ?_))
 refine oC (OpW.convI (a := ((rn1 - 48 : Nat) : Int)) (r := ((rn1 - 48 : Nat) : Int)) Tryd.underlying21 Tryd.underlying77 rfl (conv_u64 (by omega)) ?_)
 have g7 := g6.trans gr3
 refine oC (cF Tryd.call86 (small_c (n := rn1 - 48) g7.sat  (by omega)) rfl ?_)
 intro r3 h4 w7 gr4 hr4
 obtain ⟨b4, c5, rfl, k3⟩ := N.shape hr4
 have g8 := g7.trans gr4
 refine oC (cF Tryd.call90 (add_c (a := (readN (l.take k)) * 10) (b := (rn1 - 48)) g8.sat (N.mono hr3 gr4.le) hr4 (by omega) (by omega)) rfl ?_)
 intro r4 h5 w8 gr5 hr5
 obtain ⟨b5, c6, rfl, k4⟩ := N.shape hr5
 refine ma (oN (fg [(4, .slice b5 ((digs (((readN (l.take k)) * 10) + (rn1 - 48))).length) c6), (5, .int .i64 ((k : Nat) : Int)), (9, .pointer (some ⟨b1, 0, none⟩))] rfl (fun ρ5 => (wR (mv (oC (OpW.add (a := ((k : Nat) : Int)) (b := ((1 : Nat) : Int)) (r := ((k + 1 : Nat) : Int)) rfl rfl (add_i64 (a := k) (b := 1) (by omega)) (ma (oN ?_)))))))))
 have g9 := g8.trans gr5
 have o4 := gr5.kp (gr4.kp (gr3.kp (gr2.kp ⟨o3, n2⟩)))
 exact ⟨(k + 1, b5, c6), ⟨_, h5, named ⟨(congrArg (fun t => Value.slice b5 (digs t).length c6) (by rw [readN_take (by omega), hrk.1])), rfl, rfl, trivial⟩, g9, ((((l1.trans gr2.le).trans gr3.le).trans gr4.le).trans gr5.le), (by rw [← hrk.2.1]; exact o4.1), o4.2, (by omega), (all_take_succ hall (by omega) (isDig_of (by omega) (by omega))), (N.recast (by rw [readN_take (by omega), hrk.1]) hr5)⟩, (by dsimp only; omega)⟩
theorem Text_c {h : PH} {w : World} {v0 : Value} {a : Fr} (hs : Sat h w) (tb : Tab h) (pv0 : F h v0 a) (hp0 : bf a ≤ 100000000) :
    Calls Tryd.prog 31 #[v0] w (Ret h w fun h' r => r = .string (S (textQ a.rat))) := by
 obtain ⟨b1, c1, b2, c2, rfl, k1, k2, u1, u2⟩ := F.shape pv0
 have hbq1 := F.bq pv0
 have hbn := bf_n a
 have hbd := bf_d a
 have hbp := bf_pos a
 have hq1 := bq_num a.rat
 have hq2 := bq_den a.rat
 have hl1 := decT_len a.rat.num.natAbs
 have hl2 := decT_len a.rat.den
 have h1 := sz_one
 have hone := cmpN_one (d := a.rat.den)
 refine calls_ear (vs := [.agg #[.bool a.neg, .slice b1 a.n.length c1, .slice b2 a.d.length c2]]) Tryd.func31 rfl rfl ?_
 have g1 := Gr.refl hs
 refine sr (oC (OpW.boxK (v := .agg #[.bool a.neg, .slice b1 a.n.length c1, .slice b2 a.d.length c2]) (arr := #[.bool a.neg, .slice b1 a.n.length c1, .slice b2 a.d.length c2]) g1.sat rfl rfl ?_))
 intro b3 h1 w1 gr1 qb1
 refine ma (oN (sr ?_))
 have g2 := g1.trans gr1
 refine oC (lA (cs := [.bool a.neg, .slice b1 a.n.length c1, .slice b2 a.d.length c2]) Tryd.isAgg24 Tryd.sizeOf24 rfl (g2.sat _ _ qb1) rfl rfl ?_)
 refine oC (cF Tryd.call70 (take_c (f := a) g2.sat (F.mk (U.mono u1 gr1.le) (U.mono u2 gr1.le)) (by omega) (by omega)) rfl ?_)
 intro r1 h2 w2 gr2 hr1
 obtain ⟨b4, c3, b5, c4, rfl, k3, k4, u3, u4⟩ := Qn.shape hr1
 have g3 := g2.trans gr2
 refine oC (OpW.allocO (arr := #[.bool false, .slice none 0 0, .slice none 0 0]) g3.sat Tryd.zeroValue66 rfl ?_)
 intro b6 w3 gr3 n1 lo1 o1
 have lo2 := Nat.le_trans g3.ext.size lo1
 refine oC (sA (cs := [.bool (decide (a.rat.num < 0)), .slice b4 ((digs a.rat.num.natAbs).length) c3, .slice b5 ((digs a.rat.den).length) c4]) Tryd.sizeOf66 rfl rfl rfl rfl o1 rfl ?_)
 intro w4 p1
 refine oN (sr (oC (fA (o := 1) Tryd.underlying66 rfl Tryd.sizeOf64 (by decide) rfl rfl ?_)))
 refine oC (lO (v := .slice b4 ((digs a.rat.num.natAbs).length) c3) Tryd.isAgg64 rfl p1.at_ rfl ?_)
 have g4 := (g3.trans gr3).put p1 n1 lo2
 refine oC (cF Tryd.call84 (text_c (a := a.rat.num.natAbs) g4.sat (tb.mono (gr1.le.trans gr2.le)) u3 (by omega)) rfl ?_)
 intro r2 h3 w5 gr4 hr2
 subst hr2
 refine ma (oN (wS (sr (oC (fA (o := 0) Tryd.underlying66 rfl Tryd.sizeOf4 (by decide) rfl rfl ?_)))))
 have o3 := gr4.kp ⟨p1.at_, n1⟩
 refine oC (lO (v := .bool (decide (a.rat.num < 0))) Tryd.isAgg4 rfl o3.1 rfl (oN (Wp.cond (t := decide (a.rat.num < 0)) rfl (fun c5 => ?_) (fun c5 => ?_))))
 replace c5 : a.rat.num < 0 := (of_decide_eq_true c5)
 refine fg [(3, .pointer (some ⟨b6, 0, none⟩)), (4, .string (S (decT a.rat.num.natAbs)))] rfl (fun ρ1 => (wR (mv (oC (OpW.catSS (a := ([45] : List UInt8)) (b := decT a.rat.num.natAbs) rfl rfl (by first | omega | (simp only [List.length_cons, List.length_nil]; omega) | (simp only [List.length_append, List.length_cons, List.length_nil, List.length_replicate, List.length_drop, List.length_take]; omega)) (ma (oN (wS (wS ?_)))))))))
 have g5 := g4.trans gr4
 refine Wp.dagL 5 [14, 15, 16, 17, 18] [eqv (.pointer (some ⟨b6, 2, none⟩)), eqv (.slice b5 ((digs a.rat.den).length) c4), fun h _ x => N h x 1, eqv (.int .i64 (cmpN a.rat.den 1)), eqv (.bool (decide ((cmpN a.rat.den 1) ≠ ((0 : Nat) : Int))))] mixed g5.sat rfl (by decide +kernel) ⟨sQ _, sQ _, (stab_N 1), sQ _, sQ _, trivial⟩ ?_ ?_
 intro stab
 refine ⟨?_, ?_, ?_, ?_, ?_, trivial⟩
 intro ρ2 h4 w6 g6 hdd1 hdo1
 have e1 : ρ2 3 = .pointer (some ⟨b6, 0, none⟩) := hdo1 3 rfl
 refine gP (fA (o := 2) Tryd.underlying66 rfl Tryd.sizeOf64 (by decide) e1 rfl ?_)
 exact ⟨_, h4, rfl, g6, fun j x _ p => p, rfl⟩
 intro ρ3 h5 w7 g7 hdd2 hdo2
 have e2 : ρ3 14 = .pointer (some ⟨b6, 2, none⟩) := hdd2 0 (by decide)
 have o4 := g7.kp o3
 refine gP (lO (v := .slice b5 ((digs a.rat.den).length) c4) Tryd.isAgg64 e2 o4.1 rfl ?_)
 exact ⟨_, h5, rfl, g7, fun j x _ p => p, rfl⟩
 intro ρ4 h6 w8 g8 hdd3 hdo3
 have g9 := g5.trans g8
 refine gP (cF Tryd.call86 (small_c (n := 1) g9.sat  (by omega)) rfl ?_)
 intro r3 h7 w9 gr5 hr3
 exact ⟨r3, h7, rfl, g8.trans gr5, fun j x _ => stab j _ _ _ _ x gr5, hr3⟩
 intro ρ5 h8 w10 g10 hdd4 hdo4
 have e3 : ρ5 15 = .slice b5 ((digs a.rat.den).length) c4 := hdd4 1 (by decide)
 have q1 : N h8 (ρ5 16) 1 := hdd4 2 (by decide)
 have g11 := g5.trans g10
 refine gP (cF Tryd.call85 (compare_c (a := a.rat.den) (b := 1) g11.sat (N.mono u4 (gr4.le.trans g10.le)) q1 (by omega) (by omega)) (cx e3 (cx rfl cxn)) ?_)
 intro r4 h9 w11 gr6 hr4
 exact ⟨r4, h9, rfl, g10.trans gr6, fun j x _ => stab j _ _ _ _ x gr6, hr4⟩
 intro ρ6 h10 w12 g12 hdd5 hdo5
 have e4 : ρ6 17 = .int .i64 (cmpN a.rat.den 1) := hdd5 3 (by decide)
 refine gP (OpW.neqI (a := (cmpN a.rat.den 1)) (b := ((0 : Nat) : Int)) (r := decide ((cmpN a.rat.den 1) ≠ ((0 : Nat) : Int))) e4 rfl rfl ?_)
 exact ⟨_, h10, rfl, g12, fun j x _ p => p, rfl⟩
 intro ρ7 h11 w13 g13 hdp1 hdo6
 have e5 : ρ7 3 = .pointer (some ⟨b6, 0, none⟩) := hdo6 3 rfl
 have e6 : ρ7 4 = .string (S (([45] : List UInt8) ++ (decT a.rat.num.natAbs))) := hdo6 4 rfl
 have e7 : ρ7 18 = .bool (decide ((cmpN a.rat.den 1) ≠ ((0 : Nat) : Int))) := hdp1 4 rfl
 refine Ops.forget [(3, .pointer (some ⟨b6, 0, none⟩)), (4, .string (S (([45] : List UInt8) ++ (decT a.rat.num.natAbs)))), (18, .bool (decide ((cmpN a.rat.den 1) ≠ ((0 : Nat) : Int))))] ⟨e5, e6, e7, trivial⟩ (fun ρ8 => (oN (Wp.cond (t := decide ((cmpN a.rat.den 1) ≠ ((0 : Nat) : Int))) rfl (fun c6 => ?_) (fun c6 => ?_))))
 replace c6 : (cmpN a.rat.den 1) ≠ ((0 : Nat) : Int) := (of_decide_eq_true c6)
 refine wR (mv (oC (fA (o := 2) Tryd.underlying66 rfl Tryd.sizeOf64 (by decide) rfl rfl ?_)))
 have o5 := g13.kp o3
 refine oC (lO (v := .slice b5 ((digs a.rat.den).length) c4) Tryd.isAgg64 rfl o5.1 rfl ?_)
 have g14 := g5.trans g13
 refine oC (cF Tryd.call84 (text_c (a := a.rat.den) g14.sat (tb.mono (((gr1.le.trans gr2.le).trans gr4.le).trans g13.le)) (N.mono u4 (gr4.le.trans g13.le)) (by omega)) rfl ?_)
 intro r5 h12 w14 gr7 hr5
 subst hr5
 refine oC (OpW.catSS (a := ([47] : List UInt8)) (b := decT a.rat.den) rfl rfl (by first | omega | (simp only [List.length_cons, List.length_nil]; omega) | (simp only [List.length_append, List.length_cons, List.length_nil, List.length_replicate, List.length_drop, List.length_take]; omega)) ?_)
 refine oC (OpW.catSS (a := ([45] : List UInt8) ++ (decT a.rat.num.natAbs)) (b := ([47] : List UInt8) ++ (decT a.rat.den)) rfl rfl (by first | omega | (simp only [List.length_cons, List.length_nil]; omega) | (simp only [List.length_append, List.length_cons, List.length_nil, List.length_replicate, List.length_drop, List.length_take]; omega)) (ma (oN (sr (mv (ma (oN (Wp.ret (fin1_ret rfl (resOf_tmp (v := .string (S ((([45] : List UInt8) ++ (decT a.rat.num.natAbs)) ++ (([47] : List UInt8) ++ (decT a.rat.den))))) rfl) ?_)))))))))
 have g15 := g14.trans gr7
 refine ⟨h12, g15, ?_⟩
 exact (strv (by unfold textQ; simp_all))
 replace c6 : ¬ ((cmpN a.rat.den 1) ≠ ((0 : Nat) : Int)) := (of_decide_eq_false c6)
 refine Wp.skip (sr (mv (ma (oN (Wp.ret (fin1_ret rfl (resOf_tmp (v := .string (S (([45] : List UInt8) ++ (decT a.rat.num.natAbs)))) rfl) ?_))))))
 have g16 := g5.trans g13
 refine ⟨h11, g16, ?_⟩
 exact (strv (by unfold textQ; simp_all))
 replace c5 : ¬ (a.rat.num < 0) := (of_decide_eq_false c5)
 refine Wp.skip (wS (wS (fg [(3, .pointer (some ⟨b6, 0, none⟩)), (4, .string (S (decT a.rat.num.natAbs)))] rfl (fun ρ9 => ?_))))
 have g17 := g4.trans gr4
 refine Wp.dagL 5 [14, 15, 16, 17, 18] [eqv (.pointer (some ⟨b6, 2, none⟩)), eqv (.slice b5 ((digs a.rat.den).length) c4), fun h _ x => N h x 1, eqv (.int .i64 (cmpN a.rat.den 1)), eqv (.bool (decide ((cmpN a.rat.den 1) ≠ ((0 : Nat) : Int))))] mixed g17.sat rfl (by decide +kernel) ⟨sQ _, sQ _, (stab_N 1), sQ _, sQ _, trivial⟩ ?_ ?_
 intro stab
 refine ⟨?_, ?_, ?_, ?_, ?_, trivial⟩
 intro ρ10 h13 w15 g18 hdd6 hdo7
 have e8 : ρ10 3 = .pointer (some ⟨b6, 0, none⟩) := hdo7 3 rfl
 refine gP (fA (o := 2) Tryd.underlying66 rfl Tryd.sizeOf64 (by decide) e8 rfl ?_)
 exact ⟨_, h13, rfl, g18, fun j x _ p => p, rfl⟩
 intro ρ11 h14 w16 g19 hdd7 hdo8
 have e9 : ρ11 14 = .pointer (some ⟨b6, 2, none⟩) := hdd7 0 (by decide)
 have o6 := g19.kp o3
 refine gP (lO (v := .slice b5 ((digs a.rat.den).length) c4) Tryd.isAgg64 e9 o6.1 rfl ?_)
 exact ⟨_, h14, rfl, g19, fun j x _ p => p, rfl⟩
 intro ρ12 h15 w17 g20 hdd8 hdo9
 have g21 := g17.trans g20
 refine gP (cF Tryd.call86 (small_c (n := 1) g21.sat  (by omega)) rfl ?_)
 intro r6 h16 w18 gr8 hr6
 exact ⟨r6, h16, rfl, g20.trans gr8, fun j x _ => stab j _ _ _ _ x gr8, hr6⟩
 intro ρ13 h17 w19 g22 hdd9 hdo10
 have e10 : ρ13 15 = .slice b5 ((digs a.rat.den).length) c4 := hdd9 1 (by decide)
 have q2 : N h17 (ρ13 16) 1 := hdd9 2 (by decide)
 have g23 := g17.trans g22
 refine gP (cF Tryd.call85 (compare_c (a := a.rat.den) (b := 1) g23.sat (N.mono u4 (gr4.le.trans g22.le)) q2 (by omega) (by omega)) (cx e10 (cx rfl cxn)) ?_)
 intro r7 h18 w20 gr9 hr7
 exact ⟨r7, h18, rfl, g22.trans gr9, fun j x _ => stab j _ _ _ _ x gr9, hr7⟩
 intro ρ14 h19 w21 g24 hdd10 hdo11
 have e11 : ρ14 17 = .int .i64 (cmpN a.rat.den 1) := hdd10 3 (by decide)
 refine gP (OpW.neqI (a := (cmpN a.rat.den 1)) (b := ((0 : Nat) : Int)) (r := decide ((cmpN a.rat.den 1) ≠ ((0 : Nat) : Int))) e11 rfl rfl ?_)
 exact ⟨_, h19, rfl, g24, fun j x _ p => p, rfl⟩
 intro ρ15 h20 w22 g25 hdp2 hdo12
 have e12 : ρ15 3 = .pointer (some ⟨b6, 0, none⟩) := hdo12 3 rfl
 have e13 : ρ15 4 = .string (S (decT a.rat.num.natAbs)) := hdo12 4 rfl
 have e14 : ρ15 18 = .bool (decide ((cmpN a.rat.den 1) ≠ ((0 : Nat) : Int))) := hdp2 4 rfl
 refine Ops.forget [(3, .pointer (some ⟨b6, 0, none⟩)), (4, .string (S (decT a.rat.num.natAbs))), (18, .bool (decide ((cmpN a.rat.den 1) ≠ ((0 : Nat) : Int))))] ⟨e12, e13, e14, trivial⟩ (fun ρ16 => (oN (Wp.cond (t := decide ((cmpN a.rat.den 1) ≠ ((0 : Nat) : Int))) rfl (fun c7 => ?_) (fun c7 => ?_))))
 replace c7 : (cmpN a.rat.den 1) ≠ ((0 : Nat) : Int) := (of_decide_eq_true c7)
 refine wR (mv (oC (fA (o := 2) Tryd.underlying66 rfl Tryd.sizeOf64 (by decide) rfl rfl ?_)))
 have o7 := g25.kp o3
 refine oC (lO (v := .slice b5 ((digs a.rat.den).length) c4) Tryd.isAgg64 rfl o7.1 rfl ?_)
 have g26 := g17.trans g25
 refine oC (cF Tryd.call84 (text_c (a := a.rat.den) g26.sat (tb.mono (((gr1.le.trans gr2.le).trans gr4.le).trans g25.le)) (N.mono u4 (gr4.le.trans g25.le)) (by omega)) rfl ?_)
 intro r8 h21 w23 gr10 hr8
 subst hr8
 refine oC (OpW.catSS (a := ([47] : List UInt8)) (b := decT a.rat.den) rfl rfl (by first | omega | (simp only [List.length_cons, List.length_nil]; omega) | (simp only [List.length_append, List.length_cons, List.length_nil, List.length_replicate, List.length_drop, List.length_take]; omega)) ?_)
 refine oC (OpW.catSS (a := decT a.rat.num.natAbs) (b := ([47] : List UInt8) ++ (decT a.rat.den)) rfl rfl (by first | omega | (simp only [List.length_cons, List.length_nil]; omega) | (simp only [List.length_append, List.length_cons, List.length_nil, List.length_replicate, List.length_drop, List.length_take]; omega)) (ma (oN (sr (mv (ma (oN (Wp.ret (fin1_ret rfl (resOf_tmp (v := .string (S ((decT a.rat.num.natAbs) ++ (([47] : List UInt8) ++ (decT a.rat.den))))) rfl) ?_)))))))))
 have g27 := g26.trans gr10
 refine ⟨h21, g27, ?_⟩
 exact (strv (by unfold textQ; simp_all))
 replace c7 : ¬ ((cmpN a.rat.den 1) ≠ ((0 : Nat) : Int)) := (of_decide_eq_false c7)
 refine Wp.skip (sr (mv (ma (oN (Wp.ret (fin1_ret rfl (resOf_tmp (v := .string (S (decT a.rat.num.natAbs))) rfl) ?_))))))
 have g28 := g17.trans g25
 refine ⟨h20, g28, ?_⟩
 exact (strv (by unfold textQ; simp_all))
end Go.Ear
