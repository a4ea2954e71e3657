/- H16: a part of the proofs about package model: how the program's functions run, and what they compute, for every input. -/
import Derived.Test.YtpmndikbfalfoaaGreatH15
set_option linter.all false
set_option linter.unusedVariables false
set_option maxRecDepth 20000
set_option maxHeartbeats 16000000
set_option synthInstance.maxSize 1000
namespace Go.E3
open Go Go.Ear Go.Proofs
attribute [local irreducible] rbw rY rWm Go.Ear.rM rTot rSay rMov aS aE aY aM rfw upTo
abbrev fT (m : Md) (o : List Int) (keep : Int) (k : Nat) : List Rat := (rfwN ⟨m, o⟩ keep o.length).getD k []
section
variable {m : Md} {o : List Int} {keep : Int} {c : Value} {z : CnT} {u n : Int} {C : Go.Ear.Ct} {rest : List Res}
theorem radd_b [ft : FtM m] : CtR Tryz.prog 97 [ov c, mv m, lv rI o, iv keep] (rV c [ov z.1, ov z.2.1, ov z.2.2.1, ov z.2.2.2.1, iv u, iv n] 48 :: cnR z (C.start.map frK) (C.move.map (·.map frK)) (C.fin.map frK) (C.say.map (·.map frK)) rest) (TOk ⟨m, o⟩ ∧ MdB 100000 m ∧ MdW 5000 m ∧ RfB ⟨m, o⟩ keep ∧ AdB ⟨m, o⟩ (fT m o keep) C) Unit (fun _ => kk (rTot ⟨m, o⟩ (fT m o keep))) (fun _ => rV c [ov z.1, ov z.2.1, ov z.2.2.1, ov z.2.2.2.1, iv u, iv n] 48 :: cnR z ((if rTot ⟨m, o⟩ (fT m o keep) = 0 then C else addCt ⟨m, o⟩ (fT m o keep) C).start.map frK) ((if rTot ⟨m, o⟩ (fT m o keep) = 0 then C else addCt ⟨m, o⟩ (fT m o keep) C).move.map (·.map frK)) ((if rTot ⟨m, o⟩ (fT m o keep) = 0 then C else addCt ⟨m, o⟩ (fT m o keep) C).fin.map frK) ((if rTot ⟨m, o⟩ (fT m o keep) = 0 then C else addCt ⟨m, o⟩ (fT m o keep) C).say.map (·.map frK)) rest) := by
  obtain ⟨a, mv, e, y, vm, vy⟩ := z
  dsimp only [cnR]
  refine (ctR Tryz.call97 Tryz.func97 Tryz.ntmps97 rfl Tryz.results97 rfl [] fun h0 w0 ⟨tk, hb, hw, hrf, ad⟩ => ?_)
  have hs1 := tk.s1
  have hn := tk.n
  have h40 := tk.s40
  have hmv := ge_of tk.mv
  have hfn := ge_of tk.fin
  have hsy := ge_of tk.say
  dsimp only at hs1 hn h40 hmv hfn hsy
  have hfl := rfwN_len ⟨m, o⟩ keep o.length
  have hfr : ∀ k, k < o.length → ((rfwN ⟨m, o⟩ keep o.length).getD k []).length = m.start.length := fun k hk => by rw [rfwN_at hk]; exact rfw_len _ _ _
  have hfB : ∀ k, k < o.length → ((rfwN ⟨m, o⟩ keep o.length).getD k []).length = m.start.length ∧ ∀ j, bq (((rfwN ⟨m, o⟩ keep o.length).getD k []).getD j 0) ≤ 300000 := fun k hk => ⟨hfr k hk, fun j => ad.fw k j hk⟩
  have hbk : TOk ⟨m, o⟩ ∧ MdB 100000 m ∧ MdW 5000 m ∧ RbB ⟨m, o⟩ (fT m o keep) ∧ (rfwN ⟨m, o⟩ keep o.length).length = o.length ∧ ∀ k, k < o.length → ((rfwN ⟨m, o⟩ keep o.length).getD k []).length = m.start.length ∧ ∀ j, bq (((rfwN ⟨m, o⟩ keep o.length).getD k []).getD j 0) ≤ 300000 := ⟨tk, hb, hw, fun k i hk => ad.bw k i hk, hfl, hfB⟩
  have hla : (rfwN ⟨m, o⟩ keep o.length).length ≤ 1048576 ∧ m.start.length ≤ 40 ∧ m.start.length ≤ m.fin.length ∧ MdB 100000 m ∧ MdW 5000 m ∧ (0 < (rfwN ⟨m, o⟩ keep o.length).length → m.start.length ≤ ((rfwN ⟨m, o⟩ keep o.length).getD ((rfwN ⟨m, o⟩ keep o.length).length - 1) []).length) ∧ ∀ i, bq (((rfwN ⟨m, o⟩ keep o.length).getD ((rfwN ⟨m, o⟩ keep o.length).length - 1) []).getD i 0) ≤ 300000 := by
    rw [hfl]
    refine ⟨by omega, h40, hfn, hb, hw, fun h => ge_of (hfr _ (by omega)), fun i => ?_⟩
    by_cases h : 0 < o.length
    · exact ad.fw _ i (show o.length - 1 < o.length by omega)
    · rw [out_bq (by rw [List.getD_eq_getElem?_getD, List.getElem?_eq_none (by omega)]; exact Nat.zero_le _)]; decide
  have htot : likT ⟨m, []⟩ (rfwN ⟨m, o⟩ keep o.length) = rTot ⟨m, o⟩ (fT m o keep) := by
    unfold likT rTot; rw [hfl]
  have hT := ad.tot
  have hT2 := hT
  rw [← htot] at hT2
  repeat first | refine nx ?_ | intro _
  rename_i v8 v12
  rw [htot]
  have hbl : (rbwAll ⟨m, o⟩ (fun k => (rfwN ⟨m, o⟩ keep o.length).getD k [])).length = o.length := by unfold rbwAll; simp
  have hbA : ∀ k, k < o.length → (rbwAll ⟨m, o⟩ (fun k => (rfwN ⟨m, o⟩ keep o.length).getD k [])).getD k [] = rbw ⟨m, o⟩ (fT m o keep) (o.length - 1 - k) := fun k hk => range_getD _ _ hk
  have hFd : fT m o keep = fun k => (rfwN ⟨m, o⟩ keep o.length).getD k [] := rfl
  clear hbk hla htot hT2 hfB hrf
  generalize rbwAll ⟨m, o⟩ (fun k => (rfwN ⟨m, o⟩ keep o.length).getD k []) = b at hbl hbA ⊢
  generalize fT m o keep = F at *
  generalize rfwN ⟨m, o⟩ keep o.length = f at *
  have hfA : ∀ k, F k = f.getD k [] := fun k => congrFun hFd k
  clear hFd
  refine gIf (fun c0 => ?_) fun c0 => ?_
  · have hz := sgQ_zero.1 c0
    simp only [if_pos hz]
    repeat first | refine nx ?_ | intro _
    exact gEr ()
  have hnz : ¬ rTot ⟨m, o⟩ F = 0 := fun e => c0 (sgQ_zero.2 e)
  have hn0 : 0 < o.length := Nat.pos_of_ne_zero fun e => hnz (by unfold rTot; exact if_pos e)
  simp only [if_neg hnz]
  repeat first | refine nx ?_ | intro _
  refine gLp (fun k : Nat => [(13, iv k)]) (fun k => [rA rF 31 a ((aS ⟨m, o⟩ F C k).map frK), rZ rF 31 vm ((aM ⟨m, o⟩ F C k).map (·.map frK)), rA rF 31 e ((aE ⟨m, o⟩ F C k).map frK), rZ rF 31 vy ((aY ⟨m, o⟩ F C k).map (·.map frK))]) (fun k => k ≤ o.length) (fun k => o.length - k) 0 (Nat.zero_le _) (fun k hk => ?_) (h2 := by rw [ad.S0, ad.M0, ad.E0 hn0, ad.Y0]; (repeat' (first | refine And.intro ?_ ?_ | trivial | rfl | omega)))
  repeat first | refine nx ?_ | intro _
  refine gIf (fun ck => ?_) fun ck => ?_
  · repeat first | refine nx ?_ | intro _
    refine gLp (fun i : Nat => [(14, iv i)]) (fun i => [rA rF 31 a ((upTo (aS ⟨m, o⟩ F C (k + 1)) (aS ⟨m, o⟩ F C k) i).map frK), rZ rF 31 vm ((upTo (aM ⟨m, o⟩ F C (k + 1)) (aM ⟨m, o⟩ F C k) i).map (·.map frK)), rA rF 31 e ((upTo (aE ⟨m, o⟩ F C (k + 1)) (aE ⟨m, o⟩ F C k) i).map frK), rZ rF 31 vy ((upTo (aY ⟨m, o⟩ F C (k + 1)) (aY ⟨m, o⟩ F C k) i).map (·.map frK))]) (fun i => i ≤ m.start.length) (fun i => m.start.length - i) 0 (Nat.zero_le _) (fun i hi => ?_) (h2 := by rw [upTo_zero, upTo_zero, upTo_zero, upTo_zero]; (repeat' (first | refine And.intro ?_ ?_ | trivial | rfl | omega)))
    refine gZl vy fun hvy => ?_
    refine gZl vm fun hvm => ?_
    rw [List.length_map, aY_upl] at hvy
    rw [List.length_map, aM_upl] at hvm
    dsimp only at hvy hvm
    repeat first | refine nx ?_ | intro _
    refine gIf (fun ci => ?_) fun ci => ?_
    · have f1 := ad.fw k i ck
      have f2 : bq ((b.getD k []).getD i 0) ≤ 300000 := by rw [hbA k ck]; exact ad.bw _ i (show o.length - 1 - k < o.length by omega)
      rw [hfA] at f1
      have f3 := Nat.le_trans (bq_mul ((f.getD k []).getD i 0) ((b.getD k []).getD i 0)) (Nat.add_le_add f1 f2)
      have f4 : m.start.length ≤ ((f.map (·.map frK)).getD k []).length := by rw [len_KR]; exact ge_of (hfr k ck)
      have f5 : m.start.length ≤ ((b.map (·.map frK)).getD k []).length := by rw [len_KR, hbA k ck, rbw_len]; exact Nat.le_refl _
      have f6 : (f.map (·.map frK)).length = o.length := by rw [List.length_map]; exact hfl
      have f7 : (b.map (·.map frK)).length = o.length := by rw [List.length_map]; exact hbl
      have hY : (f.getD k []).getD i 0 * (b.getD k []).getD i 0 / rTot ⟨m, o⟩ F = rY ⟨m, o⟩ F i k := by unfold rY; rw [hbA k ck, hfA]
      repeat first | refine gDz 19 18 (by rfl) (by kernel_rfl) ?_ | refine gDz 28 26 (by rfl) (by kernel_rfl) ?_ | refine nx ?_ | intro _
      rw [hY]
      have hYB := ad.y i k ck
      have hYi := aY_get (t := ⟨m, o⟩) (F := F) (c := C) (k := k) ci
      have hYl := aY_upl (t := ⟨m, o⟩) (F := F) (c := C) (k := k) (i := i)
      have hYr := rSay_len ⟨m, o⟩ F i (C.say.getD i []) k
      rw [(ad.r i ci).2, ← hYi] at hYr
      have hYn := aY_next (t := ⟨m, o⟩) (F := F) (c := C) (k := k) ci
      rw [← hYi] at hYn
      have hsx := tk.sy0 ck
      have hSB := ad.say i k (o.getD k 0).toNat hk
      rw [← hYi] at hSB
      dsimp only at hYl hYr hsx hYn
      generalize hYt : upTo (aY ⟨m, o⟩ F C (k + 1)) (aY ⟨m, o⟩ F C k) i = Yt at hYi hYl hYr hYn hSB ⊢
      have hYr2 : ((Yt.map (·.map frK)).getD i []).length = symb m := by rw [len_KR]; exact hYr
      have hYl2 : (Yt.map (·.map frK)).length = m.start.length := by rw [List.length_map]; exact hYl
      repeat first | refine nx ?_ | intro _
      rename_i ν1 ν2
      rw [set_KR, hYn]
      clear hYr2 hYl2 hYr hYl hYi hSB hYn f1 f2 f3 f4 f5 hY
      clear hYt Yt
      refine gJW [] (rA rF 31 a ((upTo (aS ⟨m, o⟩ F C (k + 1)) (aS ⟨m, o⟩ F C k) (i + 1)).map frK) :: rZ rF 31 vm ((upTo (aM ⟨m, o⟩ F C (k + 1)) (aM ⟨m, o⟩ F C k) i).map (·.map frK)) :: rA rF 31 e ((upTo (aE ⟨m, o⟩ F C (k + 1)) (aE ⟨m, o⟩ F C k) i).map frK) :: rZ rF 31 vy ((upTo (aY ⟨m, o⟩ F C (k + 1)) (aY ⟨m, o⟩ F C k) (i + 1)).map (·.map frK)) :: rV (ν1 15).v [bv (frK (rY ⟨m, o⟩ F i k)).neg, lv rU (frK (rY ⟨m, o⟩ F i k)).n, lv rU (frK (rY ⟨m, o⟩ F i k)).d] 31 :: rV v12 [bv (frK (rTot ⟨m, o⟩ F)).neg, lv rU (frK (rTot ⟨m, o⟩ F)).n, lv rU (frK (rTot ⟨m, o⟩ F)).d] 31 :: rV v8 [bv false, .cv (.slice none 0 0), .cv (.slice none 0 0)] 31 :: rV c [ov a, ov mv, ov e, ov y, iv u, iv n] 48 :: rA rW 22 mv vm :: rA rW 22 y vy :: rest) (fun c1 => ?_) (fun c1 => ?_) ?_
      · have hSB := ad.sB (k := k) c1 ci
        have hSg := aS_get (t := ⟨m, o⟩) (F := F) (c := C) (k := k) ci
        have hSl := aS_upl (t := ⟨m, o⟩) (F := F) (c := C) (k := k) (i := i)
        have hSn : (upTo (aS ⟨m, o⟩ F C (k + 1)) (aS ⟨m, o⟩ F C k) i).set i ((upTo (aS ⟨m, o⟩ F C (k + 1)) (aS ⟨m, o⟩ F C k) i).getD i 0 + rY ⟨m, o⟩ F i k) = upTo (aS ⟨m, o⟩ F C (k + 1)) (aS ⟨m, o⟩ F C k) (i + 1) := by subst c1; exact aS_next ci
        rw [← hSg] at hSB
        dsimp only at hSl
        generalize hSt : upTo (aS ⟨m, o⟩ F C (k + 1)) (aS ⟨m, o⟩ F C k) i = St at hSB hSg hSl hSn ⊢
        have hSl2 : (St.map frK).length = m.start.length := by rw [List.length_map]; exact hSl
        repeat first | refine gDz 16 14 (by rfl) (by kernel_rfl) ?_ | refine nx ?_ | intro _
        rw [← List.map_set, hSn]
        exact gM
      · rw [aS_skip (t := ⟨m, o⟩) (F := F) (c := C) ci (Nat.pos_of_ne_zero c1)]
        repeat first | refine nx ?_ | intro _
        exact gM
      repeat first | refine nx ?_ | intro _
      refine gIf (fun cE => ?_) fun cE => ?_
      · have cE : k + 1 = o.length := by omega
        have hEB := ad.eB (k := k) cE ci
        have hEg := aE_get (t := ⟨m, o⟩) (F := F) (c := C) (k := k) ci
        have hEl := aE_upl (t := ⟨m, o⟩) (F := F) (c := C) (k := k) (i := i)
        have hEn := aE_next (t := ⟨m, o⟩) (F := F) (c := C) ci cE
        rw [← hEg] at hEB
        dsimp only at hEl
        generalize hEt : upTo (aE ⟨m, o⟩ F C (k + 1)) (aE ⟨m, o⟩ F C k) i = Et at hEB hEg hEl hEn ⊢
        have hEl2 : (Et.map frK).length = m.start.length := by rw [List.length_map]; exact hEl
        repeat first | refine gDz 16 14 (by rfl) (by kernel_rfl) ?_ | refine nx ?_ | intro _
        rw [← List.map_set, hEn]
        exact gBk (i + 1) (by omega) (by omega) (h2 := by rw [aM_skip (t := ⟨m, o⟩) (F := F) (c := C) ci cE]; (repeat' (first | refine And.intro ?_ ?_ | trivial | rfl | omega)))
      · have cE : k + 1 < o.length := by omega
        rw [← aE_skip (t := ⟨m, o⟩) (F := F) (c := C) ci cE]
        have hMg := aM_get (t := ⟨m, o⟩) (F := F) (c := C) (k := k) ci ck
        have hMl := aM_upl (t := ⟨m, o⟩) (F := F) (c := C) (k := k) (i := i)
        have hMn := aM_next (t := ⟨m, o⟩) (F := F) (c := C) ci cE
        have hR1 := rMov_len (t := ⟨m, o⟩) (F := F) (i := i) (ad.r i ci).1 k
        have hR2 := rMov_len (t := ⟨m, o⟩) (F := F) (i := i) (ad.r i ci).1 (k + 1)
        dsimp only at hMl hR1 hR2
        have hRa := fun j (hj : j < m.start.length) => rMov_add (t := ⟨m, o⟩) (F := F) i k j (a := C.move.getD i []) hj
        have hRz := fun j (hj : j < m.start.length) => rMov_zero (t := ⟨m, o⟩) (F := F) i k j (a := C.move.getD i []) hj
        have hRB := fun j => ad.mov i k j ck
        generalize upTo (aM ⟨m, o⟩ F C (k + 1)) (aM ⟨m, o⟩ F C k) i = Mt at hMg hMl hMn ⊢
        generalize rMov ⟨m, o⟩ F i (C.move.getD i []) (k + 1) = rn at hMn hR2 hRa hRz
        generalize rMov ⟨m, o⟩ F i (C.move.getD i []) k = rk at hMg hR1 hRa hRz hRB
        repeat first | refine nx ?_ | intro _
        refine gLp (fun j : Nat => [(16, iv j)]) (fun j => [rZ rF 31 vm ((Mt.set i (upTo rn rk j)).map (·.map frK))]) (fun j => j ≤ m.start.length) (fun j => m.start.length - j) 0 (Nat.zero_le _) (fun j hj => ?_) (h2 := by rw [upTo_zero, ← hMg, set_getD]; (repeat' (first | refine And.intro ?_ ?_ | trivial | rfl | omega)))
        have hul := upTo_len (r := rn) (l := rk) (i := j) (by rw [hR1, hR2])
        rw [hR1] at hul
        have g1 : m.start.length ≤ ((f.map (·.map frK)).getD (k + 1) []).length := by rw [len_KR]; exact ge_of (hfr (k + 1) cE)
        have g2 := ad.fw (k + 1) j cE
        rw [hfA] at g2
        repeat first | refine nx ?_ | intro _
        refine gIf (fun cj => ?_) fun cj => ?_
        · repeat first | refine nx ?_ | intro _
          refine gIf (fun cz => ?_) fun cz => ?_
          · have hnz2 : ¬ (F (k + 1)).getD j 0 = 0 := fun e => cz (sgQ_zero.2 (by rw [← hfA]; exact e))
            have hmi := ge_of (tk.mvi i ci)
            have hsj := tk.sayi j (k + 1) cj cE
            have hwv := hb.mvb i j
            have hws := hb.syb j (o.getD (k + 1) 0).toNat
            have hm1 := hw.mv i j
            have hm2 := hw.sy j (o.getD (k + 1) 0).toNat
            dsimp only at hmi hsj
            have f1 := ad.fw k i ck
            rw [hfA] at f1
            have f2 : bq ((b.getD (k + 1) []).getD j 0) ≤ 300000 := by rw [hbA (k + 1) cE]; exact ad.bw _ j (show o.length - 1 - (k + 1) < o.length by omega)
            have f4 : m.start.length ≤ ((f.map (·.map frK)).getD k []).length := by rw [len_KR]; exact ge_of (hfr k ck)
            have f5 : m.start.length ≤ ((b.map (·.map frK)).getD (k + 1) []).length := by rw [len_KR, hbA (k + 1) cE, rbw_len]; exact Nat.le_refl _
            have f7 : (b.map (·.map frK)).length = o.length := by rw [List.length_map]; exact hbl
            have q1 := Nat.le_trans (bq_mul ((f.getD k []).getD i 0) ((m.move.getD i []).getD j fr0).rat) (Nat.add_le_add f1 hm1)
            have q2 := Nat.le_trans (bq_mul ((f.getD k []).getD i 0 * ((m.move.getD i []).getD j fr0).rat) ((m.say.getD j []).getD (o.getD (k + 1) 0).toNat fr0).rat) (Nat.add_le_add q1 hm2)
            have q3 := Nat.le_trans (bq_mul ((f.getD k []).getD i 0 * ((m.move.getD i []).getD j fr0).rat * ((m.say.getD j []).getD (o.getD (k + 1) 0).toNat fr0).rat) ((b.getD (k + 1) []).getD j 0)) (Nat.add_le_add q2 f2)
            have hW : (f.getD k []).getD i 0 * ((m.move.getD i []).getD j fr0).rat * ((m.say.getD j []).getD (o.getD (k + 1) 0).toNat fr0).rat * (b.getD (k + 1) []).getD j 0 = rWm ⟨m, o⟩ F i k j := by unfold rWm; rw [hbA (k + 1) cE, hfA]; rfl
            clear hRz
            have hq := ad.mm i k j cE
            rw [← hW] at hq
            have hMi : (Mt.set i (upTo rn rk j)).getD i [] = upTo rn rk j := getD_set_is (by omega)
            have hug := upTo_get (r := rn) (l := rk) (i := j) (d := 0) (by rw [hR1, hR2]) (by omega)
            have hML : (Mt.set i (upTo rn rk j)).length = m.start.length := by rw [List.length_set]; exact hMl
            generalize hMj : Mt.set i (upTo rn rk j) = Mj at hMi hML ⊢
            have hMl2 : ((Mj.map (·.map frK)).getD i []).length = m.start.length := by rw [len_KR, hMi]; exact hul
            have hMl3 : (Mj.map (·.map frK)).length = m.start.length := by rw [List.length_map]; exact hML
            have hMB : bq ((Mj.getD i []).getD j 0) ≤ 60000000 := by rw [hMi, hug]; exact hRB j
            repeat first | refine gDz 40 39 (by rfl) (by kernel_rfl) ?_ | refine gDz 24 22 (by rfl) (by kernel_rfl) ?_ | refine nx ?_ | intro _
            have hst : Mj.set i ((Mj.getD i []).set j ((Mj.getD i []).getD j 0 + rWm ⟨m, o⟩ F i k j / rTot ⟨m, o⟩ F)) = Mt.set i (upTo rn rk (j + 1)) := by
              rw [hMi, hug, ← hRa j cj hnz2, upTo_set (by rw [hR1, hR2]) (by omega) rfl, ← hMj, List.set_set]
            rw [hW, set_KR, hst]
            exact gBk (j + 1) (by omega) (by omega)
          · have hz2 : (F (k + 1)).getD j 0 = 0 := by rw [hfA]; exact sgQ_zero.1 (Classical.not_not.1 cz)
            repeat first | refine nx ?_ | intro _
            exact gBk (j + 1) (by omega) (by omega) (h2 := by rw [upTo_skip (d := 0) (by rw [hR1, hR2]) (by omega) (hRz j cj hz2)]; (repeat' (first | refine And.intro ?_ ?_ | trivial | rfl | omega)))
        · have ej : j = m.start.length := by omega
          subst ej
          repeat first | refine nx ?_ | intro _
          rw [upTo_end (by rw [hR1, hR2]) (by omega), hMn]
          exact gBk (i + 1) (by omega) (by omega)
    · have ei : i = m.start.length := by omega
      subst ei
      repeat first | refine nx ?_ | intro _
      rw [upTo_end (r := aS ⟨m, o⟩ F C (k + 1)) (by rw [aS_len, aS_len]) (by rw [aS_len]; exact Nat.le_refl _), upTo_end (r := aE ⟨m, o⟩ F C (k + 1)) (by rw [aE_len, aE_len]) (by rw [aE_len]; exact Nat.le_refl _), upTo_end (r := aM ⟨m, o⟩ F C (k + 1)) (by rw [aM_len, aM_len]) (by rw [aM_len]; exact Nat.le_refl _), upTo_end (r := aY ⟨m, o⟩ F C (k + 1)) (by rw [aY_len, aY_len]) (by rw [aY_len]; exact Nat.le_refl _)]
      exact gBk (k + 1) (by omega) (by omega)
  · have ek : k = o.length := by omega
    subst ek
    rw [aS_n hn0, aE_n, aY_n, aM_n]
    repeat first | refine nx ?_ | intro _
    exact gEr ()
end
end Go.E3
