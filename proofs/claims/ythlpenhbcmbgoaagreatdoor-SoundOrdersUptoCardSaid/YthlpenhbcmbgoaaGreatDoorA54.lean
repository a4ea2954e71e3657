/- A54: a part of the proofs about what is clipped and stored: how the program's functions run, and what they compute, for every input. -/
import Derived.Test.YthlpenhbcmbgoaaGreatDoorA53
set_option linter.all false
set_option linter.unusedVariables false
set_option maxRecDepth 20000
set_option maxHeartbeats 8000000
set_option synthInstance.maxSize 1000
namespace Go.E3
open Go Go.Ear Go.Proofs
section
variable {P : Program} {n : Nat} {c : Bool} {loc env : EL} {B : List Res} {ms : List Nat} {d : Nat} {x : Operand} {v : Value} {m j o : Nat}
instance [lx : Lu n c loc env x (pa v m j o)] : St P n c loc env B ms d (.nilCheck x) True (pa v m j o) := .p fun q _ _ _ _ _ _ s _ _ _ _ _ k => by
  have u := lx.h q (s.f x)
  obtain ⟨b, l', c', e1, e2⟩ := u
  exact OpW.nilCheck e2 (k _ ⟨b, l', c', e1, rfl⟩)
end
instance {T U V : SV} {g : Fr} [j : Vw fv (.ag [T, U, V]) g] : RdM rE 2 (.ag [T, U, V]) 3 (fun x => ⟨x.w, x.ph, g⟩) := ⟨fun {h cs x v} u d => by
  obtain ⟨vs, e, d⟩ := d
  subst e
  match cs, u, vs, d with
  | [x1, x2, x3, x4, x5], ⟨u1, u2, u3, u4, u5, _⟩, [y1, y2, y3], ⟨d1, d2, d3, _⟩ =>
    have hp := fr_parts j d1 d2 d3
    exact ⟨[y1, y2, y3], rfl, by decide, rfl, fun c hc => denL.one (l := frl g) hp (frl_one g) c hc, ⟨u1, u2, hp⟩⟩⟩
instance sortBef_c {B B1 : List Res} {v : Value} {l : List En} [pa : PA B v En rE 87 l B1] : CtR Tryz.prog 106 [ov v, .cv (.func (.func 84) #[] #[])] B (l.length ≤ 20 ∧ ∀ x ∈ l, x.ph.length ≤ 1099511627776) Unit (fun _ => .tp []) (fun _ => rA rE 87 v (isE befE l (l.length - 1)) :: B1) :=
  haveI : ∀ x y : En, Fv Tryz.prog (.cv (.func (.func 84) #[] #[])) [enV x, enV y] B1 (x.ph.length ≤ 1099511627776 ∧ y.ph.length ≤ 1099511627776) (iv (befE x y)) := fun x y => inferInstance
  sortE_c (sd := fun x => x.ph.length ≤ 1099511627776) (c := befE)
def sM (l : List En) (k : Nat) : Bag ByteArray := (l.take k).map fun e => (e.w, e.f.rat)
abbrev MS (l : List En) (k : Nat) : List (ByteArray × Fr) → Prop := fun L => MK (fun k : ByteArray => k) (fun _ x => frK x) L (sM l k)
theorem MS_get {l : List En} {k : Nat} {L : List (ByteArray × Fr)} (m : MS l k L) (w : ByteArray) : (mget L w).getD fr0 = frK (tot (sM l k) w) := by
  obtain ⟨m1, m2⟩ := MK.get m (fun p q h => h) w
  by_cases h : hasB (sM l k) w
  · rw [m1 h]; rfl
  · rw [m2 h, tot_none h, frK_zero]; rfl
theorem sM_succ {l : List En} {k : Nat} (h : k < l.length) : sM l (k + 1) = sM l k ++ [((l.getD k en0).w, (l.getD k en0).f.rat)] := by
  unfold sM
  rw [List.take_succ_eq_append_getElem h, List.map_append, List.getD_eq_getElem?_getD, List.getElem?_eq_getElem h]; rfl
theorem tot_sM (l : List En) (w : ByteArray) : tot (sM l l.length) w = totW l w := by
  unfold tot sM totW
  rw [List.take_length, List.filter_map, List.map_map]; rfl
theorem bq_totF {α : Type} [DecidableEq α] {b : Bag α} {B : Nat} (h : ∀ x ∈ b, bq x.2 ≤ B) (hl : b.length ≤ 20) (p : α) : bq (tot b p) ≤ 20 * (B + 1) + 1 := by
  unfold tot
  have h1 := bq_sQ (l := (b.filter fun x => decide (x.1 = p)).map (·.2)) (b := B) fun x hx => by
    obtain ⟨y, hy, rfl⟩ := List.mem_map.1 hx
    exact h y (List.mem_filter.1 hy).1
  refine Nat.le_trans h1 (Nat.add_le_add_right (Nat.mul_le_mul_right _ ?_) 1)
  rw [List.length_map]
  exact Nat.le_trans (List.length_filter_le _ _) hl
theorem bq_sM {l : List En} (hl : l.length ≤ 20) (h : ∀ e ∈ l, EnS e) (k : Nat) (w : ByteArray) : bq (tot (sM l k) w) ≤ 20021 := by
  refine bq_totF (B := 1000) (fun x hx => ?_) (by unfold sM; rw [List.length_map, List.length_take]; omega) w
  obtain ⟨e, he, rfl⟩ := List.mem_map.1 hx
  have := h e (List.mem_of_mem_take he)
  exact Nat.le_trans (bq_rat this.2.2) this.2.1
theorem bq_st {l s : List En} (hl : s.length ≤ 20) (h : ∀ e ∈ s, EnS e) (hw : ∀ w, bq (totW l w) ≤ 20021) {k : Nat} {o : List En} (r : Rep (stE (totW l) (s.take k)) o) : ∀ x ∈ o, bq x.f.rat ≤ 420441 := fun x hx => by
  rw [r.rt x hx]
  refine bq_totF (B := 21021) (fun y hy => ?_) (by unfold stE dvB mkB; rw [List.length_map, List.length_map, List.length_take]; omega) _
  obtain ⟨z, hz, rfl⟩ := List.mem_map.1 hy
  obtain ⟨e, he, rfl⟩ := List.mem_map.1 hz
  have := h e (List.mem_of_mem_take he)
  have h1 : bq e.f.rat ≤ 1000 := Nat.le_trans (bq_rat this.2.2) this.2.1
  have h2 := hw e.w
  have h3 := bq_div e.f.rat (totW l e.w)
  show bq (e.f.rat / totW l e.w) ≤ _
  omega
theorem okL_pre {l : List En} (h1 : l.length ≤ 1000) (h : ∀ j, j < l.length → okE (l.getD j en0) = true) : okL l = true := by
  unfold okL
  rw [decide_eq_true h1, Bool.true_and, List.all_eq_true]
  intro e he
  obtain ⟨j, hj, rfl⟩ := getD_mem (d := en0) he
  exact h j hj
theorem okL_bad {l : List En} {k : Nat} (hk : k < l.length) (h : ¬ okE (l.getD k en0) = true) : ¬ okL l = true := fun hc => by
  unfold okL at hc
  rw [Bool.and_eq_true, List.all_eq_true] at hc
  exact h (hc.2 _ (getD_in en0 hk))
instance Make_c {l : List En} {S : SV} {B : List Res} [i : Vw (lv rE) S l] [hg : HG B] : CtB Tryz.prog 48 [S] B (LxS l ∧ (l.length ≤ 20 ∨ 1000 < l.length)) (.tp [lxv (mkL l), iv (mkE l)]) := by
  refine cB1 i (ctB Tryz.call48 Tryz.func48 Tryz.ntmps48 rfl Tryz.results48 rfl [] fun h0 w0 ⟨hlx, hl20⟩ => ?_)
  have hl2 := hlx.1
  haveI := hlx.ft
  repeat first | refine nx ?_ | intro _
  refine gIf (fun c => ?_) fun c => ?_
  · have hb : ¬ okL l = true := fun h => by have := (okL_iff.1 h).1; omega
    repeat first | refine nx ?_ | intro _
    rw [mkL_no hb]
    unfold mkE
    rw [if_neg hb]
    exact ⟨rfl, rfl⟩
  · have hl : l.length ≤ 20 := by omega
    repeat first | refine nx ?_ | intro _
    rename_i v2 m
    refine gCl m (MS l 0) MK.nil ?_
    refine gNl rE 87 ?_
    refine gLp (fun s : Nat × Value => [(19, iv s.1), (5, ov s.2)]) (fun s => [rMp fv m (MS l s.1), rA rE 87 s.2 (l.take s.1), rV v2 [.cv (.slice none 0 0)] 24]) (fun s => s.1 ≤ l.length ∧ ∀ j, j < s.1 → okE (l.getD j en0) = true) (fun s => l.length - s.1) (0, .slice none 0 0) ⟨Nat.zero_le _, fun j h => absurd h (Nat.not_lt_zero _)⟩ (fun ⟨k, u⟩ ⟨hk, hn⟩ => ?_) (h2 := by dsimp only; refine ⟨fun _ h => h, ?_⟩; repeat' (first | trivial | rfl | refine And.intro ?_ ?_))
    dsimp only at hk hn ⊢
    refine gOp m fun L0 mk => ?_
    repeat first | refine nx ?_ | intro _
    refine gIf (fun c2 => ?_) fun c2 => ?_
    · have hek := hlx.2 _ (getD_in en0 c2)
      haveI : FtF (l.getD k en0).f := ⟨hek.2.2⟩
      have hbf := hek.2.1
      have hpl := hek.1.2
      have hwl := hek.1.1
      have hbq := bq_rat hek.2.2
      repeat first | refine nx ?_ | intro _
      refine gIf (fun c3 => ?_) fun c3 => ?_
      · have hb : ¬ okL l = true := okL_bad c2 (fun h => by
          obtain ⟨a, b, d⟩ := okE_iff.1 h
          rw [← sgQ_pos] at d
          rcases c3 with (c3 | c3) | c3
          · exact c3 a
          · exact c3 b
          · omega)
        repeat first | refine nx ?_ | intro _
        rw [mkL_no hb]
        unfold mkE
        rw [if_neg hb]
        exact ⟨rfl, rfl⟩
      · have hok : okE (l.getD k en0) = true := by
          unfold okE
          rw [Bool.and_eq_true, Bool.and_eq_true, decide_eq_true_iff]
          refine ⟨Classical.byContradiction fun h => c3 (.inl (.inl h)), Classical.byContradiction fun h => c3 (.inl (.inr h)), Classical.byContradiction fun h => c3 (.inr (by omega))⟩
        have hlk := MS_get mk (l.getD k en0).w
        have hlq := bq_sM hl hlx.2 k (l.getD k en0).w
        have hadd := MK.add mk (fun p q h => h) (l.getD k en0).w (l.getD k en0).f.rat
        rw [← sM_succ c2] at hadd
        haveI : FtF ((mget L0 (l.getD k en0).w).getD fr0) := by rw [hlk]; infer_instance
        have hlb : bf ((mget L0 (l.getD k en0).w).getD fr0) ≤ 20021 := by rw [hlk, bf_frK]; exact hlq
        have hlr : ((mget L0 (l.getD k en0).w).getD fr0).rat = tot (sM l k) (l.getD k en0).w := by rw [hlk, frK_rat]
        have htl : (l.take k).length = k := by rw [List.length_take]; omega
        have hsu : l.take (k + 1) = l.take k ++ [l.getD k en0] := by
          rw [List.take_succ_eq_append_getElem c2, List.getD_eq_getElem?_getD, List.getElem?_eq_getElem c2]; rfl
        repeat first | refine gDs 11 10 (by rfl) (by kernel_rfl) ?_ | refine nx ?_ | intro _
        rename_i u2
        rw [hlr]
        rw [← hsu]
        exact gBk (k + 1, u2) ⟨by dsimp only; omega, fun j hj => by
          by_cases e : j = k
          · rw [e]; exact hok
          · exact hn j (by dsimp only at hj; omega)⟩ (by dsimp only; omega) (h2 := ⟨hadd, by repeat' (first | trivial | rfl | refine And.intro ?_ ?_)⟩)
    · have ek : k = l.length := by omega
      subst ek
      have hok : okL l = true := okL_pre (by omega) hn
      rw [List.take_length]
      have hso : l.length ≤ 20 ∧ ∀ x ∈ l, x.ph.length ≤ 1099511627776 := ⟨hl, fun e he => by have := (hlx.2 e he).1.2; omega⟩
      obtain ⟨hsp, hss⟩ := isE_srt befE_swo l
      have hsl := isE_len befE l (l.length - 1)
      have hsx : ∀ e ∈ isE befE l (l.length - 1), EnS e := fun e he => hlx.2 e (hsp.mem_iff.1 he)
      have hend := fun o => mk_end (o := o) hok hsp
      have htw : ∀ w, bq (totW l w) ≤ 20021 := fun w => by rw [← tot_sM]; exact bq_sM hl hlx.2 _ w
      repeat first | refine nx ?_ | intro _
      generalize isE befE l (l.length - 1) = s at *
      rename_i v8
      refine gCl m (MS l l.length) mk ?_
      refine gNl rE 87 ?_
      refine gLp (fun s8 : (Nat × Value) × List En => [(63, iv s8.1.1)]) (fun s8 => [rMp fv m (MS l l.length), rA rE 87 u s, rV v8 [ov s8.1.2] 24, rA rE 87 s8.1.2 s8.2, rV v2 [.cv (.slice none 0 0)] 24]) (fun s8 => s8.1.1 ≤ s.length ∧ Rep (stE (totW l) (s.take s8.1.1)) s8.2 ∧ Top s s8.1.1 s8.2 ∧ CaE s8.2 ∧ (s8.1.1 = 0 → s8.2 = [])) (fun s8 => s.length - s8.1.1) ((0, .slice none 0 0), []) ⟨Nat.zero_le _, Rep.nil, fun h => absurd h (Nat.lt_irrefl _), fun x hx => absurd hx (by simp), fun _ => rfl⟩ (fun ⟨⟨k, u8⟩, o⟩ ⟨hk, hr, ht, hc, hz⟩ => ?_) (h2 := by refine ⟨fun _ h => h, ?_⟩; repeat' (first | trivial | rfl | refine And.intro ?_ ?_))
      dsimp only at hk hr ht hc hz ⊢
      refine gOp m fun L1 mk1 => ?_
      repeat first | refine nx ?_ | intro _
      refine gIf (fun c3 => ?_) fun c3 => ?_
      · have hek := hsx _ (getD_in en0 c3)
        haveI : FtF (s.getD k en0).f := ⟨hek.2.2⟩
        have hbf := hek.2.1
        have hpl := hek.1.2
        have hwl := hek.1.1
        have hlk := MS_get mk1 (s.getD k en0).w
        rw [tot_sM] at hlk
        haveI : FtF ((mget L1 (s.getD k en0).w).getD fr0) := by rw [hlk]; infer_instance
        have hlb : bf ((mget L1 (s.getD k en0).w).getD fr0) ≤ 20021 := by rw [hlk, bf_frK]; exact htw _
        have hlr : ((mget L1 (s.getD k en0).w).getD fr0).rat = totW l (s.getD k en0).w := by rw [hlk, frK_rat]
        have hdb : bq ((s.getD k en0).f.rat / ((mget L1 (s.getD k en0).w).getD fr0).rat) ≤ 21021 := by
          have := bq_div (s.getD k en0).f.rat ((mget L1 (s.getD k en0).w).getD fr0).rat
          have h1 := bq_rat hek.2.2
          have h2 : max (max (s.getD k en0).f.n.length (s.getD k en0).f.d.length) 1 = bf (s.getD k en0).f := rfl
          have h3 : bq ((mget L1 (s.getD k en0).w).getD fr0).rat ≤ 20021 := by rw [hlr]; exact htw _
          omega
        have hp0 : (s.getD (k - 1) en0).ph.length ≤ 1000000 := (hsx _ (getD_in en0 (by omega))).1.2
        have hol : o.length ≤ 20 := by
          have := hr.len
          unfold stE dvB mkB at this
          rw [List.length_map, List.length_map, List.length_take] at this
          omega
        repeat first | refine gDs 12 12 (by rfl) (by kernel_rfl) ?_ | refine nx ?_ | intro _
        refine gIf (fun c4 => ?_) fun c4 => ?_
        · obtain ⟨c40, c41⟩ := c4
          obtain ⟨p, y, e, hR, hT, hC⟩ := mk_same c3 c40 hr ht c41 hc
          have hlo : 0 < o.length := by rw [e, List.length_append, List.length_singleton]; omega
          have hoy : o.getD (o.length - 1) en0 = y := by
            rw [e, List.length_append, List.length_singleton, Nat.add_sub_cancel, List.getD_eq_getElem?_getD, List.getElem?_append_right (Nat.le_refl _), Nat.sub_self]; rfl
          have hyb : bf (o.getD (o.length - 1) en0).f ≤ 420441 := by
            have h1 := getD_in en0 (show o.length - 1 < o.length by omega)
            rw [hc _ h1, bf_frK]
            exact bq_st (by omega) hsx htw hr _ h1
          haveI : FtEs o := ⟨fun e he => ⟨by
            rw [hc e he]
            have ft : FtF (frK e.f.rat) := inferInstance
            exact ft.h⟩⟩
          have hset : ∀ f, o.set (o.length - 1) ⟨(o.getD (o.length - 1) en0).w, (o.getD (o.length - 1) en0).ph, f⟩ = p ++ [⟨y.w, y.ph, f⟩] := fun f => by
            rw [hoy, e, List.length_append, List.length_singleton, Nat.add_sub_cancel, List.set_append_right _ _ (Nat.le_refl _), Nat.sub_self]; rfl
          repeat first | refine gDs 11 8 (by rfl) (by kernel_rfl) ?_ | refine nx ?_ | intro _
          rw [hlr, hoy]
          have hs2 := hset (frK (y.f.rat + (s.getD k en0).f.rat / totW l (s.getD k en0).w))
          rw [hoy] at hs2
          rw [hs2]
          exact gBk ((k + 1, u8), p ++ [⟨y.w, y.ph, frK (y.f.rat + (s.getD k en0).f.rat / totW l (s.getD k en0).w)⟩]) ⟨by dsimp only; omega, hR, hT, hC, fun h => absurd h (Nat.succ_ne_zero k)⟩ (by dsimp only; omega) (h2 := ⟨mk1, by repeat' (first | trivial | rfl | refine And.intro ?_ ?_)⟩)
        · have hN := mk_new hss c3 hr ht hz c4 hc
          obtain ⟨hR, hT, hC⟩ := hN
          repeat first | refine nx ?_ | intro _
          rename_i u9
          rw [hlr]
          exact gBk ((k + 1, u9), o ++ [dvE (totW l) (s.getD k en0)]) ⟨by dsimp only; omega, hR, hT, hC, fun h => absurd h (Nat.succ_ne_zero k)⟩ (by dsimp only; omega) (h2 := ⟨mk1, by repeat' (first | trivial | rfl | refine And.intro ?_ ?_)⟩)
      · have ek : k = s.length := by omega
        subst ek
        rw [List.take_length] at hr
        have := hend _ hr hc
        rw [this]
        unfold mkE
        rw [if_pos hok]
        refine gFz u8 ?_
        repeat first | refine nx ?_ | intro _
        exact ⟨trivial, trivial⟩
end Go.E3
