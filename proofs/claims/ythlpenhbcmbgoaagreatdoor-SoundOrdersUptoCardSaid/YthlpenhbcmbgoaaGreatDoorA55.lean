/- A55: a part of the proofs about what is clipped and stored: how the program's functions run, and what they compute, for every input. -/
import Derived.Test.YthlpenhbcmbgoaaGreatDoorA54
set_option linter.all false
set_option linter.unusedVariables false
set_option maxRecDepth 20000
set_option maxHeartbeats 8000000
set_option synthInstance.maxSize 1000
namespace Go.E3
open Go Go.Ear Go.Proofs
theorem befE_split {a b : En} : befE a b < 0 ↔ (cmpS a.w b.w < 0 ∨ (a.w = b.w ∧ ordI a.ph b.ph < 0)) := by
  unfold befE
  by_cases e : cmpS a.w b.w = 0
  · rw [if_neg (by omega)]
    have := cmpS_eq.1 e
    constructor
    · exact fun h => .inr ⟨this, h⟩
    · rintro (h | ⟨_, h⟩)
      · omega
      · exact h
  · rw [if_pos e]
    constructor
    · exact fun h => .inl h
    · rintro (h | ⟨h, _⟩)
      · exact h
      · exact absurd (cmpS_eq.2 h) e
theorem befE_zero {a b : En} : befE a b = 0 ↔ a.w = b.w ∧ ordI a.ph b.ph = 0 := by
  rw [befE_key]
  constructor
  · intro h
    have h1 : a.w = b.w := congrArg Prod.fst h
    have h2 : a.ph = b.ph := congrArg Prod.snd h
    exact ⟨h1, by rw [h2]; exact ordI_to.self _⟩
  · rintro ⟨h1, h2⟩
    exact Prod.ext h1 (ordI_to.eq _ _ h2)
def EnT (e : En) : Prop := (e.w.size ≤ 1000000 ∧ e.ph.length ≤ 1000000) ∧ bf e.f ≤ 821 ∧ Fit e.f.n ∧ Fit e.f.d
theorem bq_mk {l o : List En} (hl : l.length ≤ 20) (h : ∀ e ∈ l, bf e.f ≤ 40) (hx : ∀ e ∈ l, EnS e) {k : Nat} (r : Rep (mkB (l.take k)) o) : ∀ x ∈ o, bq x.f.rat ≤ 821 := fun x hx2 => by
  rw [r.rt x hx2]
  refine bq_totF (B := 40) (fun y hy => ?_) (by unfold mkB; rw [List.length_map, List.length_take]; omega) _
  obtain ⟨e, he, rfl⟩ := List.mem_map.1 hy
  have he := List.mem_of_mem_take he
  exact Nat.le_trans (bq_rat (hx e he).2.2) (h e he)
theorem bq_tw {l : List En} (hl : l.length ≤ 20) (h : ∀ e ∈ l, bf e.f ≤ 40) (hx : ∀ e ∈ l, EnS e) (w : ByteArray) : bq (totW l w) ≤ 821 := by
  rw [← tot_sM]
  refine bq_totF (B := 40) (fun y hy => ?_) (by unfold sM; rw [List.length_map, List.length_take]; omega) _
  obtain ⟨e, he, rfl⟩ := List.mem_map.1 hy
  have he := List.mem_of_mem_take he
  exact Nat.le_trans (bq_rat (hx e he).2.2) (h e he)
theorem enT_set {o : List En} {j : Nat} {x : En} (h : ∀ y ∈ o, EnT y) (hx : EnT x) : ∀ y ∈ o.set j x, EnT y := fun y hy => by
  rcases List.mem_or_eq_of_mem_set hy with hy | rfl
  · exact h y hy
  · exact hx
theorem enT_put {o : List En} {j : Nat} {x : En} (h : ∀ y ∈ o, EnT y) (hx : EnT x) : ∀ y ∈ o.take j ++ [x] ++ o.drop j, EnT y := fun y hy => by
  rcases List.mem_append.1 hy with hy | hy
  · rcases List.mem_append.1 hy with hy | hy
    · exact h y (List.mem_of_mem_take hy)
    · rw [List.mem_singleton.1 hy]; exact hx
  · exact h y (List.mem_of_mem_drop hy)
instance rMakeL_c {l : List En} {S : SV} {B : List Res} [i : Vw (lv rE) S l] [hg : HG B] : CtB Tryz.prog 49 [S] B ((LxS l ∧ ∀ e ∈ l, bf e.f ≤ 40) ∧ (l.length ≤ 20 ∨ 1000 < l.length)) (.tp [lxv (mkL l), bv (okL l)]) := by
  refine cB1 i (ctB Tryz.call49 Tryz.func49 Tryz.ntmps49 rfl Tryz.results49 rfl [123, 126, 130] fun h0 w0 ⟨⟨hlx, hl40⟩, hl20⟩ => ?_)
  have hl2 := hlx.1
  haveI := hlx.ft
  repeat first | refine nx ?_ | intro _
  refine gIf (fun c => ?_) fun c => ?_
  · have hb : ¬ okL l = true := fun h => by have := (okL_iff.1 h).1; omega
    repeat first | refine nx ?_ | intro _
    rw [mkL_no hb, Bool.eq_false_iff.2 hb]
    exact ⟨rfl, rfl⟩
  · have hl : l.length ≤ 20 := by omega
    repeat first | refine nx ?_ | intro _
    rename_i v2
    refine gNl rE 87 ?_
    refine gLp (fun s : (Nat × Value) × List En => [(5, iv s.1.1), (4, ov s.1.2)]) (fun s => [rA rE 87 s.1.2 s.2, rV v2 [.cv (.slice none 0 0)] 24]) (fun s => (s.1.1 ≤ l.length ∧ ∀ j, j < s.1.1 → okE (l.getD j en0) = true) ∧ Rep (mkB (l.take s.1.1)) s.2 ∧ ∀ x ∈ s.2, EnT x) (fun s => l.length - s.1.1) ((0, .slice none 0 0), []) ⟨⟨Nat.zero_le _, fun j h => absurd h (Nat.not_lt_zero _)⟩, Rep.nil, fun x hx => absurd hx (by simp)⟩ (fun ⟨⟨k, u⟩, o⟩ ⟨⟨hk, hn⟩, hr, hs⟩ => ?_)
    dsimp only at hk hn hr hs ⊢
    repeat first | refine nx ?_ | intro _
    refine gIf (fun c2 => ?_) fun c2 => ?_
    · have hek := hlx.2 _ (getD_in en0 c2)
      haveI : FtF (l.getD k en0).f := ⟨hek.2.2⟩
      have hbf := hek.2.1
      have hpl := hek.1.2
      have hwl := hek.1.1
      have hbq := bq_rat hek.2.2
      repeat first | refine nx ?_ | intro _
      refine gIf (fun c3 => ?_) fun c3 => ?_
      · have hb : ¬ okL l = true := okL_bad c2 (fun h => by
          obtain ⟨a, b, d⟩ := okE_iff.1 h
          rw [← sgQ_pos] at d
          rcases c3 with (c3 | c3) | c3
          · exact c3 a
          · exact c3 b
          · omega)
        repeat first | refine nx ?_ | intro _
        rw [mkL_no hb, Bool.eq_false_iff.2 hb]
        exact ⟨rfl, rfl⟩
      · have hok : okE (l.getD k en0) = true := by
          unfold okE
          rw [Bool.and_eq_true, Bool.and_eq_true, decide_eq_true_iff]
          refine ⟨Classical.byContradiction fun h => c3 (.inl (.inl h)), Classical.byContradiction fun h => c3 (.inl (.inr h)), Classical.byContradiction fun h => c3 (.inr (by omega))⟩
        have hok2 : ∀ j, j < k + 1 → okE (l.getD j en0) = true := fun j hj => by
          by_cases e : j = k
          · rw [e]; exact hok
          · exact hn j (by omega)
        have hol : o.length ≤ 20 := by
          have := hr.len
          unfold mkB at this
          rw [List.length_map, List.length_take] at this
          omega
        have hop : ∀ j, (o.getD j en0).ph.length ≤ 1000000 := fun j => by
          by_cases h : j < o.length
          · exact (hs _ (getD_in en0 h)).1.2
          · rw [List.getD_eq_getElem?_getD, List.getElem?_eq_none (by omega)]; exact Nat.zero_le _
        repeat first | refine nx ?_ | intro _
        refine gLp (fun j : Nat => [(7, iv j)]) (fun _ => []) (fun j => j ≤ o.length ∧ ∀ i, i < j → befE (o.getD i en0) (l.getD k en0) < 0) (fun j => o.length - j) 0 ⟨Nat.zero_le _, fun i h => absurd h (Nat.not_lt_zero _)⟩ (fun j ⟨hj, hlt⟩ => ?_)
        have hopj := hop j
        repeat first | refine gDs 35 35 (by rfl) (by kernel_rfl) ?_ | refine nx ?_ | intro _
        refine gIf (fun c4 => ?_) fun c4 => ?_
        · obtain ⟨c40, c41⟩ := c4
          repeat first | refine nx ?_ | intro _
          refine gBk (j + 1) ⟨by omega, fun i hi => ?_⟩ (by omega)
          by_cases e : i = j
          · rw [e, befE_split]; exact c41
          · exact hlt i (by omega)
        · haveI : FtEs o := ⟨fun e he => ⟨(hs e he).2.2⟩⟩
          have hoj : ∀ j, j < o.length → bf (o.getD j en0).f ≤ 821 := fun j h => (hs _ (getD_in en0 h)).2.1
          have hk1 := mkB_succ c2
          repeat first | refine gDs 25 25 (by rfl) (by kernel_rfl) ?_ | refine nx ?_ | intro _
          refine gIf (fun c5 => ?_) fun c5 => ?_
          · obtain ⟨⟨c50, c51⟩, c52⟩ := c5
            have hob := hoj j c50
            have hm := rep_merge hr c50 (befE_zero.2 ⟨c51, c52⟩) (f := frK ((o.getD j en0).f.rat + (l.getD k en0).f.rat)) (frK_rat _)
            rw [← hk1] at hm
            repeat first | refine gDs 13 10 (by rfl) (by kernel_rfl) ?_ | refine nx ?_ | intro _
            refine gBk ((k + 1, u), o.set j ⟨(o.getD j en0).w, (o.getD j en0).ph, frK ((o.getD j en0).f.rat + (l.getD k en0).f.rat)⟩) ⟨⟨by dsimp only; omega, hok2⟩, hm, enT_set hs ⟨(hs _ (getD_in en0 c50)).1, ?_⟩⟩ (by dsimp only; omega)
            have ft : FtF (frK ((o.getD j en0).f.rat + (l.getD k en0).f.rat)) := inferInstance
            refine ⟨?_, ft.h⟩
            show bf (frK _) ≤ _
            rw [bf_frK]
            have hm2 := bq_mk hl hl40 hlx.2 hm ⟨(o.getD j en0).w, (o.getD j en0).ph, frK ((o.getD j en0).f.rat + (l.getD k en0).f.rat)⟩ (by
              rw [List.mem_iff_getElem]
              exact ⟨j, by rw [List.length_set]; exact c50, List.getElem_set_self _⟩)
            have hm2 : bq (frK ((o.getD j en0).f.rat + (l.getD k en0).f.rat)).rat ≤ 821 := hm2
            rwa [frK_rat] at hm2
          · have hi := rep_split hr hj hlt (x := l.getD k en0) (fun h => ⟨fun h2 => c4 ⟨h, befE_split.1 h2⟩, fun h2 => c5 ⟨⟨h, (befE_zero.1 h2).1⟩, (befE_zero.1 h2).2⟩⟩)
            rw [← hk1] at hi
            have hs3 : ∀ y ∈ o.take j ++ [l.getD k en0] ++ o.drop j, EnT y := enT_put hs ⟨hek.1, by have := hl40 _ (getD_in en0 c2); omega, hek.2.2⟩
            have htl : (o.take j).length ≤ 1000000 := by rw [List.length_take]; omega
            refine gFz u ?_
            iterate 7 (first | refine nx ?_ | intro _)
            intro v15
            refine gFzO v15 ?_
            repeat first | refine gDc 12 3 6 10 ⟨123, 126, fun v => rA rE 87 v (o.take j), fun v => rA rE 87 v (o.take j ++ [l.getD k en0])⟩ (by rfl) (by kernel_rfl) ?_ | refine nx ?_ | intro _
            refine gCn rfl (by omega) ?_
            repeat first | refine nx ?_ | intro _
            refine gCb rfl ⟨by simp; omega, by simp; omega⟩ ?_
            repeat first | refine nx ?_ | intro _
            refine gCe rfl fun v126 => ?_
            refine nx ?_ (by simp; omega)
            intro v130
            repeat first | refine nx ?_ | intro _
            exact gBk ((k + 1, v130), o.take j ++ [l.getD k en0] ++ o.drop j) ⟨⟨by dsimp only; omega, hok2⟩, hi, hs3⟩ (by dsimp only; omega)
    · have ek : k = l.length := by omega
      subst ek
      have hok : okL l = true := okL_pre (by omega) hn
      rw [List.take_length] at hr
      have htw : totW o = totW l := funext fun w => by rw [hr.tw, totB_mkB]
      have hbt := bq_tw hl hl40 hlx.2
      have hpo : ∀ e ∈ l, 0 < e.f.rat := fun e he => ((okL_iff.1 hok).2 e he).2.2
      have hnz : ∀ x ∈ o, totW o x.w ≠ 0 := fun x hx => by
        rw [htw]
        obtain ⟨r, hb⟩ := (hr.key (keyE x)).2 ⟨x, hx, rfl⟩
        obtain ⟨e, he, e2⟩ := List.mem_map.1 hb
        have hw : e.w = x.w := congrArg (fun y : Ky × Rat => y.1.1) e2
        have := totW_pos hpo he
        rw [hw] at this
        grind
      have hob : o.length ≤ 20 := by
        have := hr.len
        unfold mkB at this
        rw [List.length_map] at this
        omega
      have hlo : LxS o := ⟨by omega, fun x hx => by
        obtain ⟨a, b, d⟩ := hs x hx
        exact ⟨a, by omega, d⟩⟩
      have hend := mk_ref hok hr
      rw [hend, hok]
      haveI := hlo.ft
      refine gFz u ?_
      repeat first | refine nx ?_ | intro _
      rename_i v8
      refine gNl rE 87 ?_
      refine gLp (fun s : Nat × Value => [(9, iv s.1)]) (fun s => [rV v8 [ov s.2] 24, rA rE 87 s.2 ((o.take s.1).map (dvE (totW o))), rV v2 [.cv (.slice none 0 0)] 24]) (fun s => s.1 ≤ o.length) (fun s => o.length - s.1) (0, .slice none 0 0) (Nat.zero_le _) (fun ⟨j, u8⟩ hj => ?_)
      dsimp only at hj ⊢
      repeat first | refine nx ?_ | intro _
      refine gIf (fun c3 => ?_) fun c3 => ?_
      · have hx := getD_in en0 c3
        have hes := hlo.2 _ hx
        haveI : FtF (o.getD j en0).f := ⟨hes.2.2⟩
        have hbf := hes.2.1
        have hn0 := hnz _ hx
        have hb2 : bq (totW o (o.getD j en0).w) ≤ 821 := by rw [htw]; exact hbt _
        have hml : ((o.take j).map (dvE (totW o))).length = j := by rw [List.length_map, List.length_take]; omega
        have hsu : (o.take (j + 1)).map (dvE (totW o)) = (o.take j).map (dvE (totW o)) ++ [dvE (totW o) (o.getD j en0)] := map_take_succ (f := dvE (totW o)) en0 c3
        repeat first | refine gDs 9 7 (by rfl) (by kernel_rfl) ?_ | refine nx ?_ | intro _
        rename_i u9
        have hsu2 : (o.take j).map (dvE (totW o)) ++ [⟨(o.getD j en0).w, (o.getD j en0).ph, frK ((o.getD j en0).f.rat / totW o (o.getD j en0).w)⟩] = (o.take (j + 1)).map (dvE (totW o)) := hsu.symm
        rw [hsu2]
        exact gBk (j + 1, u9) (by dsimp only; omega) (by dsimp only; omega)
      · rw [List.take_of_length_le (by omega)]
        refine gFz u8 ?_
        repeat first | refine nx ?_ | intro _
        exact ⟨trivial, trivial⟩
end Go.E3
