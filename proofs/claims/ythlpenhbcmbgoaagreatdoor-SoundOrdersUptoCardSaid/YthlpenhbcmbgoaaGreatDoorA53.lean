/- A53: a part of the proofs about what is clipped and stored: how the program's functions run, and what they compute, for every input. -/
import Derived.Test.YthlpenhbcmbgoaaGreatDoorA52
set_option linter.all false
set_option linter.unusedVariables false
set_option maxRecDepth 20000
namespace Go.E3
open Go Go.Ear Go.Proofs
abbrev Ky := ByteArray × List Int
def keyE (e : En) : Ky := (e.w, e.ph)
theorem befE_swo : Sort.SWO (ltOf befE) := (cmpS_to.pair ordI_to).swo keyE
theorem befE_neg (a b : En) : befE b a = - befE a b := (befE_to a b a).1
theorem befE_tr {a b d : En} (h1 : befE a b < 0) (h2 : befE b d < 0) : befE a d < 0 := (befE_to a b d).2 h1 h2
theorem befE_l {a b : En} (x : En) (h : keyE a = keyE b) : befE a x = befE b x := by
  have h1 : a.w = b.w := congrArg Prod.fst h
  have h2 : a.ph = b.ph := congrArg Prod.snd h
  unfold befE; rw [h1, h2]
theorem befE_r {a b : En} (x : En) (h : keyE a = keyE b) : befE x a = befE x b := by
  have h1 : a.w = b.w := congrArg Prod.fst h
  have h2 : a.ph = b.ph := congrArg Prod.snd h
  unfold befE; rw [h1, h2]
theorem befE_self (a : En) : befE a a = 0 := by have := befE_neg a a; omega
theorem befE_key {a b : En} : befE a b = 0 ↔ keyE a = keyE b := by
  constructor
  · intro h
    obtain ⟨h1, h2⟩ := befE_eq h
    exact Prod.ext h1 h2
  · intro h; rw [befE_l b h, befE_self]
theorem befE_ne {a b : En} (h : befE a b < 0) : keyE a ≠ keyE b := fun e => by have := befE_key.2 e; omega
def totB (b : Bag Ky) (w : ByteArray) : Rat := sQ ((b.filter fun x => decide (x.1.1 = w)).map (·.2))
theorem totB_app (a b : Bag Ky) (w : ByteArray) : totB (a ++ b) w = totB a w + totB b w := by unfold totB; rw [List.filter_append, List.map_append, sQ_app]
theorem totB_one (k : Ky) (r : Rat) (w : ByteArray) : totB [(k, r)] w = if k.1 = w then r else 0 := by
  unfold totB
  by_cases h : k.1 = w
  · rw [if_pos h, List.filter_cons_of_pos (by simpa using h)]
    show r + 0 = r; rw [Rat.add_zero]
  · rw [if_neg h, List.filter_cons_of_neg (by simpa using h)]; rfl
theorem totW_app (a b : List En) (w : ByteArray) : totW (a ++ b) w = totW a w + totW b w := by unfold totW; rw [List.filter_append, List.map_append, sQ_app]
theorem totW_one (e : En) (w : ByteArray) : totW [e] w = if e.w = w then e.f.rat else 0 := by
  unfold totW
  by_cases h : e.w = w
  · rw [if_pos h, List.filter_cons_of_pos (by simpa using h)]
    show _ + 0 = _; rw [Rat.add_zero]
  · rw [if_neg h, List.filter_cons_of_neg (by simpa using h)]; rfl
theorem totW_perm {a b : List En} (h : a.Perm b) (w : ByteArray) : totW a w = totW b w := sQ_perm ((h.filter _).map _)
theorem totB_perm {a b : Bag Ky} (h : a.Perm b) (w : ByteArray) : totB a w = totB b w := sQ_perm ((h.filter _).map _)
structure Rep (b : Bag Ky) (o : List En) : Prop where
  srt : o.Pairwise fun a b => befE a b < 0
  key : ∀ k, hasB b k ↔ ∃ x ∈ o, keyE x = k
  rt : ∀ x ∈ o, x.f.rat = tot b (keyE x)
  tw : ∀ w, totW o w = totB b w
  len : o.length ≤ b.length
theorem Rep.nil : Rep [] [] := ⟨.nil, fun k => ⟨fun ⟨w, h⟩ => absurd h (by simp), fun ⟨x, h, _⟩ => absurd h (by simp)⟩, fun x h => absurd h (by simp), fun w => rfl, Nat.le_refl _⟩
theorem Rep.mrg {b : Bag Ky} {p q : List En} {y y' : En} {r : Rat} (h : Rep b (p ++ y :: q)) (hk : keyE y' = keyE y) (hr : y'.f.rat = y.f.rat + r) : Rep (b ++ [(keyE y, r)]) (p ++ y' :: q) := by
  obtain ⟨h1, h2, h3, h4, h5⟩ := h
  rw [List.pairwise_append, List.pairwise_cons] at h1
  obtain ⟨s1, ⟨s2, s3⟩, s4⟩ := h1
  have hp : ∀ x ∈ p, keyE y ≠ keyE x := fun x hx => (befE_ne (s4 x hx y (List.mem_cons_self ..))).symm
  have hq : ∀ x ∈ q, keyE y ≠ keyE x := fun x hx => befE_ne (s2 x hx)
  refine ⟨?_, fun k => ?_, fun x hx => ?_, fun w => ?_, ?_⟩
  · rw [List.pairwise_append, List.pairwise_cons]
    refine ⟨s1, ⟨fun x hx => by rw [befE_l x hk]; exact s2 x hx, s3⟩, fun a ha x hx => ?_⟩
    rcases List.mem_cons.1 hx with rfl | hx
    · rw [befE_r a hk]; exact s4 a ha y (List.mem_cons_self ..)
    · exact s4 a ha x (List.mem_cons_of_mem _ hx)
  · rw [has_app, has_one, h2]
    constructor
    · rintro (⟨x, hx, e⟩ | e)
      · rcases List.mem_append.1 hx with hx | hx
        · exact ⟨x, List.mem_append_left _ hx, e⟩
        · rcases List.mem_cons.1 hx with rfl | hx
          · exact ⟨y', List.mem_append_right _ (List.mem_cons_self ..), hk.trans e⟩
          · exact ⟨x, List.mem_append_right _ (List.mem_cons_of_mem _ hx), e⟩
      · exact ⟨y', List.mem_append_right _ (List.mem_cons_self ..), hk.trans e.symm⟩
    · rintro ⟨x, hx, e⟩
      rcases List.mem_append.1 hx with hx | hx
      · exact .inl ⟨x, List.mem_append_left _ hx, e⟩
      · rcases List.mem_cons.1 hx with rfl | hx
        · exact .inr (e.symm.trans hk)
        · exact .inl ⟨x, List.mem_append_right _ (List.mem_cons_of_mem _ hx), e⟩
  · rw [tot_app, tot_one]
    rcases List.mem_append.1 hx with hx | hx
    · rw [if_neg (hp x hx), Rat.add_zero]; exact h3 x (List.mem_append_left _ hx)
    · rcases List.mem_cons.1 hx with rfl | hx
      · rw [if_pos hk.symm, hr, hk, h3 y (List.mem_append_right _ (List.mem_cons_self ..))]
      · rw [if_neg (hq x hx), Rat.add_zero]; exact h3 x (List.mem_append_right _ (List.mem_cons_of_mem _ hx))
  · have e := h4 w
    have e1 : p ++ y :: q = p ++ ([y] ++ q) := rfl
    have e2 : p ++ y' :: q = p ++ ([y'] ++ q) := rfl
    have hw : y'.w = y.w := congrArg Prod.fst hk
    rw [e1, totW_app, totW_app, totW_one] at e
    rw [e2, totW_app, totW_app, totW_one, totB_app, totB_one, ← e, hw, hr]
    show _ = _ + (if y.w = w then r else 0)
    split
    · grind
    · grind
  · rw [List.length_append, List.length_cons] at h5 ⊢
    rw [List.length_append, List.length_singleton]; omega
theorem Rep.ins {b : Bag Ky} {p q : List En} {x : En} {r : Rat} (h : Rep b (p ++ q)) (hp : ∀ a ∈ p, befE a x < 0) (hq : ∀ a ∈ q, befE x a < 0) (hr : x.f.rat = r) : Rep (b ++ [(keyE x, r)]) (p ++ x :: q) := by
  obtain ⟨h1, h2, h3, h4, h5⟩ := h
  rw [List.pairwise_append] at h1
  obtain ⟨s1, s3, s4⟩ := h1
  have hn : ¬ hasB b (keyE x) := fun e => by
    obtain ⟨y, hy, e⟩ := (h2 _).1 e
    rcases List.mem_append.1 hy with hy | hy
    · exact befE_ne (hp y hy) e
    · exact befE_ne (hq y hy) e.symm
  refine ⟨?_, fun k => ?_, fun y hy => ?_, fun w => ?_, ?_⟩
  · rw [List.pairwise_append, List.pairwise_cons]
    refine ⟨s1, ⟨hq, s3⟩, fun a ha y hy => ?_⟩
    rcases List.mem_cons.1 hy with rfl | hy
    · exact hp a ha
    · exact s4 a ha y hy
  · rw [has_app, has_one, h2]
    constructor
    · rintro (⟨y, hy, e⟩ | e)
      · rcases List.mem_append.1 hy with hy | hy
        · exact ⟨y, List.mem_append_left _ hy, e⟩
        · exact ⟨y, List.mem_append_right _ (List.mem_cons_of_mem _ hy), e⟩
      · exact ⟨x, List.mem_append_right _ (List.mem_cons_self ..), e.symm⟩
    · rintro ⟨y, hy, e⟩
      rcases List.mem_append.1 hy with hy | hy
      · exact .inl ⟨y, List.mem_append_left _ hy, e⟩
      · rcases List.mem_cons.1 hy with rfl | hy
        · exact .inr e.symm
        · exact .inl ⟨y, List.mem_append_right _ hy, e⟩
  · rw [tot_app, tot_one]
    have hold : ∀ y ∈ p ++ q, y.f.rat = tot b (keyE y) + if keyE x = keyE y then r else 0 := fun y hy => by
      rw [if_neg fun e => hn ((h2 _).2 ⟨y, hy, e.symm⟩), Rat.add_zero]; exact h3 y hy
    rcases List.mem_append.1 hy with hy | hy
    · exact hold y (List.mem_append_left _ hy)
    · rcases List.mem_cons.1 hy with rfl | hy
      · rw [if_pos rfl, tot_none hn, Rat.zero_add, hr]
      · exact hold y (List.mem_append_right _ hy)
  · have e := h4 w
    have e2 : p ++ x :: q = p ++ ([x] ++ q) := rfl
    rw [totW_app] at e
    rw [e2, totW_app, totW_app, totW_one, totB_app, totB_one, ← e, hr]
    show _ = _ + (if x.w = w then r else 0)
    grind
  · rw [List.length_append] at h5
    rw [List.length_append, List.length_append, List.length_cons, List.length_singleton]; omega
theorem Rep.perm {b c : Bag Ky} {o : List En} (h : Rep b o) (p : b.Perm c) : Rep c o := ⟨h.srt, fun k => (has_perm p k).symm.trans (h.key k), fun x hx => (h.rt x hx).trans (tot_perm p _), fun w => (h.tw w).trans (totB_perm p w), by rw [← p.length_eq]; exact h.len⟩
theorem sE_ext : ∀ {a b : List En}, (a.Pairwise fun x y => befE x y < 0) → (b.Pairwise fun x y => befE x y < 0) → (∀ x, x ∈ a ↔ x ∈ b) → a = b
  | [], [], _, _, _ => rfl
  | [], y :: b, _, _, h => absurd ((h y).2 (List.mem_cons_self ..)) (by simp)
  | x :: a, [], _, _, h => absurd ((h x).1 (List.mem_cons_self ..)) (by simp)
  | x :: a, y :: b, ha, hb, h => by
    obtain ⟨a1, a2⟩ := List.pairwise_cons.1 ha
    obtain ⟨b1, b2⟩ := List.pairwise_cons.1 hb
    have n := befE_neg x y
    have e : x = y := by
      rcases List.mem_cons.1 ((h x).1 (List.mem_cons_self ..)) with e | e
      · exact e
      · rcases List.mem_cons.1 ((h y).2 (List.mem_cons_self ..)) with e2 | e2
        · exact e2.symm
        · have := b1 _ e
          have := a1 _ e2
          omega
    subst e
    have s := befE_self x
    rw [sE_ext a2 b2 fun z => ?_]
    constructor
    · intro hz
      rcases List.mem_cons.1 ((h z).1 (List.mem_cons_of_mem _ hz)) with e | e
      · have := a1 _ hz
        rw [e] at this; omega
      · exact e
    · intro hz
      rcases List.mem_cons.1 ((h z).2 (List.mem_cons_of_mem _ hz)) with e | e
      · have := b1 _ hz
        rw [e] at this; omega
      · exact e
def CaE (o : List En) : Prop := ∀ x ∈ o, x.f = frK x.f.rat
theorem Rep.one {b : Bag Ky} {o p : List En} (h : Rep b o) (g : Rep b p) (ho : CaE o) (hp : CaE p) : o = p := by
  have key : ∀ {o p : List En}, Rep b o → Rep b p → CaE o → CaE p → ∀ x, x ∈ o → x ∈ p := fun {o p} h g ho hp x hx => by
    obtain ⟨y, hy, e⟩ := (g.key _).1 ((h.key (keyE x)).2 ⟨x, hx, rfl⟩)
    have hf : y.f = x.f := by rw [ho x hx, hp y hy, h.rt x hx, g.rt y hy, e]
    have : y = x := by
      obtain ⟨w, ph, f⟩ := x
      obtain ⟨w', ph', f'⟩ := y
      have h1 : w' = w := congrArg Prod.fst e
      have h2 : ph' = ph := congrArg Prod.snd e
      have h3 : f' = f := hf
      rw [h1, h2, h3]
    rw [← this]; exact hy
  exact sE_ext h.srt g.srt fun x => ⟨key h g ho hp x, key g h hp ho x⟩
def dvB (W : ByteArray → Rat) (b : Bag Ky) : Bag Ky := b.map fun x => (x.1, x.2 / W x.1.1)
def dvE (W : ByteArray → Rat) (x : En) : En := ⟨x.w, x.ph, frK (x.f.rat / W x.w)⟩
theorem sQ_div {α : Type} (f : α → Rat) (c : Rat) : ∀ l : List α, sQ (l.map fun x => f x / c) = sQ (l.map f) / c
  | [] => by show (0 : Rat) = 0 / c; grind
  | x :: l => by show f x / c + sQ (l.map _) = (f x + sQ (l.map f)) / c; rw [sQ_div f c l]; grind
theorem tot_dvB (W : ByteArray → Rat) (b : Bag Ky) (k : Ky) : tot (dvB W b) k = tot b k / W k.1 := by
  unfold tot dvB
  rw [List.filter_map, List.map_map, ← sQ_div]
  refine congrArg sQ (List.map_congr_left fun x hx => ?_)
  have e : x.1 = k := by simpa using (List.mem_filter.1 hx).2
  show x.2 / W x.1.1 = _
  rw [e]
theorem totB_dvB (W : ByteArray → Rat) (b : Bag Ky) (w : ByteArray) : totB (dvB W b) w = totB b w / W w := by
  unfold totB dvB
  rw [List.filter_map, List.map_map, ← sQ_div]
  refine congrArg sQ (List.map_congr_left fun x hx => ?_)
  have e : x.1.1 = w := by simpa using (List.mem_filter.1 hx).2
  show x.2 / W x.1.1 = _
  rw [e]
theorem totW_dvE (W : ByteArray → Rat) (o : List En) (w : ByteArray) : totW (o.map (dvE W)) w = totW o w / W w := by
  unfold totW
  rw [List.filter_map, List.map_map, ← sQ_div]
  refine congrArg sQ (List.map_congr_left fun x hx => ?_)
  have e : x.w = w := of_decide_eq_true (List.mem_filter.1 hx).2
  show (frK (x.f.rat / W x.w)).rat = _
  rw [frK_rat, e]
theorem has_dvB (W : ByteArray → Rat) (b : Bag Ky) (k : Ky) : hasB (dvB W b) k ↔ hasB b k := by
  unfold hasB dvB
  constructor
  · rintro ⟨w, h⟩
    obtain ⟨x, hx, e⟩ := List.mem_map.1 h
    have e1 : x.1 = k := congrArg Prod.fst e
    exact ⟨x.2, by rw [← e1]; exact hx⟩
  · rintro ⟨w, h⟩
    exact ⟨_, List.mem_map.2 ⟨_, h, rfl⟩⟩
theorem Rep.dv {b : Bag Ky} {o : List En} (h : Rep b o) (W : ByteArray → Rat) : Rep (dvB W b) (o.map (dvE W)) := by
  refine ⟨?_, fun k => ?_, fun x hx => ?_, fun w => ?_, ?_⟩
  · rw [List.pairwise_map]; exact h.srt
  · rw [has_dvB, h.key]
    constructor
    · rintro ⟨x, hx, e⟩; exact ⟨_, List.mem_map_of_mem hx, e⟩
    · rintro ⟨x, hx, e⟩
      obtain ⟨y, hy, rfl⟩ := List.mem_map.1 hx
      exact ⟨y, hy, e⟩
  · obtain ⟨y, hy, rfl⟩ := List.mem_map.1 hx
    show (frK (y.f.rat / W y.w)).rat = tot (dvB W b) (keyE y)
    rw [frK_rat, tot_dvB, h.rt y hy]; rfl
  · rw [totW_dvE, totB_dvB, h.tw]
  · rw [List.length_map]; unfold dvB; rw [List.length_map]; exact h.len
theorem dv_ca (W : ByteArray → Rat) (o : List En) : CaE (o.map (dvE W)) := fun x hx => by
  obtain ⟨y, hy, rfl⟩ := List.mem_map.1 hx
  show frK _ = frK (frK _).rat
  rw [frK_rat]
def mkB (l : List En) : Bag Ky := l.map fun e => (keyE e, e.f.rat)
theorem totB_mkB (l : List En) (w : ByteArray) : totB (mkB l) w = totW l w := by
  unfold totB mkB totW
  rw [List.filter_map, List.map_map]; rfl
def MkO (l o : List En) : Prop := Rep (dvB (totW l) (mkB l)) o ∧ CaE o
theorem MkO.one {l o p : List En} (h : MkO l o) (g : MkO l p) : o = p := h.1.one g.1 h.2 g.2
def okE (e : En) : Bool := wdB e.w && (phB e.ph 40 && decide (0 < sgQ e.f.rat))
def okL (l : List En) : Bool := decide (l.length ≤ 1000) && l.all okE
open Classical in
noncomputable def mkL (l : List En) : List En := if h : okL l = true ∧ ∃ o, MkO l o then Classical.choose h.2 else []
theorem mkL_eq {l o : List En} (h0 : okL l = true) (h : MkO l o) : mkL l = o := by
  unfold mkL
  rw [dif_pos ⟨h0, o, h⟩]
  exact (Classical.choose_spec (⟨o, h⟩ : ∃ o, MkO l o)).one h
theorem mkL_no {l : List En} (h0 : ¬ okL l = true) : mkL l = [] := by
  unfold mkL
  rw [dif_neg fun h => h0 h.1]
def mkE (l : List En) : Int := if okL l = true then 0 else 2
theorem okE_iff {e : En} : okE e = true ↔ wdB e.w = true ∧ phB e.ph 40 = true ∧ 0 < e.f.rat := by
  unfold okE
  rw [Bool.and_eq_true, Bool.and_eq_true, decide_eq_true_iff, sgQ_pos]
theorem okL_iff {l : List En} : okL l = true ↔ l.length ≤ 1000 ∧ ∀ e ∈ l, wdB e.w = true ∧ phB e.ph 40 = true ∧ 0 < e.f.rat := by
  unfold okL
  rw [Bool.and_eq_true, decide_eq_true_iff, List.all_eq_true]
  exact and_congr_right fun _ => forall_congr' fun e => imp_congr_right fun _ => okE_iff
theorem totW_cons (e : En) (l : List En) (w : ByteArray) : totW (e :: l) w = (if e.w = w then e.f.rat else 0) + totW l w := by
  have : e :: l = [e] ++ l := rfl
  rw [this, totW_app, totW_one]
theorem totW_nn {l : List En} (h : ∀ e ∈ l, 0 ≤ e.f.rat) (w : ByteArray) : 0 ≤ totW l w := by
  unfold totW
  refine sQ_nonneg fun x hx => ?_
  obtain ⟨e, he, rfl⟩ := List.mem_map.1 hx
  exact h e (List.mem_filter.1 he).1
theorem totW_le : ∀ {l : List En}, (∀ e ∈ l, 0 ≤ e.f.rat) → ∀ x ∈ l, x.f.rat ≤ totW l x.w
  | [], _, x, hx => absurd hx (by simp)
  | y :: l, h, x, hx => by
    rw [totW_cons]
    have h1 := totW_nn (l := l) (fun e he => h e (List.mem_cons_of_mem _ he)) x.w
    rcases List.mem_cons.1 hx with rfl | hx
    · rw [if_pos rfl]; grind
    · have h2 := totW_le (l := l) (fun e he => h e (List.mem_cons_of_mem _ he)) x hx
      have h3 := h y (List.mem_cons_self ..)
      split <;> grind
theorem totW_pos {l : List En} (h : ∀ e ∈ l, 0 < e.f.rat) {x : En} (hx : x ∈ l) : 0 < totW l x.w := by
  have h1 := totW_le (fun e he => by have := h e he; grind) x hx
  have h2 := h x hx
  grind
theorem mk_of {l o : List En} (h0 : okL l = true) (h : MkO l o) : (∀ x ∈ o, (∃ e ∈ l, keyE x = keyE e) ∧ 0 < x.f.rat ∧ totW o x.w = 1 ∧ x.f.rat ≤ 1) ∧ o.length ≤ l.length := by
  obtain ⟨h1, h2⟩ := okL_iff.1 h0
  obtain ⟨r, c⟩ := h
  have hpo : ∀ e ∈ l, 0 < e.f.rat := fun e he => (h2 e he).2.2
  have hsrc : ∀ x ∈ o, ∃ e ∈ l, keyE x = keyE e := fun x hx => by
    have := (r.key (keyE x)).2 ⟨x, hx, rfl⟩
    rw [has_dvB] at this
    obtain ⟨w, hw⟩ := this
    obtain ⟨e, he, e2⟩ := List.mem_map.1 hw
    exact ⟨e, he, (congrArg Prod.fst e2).symm⟩
  have hpb : PosB (mkB l) := fun x hx => by
    obtain ⟨e, he, rfl⟩ := List.mem_map.1 hx
    exact hpo e he
  have hp : ∀ x ∈ o, 0 < x.f.rat := fun x hx => by
    obtain ⟨e, he, e2⟩ := hsrc x hx
    have hw : x.w = e.w := congrArg Prod.fst e2
    have a := totW_pos hpo he
    have b : 0 < tot (mkB l) (keyE x) := (tot_pos hpb).2 ⟨e.f.rat, by rw [e2]; exact List.mem_map.2 ⟨e, he, rfl⟩⟩
    rw [r.rt x hx, tot_dvB]
    have e3 : (keyE x).1 = e.w := hw
    rw [e3, Rat.div_def]
    exact Rat.mul_pos b (Rat.inv_pos.2 a)
  refine ⟨fun x hx => ?_, ?_⟩
  · obtain ⟨e, he, e2⟩ := hsrc x hx
    have hw : x.w = e.w := congrArg Prod.fst e2
    have a := totW_pos hpo he
    have t1 : totW o x.w = 1 := by
      rw [r.tw, totB_dvB, totB_mkB, hw]
      grind
    refine ⟨⟨e, he, e2⟩, hp x hx, t1, ?_⟩
    rw [← t1]
    exact totW_le (fun e he => by have := hp e he; grind) x hx
  · have := r.len
    unfold dvB mkB at this
    rwa [List.length_map, List.length_map] at this
theorem mk_val {l o : List En} (h0 : okL l = true) (h : MkO l o) : valB o = true := by
  obtain ⟨h1, h2⟩ := okL_iff.1 h0
  obtain ⟨a1, a2⟩ := mk_of h0 h
  refine valB_ok (by omega) ?_ fun k hk => (a1 _ (getD_in en0 hk)).2.2.1
  unfold ordB
  rw [Bool.not_eq_true', List.any_eq_false]
  intro k hk
  have hk := List.mem_range.1 hk
  intro hb
  rw [badE_iff] at hb
  obtain ⟨⟨e, he, e2⟩, p1, p2, p3⟩ := a1 _ (getD_in en0 hk)
  have hw : (o.getD k en0).w = e.w := congrArg Prod.fst e2
  have hph : (o.getD k en0).ph = e.ph := congrArg Prod.snd e2
  obtain ⟨w1, w2, _⟩ := h2 e he
  rw [← hw] at w1
  rw [← hph] at w2
  rcases hb with ((hb | hb) | hb) | ⟨hb1, hb2⟩
  · exact hb w1
  · exact hb w2
  · refine hb ?_
    unfold wtB
    rw [Bool.and_eq_true, decide_eq_true_iff, decide_eq_true_iff, sgQ_pos]
    refine ⟨p1, ?_⟩
    have : ¬ 0 < sgQ ((o.getD k en0).f.rat - 1) := fun h => by
      rw [sgQ_pos] at h
      grind
    omega
  · have hs := List.pairwise_iff_getElem.1 h.1.srt (k - 1) k (by omega) hk (by omega)
    rw [List.getD_eq_getElem?_getD, List.getElem?_eq_getElem (show k - 1 < o.length by omega), List.getD_eq_getElem?_getD, List.getElem?_eq_getElem hk] at hb2
    have hb2 : 0 ≤ befE o[k - 1] o[k] := hb2
    omega
def stE (W : ByteArray → Rat) (s : List En) : Bag Ky := dvB W (mkB s)
theorem stE_succ (W : ByteArray → Rat) {s : List En} {k : Nat} (h : k < s.length) : stE W (s.take (k + 1)) = stE W (s.take k) ++ [(keyE (s.getD k en0), (s.getD k en0).f.rat / W (s.getD k en0).w)] := by
  unfold stE dvB mkB
  rw [List.take_succ_eq_append_getElem h, List.map_append, List.map_append, List.getD_eq_getElem?_getD, List.getElem?_eq_getElem h]; rfl
def Top (s : List En) (k : Nat) (o : List En) : Prop := 0 < k → ∃ p y, o = p ++ [y] ∧ keyE y = keyE (s.getD (k - 1) en0)
theorem top_le {s : List En} (hs : s.Pairwise fun a b => ¬ befE b a < 0) {b : Bag Ky} {o : List En} {k : Nat} (hk : k < s.length) (r : Rep b o) (t : Top s k o) (hb : k = 0 → o = []) : ∀ y ∈ o, befE y (s.getD k en0) ≤ 0 := fun y hy => by
  rcases Nat.eq_zero_or_pos k with h0 | h0
  · rw [hb h0] at hy; exact absurd hy (by simp)
  obtain ⟨p, z, e, hz⟩ := t h0
  have h1 := List.pairwise_iff_getElem.1 hs (k - 1) k (by omega) hk (by omega)
  have e1 : s.getD (k - 1) en0 = s[k - 1] := by rw [List.getD_eq_getElem?_getD, List.getElem?_eq_getElem (show k - 1 < s.length by omega)]; rfl
  have e2 : s.getD k en0 = s[k] := by rw [List.getD_eq_getElem?_getD, List.getElem?_eq_getElem hk]; rfl
  rw [← e1, ← e2, ← befE_r _ hz] at h1
  have n := befE_neg z (s.getD k en0)
  have h1 : befE z (s.getD k en0) ≤ 0 := by omega
  have rs := r.srt
  rw [e, List.pairwise_append] at rs
  rw [e] at hy
  rcases List.mem_append.1 hy with hy | hy
  · have h2 := rs.2.2 y hy z (List.mem_singleton.2 rfl)
    rcases Int.lt_or_eq_of_le h1 with h | h
    · have := befE_tr h2 h; omega
    · rw [← befE_r _ (befE_key.1 h)]; omega
  · rw [List.mem_singleton.1 hy]; exact h1
theorem mk_same {s : List En} {W : ByteArray → Rat} {k : Nat} {o : List En} (hk : k < s.length) (h0 : 0 < k) (r : Rep (stE W (s.take k)) o) (t : Top s k o) (he : befE (s.getD (k - 1) en0) (s.getD k en0) = 0) (hc : CaE o) : ∃ p y, o = p ++ [y] ∧ (let z : En := ⟨y.w, y.ph, frK (y.f.rat + (s.getD k en0).f.rat / W (s.getD k en0).w)⟩; Rep (stE W (s.take (k + 1))) (p ++ [z]) ∧ Top s (k + 1) (p ++ [z]) ∧ CaE (p ++ [z])) := by
  obtain ⟨p, y, e, hy⟩ := t h0
  subst e
  have hke : keyE (s.getD k en0) = keyE y := by rw [hy, befE_key.1 he]
  refine ⟨p, y, rfl, ?_, fun _ => ⟨p, _, rfl, ?_⟩, fun x hx => ?_⟩
  · rw [stE_succ W hk, hke]
    exact r.mrg rfl (frK_rat _)
  · rw [Nat.add_sub_cancel]; exact hke.symm
  · rcases List.mem_append.1 hx with hx | hx
    · exact hc x (List.mem_append_left _ hx)
    · rw [List.mem_singleton.1 hx]
      show frK _ = frK (frK _).rat
      rw [frK_rat]
theorem mk_new {s : List En} (hs : s.Pairwise fun a b => ¬ befE b a < 0) {W : ByteArray → Rat} {k : Nat} {o : List En} (hk : k < s.length) (r : Rep (stE W (s.take k)) o) (t : Top s k o) (hb : k = 0 → o = []) (he : ¬ (0 < k ∧ befE (s.getD (k - 1) en0) (s.getD k en0) = 0)) (hc : CaE o) : Rep (stE W (s.take (k + 1))) (o ++ [dvE W (s.getD k en0)]) ∧ Top s (k + 1) (o ++ [dvE W (s.getD k en0)]) ∧ CaE (o ++ [dvE W (s.getD k en0)]) := by
  have hle := top_le hs hk r t hb
  have hlt : ∀ y ∈ o, befE y (dvE W (s.getD k en0)) < 0 := fun y hy => by
    have hk' : keyE (dvE W (s.getD k en0)) = keyE (s.getD k en0) := rfl
    rw [befE_r y hk']
    rcases Int.lt_or_eq_of_le (hle y hy) with h | h
    · exact h
    · exfalso
      rcases Nat.eq_zero_or_pos k with h0 | h0
      · rw [hb h0] at hy; exact absurd hy (by simp)
      obtain ⟨p, z, e, hz⟩ := t h0
      refine he ⟨h0, ?_⟩
      rw [← befE_l _ hz]
      have rs := r.srt
      rw [e, List.pairwise_append] at rs
      rw [e] at hy
      have hz1 := hle z (by rw [e]; simp)
      rcases List.mem_append.1 hy with hy | hy
      · have h2 := rs.2.2 y hy z (List.mem_singleton.2 rfl)
        rw [befE_l _ (befE_key.1 h)] at h2
        have n := befE_neg z (s.getD k en0)
        omega
      · rw [← List.mem_singleton.1 hy]; exact h
  refine ⟨?_, fun _ => ⟨o, _, rfl, ?_⟩, fun x hx => ?_⟩
  · rw [stE_succ W hk]
    exact Rep.ins (q := []) (x := dvE W (s.getD k en0)) (by rw [List.append_nil]; exact r) hlt (fun a ha => absurd ha (by simp)) (frK_rat _)
  · rw [Nat.add_sub_cancel]; rfl
  · rcases List.mem_append.1 hx with hx | hx
    · exact hc x hx
    · rw [List.mem_singleton.1 hx]
      show frK _ = frK (frK _).rat
      rw [frK_rat]
theorem mk_end {l s o : List En} (h0 : okL l = true) (hp : s.Perm l) (r : Rep (stE (totW l) s) o) (hc : CaE o) : mkL l = o := mkL_eq h0 ⟨r.perm ((hp.map _).map _), hc⟩
theorem mkB_succ {l : List En} {k : Nat} (h : k < l.length) : mkB (l.take (k + 1)) = mkB (l.take k) ++ [(keyE (l.getD k en0), (l.getD k en0).f.rat)] := by
  unfold mkB
  rw [List.take_succ_eq_append_getElem h, List.map_append, List.getD_eq_getElem?_getD, List.getElem?_eq_getElem h]; rfl
theorem rep_split {b : Bag Ky} {o : List En} (r : Rep b o) {x : En} {j : Nat} (hj : j ≤ o.length) (h1 : ∀ i, i < j → befE (o.getD i en0) x < 0) (h2 : j < o.length → ¬ befE (o.getD j en0) x < 0 ∧ befE (o.getD j en0) x ≠ 0) : Rep (b ++ [(keyE x, x.f.rat)]) (o.take j ++ [x] ++ o.drop j) := by
  have e : o = o.take j ++ o.drop j := (List.take_append_drop j o).symm
  have h3 : ∀ a ∈ o.take j, befE a x < 0 := fun a ha => by
    obtain ⟨i, hi, rfl⟩ := getD_mem (d := en0) ha
    rw [List.length_take] at hi
    rw [take_getD (by omega)]; exact h1 i (by omega)
  have h4 : ∀ a ∈ o.drop j, befE x a < 0 := fun a ha => by
    obtain ⟨i, hi, rfl⟩ := getD_mem (d := en0) ha
    rw [List.length_drop] at hi
    rw [drop_getD]
    obtain ⟨h5, h6⟩ := h2 (by omega)
    have n := befE_neg (o.getD j en0) x
    have h7 : befE x (o.getD j en0) < 0 := by omega
    rcases Nat.eq_zero_or_pos i with rfl | hi0
    · exact h7
    · have h8 := List.pairwise_iff_getElem.1 r.srt j (j + i) (by omega) (by omega) (by omega)
      refine befE_tr h7 ?_
      rw [List.getD_eq_getElem?_getD, List.getElem?_eq_getElem (show j < o.length by omega), List.getD_eq_getElem?_getD, List.getElem?_eq_getElem (show j + i < o.length by omega)]
      exact h8
  rw [List.append_assoc]
  exact Rep.ins (q := o.drop j) (by rw [← e]; exact r) h3 h4 rfl
theorem rep_merge {b : Bag Ky} {o : List En} (r : Rep b o) {x : En} {j : Nat} (hj : j < o.length) (h2 : befE (o.getD j en0) x = 0) {f : Fr} (hf : f.rat = (o.getD j en0).f.rat + x.f.rat) : Rep (b ++ [(keyE x, x.f.rat)]) (o.set j ⟨(o.getD j en0).w, (o.getD j en0).ph, f⟩) := by
  have e1 : o.getD j en0 = o[j] := by rw [List.getD_eq_getElem?_getD, List.getElem?_eq_getElem hj]; rfl
  have e : o = o.take j ++ o.getD j en0 :: o.drop (j + 1) := by
    rw [e1, ← List.drop_eq_getElem_cons hj, List.take_append_drop]
  have e2 : o.set j ⟨(o.getD j en0).w, (o.getD j en0).ph, f⟩ = o.take j ++ ⟨(o.getD j en0).w, (o.getD j en0).ph, f⟩ :: o.drop (j + 1) := by
    rw [List.set_eq_take_append_cons_drop, if_pos hj]
  rw [e2, ← befE_key.1 h2]
  exact Rep.mrg (y := o.getD j en0) (by rw [← e]; exact r) rfl hf
theorem mk_ref {l o : List En} (h0 : okL l = true) (r : Rep (mkB l) o) : mkL l = o.map (dvE (totW o)) := by
  have e : totW o = totW l := funext fun w => by rw [r.tw, totB_mkB]
  rw [e]
  exact mkL_eq h0 ⟨r.dv _, dv_ca _ _⟩
theorem first_not {α : Type} (p : α → Prop) (d : α) : ∀ l : List α, ∃ j, j ≤ l.length ∧ (∀ i, i < j → p (l.getD i d)) ∧ (j < l.length → ¬ p (l.getD j d))
  | [] => ⟨0, Nat.le_refl _, fun i h => absurd h (Nat.not_lt_zero _), fun h => absurd h (Nat.lt_irrefl _)⟩
  | x :: l => by
    by_cases h : p x
    · obtain ⟨j, h1, h2, h3⟩ := first_not p d l
      refine ⟨j + 1, Nat.succ_le_succ h1, fun i hi => ?_, fun hj => h3 (Nat.lt_of_succ_lt_succ hj)⟩
      cases i with
      | zero => exact h
      | succ i => exact h2 i (by omega)
    · exact ⟨0, Nat.zero_le _, fun i h => absurd h (Nat.not_lt_zero _), fun _ => h⟩
theorem mk_has {l : List En} (h0 : okL l = true) (hl : l.length ≤ 20) : ∃ o, MkO l o := by
  have : ∀ k, k ≤ l.length → ∃ o, Rep (mkB (l.take k)) o := fun k => by
    induction k with
    | zero => exact fun _ => ⟨[], Rep.nil⟩
    | succ k ih =>
      intro hk
      obtain ⟨o, r⟩ := ih (by omega)
      rw [mkB_succ (by omega)]
      obtain ⟨x, hx⟩ : ∃ x, l.getD k en0 = x := ⟨_, rfl⟩
      rw [hx]
      by_cases hm : ∃ y ∈ o, befE y x = 0
      · obtain ⟨y, hy, e⟩ := hm
        obtain ⟨j, hj, rfl⟩ := getD_mem (d := en0) hy
        exact ⟨_, rep_merge r hj e (f := frK ((o.getD j en0).f.rat + x.f.rat)) (frK_rat _)⟩
      · obtain ⟨j, hj, h1, h2⟩ := first_not (fun y => befE y x < 0) en0 o
        exact ⟨_, rep_split r hj h1 fun h => ⟨h2 h, fun e => hm ⟨_, getD_in en0 h, e⟩⟩⟩
  obtain ⟨o, r⟩ := this _ (Nat.le_refl _)
  rw [List.take_length] at r
  exact ⟨_, r.dv (totW l), dv_ca _ _⟩
theorem mkL_ok {l : List En} (h0 : okL l = true) (hl : l.length ≤ 20) : MkO l (mkL l) := by
  obtain ⟨o, h⟩ := mk_has h0 hl
  rw [mkL_eq h0 h]; exact h
def scE (w : ByteArray) (c : Rat) (f : Fr → Fr) (e : En) : En := if e.w = w then ⟨e.w, e.ph, f e.f⟩ else e
theorem mk_turn {l l' : List En} {w : ByteArray} {c : Rat} {f : Fr → Fr} (hc : 0 < c) (hf : ∀ x, (f x).rat = x.rat * c) (h0 : okL l = true) (hl : l.length ≤ 20) (hp : l'.Perm (l.map (scE w c f))) : mkL l' = mkL l ∧ okL l' = true := by
  have hsw : ∀ e, (scE w c f e).w = e.w := fun e => by unfold scE; split <;> rfl
  have hsp : ∀ e, (scE w c f e).ph = e.ph := fun e => by unfold scE; split <;> rfl
  have hsr : ∀ e, (scE w c f e).f.rat = e.f.rat * (if e.w = w then c else 1) := fun e => by
    unfold scE
    split
    · exact hf _
    · rw [Rat.mul_one]
  obtain ⟨h1, h2⟩ := okL_iff.1 h0
  have h0' : okL l' = true := by
    rw [okL_iff]
    refine ⟨by rw [hp.length_eq, List.length_map]; exact h1, fun e he => ?_⟩
    obtain ⟨x, hx, rfl⟩ := List.mem_map.1 (hp.mem_iff.1 he)
    obtain ⟨a, b, d⟩ := h2 x hx
    rw [hsw, hsp, hsr]
    refine ⟨a, b, Rat.mul_pos d ?_⟩
    split
    · exact hc
    · decide
  refine ⟨?_, h0'⟩
  have ht : ∀ v, totW l' v = totW l v * (if v = w then c else 1) := fun v => by
    rw [totW_perm hp]
    unfold totW
    rw [List.filter_map, List.map_map]
    have e1 : ((fun e : En => decide (e.w = v)) ∘ scE w c f) = fun e => decide (e.w = v) := funext fun e => by
      show decide ((scE w c f e).w = v) = _
      rw [hsw]
    rw [e1, Rat.mul_comm, ← sQ_mul, List.map_map]
    refine congrArg sQ (List.map_congr_left fun x hx => ?_)
    have e : x.w = v := of_decide_eq_true (List.mem_filter.1 hx).2
    show (scE w c f x).f.rat = _ * x.f.rat
    rw [hsr, e, Rat.mul_comm]
  have hb : (dvB (totW l') (mkB l')).Perm (dvB (totW l) (mkB l)) := by
    have e : dvB (totW l) (mkB l) = dvB (totW l') (mkB (l.map (scE w c f))) := by
      unfold dvB mkB
      rw [List.map_map, List.map_map, List.map_map]
      refine List.map_congr_left fun x hx => ?_
      show (keyE x, x.f.rat / totW l x.w) = (keyE (scE w c f x), (scE w c f x).f.rat / totW l' (scE w c f x).w)
      have e1 : keyE (scE w c f x) = keyE x := Prod.ext (hsw x) (hsp x)
      rw [e1, hsw, hsr, ht]
      refine congrArg _ ?_
      have a := totW_pos (fun e he => (h2 e he).2.2) hx
      split
      · have hc' : c ≠ 0 := by grind
        have : totW l x.w ≠ 0 := by grind
        rw [Rat.div_def, Rat.div_def, Rat.inv_mul_rev]
        grind
      · rw [Rat.mul_one, Rat.mul_one]
    rw [e]
    exact (hp.map _).map _
  obtain ⟨r, ca⟩ := mkL_ok h0 hl
  exact mkL_eq h0' ⟨r.perm hb.symm, ca⟩
theorem mk_again {l : List En} (h0 : okL l = true) (hl : l.length ≤ 20) : mkL (mkL l) = mkL l ∧ okL (mkL l) = true := by
  have m := mkL_ok h0 hl
  obtain ⟨a1, a2⟩ := mk_of h0 m
  obtain ⟨h1, h2⟩ := okL_iff.1 h0
  have h0' : okL (mkL l) = true := by
    rw [okL_iff]
    refine ⟨by omega, fun x hx => ?_⟩
    obtain ⟨⟨e, he, e2⟩, p, _⟩ := a1 x hx
    have hw : x.w = e.w := congrArg Prod.fst e2
    have hph : x.ph = e.ph := congrArg Prod.snd e2
    rw [hw, hph]
    exact ⟨(h2 e he).1, (h2 e he).2.1, p⟩
  refine ⟨mkL_eq h0' ⟨?_, m.2⟩, h0'⟩
  have e : dvB (totW (mkL l)) (mkB (mkL l)) = mkB (mkL l) := by
    unfold dvB mkB
    rw [List.map_map]
    refine List.map_congr_left fun x hx => ?_
    show (keyE x, x.f.rat / totW (mkL l) x.w) = (keyE x, x.f.rat)
    rw [(a1 x hx).2.2.1]
    refine congrArg _ ?_
    grind
  rw [e]
  have hnd : ((mkB (mkL l)).map (·.1)).Nodup := by
    unfold mkB
    rw [List.map_map, List.Nodup, List.pairwise_map]
    exact m.1.srt.imp fun h => befE_ne h
  refine ⟨m.1.srt, fun k => ?_, fun x hx => (tot_ndb hnd (List.mem_map.2 ⟨x, hx, rfl⟩)).symm, fun w => (totB_mkB _ w).symm, by unfold mkB; rw [List.length_map]; exact Nat.le_refl _⟩
  unfold hasB mkB
  constructor
  · rintro ⟨w, h⟩
    obtain ⟨x, hx, e⟩ := List.mem_map.1 h
    exact ⟨x, hx, congrArg Prod.fst e⟩
  · rintro ⟨x, hx, e⟩
    exact ⟨x.f.rat, List.mem_map.2 ⟨x, hx, by rw [e]⟩⟩
end Go.E3
