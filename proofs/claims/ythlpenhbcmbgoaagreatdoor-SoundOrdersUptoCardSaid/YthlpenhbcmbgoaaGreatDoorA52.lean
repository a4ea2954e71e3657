/- A52: a part of the proofs about what is clipped and stored: how the program's functions run, and what they compute, for every input. -/
import Derived.Test.YthlpenhbcmbgoaaGreatDoorA51
set_option linter.all false
set_option linter.unusedVariables false
set_option maxRecDepth 20000
set_option maxHeartbeats 8000000
set_option synthInstance.maxSize 1000
namespace Go.E3
open Go Go.Ear Go.Proofs
section
variable {P : Program} {n : Nat} {X : Fix} {ms : List Nat} {env : EL} {B : List Res} {ol : List Oper} {k : Kt} {Ls : EL} {lt : Nat → Bool} {d : Nat} {m i : Nat} {L : (Nat → Gh) → EL} {R : List (Nat × (Gh → Res))} {rest : List Oper} {ty : TypeId} {pos : String} {af : Array Edge} {sd : Prop} {S : SV}
instance (priority := high) binLt {bo : BinOp} {t u : TypeId} {x y : Operand} [lf : RflE (lt i) true] [st : ∀ B', St P n true Ls env B' ms d (.binOp bo t x y u) sd S] : Nx (GE P n X ms Ls env B ol (⟨some d, .binOp bo t x y u, ty, pos, af, none⟩ :: rest) k lt (m + 1) i L R) sd (GE P n X ms ((d, S) :: Ls) env B ol rest k lt m (i + 1) (fun ν => (d, S) :: L ν) R) := ⟨fun hs g => ⟨fun q => .st d (fun _ => S) [] rfl (fun _ _ _ => rfl) rfl (fun ν => triP (st := st B) hs (q ν)) (fun _ B' ν => triP (st := st B') hs (q ν)) (g.p (subL q))⟩⟩
end
def swE (l : List En) (j : Nat) : List En := (l.set (j + 1) (l.getD j en0)).set j (l.getD (j + 1) en0)
def buE (c : En → En → Int) : Nat → List En → List En
  | 0, l => l
  | j + 1, l => if c (l.getD (j + 1) en0) (l.getD j en0) < 0 then buE c j (swE l j) else l
def isE (c : En → En → Int) (l : List En) : Nat → List En
  | 0 => l
  | k + 1 => buE c (k + 1) (isE c l k)
theorem swE_len (l : List En) (j : Nat) : (swE l j).length = l.length := by simp [swE]
theorem buE_len (c : En → En → Int) : ∀ j l, (buE c j l).length = l.length
  | 0, l => rfl
  | j + 1, l => by
    rw [buE]; split
    · rw [buE_len c j, swE_len]
    · rfl
theorem isE_len (c : En → En → Int) (l : List En) : ∀ k, (isE c l k).length = l.length
  | 0 => rfl
  | k + 1 => by rw [isE, buE_len, isE_len c l k]
theorem swE_all {p : En → Prop} {l : List En} {j : Nat} (hj : j + 1 < l.length) (h : ∀ x ∈ l, p x) : ∀ x ∈ swE l j, p x := fun x hx => by
  have h1 : p (l.getD j en0) := h _ (getD_in en0 (by omega))
  have h2 : p (l.getD (j + 1) en0) := h _ (getD_in en0 hj)
  unfold swE at hx
  rcases List.mem_or_eq_of_mem_set hx with hx | rfl
  · rcases List.mem_or_eq_of_mem_set hx with hx | rfl
    · exact h x hx
    · exact h1
  · exact h2
theorem buE_all {p : En → Prop} (c : En → En → Int) : ∀ j l, j < l.length → (∀ x ∈ l, p x) → ∀ x ∈ buE c j l, p x
  | 0, l, _, h => h
  | j + 1, l, hj, h => by
    rw [buE]; split
    · exact buE_all c j _ (by rw [swE_len]; omega) (swE_all hj h)
    · exact h
theorem isE_all {p : En → Prop} (c : En → En → Int) {l : List En} (h : ∀ x ∈ l, p x) : ∀ k, k < l.length → ∀ x ∈ isE c l k, p x
  | 0, _ => h
  | k + 1, hk => buE_all c (k + 1) _ (by rw [isE_len]; exact hk) (isE_all c h k (by omega))
section
variable {F : SV} {rest : List Res} {v : Value} {l : List En} {sd : En → Prop} {c : En → En → Int}
theorem insE_b [fv : ∀ x y : En, Fv Tryz.prog F [enV x, enV y] rest (sd x ∧ sd y) (iv (c x y))] : CtR Tryz.prog 193 [ov v, iv 0, iv (l.length : Int), F] (rA rE 87 v l :: rest) (l.length ≤ 1048576 ∧ ∀ x ∈ l, sd x) Unit (fun _ => .tp []) (fun _ => rA rE 87 v (isE c l (l.length - 1)) :: rest) := by
  refine (ctR Tryz.call193 Tryz.func193 Tryz.ntmps193 rfl Tryz.results193 rfl [] fun h0 w0 ⟨h1, h2⟩ => ?_)
  repeat first | refine nx ?_ | intro _
  refine gLp (fun k : Nat => [(8, iv ((k + 1 : Nat) : Int))]) (fun k => [rA rE 87 v (isE c l k)]) (fun k => k ≤ l.length - 1) (fun k => l.length - 1 - k) 0 (Nat.zero_le _) fun k hk => ?_
  repeat first | refine nx ?_ | intro _
  refine gIf (fun c1 => ?_) fun c1 => ?_
  · have hk1 : k + 1 < l.length := by omega
    repeat first | refine nx ?_ | intro _
    refine gLp (fun s : Nat × List En => [(9, iv s.1)]) (fun s => [rA rE 87 v s.2]) (fun s => s.1 ≤ k + 1 ∧ s.2.length = l.length ∧ (∀ x ∈ s.2, sd x) ∧ buE c s.1 s.2 = isE c l (k + 1)) (fun s => s.1) (k + 1, isE c l k) ⟨Nat.le_refl _, isE_len c l k, isE_all c h2 k (by omega), rfl⟩ fun ⟨j, l2⟩ ⟨hj, hl, ha, he⟩ => ?_
    dsimp only at hj hl ha he ⊢
    have hg1 : 0 < j → sd (l2.getD j en0) ∧ sd (l2.getD (j - 1) en0) := fun h => ⟨ha _ (getD_in en0 (by omega)), ha _ (getD_in en0 (by omega))⟩
    have hgl : l.length ≤ l2.length := by omega
    repeat first | refine gDr 17 (by kernel_rfl) ?_ | refine nx ?_ | intro _
    refine gIf (fun c2 => ?_) fun c2 => ?_
    · obtain ⟨j, rfl⟩ : ∃ i, j = i + 1 := ⟨j - 1, by have := c2.1; omega⟩
      have c3 : c (l2.getD (j + 1) en0) (l2.getD j en0) < 0 := c2.2
      rw [buE, if_pos c3] at he
      repeat first | refine gDrL (fun j => Nat.beq (Nat.div (Nat.add j 1) 3) 1) 16 (by kernel_rfl) ?_ | refine nx ?_ | intro _
      exact gBk (j, swE l2 j) ⟨by dsimp only; omega, (swE_len _ _).trans hl, swE_all (by omega) ha, he⟩ (by dsimp only; omega)
    · have e : buE c j l2 = l2 := by
        cases j with
        | zero => rfl
        | succ j => rw [buE, if_neg (show ¬ c (l2.getD (j + 1) en0) (l2.getD j en0) < 0 from fun h => c2 ⟨Nat.succ_pos _, h⟩)]
      rw [e] at he
      repeat first | refine nx ?_ | intro _
      rw [he]
      exact gBk (k + 1) (by omega) (by omega)
  · have e : k = l.length - 1 := by omega
    subst e
    repeat first | refine nx ?_ | intro _
    exact gEr ()
theorem insE_n [fv : ∀ x y : En, Fv Tryz.prog F [enV x, enV y] rest (sd x ∧ sd y) (iv (c x y))] : CtR Tryz.prog 193 [ov v, iv (20 : Int), iv (l.length : Int), F] (rA rE 87 v l :: rest) (l.length ≤ 20) Unit (fun _ => .tp []) (fun _ => rA rE 87 v l :: rest) := by
  refine (ctR Tryz.call193 Tryz.func193 Tryz.ntmps193 rfl Tryz.results193 rfl [] fun h0 w0 h1 => ?_)
  repeat first | refine nx ?_ | intro _
  refine gLp (fun _ : Unit => []) (fun _ => []) (fun _ => True) (fun _ => 0) () trivial fun _ _ => ?_
  repeat first | refine nx ?_ | intro _
  refine gIf (fun c1 => ?_) fun c1 => ?_
  · omega
  repeat first | refine nx ?_ | intro _
  exact gEr ()
end
end Go.E3
namespace Go.E3
open Go Go.Ear Go.Proofs
section
variable {F : SV} {B B1 : List Res} {v : Value} {l : List En} {sd : En → Prop} {c : En → En → Int} {b : Int}
theorem insE_b' {rest : List Res} [fv : ∀ x y : En, Fv Tryz.prog F [enV x, enV y] rest (sd x ∧ sd y) (iv (c x y))] : CtR Tryz.prog 193 [ov v, iv 0, iv b, F] (rA rE 87 v l :: rest) (b = l.length ∧ l.length ≤ 1048576 ∧ ∀ x ∈ l, sd x) Unit (fun _ => .tp []) (fun _ => rA rE 87 v (isE c l (l.length - 1)) :: rest) := ⟨Tryz.call193, fun ⟨hb, hs⟩ => by subst hb; exact insE_b.h hs⟩
theorem insE_n' {rest : List Res} [fv : ∀ x y : En, Fv Tryz.prog F [enV x, enV y] rest (sd x ∧ sd y) (iv (c x y))] : CtR Tryz.prog 193 [ov v, iv 20, iv b, F] (rA rE 87 v l :: rest) (b = l.length ∧ l.length ≤ 20) Unit (fun _ => .tp []) (fun _ => rA rE 87 v l :: rest) := ⟨Tryz.call193, fun ⟨hb, hs⟩ => by subst hb; exact (insE_n (sd := sd) (c := c)).h hs⟩
instance insE_c [pa : PA B v En rE 87 l B1] [fv : ∀ x y : En, Fv Tryz.prog F [enV x, enV y] B1 (sd x ∧ sd y) (iv (c x y))] : CtR Tryz.prog 193 [ov v, iv 0, iv b, F] B (b = l.length ∧ l.length ≤ 1048576 ∧ ∀ x ∈ l, sd x) Unit (fun _ => .tp []) (fun _ => rA rE 87 v (isE c l (l.length - 1)) :: B1) := insE_b'.to pa.h
instance insE_nc [pa : PA B v En rE 87 l B1] [fv : ∀ x y : En, Fv Tryz.prog F [enV x, enV y] B1 (sd x ∧ sd y) (iv (c x y))] : CtR Tryz.prog 193 [ov v, iv 20, iv b, F] B (b = l.length ∧ l.length ≤ 20) Unit (fun _ => .tp []) (fun _ => rA rE 87 v l :: B1) := (insE_n' (sd := sd) (c := c)).to pa.h
theorem stableE_b {rest : List Res} [fv : ∀ x y : En, Fv Tryz.prog F [enV x, enV y] rest (sd x ∧ sd y) (iv (c x y))] : CtR Tryz.prog 156 [ov v, iv (l.length : Int), F] (rA rE 87 v l :: rest) (l.length ≤ 20 ∧ ∀ x ∈ l, sd x) Unit (fun _ => .tp []) (fun _ => rA rE 87 v (isE c l (l.length - 1)) :: rest) := by
  refine (ctR Tryz.call156 Tryz.func156 Tryz.ntmps156 rfl Tryz.results156 rfl [] fun h0 w0 ⟨h1, h2⟩ => ?_)
  repeat first | refine nx ?_ | intro _
  have hil : (isE c l (l.length - 1)).length = l.length := isE_len c l _
  by_cases h20 : l.length = 20
  · refine gLp (fun s : Bool => [(7, iv (bif s then 20 else 0)), (8, iv (bif s then 40 else 20))]) (fun s => [rA rE 87 v (bif s then isE c l (l.length - 1) else l)]) (fun _ => True) (fun s => bif s then 0 else 1) false trivial fun s _ => ?_
    cases s with
    | false =>
      dsimp only [cond_false]
      repeat first | refine nx ?_ | intro _
      refine gIf (fun c1 => ?_) fun c1 => absurd (show (20 : Nat) ≤ l.length by omega) (by omega)
      repeat first | refine nx ?_ | intro _
      exact gBk true trivial (by decide)
    | true =>
      dsimp only [cond_true]
      repeat first | refine nx ?_ | intro _
      refine gIf (fun c1 => absurd c1 (by omega)) fun c1 => ?_
      repeat first | refine nx ?_ | intro _
      refine gLp (fun _ : Unit => []) (fun _ => []) (fun _ => True) (fun _ => 0) () trivial fun _ _ => ?_
      repeat first | refine nx ?_ | intro _
      refine gIf (fun c2 => absurd c2 (by omega)) fun c2 => ?_
      repeat first | refine nx ?_ | intro _
      exact gEr ()
  · refine gLp (fun _ : Unit => []) (fun _ => []) (fun _ => True) (fun _ => 0) () trivial fun _ _ => ?_
    repeat first | refine nx ?_ | intro _
    refine gIf (fun c1 => absurd c1 (by omega)) fun c1 => ?_
    repeat first | refine nx ?_ | intro _
    refine gLp (fun _ : Unit => []) (fun _ => []) (fun _ => True) (fun _ => 0) () trivial fun _ _ => ?_
    repeat first | refine nx ?_ | intro _
    refine gIf (fun c2 => absurd c2 (by omega)) fun c2 => ?_
    repeat first | refine nx ?_ | intro _
    exact gEr ()
instance stableE_c [pa : PA B v En rE 87 l B1] [fv : ∀ x y : En, Fv Tryz.prog F [enV x, enV y] B1 (sd x ∧ sd y) (iv (c x y))] : CtR Tryz.prog 156 [ov v, iv (l.length : Int), F] B (l.length ≤ 20 ∧ ∀ x ∈ l, sd x) Unit (fun _ => .tp []) (fun _ => rA rE 87 v (isE c l (l.length - 1)) :: B1) := stableE_b.to pa.h
theorem sortE_b {rest : List Res} [fv : ∀ x y : En, Fv Tryz.prog F [enV x, enV y] rest (sd x ∧ sd y) (iv (c x y))] : CtR Tryz.prog 106 [ov v, F] (rA rE 87 v l :: rest) (l.length ≤ 20 ∧ ∀ x ∈ l, sd x) Unit (fun _ => .tp []) (fun _ => rA rE 87 v (isE c l (l.length - 1)) :: rest) := by
  refine (ctR Tryz.call106 Tryz.func106 Tryz.ntmps106 rfl Tryz.results106 rfl [] fun h0 w0 ⟨h1, h2⟩ => ?_)
  repeat first | refine nx ?_ | intro _
  exact gEr ()
instance sortE_c [pa : PA B v En rE 87 l B1] [fv : ∀ x y : En, Fv Tryz.prog F [enV x, enV y] B1 (sd x ∧ sd y) (iv (c x y))] : CtR Tryz.prog 106 [ov v, F] B (l.length ≤ 20 ∧ ∀ x ∈ l, sd x) Unit (fun _ => .tp []) (fun _ => rA rE 87 v (isE c l (l.length - 1)) :: B1) := sortE_b.to pa.h
end
def insR (c : En → En → Int) : List En → En → List En
  | [], x => [x]
  | y :: rs, x => if c x y < 0 then insR c rs x ++ [y] else (y :: rs).reverse ++ [x]
theorem buE_ins (c : En → En → Int) : ∀ (rs : List En) (x : En) (r : List En), buE c rs.length (rs.reverse ++ x :: r) = insR c rs x ++ r
  | [], x, r => rfl
  | y :: rs, x, r => by
    have e : (y :: rs).reverse ++ x :: r = rs.reverse ++ y :: x :: r := by simp
    rw [e, List.length_cons, buE]
    have hl : rs.reverse.length = rs.length := List.length_reverse ..
    have g0 : (rs.reverse ++ y :: x :: r).getD rs.length en0 = y := by
      rw [List.getD_eq_getElem?_getD, List.getElem?_append_right (by omega), hl, Nat.sub_self]; rfl
    have g1 : (rs.reverse ++ y :: x :: r).getD (rs.length + 1) en0 = x := by
      rw [List.getD_eq_getElem?_getD, List.getElem?_append_right (by omega), hl, Nat.add_sub_cancel_left]; rfl
    rw [g0, g1]
    unfold insR
    split
    · have hs : swE (rs.reverse ++ y :: x :: r) rs.length = rs.reverse ++ x :: y :: r := by
        unfold swE
        rw [g0, g1, List.set_append_right _ _ (by omega), hl, Nat.add_sub_cancel_left, List.set_append_right _ _ (by omega), hl, Nat.sub_self]; rfl
      rw [hs, buE_ins c rs x (y :: r), List.append_assoc]; rfl
    · simp
theorem insR_perm (c : En → En → Int) : ∀ (rs : List En) (x : En), (insR c rs x).Perm (x :: rs)
  | [], x => .refl _
  | y :: rs, x => by
    unfold insR
    split
    · exact ((insR_perm c rs x).append_right [y]).trans ((List.perm_append_comm (l₁ := x :: rs) (l₂ := [y])).trans (.swap ..))
    · exact (List.perm_append_comm (l₁ := (y :: rs).reverse) (l₂ := [x])).trans ((List.reverse_perm _).cons x)
theorem insR_srt {c : En → En → Int} (s : Sort.SWO (ltOf c)) : ∀ (rs : List En) (x : En), (rs.reverse.Pairwise fun a b => ¬ c b a < 0) → (insR c rs x).Pairwise fun a b => ¬ c b a < 0
  | [], x, _ => List.pairwise_singleton _ _
  | y :: rs, x, h => by
    obtain ⟨s1, s2, s3⟩ := swoL s
    rw [List.reverse_cons, List.pairwise_append] at h
    obtain ⟨h1, _, h2⟩ := h
    have h2 : ∀ z ∈ rs, ¬ c y z < 0 := fun z hz => h2 z (List.mem_reverse.2 hz) y (List.mem_cons_self ..)
    unfold insR
    split
    · rename_i hxy
      rw [List.pairwise_append]
      refine ⟨insR_srt s rs x h1, List.pairwise_singleton _ _, fun z hz w hw => ?_⟩
      rw [List.mem_singleton.1 hw]
      rcases List.mem_cons.1 ((insR_perm c rs x).mem_iff.1 hz) with rfl | hz
      · exact fun hyx => s1 _ (s2 _ _ _ hxy hyx)
      · exact h2 z hz
    · rename_i hxy
      rw [List.reverse_cons, List.pairwise_append, List.pairwise_append]
      refine ⟨⟨h1, List.pairwise_singleton _ _, fun z hz w hw => ?_⟩, List.pairwise_singleton _ _, fun z hz w hw => ?_⟩
      · rw [List.mem_singleton.1 hw]; exact h2 z (List.mem_reverse.1 hz)
      · rw [List.mem_singleton.1 hw]
        rcases List.mem_append.1 hz with hz | hz
        · exact s3 _ _ _ hxy (h2 z (List.mem_reverse.1 hz))
        · rw [List.mem_singleton.1 hz]; exact hxy
theorem isE_ok {c : En → En → Int} (s : Sort.SWO (ltOf c)) {l : List En} : ∀ k, k < l.length → ∃ p, isE c l k = p ++ l.drop (k + 1) ∧ p.length = k + 1 ∧ p.Perm (l.take (k + 1)) ∧ p.Pairwise fun a b => ¬ c b a < 0
  | 0, h => by
    cases l with
    | nil => simp at h
    | cons x l => exact ⟨[x], rfl, rfl, .refl _, List.pairwise_singleton _ _⟩
  | k + 1, h => by
    obtain ⟨p, h1, h2, h3, h4⟩ := isE_ok s (l := l) k (by omega)
    have hd : l.drop (k + 1) = l[k + 1] :: l.drop (k + 2) := List.drop_eq_getElem_cons h
    have e := buE_ins c p.reverse l[k + 1] (l.drop (k + 2))
    rw [List.reverse_reverse, List.length_reverse, h2] at e
    refine ⟨insR c p.reverse l[k + 1], ?_, ?_, ?_, insR_srt s _ _ (by rw [List.reverse_reverse]; exact h4)⟩
    · rw [isE, h1, hd, e]
    · rw [(insR_perm c _ _).length_eq, List.length_cons, List.length_reverse, h2]
    · refine (insR_perm c _ _).trans (((List.reverse_perm p).cons _).trans ((h3.cons _).trans ?_))
      rw [List.take_succ_eq_append_getElem h]
      exact (List.perm_append_comm (l₁ := l.take (k + 1)) (l₂ := [l[k + 1]])).symm
theorem isE_srt {c : En → En → Int} (s : Sort.SWO (ltOf c)) (l : List En) : (isE c l (l.length - 1)).Perm l ∧ (isE c l (l.length - 1)).Pairwise fun a b => ¬ c b a < 0 := by
  cases hl : l.length with
  | zero =>
    have : l = [] := List.eq_nil_of_length_eq_zero hl
    subst this
    exact ⟨.refl _, .nil⟩
  | succ n =>
    obtain ⟨p, h1, h2, h3, h4⟩ := isE_ok s (l := l) n (by omega)
    rw [List.drop_of_length_le (by omega), List.append_nil] at h1
    rw [List.take_of_length_le (by omega)] at h3
    rw [Nat.add_sub_cancel, h1]
    exact ⟨h3, h4⟩
end Go.E3
