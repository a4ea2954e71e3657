/- K11: a part of the proofs about what is clipped and stored: how the program's functions run, and what they compute, for every input. -/
import Derived.Test.YthlpenhbcmbgoaaGreatDoorK10
import Derived.Test.YthlpenhbcmbgoaaGreatDoorK6
set_option linter.all false
set_option linter.unusedVariables false
set_option maxRecDepth 20000
set_option maxHeartbeats 4000000
set_option synthInstance.maxSize 1000
namespace Go.E3
open Go Go.Ear Go.Proofs
def chs : List (List En) → List (List En)
  | [] => [[]]
  | o :: L => o.flatMap fun e => (chs L).map (e :: ·)
theorem fm_get {s : List (List En)} : ∀ {o : List En} {j i : Nat} {d : En} {d' : List En}, j < o.length → i < s.length → (o.flatMap fun e => s.map (e :: ·)).getD (j * s.length + i) d' = o.getD j d :: s.getD i d'
  | [], j, i, d, d', h, _ => by simp at h
  | e :: o, 0, i, d, d', _, hi => by
    rw [List.flatMap_cons, Nat.zero_mul, Nat.zero_add, List.getD_eq_getElem?_getD, List.getElem?_append_left (by rw [List.length_map]; exact hi), List.getElem?_map, List.getElem?_eq_getElem hi, List.getD_eq_getElem?_getD, List.getD_eq_getElem?_getD, List.getElem?_eq_getElem hi]
    rfl
  | e :: o, j + 1, i, d, d', h, hi => by
    rw [List.flatMap_cons, List.getD_eq_getElem?_getD, List.getElem?_append_right (by rw [List.length_map, Nat.add_mul]; omega), List.length_map, show (j + 1) * s.length + i - s.length = j * s.length + i by rw [Nat.add_mul]; omega, ← List.getD_eq_getElem?_getD, fm_get (d := d) (by simpa using h) hi]
    rfl
theorem fm_len {s : List (List En)} : ∀ o : List En, (o.flatMap fun e => s.map (e :: ·)).length = o.length * s.length
  | [] => by simp
  | e :: o => by rw [List.flatMap_cons, List.length_append, List.length_map, fm_len o, List.length_cons, Nat.add_mul]; omega
theorem chs_step {L : List (List En)} {d : Nat} (h : d < L.length) : chs (L.drop d) = (L.getD d []).flatMap fun e => (chs (L.drop (d + 1))).map (e :: ·) := by
  rw [List.drop_eq_getElem_cons h, List.getD_eq_getElem?_getD, List.getElem?_eq_getElem h]; rfl
def EN (L : List (List En)) (k0 : Nat) (c : List En) : Prop := ∀ i, i < (chs (L.drop c.length)).length → k0 + i < (chs L).length ∧ (chs L).getD (k0 + i) [] = c ++ (chs (L.drop c.length)).getD i []
theorem EN.zero (L : List (List En)) : EN L 0 [] := fun i hi => by
  have hi : i < (chs L).length := hi
  rw [Nat.zero_add]
  exact ⟨hi, rfl⟩
theorem EN.step {L : List (List En)} {k0 : Nat} {c : List En} (h : EN L k0 c) (hc : c.length < L.length) {j : Nat} (hj : j < (L.getD c.length []).length) : EN L (k0 + j * (chs (L.drop (c.length + 1))).length) (c ++ [(L.getD c.length []).getD j en0]) := fun i hi => by
  rw [List.length_append, List.length_singleton] at hi ⊢
  have e1 := fm_get (d := en0) (d' := []) hj hi
  rw [← chs_step hc] at e1
  have hlt : j * (chs (L.drop (c.length + 1))).length + i < (chs (L.drop c.length)).length := by
    rw [chs_step hc, fm_len]
    have : (j + 1) * (chs (L.drop (c.length + 1))).length ≤ (L.getD c.length []).length * (chs (L.drop (c.length + 1))).length := Nat.mul_le_mul_right _ hj
    rw [Nat.add_mul] at this; omega
  obtain ⟨a, b⟩ := h _ hlt
  rw [e1] at b
  rw [Nat.add_assoc]
  exact ⟨a, by rw [b, List.append_assoc]; rfl⟩
theorem cloneE_o {S : SV} {l : List En} [i : Vw (lv rE) S l] : CtO Tryz.prog 119 [S] (l.length ≤ 100000000000) (fun g => [rA rE 87 g.v l]) := by
  refine cO1 i (ctO Tryz.call119 Tryz.func119 Tryz.ntmps119 rfl Tryz.results119 rfl [5] fun h0 w0 hl => ?_)
  repeat first | refine nx ?_ | intro _
  rename_i b hb
  refine gIf (fun c => ?_) fun c => ?_ <;> repeat first | refine nx ?_ | intro _
  · exact hb c
  · rfl
abbrev Rc {σ τ : Type} (I : σ → Prop) (Ix : τ → Prop) := {x : Sum σ τ // Sum.elim I Ix x}
def YH (P : Program) {σ τ : Type} (l : Nat) (H0 : PH) (w0 : World) (len : Nat) (S : Nat → SV) (Bs : Nat → σ → List Res) (I : Nat → σ → Prop) (Bx : τ → List Res) (Ix : τ → Prop) : Prop :=
  ∀ k s h W v, k < len → I k s → Gr H0 w0 h W → OwnB w0 (Bs k s) h W → den h (S k) v → YieldAt Fence.wide 0 P l #[v] W fun e W' => ∃ (x : Rc (I (k + 1)) Ix) (h' : PH), e = .returned (.bool x.1.isLeft) ∧ Gr H0 w0 h' W' ∧ h.le h' ∧ OwnB w0 (Sum.elim (Bs (k + 1)) Bx x.1) h' W'
section
variable {σ τ : Type} {l : Nat} {H0 : PH} {w0 : World} {L : List (List En)} {Bs : Nat → σ → List Res} {I : Nat → σ → Prop} {Bx : τ → List Res} {Ix : τ → Prop}
theorem choose_c (hY : YH Tryz.prog l H0 w0 (chs L).length (fun k => lv rE ((chs L).getD k [])) Bs I Bx Ix) (hL : L.length ≤ 1000000 ∧ ∀ o ∈ L, o.length ≤ 1000000) (v3 : Value) :
    ∀ n k0 s c, L.length - c.length = n → CtX Tryz.prog 118 [lv rE c, .pk [lv (rL rE) L] 0, .pk [.cv (.func (.yield l) #[] #[])] 0, slf 118 [.pk [lv (rL rE) L] 0, .pk [.cv (.func (.yield l) #[] #[])] 0] v3] H0 w0 (Bs k0 s) (c.length ≤ L.length ∧ I k0 s ∧ EN L k0 c) (Rc (I (k0 + (chs (L.drop c.length)).length)) Ix) (fun x => bv x.1.isLeft) (fun x => Sum.elim (Bs (k0 + (chs (L.drop c.length)).length)) Bx x.1) := by
  intro n
  induction n with
  | zero =>
    intro k0 s c hn
    by_cases hcl : c.length = L.length
    · have hd : L.drop c.length = [] := List.drop_eq_nil_of_le (by omega)
      have hlen1 : (chs (L.drop c.length)).length = 1 := by rw [hd]; rfl
      rw [hlen1]
      refine ctX Tryz.call118 Tryz.func118 Tryz.ntmps118 rfl Tryz.results118 rfl [] fun hE wE ⟨hc, hI, hEN⟩ g0 => ?_
      have hL1 := hL.1
      obtain ⟨hk0, hch⟩ := hEN 0 (by rw [hlen1]; exact Nat.one_pos)
      rw [hd, Nat.add_zero] at hch
      rw [Nat.add_zero] at hk0
      have hch : (chs L).getD k0 [] = c := hch.trans (List.append_nil _)
      repeat first | refine nx ?_ | intro _
      refine gIf (fun c1 => ?_) fun c1 => absurd hcl c1
      refine nx ?_
      refine gYr (bb := fun x : Rc (I (k0 + 1)) Ix => x.1.isLeft) (B2 := fun x => Sum.elim (Bs (k0 + 1)) Bx x.1) (S := lv rE c) (by kernel_rfl) (by kernel_rfl) (fun h w v gr ow hv => ?_) fun x => ?_
      · obtain ⟨fn, tmps, assign, body, y1, y2⟩ := hY k0 s h w v hk0 hI (Gr.unbase g0 gr) ow (show den h (lv rE ((chs L).getD k0 [])) v by rw [hch]; exact hv)
        refine ⟨fn, tmps, assign, body, y1, RoundIn.mono y2 ?_⟩
        rintro e w' ⟨x, h', rfl, gr', le, ob⟩
        exact ⟨x, h', rfl, Gr.base g0 gr' (gr.le.trans le), le, ob⟩
      · repeat first | refine nx ?_ | intro _
        exact gEr x
    · exact ⟨Tryz.call118, fun ⟨hc, _, _⟩ => absurd hn (by omega)⟩
  | succ n ih =>
    intro k0 s c hn
    have hcl : c.length < L.length := by omega
    have hlen : (chs (L.drop c.length)).length = (L.getD c.length []).length * (chs (L.drop (c.length + 1))).length := by rw [chs_step hcl, fm_len]
    rw [hlen]
    have hol := hL.2 _ (getD_in [] hcl)
    refine ctX Tryz.call118 Tryz.func118 Tryz.ntmps118 rfl Tryz.results118 rfl [] fun hE wE ⟨hc, hI, hEN⟩ g0 => ?_
    have hL1 := hL.1
    repeat first | refine nx ?_ | intro _
    refine gIf (fun c1 => absurd c1 (by omega)) fun c1 => ?_
    repeat first | refine nx ?_ | intro _
    refine gLpB (fun st : Nat × σ => [(22, iv st.1)]) (fun st => Bs (k0 + st.1 * (chs (L.drop (c.length + 1))).length) st.2) (fun st => st.1 ≤ (L.getD c.length []).length ∧ I (k0 + st.1 * (chs (L.drop (c.length + 1))).length) st.2) (fun st => (L.getD c.length []).length - st.1) (0, s) (by dsimp only; rw [Nat.zero_mul, Nat.add_zero]; exact .refl _) ⟨Nat.zero_le _, by dsimp only; rw [Nat.zero_mul, Nat.add_zero]; exact hI⟩ fun ⟨j, s1⟩ ⟨hj, hI1⟩ => ?_
    dsimp only at hj hI1 ⊢
    repeat first | refine nx ?_ | intro _
    refine gIf (fun c2 => ?_) fun c2 => ?_
    · have hcl2 : (c ++ [(L.getD c.length []).getD j en0]).length = c.length + 1 := by simp
      have ct := ih (k0 + j * (chs (L.drop (c.length + 1))).length) s1 (c ++ [(L.getD c.length []).getD j en0]) (by rw [hcl2]; omega)
      rw [hcl2] at ct
      have hsd : c.length + 1 ≤ L.length ∧ I (k0 + j * (chs (L.drop (c.length + 1))).length) s1 ∧ EN L (k0 + j * (chs (L.drop (c.length + 1))).length) (c ++ [(L.getD c.length []).getD j en0]) := ⟨hcl, hI1, hEN.step hcl c2⟩
      have hmul : k0 + j * (chs (L.drop (c.length + 1))).length + (chs (L.drop (c.length + 1))).length = k0 + (j + 1) * (chs (L.drop (c.length + 1))).length := by rw [Nat.add_mul]; omega
      rw [hmul] at ct
      repeat first | refine gDc 8 2 5 6 ⟨28, 31, fun v => rA rE 87 v c, fun v => rA rE 87 v (c ++ [(L.getD c.length []).getD j en0])⟩ (by rfl) (by kernel_rfl) ?_ | refine nx ?_ | intro _
      refine gCa (ct := cloneE_o) rfl rfl (by omega) ?_
      repeat first | refine nx ?_ | intro _
      refine gCb rfl ⟨by simp; omega, by simp; omega⟩ ?_
      refine gCe rfl fun v31 => ?_
      refine gFzO v31 ?_
      refine gSbO (B1 := Bs (k0 + j * (chs (L.drop (c.length + 1))).length) s1) ⟨fun o => o.2.2.2, fun r hr i hi => ⟨r, List.mem_cons_of_mem _ hr, hi⟩⟩ ?_
      refine gCx ct g0 hsd ?_
      rintro ⟨x | x, hx⟩
      · repeat first | refine nx ?_ | intro _
        refine gIf (fun c3 => absurd c3 (by simp)) fun c3 => ?_
        repeat first | refine nx ?_ | intro _
        exact gBkB (j + 1, x) (Sb.refl _) ⟨by dsimp only; omega, hx⟩ (by dsimp only; omega)
      · repeat first | refine nx ?_ | intro _
        refine gIf (fun c3 => ?_) fun c3 => absurd c3 (by simp)
        repeat first | refine nx ?_ | intro _
        refine gSbX (B1 := Sum.elim (Bs (k0 + (L.getD c.length []).length * (chs (L.drop (c.length + 1))).length)) Bx (Sum.inr x)) (Sb.refl _) ?_
        exact gEr ⟨.inr x, hx⟩
    · repeat first | refine nx ?_ | intro _
      obtain rfl : j = (L.getD c.length []).length := by omega
      refine gSbX (B1 := Sum.elim (Bs (k0 + (L.getD c.length []).length * (chs (L.drop (c.length + 1))).length)) Bx (Sum.inl s1)) (Sb.refl _) ?_
      exact gEr ⟨.inl s1, hI1⟩
theorem choices1_c (hY : YH Tryz.prog l H0 w0 (chs L).length (fun k => lv rE ((chs L).getD k [])) Bs I Bx Ix) (hL : L.length ≤ 1000000 ∧ ∀ o ∈ L, o.length ≤ 1000000) (s : σ) :
    CtX Tryz.prog 117 [.cv (.func (.yield l) #[] #[]), .pk [lv (rL rE) L] 0] H0 w0 (Bs 0 s) (I 0 s) (Rc (I (chs L).length) Ix) (fun _ => .tp []) (fun x => Sum.elim (Bs (chs L).length) Bx x.1) := by
  refine ctX Tryz.call117 Tryz.func117 Tryz.ntmps117 rfl Tryz.results117 rfl [] fun hE wE hI g0 => ?_
  repeat first | refine gSlfH (f := 118) [.pk [lv (rL rE) L] 0, .pk [.cv (.func (.yield l) #[] #[])] 0] ?_ | refine nx ?_ | intro _
  rename_i v3
  have ct := choose_c hY hL v3 L.length 0 s [] (by simp)
  rw [Nat.zero_add] at ct
  have ct2 : CtX Tryz.prog 118 [.cv (.slice none 0 0), .pk [lv (rL rE) L] 0, .pk [.cv (.func (.yield l) #[] #[])] 0, slf 118 [.pk [lv (rL rE) L] 0, .pk [.cv (.func (.yield l) #[] #[])] 0] v3] H0 w0 (Bs 0 s) ([].length ≤ L.length ∧ I 0 s ∧ EN L 0 []) (Rc (I (chs L).length) Ix) (fun x => bv x.1.isLeft) (fun x => Sum.elim (Bs (chs L).length) Bx x.1) := ⟨ct.fn, fun hs {h w vs} gr ow u => by
    match vs, u with
    | _ :: _, u => exact ct.h hs gr ow ⟨nil_lv u.1, u.2⟩⟩
  refine gCx ct2 g0 ⟨Nat.zero_le _, hI, EN.zero L⟩ fun x => ?_
  repeat first | refine nx ?_ | intro _
  exact gEr x
end
instance choices_c {L : List (List En)} {S : SV} [i : Vw (lv (rL rE)) S L] : Ct Tryz.prog 57 [S] True (fnv (.func 117) [] [.pk [lv (rL rE) L] 0]) := by
  refine ct1 i (ctI Tryz.call57 Tryz.func57 Tryz.ntmps57 rfl Tryz.results57 rfl [] fun h0 w0 _ => ?_)
  repeat first | refine nx ?_ | intro _
  trivial
instance choices_it {L : List (List En)} : ItS Tryz.prog (fnv (.func 117) [] [.pk [lv (rL rE) L] 0]) (fun k => lv rE ((chs L).getD k [])) (chs L).length (L.length ≤ 1000000 ∧ ∀ o ∈ L, o.length ≤ 1000000) := ⟨fun hL {h x} u => by
  obtain ⟨us, ws, e, a1, a2⟩ := u
  match us, ws, a1, a2 with
  | [], [y], _, a2 =>
    refine ⟨117, #[y], e, Tryz.call117, ?_⟩
    intro l σ τ h0 w0 Bs I Bx Ix hY s hs W hI gr ow le
    have gself : Gr hs w0 hs W := Gr.base gr gr (PH.le.refl hs)
    have hY2 : YH Tryz.prog l hs w0 (chs L).length (fun k => lv rE ((chs L).getD k [])) Bs I Bx Ix := fun k s2 h2 W2 v hk hI2 gr2 ow2 hv => by
      obtain ⟨fn, tmps, assign, body, y1, y2⟩ := hY k s2 h2 W2 v hk hI2 (Gr.unbase gr gr2) ow2 (le.trans gr2.le) hv
      refine ⟨fn, tmps, assign, body, y1, RoundIn.mono y2 ?_⟩
      rintro e w' ⟨h', g', le', ⟨rfl, s', hI', ob⟩ | ⟨rfl, x, hx, ob⟩⟩
      · exact ⟨⟨.inl s', hI'⟩, h', rfl, Gr.base gr g' (gr2.le.trans le'), le', ob⟩
      · exact ⟨⟨.inr x, hx⟩, h', rfl, Gr.base gr g' (gr2.le.trans le'), le', ob⟩
    have ct := choices1_c hY2 hL s
    have hc := ct.h hI gself ow (vs := [.func (.yield l) #[] #[], y]) ⟨rfl, (a2.1).mono le, trivial⟩
    refine CallsIn.mono ((callsIn_wide (n := 0)).2 hc) ?_
    rintro e w' ⟨v, rfl, h', ⟨x | x, hx⟩, g', le', ob, _⟩
    · exact ⟨⟨v, rfl⟩, h', Gr.unbase gr g', le', .inl ⟨x, hx, ob⟩⟩
    · exact ⟨⟨v, rfl⟩, h', Gr.unbase gr g', le', .inr ⟨x, hx, ob⟩⟩⟩
end Go.E3
set_option linter.unusedVariables false
set_option maxRecDepth 20000
set_option maxHeartbeats 4000000
set_option synthInstance.maxSize 1000
namespace Go.E3
open Go Go.Ear Go.Proofs
class Rm (d : Nat) (l : EL) (l' : outParam EL) : Prop where h : ∀ {h : PH} {ρ : Env}, EnvOk h ρ l → EnvOk h ρ l'
instance (priority := 2000) {d : Nat} {S : SV} {l : EL} : Rm d ((d, S) :: l) l := ⟨fun v => v.2⟩
instance {d : Nat} {x : Nat × SV} {l l' : EL} [i : Rm d l l'] : Rm d (x :: l) (x :: l') := ⟨fun v => ⟨v.1, i.h v.2⟩⟩
theorem gUn (d : Nat) {P : Program} {n : Nat} {X : Fix} {ms : List Nat} {loc env env' : EL} {B : List Res} {c : Code} {k : Kt} [i : Rm d env env'] (g : GW P n X ms loc env' B c k) : GW P n X ms loc env B c k := ⟨fun ρ h w s => g.p ρ h w ⟨s.gr, s.lo, i.h s.en, s.ow⟩⟩
def maxP (o : List En) : Nat := o.foldl (fun m e => max m e.ph.length) 0
def choN (L : List (List En)) : Nat := L.foldl (fun n o => min (n * o.length) 5001) 1
def choP (L : List (List En)) : Nat := L.foldl (fun p o => p + maxP o) 0
theorem fold_succ {α β : Type} {f : β → α → β} {b : β} {l : List α} {k : Nat} (d : α) (h : k < l.length) : (l.take (k + 1)).foldl f b = f ((l.take k).foldl f b) (l.getD k d) := by
  rw [List.take_succ_eq_append_getElem h, List.foldl_append, List.getD_eq_getElem?_getD, List.getElem?_eq_getElem h]; rfl
theorem choN_succ {L : List (List En)} {k : Nat} (h : k < L.length) : choN (L.take (k + 1)) = min (choN (L.take k) * (L.getD k []).length) 5001 := fold_succ [] h
theorem choP_succ {L : List (List En)} {k : Nat} (h : k < L.length) : choP (L.take (k + 1)) = choP (L.take k) + maxP (L.getD k []) := fold_succ [] h
theorem maxP_succ {o : List En} {k : Nat} (h : k < o.length) : maxP (o.take (k + 1)) = max (maxP (o.take k)) (o.getD k en0).ph.length := fold_succ en0 h
theorem choN_le (L : List (List En)) : choN L ≤ 5001 := by
  unfold choN
  have : ∀ (L : List (List En)) n, n ≤ 5001 → L.foldl (fun n o => min (n * o.length) 5001) n ≤ 5001 := by
    intro L
    induction L with
    | nil => intro n h; exact h
    | cons o L ih => intro n h; exact ih _ (Nat.min_le_right ..)
  exact this L 1 (by omega)
theorem maxP_le {o : List En} {b : Nat} (h : ∀ e ∈ o, e.ph.length ≤ b) : maxP o ≤ b := by
  unfold maxP
  have : ∀ (o : List En) n, (∀ e ∈ o, e.ph.length ≤ b) → n ≤ b → o.foldl (fun m e => max m e.ph.length) n ≤ b := by
    intro o
    induction o with
    | nil => intro n _ h; exact h
    | cons e o ih => intro n h hn; exact ih _ (fun x hx => h x (List.mem_cons_of_mem _ hx)) (Nat.max_le.2 ⟨hn, h e (List.mem_cons_self ..)⟩)
  exact this o 0 h (Nat.zero_le _)
theorem choP_le {L : List (List En)} {b : Nat} (h : ∀ o ∈ L, maxP o ≤ b) : choP L ≤ L.length * b := by
  unfold choP
  have : ∀ (L : List (List En)) n, (∀ o ∈ L, maxP o ≤ b) → L.foldl (fun p o => p + maxP o) n ≤ n + L.length * b := by
    intro L
    induction L with
    | nil => intro n _; simp
    | cons o L ih =>
      intro n h
      have := ih (n + maxP o) fun x hx => h x (List.mem_cons_of_mem _ hx)
      have h1 := h o (List.mem_cons_self ..)
      rw [List.foldl_cons, List.length_cons, Nat.add_mul]; omega
  have := this L 0 h
  omega
def owns (l : List En) (ws : List ByteArray) : List (List En) := ws.map (ownE l)
def hasE (L : List (List En)) : Bool := L.any List.isEmpty
theorem hasE_iff {L : List (List En)} : hasE L = true ↔ [] ∈ L := by
  unfold hasE
  rw [List.any_eq_true]
  constructor
  · rintro ⟨x, hx, h⟩
    rw [List.isEmpty_iff.1 h] at hx; exact hx
  · intro h; exact ⟨[], h, rfl⟩
def choE (l : List En) (ws : List ByteArray) : Int := if hasE (owns l ws) = true then 7 else if 5000 < choN (owns l ws) ∨ 400 < choP (owns l ws) then 5 else 0
def choL (l : List En) (ws : List ByteArray) : List (List En) := if hasE (owns l ws) = true ∨ 5000 < choN (owns l ws) ∨ 400 < choP (owns l ws) then [] else owns l ws
instance : D0 (List En) [] := ⟨trivial⟩
instance : RT Tryz.prog 22 (List En) (rL rE) 24 [] := ⟨Tryz.sizeOf22, _, _, ⟨Tryz.type22, rfl, rfl, rfl, rfl⟩, fun _ => ⟨nil_lv rfl, trivial⟩⟩
theorem ownE_getD {l : List En} {ws : List ByteArray} {k : Nat} (h : k < ws.length) : (owns l ws).getD k [] = ownE l (ws.getD k ByteArray.empty) := by
  unfold owns
  rw [List.getD_eq_getElem?_getD, List.getElem?_map, List.getElem?_eq_getElem h, List.getD_eq_getElem?_getD, List.getElem?_eq_getElem h]; rfl
theorem ownE_sub {l : List En} {w : ByteArray} {e : En} (h : e ∈ ownE l w) : e ∈ l ∧ e.w = w := by
  unfold ownE at h
  obtain ⟨a, b⟩ := List.mem_filter.1 h
  exact ⟨a, by simpa using b⟩
instance chosen_c {l : List En} {r : List Rw} {ws : List ByteArray} {S T U : SV} [i : Vw lxv S l] [j : Vw (lv rR) T r] [m : Vw (lv rQ) U ws] : Ct Tryz.prog 56 [S, T, U] ((LxS l ∧ Srt l) ∧ ws.length ≤ 1000) (.tp [lv (rL rE) (choL l ws), iv (choE l ws)]) := by
  refine ct3 i j m (ctI Tryz.call56 Tryz.func56 Tryz.ntmps56 rfl Tryz.results56 rfl [] fun h0 w0 ⟨⟨hl, hsr⟩, hw⟩ => ?_)
  have hsd : LxS l ∧ Srt l := ⟨hl, hsr⟩
  have hlen : (owns l ws).length = ws.length := List.length_map ..
  have hown : ∀ k, k < ws.length → ((owns l ws).getD k []).length ≤ 2000 ∧ ∀ e ∈ (owns l ws).getD k [], e ∈ l := fun k hk => by
    rw [ownE_getD hk]
    exact ⟨Nat.le_trans (List.length_filter_le _ _) hl.1, fun e he => (ownE_sub he).1⟩
  have hmx : ∀ k, maxP (((owns l ws).getD k [])) ≤ 1000000 := fun k => by
    by_cases hk : k < ws.length
    · exact maxP_le fun e he => (hl.2 e ((hown k hk).2 e he)).1.2
    · rw [List.getD_eq_getElem?_getD, List.getElem?_eq_none (by omega)]; exact Nat.zero_le _
  repeat first | refine nx ?_ | intro _
  refine gNl (rL rE) 22 ?_
  refine gLp (fun s : Nat × Value => [(21, iv s.1), (8, ov s.2)]) (fun s => [rA (rL rE) 22 s.2 ((owns l ws).take s.1)]) (fun s => s.1 ≤ ws.length ∧ [] ∉ (owns l ws).take s.1) (fun s => ws.length - s.1) (0, .slice none 0 0) ⟨Nat.zero_le _, List.not_mem_nil⟩ (fun ⟨k, v⟩ ⟨hk, hne⟩ => ?_)
  dsimp only at hk hne ⊢
  have htl : ((owns l ws).take k).length = k := by rw [List.length_take]; omega
  repeat first | refine nx ?_ | intro _
  refine gIf (fun c => ?_) fun c => ?_
  · have hts : (owns l ws).take (k + 1) = (owns l ws).take k ++ [ownE l (ws.getD k ByteArray.empty)] := by
      rw [List.take_succ_eq_append_getElem (by omega), ← ownE_getD c, List.getD_eq_getElem?_getD, List.getElem?_eq_getElem (by omega)]; rfl
    repeat first | refine nx ?_ | intro _
    refine gIf (fun c2 => ?_) fun c2 => ?_ <;> repeat first | refine nx ?_ | intro _
    · have hm : [] ∈ owns l ws := by
        have : (owns l ws).getD k [] = [] := by rw [ownE_getD c]; exact List.eq_nil_of_length_eq_zero (by omega)
        rw [← this]; exact getD_in [] (by omega)
      exact ⟨if_pos (.inl (hasE_iff.2 hm)), (if_pos (hasE_iff.2 hm)).symm⟩
    · rename_i v2
      rw [← hts]
      refine gBk (k + 1, v2) ⟨by dsimp only; omega, ?_⟩ (by dsimp only; omega)
      dsimp only
      rw [hts]
      intro hm
      rcases List.mem_append.1 hm with hm | hm
      · exact hne hm
      · rw [← List.mem_singleton.1 hm] at c2; exact c2 rfl
  · rw [List.take_of_length_le (by omega)] at *
    repeat first | refine nx ?_ | intro _
    refine gFz v ?_
    refine gLp (fun s : Nat => [(38, iv s), (12, iv (choN ((owns l ws).take s))), (13, iv (choP ((owns l ws).take s)))]) (fun s => []) (fun s => s ≤ ws.length) (fun s => ws.length - s) 0 (Nat.zero_le _) (fun s hs => ?_)
    have hN := choN_le ((owns l ws).take s)
    have hP : choP ((owns l ws).take s) ≤ 1000000000 := by
      have := choP_le (L := (owns l ws).take s) (b := 1000000) fun o ho => by
        obtain ⟨k, hk, rfl⟩ := getD_mem (d := []) (List.mem_of_mem_take ho)
        exact hmx k
      rw [List.length_take] at this
      have h2 : min s (owns l ws).length * 1000000 ≤ 1000 * 1000000 := Nat.mul_le_mul_right _ (by omega)
      omega
    repeat first | refine nx ?_ | intro _
    refine gIf (fun c3 => ?_) fun c3 => ?_
    · have hos := (hown s (by omega)).1
      have hsn := choN_succ c3
      have hsp := choP_succ c3
      have hms := hmx s
      have hmul : choN ((owns l ws).take s) * ((owns l ws).getD s []).length ≤ 5001 * 2000 := Nat.mul_le_mul hN hos
      have hoe : ∀ k, k < ((owns l ws).getD s []).length → (((owns l ws).getD s []).getD k en0).ph.length ≤ 1000000 := fun k hk => (hl.2 _ ((hown s (by omega)).2 _ (getD_in en0 hk))).1.2
      repeat first | refine nx ?_ | intro _
      refine gLp (fun m : Nat => [(49, iv m), (16, iv (maxP (((owns l ws).getD s []).take m)))]) (fun m => []) (fun m => m ≤ ((owns l ws).getD s []).length) (fun m => ((owns l ws).getD s []).length - m) 0 (Nat.zero_le _) (fun m hm => ?_)
      repeat first | refine nx ?_ | intro _
      refine gIf (fun c4 => ?_) fun c4 => ?_
      · have := maxP_succ c4
        repeat first | refine nx ?_ | intro _
        exact gBk (m + 1) (by omega) (by omega) (h1 := by rw [this]; repeat' (first | refine And.intro ?_ ?_ | rfl | trivial))
      · have hm2 : ((owns l ws).getD s []).take m = (owns l ws).getD s [] := List.take_of_length_le (by omega)
        rw [hm2]
        repeat first | refine nx ?_ | intro _
        refine gBk (s + 1) (by omega) (by omega) (h1 := by rw [hsn, hsp]; repeat' (first | refine And.intro ?_ ?_ | rfl | trivial))
    · have hse : (owns l ws).take s = owns l ws := List.take_of_length_le (by omega)
      rw [hse]
      rw [hse] at hN hP
      have hnh : ¬ hasE (owns l ws) = true := fun h => hne (hasE_iff.1 h)
      repeat first | refine nx ?_ | intro _
      refine gIf (fun c4 => ?_) fun c4 => ?_ <;> repeat first | refine nx ?_ | intro _
      · exact ⟨if_pos (.inr c4), ((if_neg hnh).trans (if_pos c4)).symm⟩
      · exact ⟨(if_neg fun x => x.elim hnh c4).symm, ((if_neg hnh).trans (if_neg c4)).symm⟩
def phJ (c : List En) : List Int := c.flatMap En.ph
def wJ (c : List En) : Rat := c.foldl (fun w e => w * e.f.rat) 1
theorem phJ_succ {c : List En} {k : Nat} (h : k < c.length) : phJ (c.take (k + 1)) = phJ (c.take k) ++ (c.getD k en0).ph := by
  unfold phJ
  rw [List.take_succ_eq_append_getElem h, List.flatMap_append, List.getD_eq_getElem?_getD, List.getElem?_eq_getElem h]; simp
theorem wJ_succ {c : List En} {k : Nat} (h : k < c.length) : wJ (c.take (k + 1)) = wJ (c.take k) * (c.getD k en0).f.rat := fold_succ en0 h
theorem phJ_len {c : List En} {b : Nat} (h : ∀ e ∈ c, e.ph.length ≤ b) : (phJ c).length ≤ c.length * b := by
  induction c with
  | nil => exact Nat.zero_le _
  | cons e c ih =>
    have h1 := h e (List.mem_cons_self ..)
    have h2 := ih fun x hx => h x (List.mem_cons_of_mem _ hx)
    unfold phJ at *
    rw [List.flatMap_cons, List.length_append, List.length_cons, Nat.add_mul]; omega
theorem wJ_bq {c : List En} {b : Nat} (h : ∀ e ∈ c, (Fit e.f.n ∧ Fit e.f.d) ∧ bf e.f ≤ b) (k : Nat) : bq (wJ (c.take k)) ≤ 1 + k * b := by
  induction k with
  | zero => show bq 1 ≤ _; rw [bq_one]; omega
  | succ k ih =>
    by_cases hk : k < c.length
    · rw [wJ_succ hk]
      obtain ⟨a, b'⟩ := h _ (getD_in en0 hk)
      have h1 := bq_rat a
      have h2 : max (max (c.getD k en0).f.n.length (c.getD k en0).f.d.length) 1 ≤ bf (c.getD k en0).f := Nat.le_refl _
      have h3 := bq_mul (wJ (c.take k)) (c.getD k en0).f.rat
      rw [Nat.add_mul]; omega
    · have e1 : c.take k = c := List.take_of_length_le (by omega)
      have e2 : c.take (k + 1) = c := List.take_of_length_le (by omega)
      rw [e1] at ih
      rw [e2]
      rw [Nat.add_mul]; omega
instance joined_c {c : List En} {S : SV} [i : Vw (lv rE) S c] : Ct Tryz.prog 58 [S] (c.length ≤ 100 ∧ ∀ e ∈ c, EnS e) (.tp [lv rI (phJ c), kk (wJ c)]) := by
  refine ct1 i (ctI Tryz.call58 Tryz.func58 Tryz.ntmps58 rfl Tryz.results58 rfl [3, 5] fun h0 w0 ⟨h1, h2⟩ => ?_)
  haveI : FtEs c := ⟨fun e he => ⟨(h2 e he).2.2⟩⟩
  have hb1 : bq ((1 : Int) : Rat) ≤ 100 := by decide +kernel
  repeat first | refine nx ?_ | intro _
  rename_i v5 v3
  have hw1 : wJ (c.take 0) = ((1 : Int) : Rat) := rfl
  refine gNl rI 3 ?_
  refine gLp (fun s : Nat × Value => [(11, iv s.1), (4, ov s.2)]) (fun s => [rV v3 [bv (frK (wJ (c.take s.1))).neg, lv rU (frK (wJ (c.take s.1))).n, lv rU (frK (wJ (c.take s.1))).d] 32, rA rI 3 s.2 (phJ (c.take s.1))]) (fun s => s.1 ≤ c.length) (fun s => c.length - s.1) (0, .slice none 0 0) (Nat.zero_le _) (fun ⟨k, v⟩ hk => ?_) (h2 := ?_)
  · dsimp only at hk ⊢
    have hb2 := wJ_bq (c := c) (b := 1000) (fun e he => ⟨(h2 e he).2.2, (h2 e he).2.1⟩) k
    have hpl := phJ_len (c := c.take k) (b := 1000000) fun e he => (h2 e (List.mem_of_mem_take he)).1.2
    have hp9 : (phJ (c.take k)).length ≤ 100000000 := Nat.le_trans hpl (Nat.mul_le_mul_right 1000000 (show (c.take k).length ≤ 100 by rw [List.length_take]; omega))
    clear hpl
    repeat first | refine nx ?_ | intro _
    refine gIf (fun c2 => ?_) fun c2 => ?_
    · have hek := h2 _ (getD_in en0 c2)
      have hb3 := hek.2.1
      have hpk := hek.1.2
      repeat first | refine nx ?_ | intro _
      rename_i v7 v4
      rw [← phJ_succ c2, ← wJ_succ c2]
      exact gBk (k + 1, v4) (by dsimp only; omega) (by dsimp only; omega)
    · have e1 : c.take k = c := List.take_of_length_le (by omega)
      rw [e1]
      repeat first | refine gUn 2 (gDs 4 3 (by rfl) (by kernel_rfl) ?_) | refine nx ?_ | intro _
      exact ⟨trivial, trivial, trivial, trivial⟩
  · exact ⟨⟨rfl, rfl, rfl⟩, rfl, trivial⟩
end Go.E3
set_option linter.unusedVariables false
namespace Go.E3
open Go Go.Ear
def atF (r : List Rw) (l : List Int) : Bag (List Int) := ats r l l.length l.length
def prB (r : List Rw) (C : List (List En)) : Bag (List Int) := C.flatMap fun c => bm (· ++ []) (wJ c) (atF r (phJ c))
def okP (r : List Rw) (C : List (List En)) : Bool := (List.range C.length).all fun k => apB r (phJ (C.getD k [])) && bndB (prB r (C.take (k + 1)))
theorem prB_succ {r : List Rw} {C : List (List En)} {k : Nat} (h : k < C.length) : prB r (C.take (k + 1)) = prB r (C.take k) ++ bm (· ++ []) (wJ (C.getD k [])) (atF r (phJ (C.getD k []))) := by
  unfold prB
  rw [List.take_succ_eq_append_getElem h, List.flatMap_append, List.getD_eq_getElem?_getD, List.getElem?_eq_getElem h]; simp
theorem okP_iff {r : List Rw} {C : List (List En)} : okP r C = true ↔ ∀ k, k < C.length → apB r (phJ (C.getD k [])) = true ∧ bndB (prB r (C.take (k + 1))) = true := by
  unfold okP
  rw [List.all_eq_true]
  exact ⟨fun h k hk => Bool.and_eq_true_iff.1 (h k (List.mem_range.2 hk)), fun h k hk => Bool.and_eq_true_iff.2 (h k (List.mem_range.1 hk))⟩
theorem chs_mem : ∀ {L : List (List En)} {c : List En}, c ∈ chs L → c.length = L.length ∧ ∀ e ∈ c, ∃ o ∈ L, e ∈ o
  | [], c, h => by
    rw [List.mem_singleton.1 h]
    exact ⟨rfl, fun e he => (List.not_mem_nil he).elim⟩
  | o :: L, c, h => by
    obtain ⟨e, he, h⟩ := List.mem_flatMap.1 h
    obtain ⟨d, hd, rfl⟩ := List.mem_map.1 h
    obtain ⟨a, b⟩ := chs_mem hd
    refine ⟨by rw [List.length_cons, List.length_cons, a], fun x hx => ?_⟩
    rcases List.mem_cons.1 hx with rfl | hx
    · exact ⟨o, List.mem_cons_self .., he⟩
    · obtain ⟨o', h1, h2⟩ := b x hx
      exact ⟨o', List.mem_cons_of_mem _ h1, h2⟩
theorem chs_len (o : List En) (L : List (List En)) : (chs (o :: L)).length = o.length * (chs L).length := fm_len o
theorem chs_pos : ∀ {L : List (List En)}, [] ∉ L → 1 ≤ (chs L).length
  | [], _ => Nat.le_refl _
  | o :: L, h => by
    rw [chs_len]
    have h1 := chs_pos fun hm => h (List.mem_cons_of_mem o hm)
    have h2 : 1 ≤ o.length := by
      rcases o with _ | ⟨x, o⟩
      · exact absurd (List.mem_cons_self ..) h
      · rw [List.length_cons]; omega
    exact Nat.mul_le_mul h2 h1
theorem choN_chs {L : List (List En)} (h : [] ∉ L) : choN L = min (chs L).length 5001 := by
  unfold choN
  have : ∀ (L : List (List En)) n, [] ∉ L → n ≤ 5001 → L.foldl (fun n o => min (n * o.length) 5001) n = min (n * (chs L).length) 5001 := by
    intro L
    induction L with
    | nil => intro n _ hn; show n = min (n * 1) 5001; omega
    | cons o L ih =>
      intro n h hn
      have h1 := chs_pos fun hm => h (List.mem_cons_of_mem o hm)
      rw [List.foldl_cons, ih _ (fun hm => h (List.mem_cons_of_mem o hm)) (Nat.min_le_right ..), chs_len, ← Nat.mul_assoc]
      by_cases c : n * o.length ≤ 5001
      · rw [Nat.min_eq_left c]
      · rw [Nat.min_eq_right (show 5001 ≤ n * o.length by omega)]
        have a1 : 5001 * 1 ≤ 5001 * (chs L).length := Nat.mul_le_mul_left _ h1
        have a2 : n * o.length * 1 ≤ n * o.length * (chs L).length := Nat.mul_le_mul_left _ h1
        omega
  have e := this L 1 h (by omega)
  rw [Nat.one_mul] at e; exact e
theorem wJ_fold : ∀ (c : List En) (w : Rat), c.foldl (fun w e => w * e.f.rat) w = w * wJ c
  | [], w => (Rat.mul_one w).symm
  | e :: c, w => by
    unfold wJ
    rw [List.foldl_cons, List.foldl_cons, wJ_fold c, wJ_fold c, Rat.one_mul, Rat.mul_assoc]
theorem wJ_cons (e : En) (c : List En) : wJ (e :: c) = e.f.rat * wJ c := by
  show c.foldl (fun w e => w * e.f.rat) (1 * e.f.rat) = _
  rw [wJ_fold, Rat.one_mul]
def eD (l : List En) : Nat := (l.map fun x => x.f.rat.den).foldr (· * ·) 1
theorem eD_pos : ∀ l : List En, 0 < eD l
  | [] => Nat.one_pos
  | x :: r => Nat.mul_pos (Nat.pos_of_ne_zero x.f.rat.den_nz) (eD_pos r)
theorem eD_wh : ∀ {r : List En} {x : En}, x ∈ r → Wh (eD r) x.f.rat
  | y :: r, x, h => by
    show Wh (y.f.rat.den * eD r) _
    rcases List.mem_cons.1 h with rfl | h
    · exact (Wh.den _).up _
    · rw [Nat.mul_comm]; exact (eD_wh h).up _
theorem eD_sz : ∀ {r : List En} {b : Nat}, (∀ x ∈ r, (Fit x.f.n ∧ Fit x.f.d) ∧ bf x.f ≤ b) → sz (eD r) ≤ r.length * b + 1
  | [], b, _ => by show sz 1 ≤ _; rw [sz_one]; omega
  | x :: r, b, h => by
    have h1 := h x (List.mem_cons_self ..)
    have h2 := eD_sz (r := r) (b := b) fun y hy => h y (List.mem_cons_of_mem _ hy)
    have h3 : sz x.f.rat.den ≤ b := Nat.le_trans (bq_den _) (Nat.le_trans (bq_rat h1.1) h1.2)
    have h4 := sz_mul x.f.rat.den (eD r)
    show sz (x.f.rat.den * eD r) ≤ (r.length + 1) * b + 1
    rw [Nat.add_mul]; omega
theorem wJ_ok {l : List En} (h : ∀ e ∈ l, 0 < e.f.rat ∧ e.f.rat ≤ 1) : ∀ {c : List En}, (∀ e ∈ c, e ∈ l) → 0 < wJ c ∧ wJ c ≤ 1 ∧ Wh (eD l ^ c.length) (wJ c)
  | [], _ => ⟨by show (0 : Rat) < 1; decide, Rat.le_refl, Wh.int1 _⟩
  | e :: c, hc => by
    obtain ⟨a, b, d⟩ := wJ_ok h fun x hx => hc x (List.mem_cons_of_mem _ hx)
    have he := hc e (List.mem_cons_self ..)
    obtain ⟨p, q⟩ := h e he
    rw [wJ_cons, List.length_cons, Nat.pow_succ, Nat.mul_comm]
    refine ⟨Rat.mul_pos p a, ?_, (eD_wh he).mul d⟩
    have h1 := Rat.mul_le_mul_of_nonneg_right q (Rat.le_of_lt a)
    rw [Rat.one_mul] at h1
    exact Rat.le_trans h1 b
structure PrOk (r : List Rw) (C : List (List En)) (D : Nat) : Prop where
  hr : rulB r = true
  s : ∀ x ∈ r, RwS x ∧ bf x.f ≤ 1000
  c : ∀ c ∈ C, phB (phJ c) 400 = true ∧ (phJ c).length ≤ 25
  w : ∀ c ∈ C, 0 < wJ c ∧ wJ c ≤ 1 ∧ Wh D (wJ c)
  hD : 0 < D
  sD : sz D ≤ 8100000
  n : C.length ≤ 5000
section
variable {r : List Rw} {C : List (List En)} {D : Nat}
theorem PrOk.ap (h : PrOk r C D) {c : List En} (hc : c ∈ C) : ApOk r (phJ c) := ⟨h.hr, (h.c c hc).1, (h.c c hc).2, h.s⟩
theorem atF_wb {l : List Int} (h : ApOk r l) : WB 100 (rdn r ^ 25) (3 ^ 25) (atF r l) := by
  have h1 := ats_wb h l.length l.length (Nat.le_refl _)
  have hn := h.n
  refine ⟨fun x hx => ?_, Nat.le_trans h1.l (Nat.pow_le_pow_right (by omega) hn)⟩
  obtain ⟨a, b, c, d⟩ := h1.e x hx
  exact ⟨a.le (by omega), b, c, d.of_dvd (Nat.pow_dvd_pow _ hn)⟩
theorem GdP.nil {n : Nat} : GdP n [] := ⟨Nat.zero_le _, fun y hy => (List.not_mem_nil hy).elim⟩
theorem one_wb (h : PrOk r C D) {c : List En} (hc : c ∈ C) : WB 104 (rdn r ^ 25 * D) (3 ^ 25) (bm (· ++ []) (wJ c) (atF r (phJ c))) :=
  (atF_wb (h.ap hc)).bm .nil (h.w c hc).1 (h.w c hc).2.1 (h.w c hc).2.2
theorem prB_wb (h : PrOk r C D) (k : Nat) : WB 104 (rdn r ^ 25 * D) (5000 * 3 ^ 25) (prB r (C.take k)) := by
  have h1 : WB 104 (rdn r ^ 25 * D) ((C.take k).length * 3 ^ 25) (prB r (C.take k)) := WB.fm fun c hc => one_wb h (List.mem_of_mem_take hc)
  refine h1.le (Nat.mul_le_mul_right _ ?_) (Nat.le_refl _)
  rw [List.length_take]
  have := h.n; omega
theorem pr_szE (h : PrOk r C D) {E : Nat} (h5 : sz E ≤ 2) : sz (rdn r ^ 25 * D * E) ≤ 10000000 := by
  have h1 := sz_mul (rdn r ^ 25 * D) E
  have h0 := sz_mul (rdn r ^ 25) D
  have h2 := sz_pow (rdn r) 25
  have h3 := rdn_sz (r := r) (b := 1000) fun x hx => ⟨(h.s x hx).1.2.2.2.2.2.1, (h.s x hx).1.2.2.2.2.2.2, (h.s x hx).2⟩
  have h4 := (rul_gd h.hr).1
  have h6 : r.length * 1000 ≤ 50 * 1000 := Nat.mul_le_mul_right _ h4
  have h7 := h.sD
  omega
theorem pr_sz (h : PrOk r C D) : sz (rdn r ^ 25 * D * (5000 * 3 ^ 25)) ≤ 10000000 := pr_szE h (sz_small (by decide))
theorem prD_pos (h : PrOk r C D) : 0 < rdn r ^ 25 * D := Nat.mul_pos (Nat.pow_pos (rdn_pos r)) h.hD
theorem prB_bq (h : PrOk r C D) (k : Nat) (p : List Int) : bq (tot (prB r (C.take k)) p) ≤ 10000000 := Nat.le_trans ((prB_wb h k).bq (prD_pos h) (by decide) p) (pr_sz h)
theorem wJ_bq2 (h : PrOk r C D) {c : List En} (hc : c ∈ C) : bq (wJ c) ≤ 8100000 := by
  obtain ⟨a, b, d⟩ := h.w c hc
  exact Nat.le_trans (d.bq h.hD (Rat.le_of_lt a) b) h.sD
theorem cur_pq (h : PrOk r C D) {k : Nat} (hk : k < C.length) {l0 vis rs : List (ByteArray × Fo)} (mk : MK prtB (fun p x => (⟨p, frK x⟩ : Fo)) l0 (atF r (phJ (C.getD k [])))) (hp : (vis ++ rs).Perm l0) (p : List Int) :
    bq (tot (prB r (C.take k) ++ vG [] (wJ (C.getD k [])) vis) p) ≤ 10000000 := by
  have hc : C.getD k [] ∈ C := getD_in [] hk
  have w1 := (prB_wb h (k + 1)).tot p
  rw [prB_succ hk, tot_app] at w1
  obtain ⟨q2, _, q4⟩ := h.w _ hc
  have a1 := atF_wb (h.ap hc)
  obtain ⟨v1, v2⟩ := vG_le mk hp (wr := []) (w := wJ (C.getD k [])) a1.pos q2 p
  have w2 := (prB_wb h k).tot p
  have w3 : Wh (rdn r ^ 25 * D) (tot (vG [] (wJ (C.getD k [])) vis) p) := by
    unfold tot
    refine Wh.sQ fun x hx => ?_
    obtain ⟨y, hy, rfl⟩ := List.mem_map.1 hx
    obtain ⟨z, hz, rfl⟩ := List.mem_map.1 (List.mem_filter.1 hy).1
    obtain ⟨q, hq, _, h2⟩ := (mk.2 z.1 z.2).1 (hp.mem_iff.1 (List.mem_append_left _ hz))
    show Wh _ (z.2.f.rat * wJ (C.getD k []))
    rw [h2, frK_rat]
    exact (a1.tot q).2.2.mul q4
  rw [tot_app]
  refine Nat.le_trans ((w2.2.2.add w3).bqM (prD_pos h) (M := 5000 * 3 ^ 25) (by decide) ?_ ?_) (pr_sz h)
  · have := w2.1; grind
  · have := w1.2.1; grind
theorem cnt_app (a b : Bag (List Int)) : cnt (a ++ b) ≤ cnt a + cnt b := by
  unfold cnt
  rw [← List.length_append]
  refine nd_len (nodup_dd _) fun x hx => ?_
  rw [List.mem_append, mem_dd, mem_dd]
  rw [mem_dd, List.map_append] at hx
  exact List.mem_append.1 hx
theorem cnt_bm (w : Rat) (b : Bag (List Int)) : cnt (bm (· ++ []) w b) ≤ cnt b := cnt_mono fun p hp => by
  obtain ⟨q, hq, e⟩ := has_bm.1 hp
  rw [← e]
  show hasB b (q ++ [])
  rw [List.append_nil]; exact hq
theorem prB_cnt {k : Nat} (hk : k < C.length) (h1 : k = 0 ∨ bndB (prB r (C.take k)) = true) (h2 : bndB (atF r (phJ (C.getD k []))) = true) : cnt (prB r (C.take (k + 1))) ≤ 10000 := by
  rw [prB_succ hk]
  have a1 := cnt_app (prB r (C.take k)) (bm (· ++ []) (wJ (C.getD k [])) (atF r (phJ (C.getD k []))))
  have a2 := cnt_bm (wJ (C.getD k [])) (atF r (phJ (C.getD k [])))
  have a3 := (bndB_iff.1 h2).2
  have a4 : cnt (prB r (C.take k)) ≤ 5000 := by
    rcases h1 with rfl | h1
    · exact Nat.zero_le _
    · exact (bndB_iff.1 h1).2
  omega
theorem apB_bnd {l : List Int} (h : apB r l = true) : bndB (atF r l) = true := by
  unfold apB at h
  exact (Bool.and_eq_true_iff.1 h).2
end
theorem val_ent {l : List En} (h : valB l = true) : l.length ≤ 1000 ∧ ∀ e ∈ l, phB e.ph 40 = true ∧ 0 < e.f.rat ∧ e.f.rat ≤ 1 := by
  unfold valB at h
  rw [Bool.and_eq_true, decide_eq_true_iff, Bool.and_eq_true] at h
  refine ⟨h.1, fun e he => ?_⟩
  obtain ⟨k, hk, rfl⟩ := getD_mem (d := en0) he
  have h2 := h.2.1
  unfold ordB at h2
  rw [Bool.not_eq_true'] at h2
  have h3 := List.any_eq_false.1 h2 k (List.mem_range.2 hk)
  unfold badE at h3
  simp only [Bool.or_eq_true, not_or, Bool.not_eq_true', Bool.not_eq_false] at h3
  obtain ⟨⟨⟨_, a⟩, d⟩, _⟩ := h3
  unfold wtB at d
  rw [Bool.and_eq_true, decide_eq_true_iff, decide_eq_true_iff] at d
  refine ⟨a, sgQ_pos.1 d.1, ?_⟩
  have h4 : ¬ 0 < sgQ ((l.getD k en0).f.rat - 1) := by omega
  rw [sgQ_pos] at h4
  grind
structure PnS (l : List En) (r : List Rw) (ws : List ByteArray) : Prop where
  lx : LxS l
  r : r.length ≤ 1000000 ∧ ∀ x ∈ r, RwS x ∧ bf x.f ≤ 1000
  w : ws.length ≤ 4 ∨ 40 < ws.length
  n : ws.length ≤ 1000
  p : ∀ e ∈ l, e.ph.length ≤ 6
theorem pn_ok {l : List En} {r : List Rw} {ws : List ByteArray} (s : PnS l r ws) (hv : valB l = true) (hr : rulB r = true) (hw : ws.length ≤ 40) (he : hasE (owns l ws) = false) (hn : ¬ 5000 < choN (owns l ws)) : PrOk r (chs (owns l ws)) (eD l ^ ws.length) := by
  obtain ⟨v1, v2⟩ := val_ent hv
  have hol : (owns l ws).length = ws.length := List.length_map ..
  have hm : ∀ c ∈ chs (owns l ws), c.length = ws.length ∧ ∀ e ∈ c, e ∈ l := fun c hc => by
    obtain ⟨a, b⟩ := chs_mem hc
    refine ⟨a.trans hol, fun e he => ?_⟩
    obtain ⟨o, ho, heo⟩ := b e he
    obtain ⟨w, _, rfl⟩ := List.mem_map.1 ho
    exact (ownE_sub heo).1
  have hw4 : ws.length ≤ 4 := by rcases s.w with h | h <;> omega
  refine ⟨hr, s.r.2, fun c hc => ?_, fun c hc => ?_, Nat.pow_pos (eD_pos l), ?_, ?_⟩
  · obtain ⟨a, b⟩ := hm c hc
    have h1 := phJ_len (c := c) (b := 6) fun e he => s.p e (b e he)
    have h2 : c.length * 6 ≤ 4 * 6 := Nat.mul_le_mul_right _ (by omega)
    refine ⟨?_, by omega⟩
    unfold phB
    rw [Bool.and_eq_true, decide_eq_true_iff, Bool.not_eq_true', List.any_eq_false]
    refine ⟨by omega, fun y hy => ?_⟩
    obtain ⟨e, hec, hye⟩ := List.mem_flatMap.1 hy
    have := (v2 e (b e hec)).1
    unfold phB at this
    rw [Bool.and_eq_true, Bool.not_eq_true'] at this
    exact List.any_eq_false.1 this.2 y hye
  · obtain ⟨a, b⟩ := hm c hc
    have := wJ_ok (l := l) (fun e he => (v2 e he).2) b
    rw [a] at this; exact this
  · have h1 := sz_pow (eD l) ws.length
    have h2 := eD_sz (r := l) (b := 1000) fun x hx => ⟨(s.lx.2 x hx).2.2, (s.lx.2 x hx).2.1⟩
    have h3 := s.lx.1
    have h4 : l.length * 1000 ≤ 2000 * 1000 := Nat.mul_le_mul_right _ h3
    have h5 : ws.length * sz (eD l) ≤ 4 * 2000001 := Nat.mul_le_mul hw4 (by omega)
    omega
  · have h1 := choN_chs (L := owns l ws) fun hm => by rw [hasE_iff.2 hm] at he; exact Bool.noConfusion he
    omega
end Go.E3
set_option linter.unusedVariables false
set_option maxRecDepth 20000
set_option maxHeartbeats 4000000
set_option synthInstance.maxSize 1000
namespace Go.E3
open Go Go.Ear Go.Proofs
theorem cB3 {α β γ : Type} {v : α → SV} {x : α} {v2 : β → SV} {y : β} {v3 : γ → SV} {z : γ} {P : Program} {f : FuncId} {sd : Prop} {S T U R : SV} {l : List SV} {B : List Res} (i : Vw v S x) (j : Vw v2 T y) (k : Vw v3 U z) (c : CtB P f (v x :: v2 y :: v3 z :: l) B sd R) : CtB P f (S :: T :: U :: l) B sd R := ⟨c.fn, fun a w0 h w vs s o u => by
  match vs, u with
  | _ :: _ :: _ :: _, u => exact c.h a s o ⟨i.h u.1, j.h u.2.1, k.h u.2.2.1, u.2.2.2⟩⟩
theorem valB_srt {l : List En} (h : valB l = true) : Srt l := by
  unfold valB at h
  rw [Bool.and_eq_true, Bool.and_eq_true] at h
  exact ordB_srt h.2.1
theorem choE_ok {l : List En} {ws : List ByteArray} (h : choE l ws = 0) : hasE (owns l ws) = false ∧ ¬ 5000 < choN (owns l ws) ∧ choL l ws = owns l ws := by
  unfold choE at h
  split at h
  · exact absurd h (by decide)
  · rename_i h1
    split at h
    · exact absurd h (by decide)
    · rename_i h2
      refine ⟨by simpa using h1, fun h => h2 (.inl h), if_neg fun h => h.elim h1 h2⟩
def prL (l : List En) (r : List Rw) (ws : List ByteArray) : List Fo := if valB l = true ∧ rulB r = true ∧ ws.length ≤ 40 ∧ choE l ws = 0 ∧ okP r (chs (owns l ws)) = true then srtF (prB r (chs (owns l ws))) else []
def prE (l : List En) (r : List Rw) (ws : List ByteArray) : Int := if valB l = true ∧ rulB r = true ∧ ws.length ≤ 40 then (if choE l ws = 0 then (if okP r (chs (owns l ws)) = true then 0 else 5) else choE l ws) else 2
theorem gStpF {P : Program} {n : Nat} {ms : List Nat} {loc env : EL} {B kb : List Res} {s2 : Prop} {τ : Type} {h0 : PH} {w0 : World} {C : Ctx} {Ix : τ → Prop} {Bx : τ → List Res} (t : τ) [mb : MtB B (Bx t) s2 kb] (hI : Ix t) (h2 : s2 := by first | trivial | ((try dsimp only); repeat' (first | refine And.intro ?_ ?_ | rfl | trivial | omega))) : GX P n ⟨Stp h0 w0 Ix Bx, h0, w0, C⟩ ms loc env B .ret .fin := ⟨fun ρ h w sy => ⟨rfl, t, h, hI, sy.gr, ((mb.h h2).own sy.ow).left⟩⟩
instance Pronounce_c {l : List En} {r : List Rw} {ws : List ByteArray} {S T U : SV} {B : List Res} [i : Vw lxv S l] [j : Vw (lv rR) T r] [m : Vw (lv rQ) U ws] [hg : HG B] : CtB Tryz.prog 25 [S, T, U] B (PnS l r ws) (.tp [lv rO' (prL l r ws), iv (prE l r ws)]) := by
  refine cB3 i j m (ctB Tryz.call25 Tryz.func25 Tryz.ntmps25 rfl Tryz.results25 rfl [6, 7, 10] fun h0 w0 s => ?_)
  have hRw := fun x hx => (s.r.2 x hx).1
  have hr1 := s.r.1
  have hlx := s.lx
  have hn := s.n
  repeat first | refine nx ?_ | intro _
  refine gIf (fun c => ?_) fun c => ?_ <;> repeat first | refine nx ?_ | intro _
  · have hc : ¬ (valB l = true ∧ rulB r = true ∧ ws.length ≤ 40) := fun ⟨x, y, z⟩ => c.elim (fun h => h.elim (fun h => h x) fun h => h y) fun h => absurd z (by omega)
    exact ⟨if_neg fun ⟨x, y, z, _⟩ => hc ⟨x, y, z⟩, (if_neg hc).symm⟩
  · have hc : valB l = true ∧ rulB r = true ∧ ws.length ≤ 40 := ⟨Classical.byContradiction fun h => c (.inl (.inl h)), Classical.byContradiction fun h => c (.inl (.inr h)), Classical.byContradiction fun h => c (.inr (by omega))⟩
    obtain ⟨c1, c2, c3⟩ := hc
    have hsr : Srt l := valB_srt c1
    have hsd : LxS l ∧ Srt l := ⟨hlx, hsr⟩
    repeat first | refine nx ?_ | intro _
    refine gIf (fun c4 => ?_) fun c4 => ?_ <;> repeat first | refine nx ?_ | intro _
    · refine ⟨if_neg fun ⟨_, _, _, x, _⟩ => c4 x, ?_⟩
      exact ((if_pos ⟨c1, c2, c3⟩).trans (if_neg c4)).symm
    · have c4 := Classical.not_not.1 c4
      obtain ⟨d1, d2, d3⟩ := choE_ok c4
      have ok := pn_ok s c1 c2 c3 d1 d2
      have hol : (owns l ws).length = ws.length := List.length_map ..
      have hOL : (owns l ws).length ≤ 1000000 ∧ ∀ o ∈ owns l ws, o.length ≤ 1000000 := ⟨by omega, fun o ho => by
        obtain ⟨w, _, rfl⟩ := List.mem_map.1 ho
        exact Nat.le_trans (List.length_filter_le _ _) (by have := hlx.1; omega)⟩
      have hmem : ∀ c ∈ chs (owns l ws), c.length ≤ 100 ∧ ∀ e ∈ c, EnS e := fun c hc => by
        obtain ⟨a, b⟩ := chs_mem hc
        refine ⟨by omega, fun e he => ?_⟩
        obtain ⟨o, ho, heo⟩ := b e he
        obtain ⟨w, _, rfl⟩ := List.mem_map.1 ho
        exact hlx.2 e (ownE_sub heo).1
      rw [d3]
      have eL : prL l r ws = if okP r (chs (owns l ws)) = true then srtF (prB r (chs (owns l ws))) else [] := by
        unfold prL
        simp only [c1, c2, c3, c4, true_and]
      have eE : prE l r ws = if okP r (chs (owns l ws)) = true then 0 else 5 := by
        unfold prE
        rw [if_pos ⟨c1, c2, c3⟩, if_pos c4]
      rw [eL, eE]
      rename_i v6 v7 _ m v10
      refine gRgS (σ := Unit) (τ := Unit) (fun k _ => ∀ j, j < k → apB r (phJ ((chs (owns l ws)).getD j [])) = true ∧ bndB (prB r ((chs (owns l ws)).take (j + 1))) = true) (fun k _ => [rMp fov m (MF (prB r ((chs (owns l ws)).take k)))]) () (fun _ => okP r (chs (owns l ws)) = false) (fun _ => [rV v6 [.cv (.slice none 0 0)] 43, rV v7 [iv 5] 33]) (fun j hj => absurd hj (Nat.not_lt_zero _)) (by rfl) (fun hr k _ lp o o' D hk hI => ?_) (fun D _ hI => ?_) (fun D _ hx => ?_) (h2 := ⟨MK.nil, trivial⟩)
      · have hcm : (chs (owns l ws)).getD k [] ∈ chs (owns l ws) := getD_in [] hk
        have ap := ok.ap hcm
        have hsj := hmem _ hcm
        repeat first | refine gDs 8 7 (by rfl) (by kernel_rfl) ?_ | refine nx ?_ | intro _
        rename_i v13 v14
        refine gIf (fun c5 => ?_) fun c5 => ?_
        · repeat first | refine nx ?_ | intro _
          have hx : okP r (chs (owns l ws)) = false := by
            rw [← Bool.not_eq_true, okP_iff]
            exact fun h => c5 (h k hk).1
          exact gStpF () hx
        · have c5 := Classical.not_not.1 c5
          have hbF := apB_bnd c5
          have hcn := prB_cnt (r := r) hk (by
            rcases Nat.eq_zero_or_pos k with h | h
            · exact .inl h
            · refine .inr ?_
              have := (hI (k - 1) (by omega)).2
              rwa [Nat.sub_add_cancel h] at this) hbF
          rw [c5]
          refine gSb (B1 := rMp fov v14 (MF (atF r (phJ ((chs (owns l ws)).getD k [])))) :: _) (.refl _) ?_
          refine gOp v14 fun l0 m0 => ?_
          repeat first | refine nx ?_ | intro _
          rename_i pI
          refine gLp (fun vis : List (ByteArray × Fo) => [(59, ov pI)]) (fun vis => [rMI fov pI v14 l0 vis, rMp fov m (MF (prB r ((chs (owns l ws)).take k) ++ vG [] (wJ ((chs (owns l ws)).getD k [])) vis))]) (fun vis => vis.length ≤ l0.length) (fun vis => l0.length - vis.length) [] (Nat.zero_le _) (fun vis hv => ?_) (h2 := ⟨trivial, trivial, fun _ h => by rw [vG_nil, List.append_nil]; exact h, trivial⟩)
          repeat first | refine nx ?_ | intro _
          refine gNxt (fun hd => ?_) fun s a ⟨rs, hr⟩ => ?_
          · have e : BE (prB r ((chs (owns l ws)).take k) ++ vG [] (wJ ((chs (owns l ws)).getD k [])) vis) (prB r ((chs (owns l ws)).take (k + 1))) := by
              rw [prB_succ hk]
              exact (BE.refl _).app (vG_all m0 hd _ _)
            have hcn2 : cnt (prB r ((chs (owns l ws)).take (k + 1))) ≤ 1099511627776 := by omega
            have hbe : ∀ l', MF (prB r ((chs (owns l ws)).take k) ++ vG [] (wJ ((chs (owns l ws)).getD k [])) vis) l' → MF (prB r ((chs (owns l ws)).take (k + 1))) l' := fun l' h => h.same e.h e.t
            first | refine gImX m (MF (prB r ((chs (owns l ws)).take (k + 1)))) hbe ?_ | refine nx (gImX m (MF (prB r ((chs (owns l ws)).take (k + 1)))) hbe ?_) | refine nx (nx (gImX m (MF (prB r ((chs (owns l ws)).take (k + 1)))) hbe ?_)) | refine nx (nx (nx (gImX m (MF (prB r ((chs (owns l ws)).take (k + 1)))) hbe ?_)))
            repeat first | refine nx ?_ | intro _
            refine gIf (fun c6 => ?_) fun c6 => ?_ <;> repeat first | refine nx ?_ | intro _
            · have hx : okP r (chs (owns l ws)) = false := by
                rw [← Bool.not_eq_true, okP_iff]
                exact fun h => c6 (h k hk).2
              exact gStpF () hx
            · exact gMe () (fun j hj => by
                by_cases e : j = k
                · subst e; exact ⟨c5, Classical.not_not.1 c6⟩
                · exact hI j (by omega)) (h2 := ⟨fun _ h => h, trivial, trivial, trivial, trivial⟩)
          · have hwb0 := atF_wb ap
            obtain ⟨p, hp, rfl⟩ := MF_mem m0 (s := s) (a := a) (hr.mem_iff.1 (by simp))
            have hgp := hwb0.has hp
            have hbx : bf (mkF p (tot (atF r (phJ ((chs (owns l ws)).getD k []))) p)).f ≤ 1400000 := by
              show bf (frK _) ≤ _
              rw [bf_frK]
              exact Nat.le_trans ((ats_wb ap _ _ (Nat.le_refl _)).bq (Nat.pow_pos (rdn_pos r)) (Nat.pow_pos (by omega)) p) (ap_sz ap (by have := ap.n; omega))
            haveI : FtF (mkF p (tot (atF r (phJ ((chs (owns l ws)).getD k []))) p)).f := inferInstanceAs (FtF (frK _))
            have hphl : (mkF p (tot (atF r (phJ ((chs (owns l ws)).getD k []))) p)).ph = p := rfl
            generalize hax : mkF p (tot (atF r (phJ ((chs (owns l ws)).getD k []))) p) = a at *
            rw [← hphl] at hgp
            have hphi : PhI a.ph := ⟨by have := hgp.1; omega, fun y hy => by have := hgp.2 y hy; omega⟩
            have hq := cur_pq ok hk m0 hr a.ph
            have hwj := wJ_bq2 ok hcm
            have hwb : bf (frK (wJ ((chs (owns l ws)).getD k []))) ≤ 8100000 := by rw [bf_frK]; exact hwj
            have hmul : bf (frK (a.f.rat * wJ ((chs (owns l ws)).getD k []))) ≤ 20000000 := by
              rw [bf_frK]
              have h1 := bq_mul a.f.rat (wJ ((chs (owns l ws)).getD k []))
              have h2 := bq_rat (f := a.f) (FtF.h)
              have h4 : max (max a.f.n.length a.f.d.length) 1 ≤ bf a.f := Nat.le_refl _
              omega
            repeat first | refine gDs 8 7 (by rfl) (by kernel_rfl) ?_ | refine nx ?_ | intro _
            have hl2 := hr.length_eq
            rw [List.length_append, List.length_cons] at hl2
            have hl3 : (vis ++ [(s, a)]).length = vis.length + 1 := by simp
            have e1 : vG [] (wJ ((chs (owns l ws)).getD k [])) [(s, a)] = [(a.ph, a.f.rat * wJ ((chs (owns l ws)).getD k []))] := by unfold vG; simp
            exact gBk (vis ++ [(s, a)]) (by omega) (by omega) (h2 := by
              refine ⟨trivial, trivial, fun l' h => ?_, ?_⟩
              · rw [vG_app, ← List.append_assoc, e1]
                rw [frK_rat] at h
                exact h
              · repeat' (first | refine And.intro ?_ ?_ | rfl | trivial))
      · have hpos := chs_pos (L := owns l ws) fun hm => by rw [hasE_iff.2 hm] at d1; exact Bool.noConfusion d1
        have hok : okP r (chs (owns l ws)) = true := okP_iff.2 hI
        have hb := (hI ((chs (owns l ws)).length - 1) (by omega)).2
        rw [Nat.sub_add_cancel hpos] at hb
        have hbq := fun p => prB_bq ok (chs (owns l ws)).length p
        rw [List.take_length] at hb ⊢
        simp only [List.take_length] at hbq
        obtain ⟨hb1, hb2⟩ := bndB_iff.1 hb
        have hside : cnt (prB r (chs (owns l ws))) ≤ 1000000 ∧ ∀ p, hasB (prB r (chs (owns l ws))) p → p.length ≤ 1099511627776 ∧ bq (tot (prB r (chs (owns l ws))) p) ≤ 60000000 := ⟨by omega, fun p hp => ⟨by have := hb1 p hp; omega, by have := hbq p; omega⟩⟩
        rw [if_pos hok, if_pos hok]
        repeat first | refine nx ?_ | intro _
        exact ⟨trivial, trivial⟩
      · rw [hx]
        repeat first | refine nx ?_ | intro _
        exact ⟨rfl, rfl⟩
end Go.E3
set_option linter.unusedVariables false
namespace Go.E3
open Go Go.Ear
def mxG {α : Type} (n s : Nat) (f : Nat → Nat → α) : List (List α) := (List.range n).map fun j => (List.range s).map (f j)
section
variable {α : Type} {n s : Nat} {f f' : Nat → Nat → α}
theorem mxG_len : (mxG n s f).length = n := by unfold mxG; simp
theorem mxG_row {j : Nat} (h : j < n) : (mxG n s f).getD j [] = (List.range s).map (f j) := by
  unfold mxG
  rw [List.getD_eq_getElem?_getD, List.getElem?_map, List.getElem?_range h]; rfl
theorem mxG_rlen {j : Nat} (h : j < n) : ((mxG n s f).getD j []).length = s := by rw [mxG_row h]; simp
theorem mxG_at {j k : Nat} (d : α) (h : j < n) (hk : k < s) : ((mxG n s f).getD j []).getD k d = f j k := by
  rw [mxG_row h, List.getD_eq_getElem?_getD, List.getElem?_map, List.getElem?_range hk]; rfl
theorem mxG_congr (h : ∀ j k, j < n → k < s → f j k = f' j k) : mxG n s f = mxG n s f' := by
  unfold mxG
  refine List.map_congr_left fun j hj => ?_
  exact List.map_congr_left fun k hk => h j k (List.mem_range.1 hj) (List.mem_range.1 hk)
theorem mxG_set {j k : Nat} {x : α} (hj : j < n) (hk : k < s) (h1 : f' j k = x) (h : ∀ j' k', j' < n → k' < s → ¬ (j' = j ∧ k' = k) → f' j' k' = f j' k') : (mxG n s f).set j (((mxG n s f).getD j []).set k x) = mxG n s f' := by
  rw [mxG_row hj]
  apply List.ext_getElem?
  intro i
  by_cases hi : i < n
  · by_cases e : j = i
    · subst e
      rw [List.getElem?_set_self (by rw [mxG_len]; exact hi)]
      unfold mxG
      rw [List.getElem?_map, List.getElem?_range hi]
      show some _ = some _
      congr 1
      apply List.ext_getElem?
      intro t
      by_cases ht : t < s
      · by_cases e2 : k = t
        · subst e2
          rw [List.getElem?_set_self (by simpa using ht), List.getElem?_map, List.getElem?_range ht]
          exact congrArg some h1.symm
        · rw [List.getElem?_set_ne e2, List.getElem?_map, List.getElem?_map, List.getElem?_range ht]
          exact congrArg some (h j t hi ht fun e => e2 e.2.symm).symm
      · rw [List.getElem?_eq_none (by simp; omega), List.getElem?_eq_none (by simp; omega)]
    · rw [List.getElem?_set_ne e]
      unfold mxG
      rw [List.getElem?_map, List.getElem?_map, List.getElem?_range hi]
      show some _ = some _
      congr 1
      exact List.map_congr_left fun t ht => (h i t hi (List.mem_range.1 ht) fun e2 => e e2.1.symm).symm
  · rw [List.getElem?_eq_none (by rw [List.length_set, mxG_len]; omega), List.getElem?_eq_none (by rw [mxG_len]; omega)]
end
theorem tot_bm_suf (w : Rat) (wr p : List Int) (b : Bag (List Int)) : tot (bm (· ++ wr) w b) (p ++ wr) = tot b p * w := by
  induction b with
  | nil => show (0 : Rat) = 0 * w; rw [Rat.zero_mul]
  | cons x b ih =>
    show tot ((x.1 ++ wr, x.2 * w) :: bm (· ++ wr) w b) (p ++ wr) = _
    rw [tot_cons, tot_cons, ih, Rat.add_mul]
    congr 1
    by_cases e : x.1 = p
    · rw [if_pos (by rw [e]), if_pos e]
    · rw [if_neg (fun e2 => e (List.append_cancel_right e2)), if_neg e, Rat.zero_mul]
theorem tot_bm_no {w : Rat} {wr p : List Int} {b : Bag (List Int)} (h : ∀ q, q ++ wr ≠ p) : tot (bm (· ++ wr) w b) p = 0 :=
  tot_none fun hb => by
    obtain ⟨q, _, e⟩ := has_bm.1 hb
    exact h q e
section
variable {r : List Rw} {l q : List Int}
def WE (r : List Rw) (l q : List Int) (i j k : Nat) : Rat := tot (ats r l (min i j) j) (q.take k)
def WO (r : List Rw) (l q : List Int) (i m j k : Nat) : Rat := if j ≤ i then tot (ats r l j j) (q.take k) else tot (bgO r l i m j) (q.take k)
def WP (r : List Rw) (l q : List Int) (i m c j k : Nat) : Rat := WO r l q i m j k + if i + ((optL r l i).getD m op0).pass.toNat = j ∧ k < c + ((optL r l i).getD m op0).wr.length then tot (bm (· ++ ((optL r l i).getD m op0).wr) ((optL r l i).getD m op0).f.rat (ats r l i i)) (q.take k) else 0
theorem WE_zero (j : Nat) {k : Nat} (h : k ≤ q.length) : WE r l q 0 j k = if j = 0 ∧ k = 0 then 1 else 0 := by
  unfold WE
  rw [Nat.zero_min]
  unfold ats
  by_cases e : j = 0
  · rw [if_pos e, tot_cons, tot_nil, Rat.add_zero]
    by_cases e2 : k = 0
    · subst e2
      rw [if_pos (show (([], 1) : List Int × Rat).1 = q.take 0 from rfl), if_pos ⟨e, rfl⟩]
    · rw [if_neg (show ¬ (([], 1) : List Int × Rat).1 = q.take k from fun e3 => by
        have := congrArg List.length e3
        rw [List.length_take] at this
        exact e2 (by simp at this; omega)), if_neg fun x => e2 x.2]
  · rw [if_neg e, if_neg fun x => e x.1]; rfl
theorem WO_zero (i j k : Nat) : WO r l q i 0 j k = WE r l q i j k := by
  unfold WO WE
  split
  · rw [Nat.min_eq_right (by omega)]
  · rw [bgO_zero, Nat.min_eq_left (by omega)]
theorem WO_last (i j k : Nat) : WO r l q i (optL r l i).length j k = WE r l q (i + 1) j k := by
  unfold WO WE
  split
  · rw [Nat.min_eq_right (by omega)]
  · rw [bgO_last (by omega), Nat.min_eq_left (by omega)]
theorem WP_zero (i m j : Nat) {k : Nat} (h : k ≤ q.length) : WP r l q i m 0 j k = WO r l q i m j k := by
  unfold WP
  split
  · rename_i c
    rw [tot_bm_no, Rat.add_zero]
    intro p e
    have := congrArg List.length e
    rw [List.length_append, List.length_take] at this
    omega
  · rw [Rat.add_zero]
theorem WP_last (ok : OpOk r l) {i m : Nat} (hi : i < l.length) (hm : m < (optL r l i).length) (j : Nat) {k : Nat} (h : k ≤ q.length) : WP r l q i m (q.length + 1) j k = WO r l q i (m + 1) j k := by
  have hp := (ok.p i hi _ (getD_in op0 hm)).1
  unfold WP WO
  by_cases c : j ≤ i
  · rw [if_pos c, if_pos c, if_neg (by omega), Rat.add_zero]
  · rw [if_neg c, if_neg c, bgO_succ hm, tot_app]
    congr 1
    by_cases e : i + ((optL r l i).getD m op0).pass.toNat = j
    · rw [if_pos ⟨e, by omega⟩, if_pos e]
    · rw [if_neg (fun x => e x.1), if_neg e]; rfl
theorem WP_self (ok : OpOk r l) {i m : Nat} (hi : i < l.length) (hm : m < (optL r l i).length) (c k : Nat) : WP r l q i m c i k = tot (ats r l i i) (q.take k) := by
  have hp := (ok.p i hi _ (getD_in op0 hm)).1
  unfold WP WO
  rw [if_pos (Nat.le_refl _), if_neg (by omega), Rat.add_zero]
theorem WP_succ {i m c j k : Nat} (h : ¬ (j = i + ((optL r l i).getD m op0).pass.toNat ∧ k = c + ((optL r l i).getD m op0).wr.length)) : WP r l q i m (c + 1) j k = WP r l q i m c j k := by
  unfold WP
  congr 1
  by_cases e : i + ((optL r l i).getD m op0).pass.toNat = j
  · by_cases e2 : k < c + ((optL r l i).getD m op0).wr.length
    · rw [if_pos ⟨e, by omega⟩, if_pos ⟨e, e2⟩]
    · rw [if_neg (fun x => by have := x.2; omega), if_neg (fun x => e2 x.2)]
  · rw [if_neg (fun x => e x.1), if_neg (fun x => e x.1)]
theorem WP_new {i m c : Nat} : WP r l q i m (c + 1) (i + ((optL r l i).getD m op0).pass.toNat) (c + ((optL r l i).getD m op0).wr.length) = WP r l q i m c (i + ((optL r l i).getD m op0).pass.toNat) (c + ((optL r l i).getD m op0).wr.length) + tot (bm (· ++ ((optL r l i).getD m op0).wr) ((optL r l i).getD m op0).f.rat (ats r l i i)) (q.take (c + ((optL r l i).getD m op0).wr.length)) := by
  unfold WP
  rw [if_pos ⟨rfl, by omega⟩, if_neg (fun x => Nat.lt_irrefl _ x.2), Rat.add_zero]
theorem take_split {c n : Nat} : q.take (c + n) = q.take c ++ (q.take (c + n)).drop c := by
  have := (List.take_append_drop c (q.take (c + n))).symm
  rw [List.take_take, Nat.min_eq_left (by omega)] at this
  exact this
theorem add_yes {w : Rat} {wr : List Int} {b : Bag (List Int)} {c : Nat} (h : (q.take (c + wr.length)).drop c = wr) : tot (bm (· ++ wr) w b) (q.take (c + wr.length)) = tot b (q.take c) * w := by
  conv => lhs; rw [take_split, h]
  exact tot_bm_suf _ _ _ _
theorem add_no {w : Rat} {wr : List Int} {b : Bag (List Int)} {c : Nat} (hc : c + wr.length ≤ q.length) (hb : PosB b) (h : ¬ (0 < tot b (q.take c) ∧ (q.take (c + wr.length)).drop c = wr)) : tot (bm (· ++ wr) w b) (q.take (c + wr.length)) = 0 := by
  by_cases e : (q.take (c + wr.length)).drop c = wr
  · rw [add_yes e]
    have h1 : ¬ 0 < tot b (q.take c) := fun x => h ⟨x, e⟩
    have h2 := tot_nonneg hb (q.take c)
    have h3 : tot b (q.take c) = 0 := by grind
    rw [h3, Rat.zero_mul]
  · refine tot_bm_no fun p e2 => e ?_
    have h1 := congrArg List.length e2
    rw [List.length_append, List.length_take] at h1
    have h2 : p.length = c := by omega
    rw [← e2, ← h2, List.drop_left]
theorem WP_bq (h : ApOk r l) {i m c j k : Nat} (hi : i < l.length) (hm : m < (optL r l i).length) (hj : j ≤ l.length) : bq (WP r l q i m c j k) ≤ 1400000 := by
  have key : ∀ (n j : Nat) p, n ≤ l.length → bq (tot (ats r l n j) p) ≤ 1400000 := fun n j p hn => Nat.le_trans ((ats_wb h n j hn).bq (Nat.pow_pos (rdn_pos r)) (Nat.pow_pos (by omega)) p) (ap_sz h (by have := h.n; omega))
  have key2 : ∀ (n j : Nat) p, bq (tot (bgO r l i n j) p) ≤ 1400000 := fun n j p => Nat.le_trans ((bgO_wb h hi n j).bq (Nat.pow_pos (rdn_pos r)) (Nat.pow_pos (by omega)) p) (ap_sz h (by have := h.n; omega))
  have hp := (h.op.p i hi _ (getD_in op0 hm)).1
  unfold WP WO
  by_cases cj : j ≤ i
  · rw [if_pos cj, if_neg (by omega), Rat.add_zero]
    exact key _ _ _ hj
  · rw [if_neg cj]
    split
    · rename_i e
      have e2 : tot (bgO r l i (m + 1) j) (q.take k) = tot (bgO r l i m j) (q.take k) + tot (bm (· ++ ((optL r l i).getD m op0).wr) ((optL r l i).getD m op0).f.rat (ats r l i i)) (q.take k) := by
        rw [bgO_succ hm, tot_app, if_pos e.1]
      rw [← e2]; exact key2 _ _ _
    · rw [Rat.add_zero]; exact key2 _ _ _
end
end Go.E3
set_option linter.unusedVariables false
set_option maxRecDepth 20000
set_option maxHeartbeats 4000000
set_option synthInstance.maxSize 1000
namespace Go.E3
open Go Go.Ear Go.Proofs
structure RW {α : Type} (n i : Nat) (f : Nat → List α) (z : List α) (ls : List (List α)) : Prop where
  l : ls.length = n
  b : ∀ j, j < i → ls.getD j [] = f j
  z : ∀ j, i ≤ j → j < n → ls.getD j [] = z
theorem getD_setN {α : Type} (l : List α) (i j : Nat) {d x : α} (h : i < l.length) : (l.set i x).getD j d = if j = i then x else l.getD j d := by
  rw [List.getD_eq_getElem?_getD, List.getElem?_set]
  by_cases e : i = j
  · subst e; rw [if_pos rfl, if_pos h, if_pos rfl]; rfl
  · rw [if_neg e, if_neg (Ne.symm e), List.getD_eq_getElem?_getD]
theorem RW.start {α : Type} {n : Nat} {f : Nat → List α} {z : List α} : RW n 0 f z (List.replicate n z) := ⟨by simp, fun j hj => by omega, fun j _ hj => by rw [List.getD_eq_getElem?_getD, List.getElem?_replicate, if_pos hj]; rfl⟩
theorem RW.next {α : Type} {n i : Nat} {f : Nat → List α} {z x : List α} {ls : List (List α)} (h : RW n i f z ls) (hi : i < n) (hx : x = f i) : RW n (i + 1) f z (ls.set i x) := ⟨by simp [h.l], fun j hj => by
  rw [getD_setN _ _ _ (by rw [h.l]; exact hi)]
  split
  · rename_i e; rw [hx, e]
  · exact h.b j (by omega), fun j h1 h2 => by rw [getD_setN _ _ _ (by rw [h.l]; exact hi), if_neg (by omega)]; exact h.z j (by omega) h2⟩
theorem RW.all {α : Type} {n i : Nat} {f : Nat → List α} {z : List α} {ls : List (List α)} (h : RW n i f z ls) (hi : n ≤ i) : ls = (List.range n).map f := by
  apply List.ext_getElem?
  intro j
  rcases Nat.lt_or_ge j n with hj | hj
  · have := h.b j (by omega)
    rw [List.getD_eq_getElem?_getD, List.getElem?_eq_getElem (by rw [h.l]; exact hj)] at this
    rw [List.getElem?_eq_getElem (by rw [h.l]; exact hj), List.getElem?_map, List.getElem?_range hj]
    simpa using this
  · rw [List.getElem?_eq_none (by rw [h.l]; omega), List.getElem?_eq_none (by simp; omega)]
theorem map_rep {α : Type} (n : Nat) (x : α) : (List.range n).map (fun _ => x) = List.replicate n x := by
  induction n with
  | zero => rfl
  | succ n ih => rw [List.range_succ, List.map_append, ih, List.replicate_succ']; rfl
theorem RW.mx {α : Type} {n i s : Nat} {x : α} {z : List α} {ls : List (List α)} (h : RW n i (fun _ => List.replicate s x) z ls) (hi : n ≤ i) : ls = mxG n s fun _ _ => x := by
  rw [h.all hi]
  unfold mxG
  exact List.map_congr_left fun _ _ => (map_rep s x).symm
instance {n s : Nat} {f : Nat → Nat → Rat} : FtR (mxG n s fun j k => frK (f j k)) := ⟨fun x hx => by
  obtain ⟨j, _, rfl⟩ := List.mem_map.1 hx
  rw [show ((List.range s).map fun k => frK (f j k)) = ((List.range s).map (f j)).map frK by rw [List.map_map]; rfl]
  infer_instance⟩
instance weight_c {r : List Rw} {l q : List Int} {S T U : SV} [i : Vw (lv rR) S r] [j : Vw (lv rI) T l] [m : Vw (lv rI) U q] : Ct Tryz.prog 59 [S, T, U] (ApOk r l ∧ q.length ≤ 1000000) (kk (tot (atF r l) q)) := by
  refine ct3 i j m (ctI Tryz.call59 Tryz.func59 Tryz.ntmps59 rfl Tryz.results59 rfl [6, 13] fun h0 w0 ⟨ap, hq⟩ => ?_)
  have hn := ap.n
  repeat first | refine nx ?_ | intro _
  rename_i v6 v
  have hrep : (List.replicate (l.length + 1) vnil).length = l.length + 1 := by simp
  refine gLp (fun s : Nat × List Value × List (List Fr) => [(21, iv s.1)]) (fun s => [rA rW 85 v s.2.1, rZ rF 32 s.2.1 s.2.2]) (fun s => s.1 ≤ l.length + 1 ∧ s.2.1.length = l.length + 1 ∧ RW (l.length + 1) s.1 (fun _ => List.replicate (q.length + 1) fr0) [] s.2.2) (fun s => l.length + 1 - s.1) (0, List.replicate (l.length + 1) vnil, List.replicate (l.length + 1) []) ⟨by dsimp only; omega, by simp, .start⟩ (fun ⟨i, vs, ls⟩ ⟨hi, hv, hr⟩ => ?_)
  dsimp only at hi hv hr ⊢
  have hl := hr.l
  repeat first | refine nx ?_ | intro _
  refine gIf (fun c => ?_) fun c => ?_
  · repeat first | refine nx ?_ | intro _
    rename_i z
    exact gBk (i + 1, vs.set i z, ls.set i (List.replicate (q.length + 1) fr0)) ⟨by dsimp only; omega, by simp [hv], hr.next (by omega) rfl⟩ (by dsimp only; omega)
  · rw [hr.mx (by omega)]
    clear hr hl
    have hb1 : bq ((1 : Int) : Rat) ≤ 100 := by decide +kernel
    have hr0 : ((mxG (l.length + 1) (q.length + 1) fun x x_1 => fr0).getD 0 []).length = q.length + 1 := mxG_rlen (by omega)
    have hml : (mxG (l.length + 1) (q.length + 1) fun x x_1 => fr0).length = l.length + 1 := mxG_len
    repeat first | refine gDs 6 4 (by rfl) (by kernel_rfl) ?_ | refine nx ?_ | intro _
    rw [mxG_set (f' := fun j k => frK (WE r l q 0 j k)) (by omega) (by omega) (by rw [WE_zero 0 (Nat.zero_le _), if_pos ⟨rfl, rfl⟩]; rfl) (fun j' k' _ h2 h3 => by rw [WE_zero j' (by omega), if_neg h3, frK_zero])]
    clear hr0 hml hb1
    refine gLp (fun i : Nat => [(39, iv i)]) (fun i => [rZ rF 32 vs (mxG (l.length + 1) (q.length + 1) fun j k => frK (WE r l q i j k))]) (fun i => i ≤ l.length) (fun i => l.length - i) 0 (Nat.zero_le _) (fun i hi => ?_)
    repeat first | refine nx ?_ | intro _
    have hRw := fun x hx => (ap.s x hx).1
    have hrl := (rul_gd ap.hr).1
    refine gIf (fun c2 => ?_) fun c2 => ?_
    · have hop := opts_ok ap.hr (phB_gd ap.hl).1 c2
      have hol := hop.2.2
      repeat first | refine nx ?_ | intro _
      refine gLp (fun m : Nat => [(47, iv m)]) (fun m => [rZ rF 32 vs (mxG (l.length + 1) (q.length + 1) fun j k => frK (WO r l q i m j k))]) (fun m => m ≤ (optL r l i).length) (fun m => (optL r l i).length - m) 0 (Nat.zero_le _) (fun m hm => ?_) (h2 := ⟨mxG_congr fun j k _ _ => by rw [WO_zero], trivial⟩)
      repeat first | refine nx ?_ | intro _
      refine gIf (fun c3 => ?_) fun c3 => ?_
      · obtain ⟨pn, hpn, hp1, hp2, hgw⟩ : ∃ pn : Nat, ((optL r l i).getD m op0).pass = (pn : Int) ∧ 1 ≤ pn ∧ i + pn ≤ l.length ∧ GdP 4 ((optL r l i).getD m op0).wr := by
          obtain ⟨⟨a1, a2, a3, _⟩, a5, _⟩ := hop.1 _ (getD_in op0 c3)
          exact ⟨_, a3, a1, a2, a5⟩
        obtain ⟨hft, hbf⟩ := opts_ft (l := l) (i := i) ap.hr ap.s c2 _ (getD_in op0 c3)
        have hOp : (optL r l i).getD m op0 = ⟨((optL r l i).getD m op0).wr, (pn : Int), ((optL r l i).getD m op0).f⟩ := by rw [← hpn]
        haveI : FtF ((optL r l i).getD m op0).f := ⟨hft⟩
        haveI : IN ((optL r l i).getD m op0).pass pn := ⟨hpn⟩
        have hpn2 : ((optL r l i).getD m op0).pass.toNat = pn := by omega
        repeat first | refine nx ?_ | intro _
        rename_i v11
        refine gLp (fun c : Nat => [(56, iv c)]) (fun c => [rZ rF 32 vs (mxG (l.length + 1) (q.length + 1) fun j k => frK (WP r l q i m c j k))]) (fun c => c ≤ q.length + 1) (fun c => q.length + 1 - c) 0 (Nat.zero_le _) (fun c hc => ?_) (h2 := ⟨mxG_congr fun j k _ h2 => by rw [WP_zero _ _ _ (by omega)], trivial⟩)
        have hmr := fun j (h : j < l.length + 1) => mxG_rlen (s := q.length + 1) (f := fun j k => frK (WP r l q i m c j k)) h
        have hml : (mxG (l.length + 1) (q.length + 1) fun j k => frK (WP r l q i m c j k)).length = l.length + 1 := mxG_len
        have hmi := hmr i (by omega)
        have hmp := hmr (i + pn) (by omega)
        repeat first | refine nx ?_ | intro _
        refine gIf (fun c4 => ?_) fun c4 => ?_ <;> rw [mxG_rlen (by omega)] at c4
        · have hat : ((mxG (l.length + 1) (q.length + 1) fun j k => frK (WP r l q i m c j k)).getD i []).getD c fr0 = frK (tot (ats r l i i) (q.take c)) := by
            rw [mxG_at _ (by omega) (by omega)]
            rw [WP_self ap.op c2 c3]
          have hwl := hgw.1
          have hab : bq (tot (ats r l i i) (q.take c)) ≤ 1400000 := by
            have := WP_bq (q := q) (c := c) (k := c) ap c2 c3 hi
            rwa [WP_self ap.op c2 c3] at this
          have hfw : bf (((mxG (l.length + 1) (q.length + 1) fun j k => frK (WP r l q i m c j k)).getD i []).getD c fr0) ≤ 1400000 := by rw [hat, bf_frK]; exact hab
          have hwr : c + ((optL r l i).getD m op0).wr.length ≤ q.length → ((mxG (l.length + 1) (q.length + 1) fun j k => frK (WP r l q i m c j k)).getD (i + pn) []).getD (c + ((optL r l i).getD m op0).wr.length) fr0 = frK (WP r l q i m c (i + pn) (c + ((optL r l i).getD m op0).wr.length)) := fun h => by
            rw [mxG_at _ (by omega) (by omega)]
          have hwb := WP_bq (q := q) (c := c) (k := c + ((optL r l i).getD m op0).wr.length) ap c2 c3 hp2
          repeat first | refine gDs 18 18 (by rfl) (by kernel_rfl) ?_ | refine nx ?_ | intro _
          refine gIf (fun c5 => ?_) fun c5 => ?_
          · have hc5 := c5.1.2
            have hx := hwr hc5
            have hwe : bf (((mxG (l.length + 1) (q.length + 1) fun j k => frK (WP r l q i m c j k)).getD (i + pn) []).getD (c + ((optL r l i).getD m op0).wr.length) fr0) ≤ 1400000 := by rw [hx, bf_frK]; exact hwb
            have hmul : bq ((((mxG (l.length + 1) (q.length + 1) fun j k => frK (WP r l q i m c j k)).getD i []).getD c fr0).rat * ((optL r l i).getD m op0).f.rat) ≤ 3000000 := by
              rw [hat, frK_rat]
              have h1 := bq_mul (tot (ats r l i i) (q.take c)) ((optL r l i).getD m op0).f.rat
              have h3 := bq_rat hft
              have h5 : max (max ((optL r l i).getD m op0).f.n.length ((optL r l i).getD m op0).f.d.length) 1 ≤ bf ((optL r l i).getD m op0).f := Nat.le_refl _
              omega
            repeat first | refine gDs 25 23 (by rfl) (by kernel_rfl) ?_ | refine nx ?_ | intro _
            rw [mxG_set (f' := fun j k => frK (WP r l q i m (c + 1) j k)) (by omega) (by omega) (by
              have e := WP_new (r := r) (l := l) (q := q) (i := i) (m := m) (c := c)
              rw [hpn2] at e
              rw [e, hx, hat, frK_rat, frK_rat, add_yes c5.2]) (fun j' k' _ _ h3 => by rw [WP_succ (by rw [hpn2]; exact h3)])]
            exact gBk (c + 1) (by omega) (by omega)
          · repeat first | refine nx ?_ | intro _
            refine gBk (c + 1) (by omega) (by omega) (h2 := ?_)
            refine ⟨mxG_congr fun j k _ h2 => ?_, ⟨trivial, trivial, trivial, trivial, trivial⟩, trivial, ⟨trivial, trivial, trivial⟩, trivial⟩
            by_cases e : j = i + pn ∧ k = c + ((optL r l i).getD m op0).wr.length
            · obtain ⟨rfl, rfl⟩ := e
              have e := WP_new (r := r) (l := l) (q := q) (i := i) (m := m) (c := c)
              rw [hpn2] at e
              rw [e, add_no (by omega) (ats_wb ap i i hi).pos, Rat.add_zero]
              rintro ⟨h3, h4⟩
              refine c5 ⟨⟨?_, by omega⟩, h4⟩
              rw [hat, frK_rat, sgQ_pos]; exact h3
            · rw [WP_succ (by rw [hpn2]; exact e)]
        · repeat first | refine nx ?_ | intro _
          obtain rfl : c = q.length + 1 := by omega
          exact gBk (m + 1) (by omega) (by omega) (h2 := ⟨mxG_congr fun j k _ h2 => by rw [WP_last ap.op c2 c3 _ (by omega)], trivial, ⟨trivial, trivial, trivial⟩, trivial⟩)
      · obtain rfl : m = (optL r l i).length := by omega
        repeat first | refine nx ?_ | intro _
        exact gBk (i + 1) (by omega) (by omega) (h2 := ⟨mxG_congr fun j k _ h2 => by rw [WO_last], trivial, ⟨trivial, trivial, trivial⟩, trivial⟩)
    · obtain rfl : i = l.length := by omega
      have hmr := fun j (h : j < l.length + 1) => mxG_rlen (s := q.length + 1) (f := fun j k => frK (WE r l q l.length j k)) h
      have hml : (mxG (l.length + 1) (q.length + 1) fun j k => frK (WE r l q l.length j k)).length = l.length + 1 := mxG_len
      have hmi := hmr l.length (by omega)
      repeat first | refine nx ?_ | intro _
      rw [mxG_at _ (by omega) (by omega)]
      have e : WE r l q l.length l.length q.length = tot (atF r l) q := by
        unfold WE atF
        rw [Nat.min_self, List.take_length]
      rw [e]
      exact ⟨rfl, rfl, rfl⟩
end Go.E3
set_option linter.unusedVariables false
set_option maxRecDepth 20000
set_option maxHeartbeats 4000000
set_option synthInstance.maxSize 1000
namespace Go.E3
open Go Go.Ear Go.Proofs
def wgS (r : List Rw) (C : List (List En)) (q : List Int) : Rat := sQ (C.map fun c => wJ c * tot (atF r (phJ c)) q)
def wgT (l : List En) (r : List Rw) (ws : List ByteArray) (q : List Int) : Rat := if valB l = true ∧ rulB r = true ∧ ws.length ≤ 40 ∧ phB q 400 = true ∧ choE l ws = 0 then wgS r (chs (owns l ws)) q else 0
def wgE (l : List En) (r : List Rw) (ws : List ByteArray) (q : List Int) : Int := if valB l = true ∧ rulB r = true ∧ ws.length ≤ 40 ∧ phB q 400 = true then choE l ws else 2
theorem wgS_succ {r : List Rw} {C : List (List En)} {q : List Int} {k : Nat} (h : k < C.length) : wgS r (C.take (k + 1)) q = wgS r (C.take k) q + wJ (C.getD k []) * tot (atF r (phJ (C.getD k []))) q := by
  unfold wgS
  rw [List.take_succ_eq_append_getElem h, List.map_append, sQ_app, List.getD_eq_getElem?_getD, List.getElem?_eq_getElem h]
  show _ + (_ + sQ []) = _
  rw [show sQ [] = 0 from rfl, Rat.add_zero]; rfl
theorem wgS_tot (r : List Rw) (q : List Int) : ∀ C : List (List En), wgS r C q = tot (prB r C) q
  | [] => rfl
  | c :: C => by
    show _ + wgS r C q = tot (bm (· ++ []) (wJ c) (atF r (phJ c)) ++ prB r C) q
    rw [tot_app, wgS_tot r q C]
    have h := tot_bm_suf (wJ c) [] q (atF r (phJ c))
    rw [List.append_nil] at h
    rw [h, Rat.mul_comm]
theorem wg_bq {r : List Rw} {C : List (List En)} {D : Nat} (h : PrOk r C D) (k : Nat) (q : List Int) : bq (wgS r (C.take k) q) ≤ 10000000 := by
  rw [wgS_tot]; exact prB_bq h k q
theorem at_bq {r : List Rw} {l q : List Int} (ap : ApOk r l) : bq (tot (atF r l) q) ≤ 1400000 :=
  Nat.le_trans ((ats_wb ap _ _ (Nat.le_refl _)).bq (Nat.pow_pos (rdn_pos r)) (Nat.pow_pos (by omega)) q) (ap_sz ap (by have := ap.n; omega))
theorem cB4 {α β γ δ : Type} {v : α → SV} {x : α} {v2 : β → SV} {y : β} {v3 : γ → SV} {z : γ} {v4 : δ → SV} {u : δ} {P : Program} {f : FuncId} {sd : Prop} {S T U W R : SV} (i : Vw v S x) (j : Vw v2 T y) (k : Vw v3 U z) (m : Vw v4 W u) {l : List SV} (c : Ct P f (v x :: v2 y :: v3 z :: v4 u :: l) sd R) : Ct P f (S :: T :: U :: W :: l) sd R := ⟨c.fn, fun hs {h w vs} s o => by
  match vs, o with
  | _ :: _ :: _ :: _ :: _, o => exact c.h hs s ⟨i.h o.1, j.h o.2.1, k.h o.2.2.1, m.h o.2.2.2.1, o.2.2.2.2⟩⟩
instance Weight_c {l : List En} {r : List Rw} {ws : List ByteArray} {q : List Int} {S T U W : SV} [i : Vw lxv S l] [j : Vw (lv rR) T r] [m : Vw (lv rQ) U ws] [o : Vw (lv rI) W q] : Ct Tryz.prog 18 [S, T, U, W] (PnS l r ws ∧ q.length ≤ 1000000) (.tp [kk (wgT l r ws q), iv (wgE l r ws q)]) := by
  refine cB4 i j m o (ctI Tryz.call18 Tryz.func18 Tryz.ntmps18 rfl Tryz.results18 rfl [8, 12] fun h0 w0 ⟨s, hq⟩ => ?_)
  have hRw := fun x hx => (s.r.2 x hx).1
  have hr1 := s.r.1
  have hlx := s.lx
  have hn := s.n
  repeat first | refine nx ?_ | intro _
  refine gIf (fun c => ?_) fun c => ?_ <;> repeat first | refine nx ?_ | intro _
  · have hc : ¬ (valB l = true ∧ rulB r = true ∧ ws.length ≤ 40 ∧ phB q 400 = true) := fun ⟨x, y, z, u⟩ => c.elim (fun h => h.elim (fun h => h.elim (fun h => h x) fun h => h y) fun h => absurd z (by omega)) fun h => h u
    have e1 : wgT l r ws q = 0 := if_neg fun ⟨x, y, z, u, _⟩ => hc ⟨x, y, z, u⟩
    have e2 : wgE l r ws q = 2 := if_neg hc
    rw [e1, e2, frK_zero]
    exact ⟨⟨rfl, rfl, rfl⟩, rfl⟩
  · have hc : valB l = true ∧ rulB r = true ∧ ws.length ≤ 40 ∧ phB q 400 = true := ⟨Classical.byContradiction fun h => c (.inl (.inl (.inl h))), Classical.byContradiction fun h => c (.inl (.inl (.inr h))), Classical.byContradiction fun h => c (.inl (.inr (by omega))), Classical.byContradiction fun h => c (.inr h)⟩
    obtain ⟨c1, c2, c3, c8⟩ := hc
    have hsr : Srt l := valB_srt c1
    have hsd : LxS l ∧ Srt l := ⟨hlx, hsr⟩
    repeat first | refine nx ?_ | intro _
    refine gIf (fun c4 => ?_) fun c4 => ?_ <;> repeat first | refine nx ?_ | intro _
    · have e1 : wgT l r ws q = 0 := if_neg fun ⟨_, _, _, _, u⟩ => c4 u
      have e2 : wgE l r ws q = choE l ws := if_pos ⟨c1, c2, c3, c8⟩
      rw [e1, e2, frK_zero]
      exact ⟨⟨rfl, rfl, rfl⟩, rfl⟩
    · have c4 := Classical.not_not.1 c4
      obtain ⟨d1, d2, d3⟩ := choE_ok c4
      have ok := pn_ok s c1 c2 c3 d1 d2
      have hol : (owns l ws).length = ws.length := List.length_map ..
      have hOL : (owns l ws).length ≤ 1000000 ∧ ∀ o ∈ owns l ws, o.length ≤ 1000000 := ⟨by omega, fun o ho => by
        obtain ⟨w, _, rfl⟩ := List.mem_map.1 ho
        exact Nat.le_trans (List.length_filter_le _ _) (by have := hlx.1; omega)⟩
      have hmem : ∀ c ∈ chs (owns l ws), c.length ≤ 100 ∧ ∀ e ∈ c, EnS e := fun c hc => by
        obtain ⟨a, b⟩ := chs_mem hc
        refine ⟨by omega, fun e he => ?_⟩
        obtain ⟨o, ho, heo⟩ := b e he
        obtain ⟨w, _, rfl⟩ := List.mem_map.1 ho
        exact hlx.2 e (ownE_sub heo).1
      rw [d3]
      have e1 : wgT l r ws q = wgS r (chs (owns l ws)) q := if_pos ⟨c1, c2, c3, c8, c4⟩
      have e2 : wgE l r ws q = 0 := (if_pos ⟨c1, c2, c3, c8⟩).trans c4
      rw [e1, e2]
      rename_i v12
      have hz : frK (wgS r ((chs (owns l ws)).take 0) q) = fr0 := frK_zero
      have hz1 : false = (frK (wgS r ((chs (owns l ws)).take 0) q)).neg := by rw [hz]; rfl
      have hz2 : (frK (wgS r ((chs (owns l ws)).take 0) q)).n = [] := by rw [hz]; rfl
      have hz3 : (frK (wgS r ((chs (owns l ws)).take 0) q)).d = [] := by rw [hz]; rfl
      refine gRgS (σ := Unit) (τ := Unit) (fun k _ => True) (fun k _ => [rV v12 [bv (frK (wgS r ((chs (owns l ws)).take k) q)).neg, lv rU (frK (wgS r ((chs (owns l ws)).take k) q)).n, lv rU (frK (wgS r ((chs (owns l ws)).take k) q)).d] 32]) () (fun _ => False) (fun _ => []) trivial (by rfl) (fun hr k _ lp o o' D hk hI => ?_) (fun D _ hI => ?_) (fun D _ hx => ?_)
      · have hcm : (chs (owns l ws)).getD k [] ∈ chs (owns l ws) := getD_in [] hk
        have ap := ok.ap hcm
        have hsj := hmem _ hcm
        have h1 := wg_bq ok k q
        have h2 := wJ_bq2 ok hcm
        have h3 := at_bq (q := q) ap
        have h4 := bq_mul (wJ ((chs (owns l ws)).getD k [])) (tot (atF r (phJ ((chs (owns l ws)).getD k []))) q)
        repeat first | refine gDs 9 8 (by rfl) (by kernel_rfl) ?_ | refine nx ?_ | intro _
        rw [← wgS_succ hk]
        exact gMe () trivial
      · have h1 := wg_bq ok (chs (owns l ws)).length q
        rw [List.take_length] at h1 ⊢
        repeat first | refine nx ?_ | intro _
        exact ⟨⟨trivial, trivial, trivial⟩, trivial⟩
      · exact hx.elim
end Go.E3
set_option linter.unusedVariables false
set_option maxRecDepth 20000
set_option maxHeartbeats 4000000
set_option synthInstance.maxSize 1000
namespace Go.E3
open Go Go.Ear Go.Proofs
section
variable {v : Value} {l : List Bool} {e : TypeId} {B : List Res} {b : Bool}
instance idxB_c [ha : HA B v Bool rB e l] : CtB Tryz.prog 203 [ov v, bv b] B (l.length ≤ 1099511627776) (iv (idxP (fun x => b == x) l)) := by
  refine (ctB Tryz.call203 Tryz.func203 Tryz.ntmps203 rfl Tryz.results203 rfl [] fun h0 w0 h1 => ?_)
  repeat first | refine nx ?_ | intro _
  refine gLp (fun k : Nat => [(8, iv k)]) (fun _ => []) (fun k => k ≤ l.length ∧ (l.take k).any (fun x => b == x) = false) (fun k => l.length - k) 0 ⟨Nat.zero_le _, rfl⟩ (fun k ⟨hk, hn⟩ => ?_)
  repeat first | refine nx ?_ | intro _
  refine gIf (fun c => ?_) fun c => ?_ <;> repeat first | refine nx ?_ | intro _
  · refine gIf (fun c2 => ?_) fun c2 => ?_ <;> repeat first | refine nx ?_ | intro _
    · exact (idx_found false c hn c2).symm
    · exact gBk (k + 1) ⟨by omega, any_take_succ false c hn (by simpa using c2)⟩ (by omega)
  · exact (idx_none (by omega) hn).symm
instance cntB_c [ha : HA B v Bool rB e l] : CtB Tryz.prog 171 [ov v, bv b] B (l.length ≤ 1099511627776) (bv (l.any fun x => b == x)) := by
  refine (ctB Tryz.call171 Tryz.func171 Tryz.ntmps171 rfl Tryz.results171 rfl [] fun h0 w0 h1 => ?_)
  repeat first | refine nx ?_ | intro _
  exact idx_any
end
def rowB (r : List Rw) (l q : List Int) (i j : Nat) : Bool := (List.range (q.length + 1)).any fun k => decide (0 < WE r l q i j k)
def aliveB (r : List Rw) (l q : List Int) : Bool := (List.range (l.length + 1)).any fun j => decide (l.length - 4 ≤ j) && rowB r l q (l.length - 4) j
theorem any_mx {n s : Nat} {f : Nat → Nat → Rat} {j : Nat} (h : j < n) : ((mxG n s fun j k => decide (0 < f j k)).getD j []).any (fun x => true == x) = (List.range s).any fun k => decide (0 < f j k) := by
  rw [mxG_row h, List.any_map]
  congr 1
  funext k
  show (true == decide (0 < f j k)) = _
  cases decide (0 < f j k) <;> rfl
theorem WP_nonneg {r : List Rw} {l q : List Int} (h : ApOk r l) {i m c j k : Nat} (hi : i < l.length) (hm : m < (optL r l i).length) (hj : j ≤ l.length) : 0 ≤ WP r l q i m c j k := by
  have hp := (h.op.p i hi _ (getD_in op0 hm)).1
  obtain ⟨_, _, ho1, _⟩ := (opts_ok h.hr (phB_gd h.hl).1 hi).1 _ (getD_in op0 hm)
  have h1 : 0 ≤ WO r l q i m j k := by
    unfold WO
    split
    · exact ((ats_wb h j j hj).tot _).1
    · exact ((bgO_wb h hi m j).tot _).1
  have hpo : PosB (bm (· ++ ((optL r l i).getD m op0).wr) ((optL r l i).getD m op0).f.rat (ats r l i i)) := (ats_wb h i i (by omega)).pos.bm (by
    obtain ⟨_, _, a, _⟩ := (opts_ok h.hr (phB_gd h.hl).1 hi).1 _ (getD_in op0 hm)
    exact a)
  have h2 := tot_nonneg hpo (q.take k)
  unfold WP
  split
  · grind
  · rw [Rat.add_zero]; exact h1
instance alive_c {r : List Rw} {l q : List Int} {S T U : SV} [i : Vw (lv rR) S r] [j : Vw (lv rI) T l] [m : Vw (lv rI) U q] : Ct Tryz.prog 132 [S, T, U] (ApOk r l ∧ q.length ≤ 1000000) (bv (aliveB r l q)) := by
  refine ct3 i j m (ctI Tryz.call132 Tryz.func132 Tryz.ntmps132 rfl Tryz.results132 rfl [] fun h0 w0 ⟨ap, hq⟩ => ?_)
  have hn := ap.n
  repeat first | refine nx ?_ | intro _
  rename_i v
  have hrep : (List.replicate (l.length + 1) vnil).length = l.length + 1 := by simp
  refine gLp (fun s : Nat × List Value × List (List Bool) => [(25, iv s.1)]) (fun s => [rA rW 220 v s.2.1, rZ rB 4 s.2.1 s.2.2]) (fun s => s.1 ≤ l.length + 1 ∧ s.2.1.length = l.length + 1 ∧ RW (l.length + 1) s.1 (fun _ => List.replicate (q.length + 1) false) [] s.2.2) (fun s => l.length + 1 - s.1) (0, List.replicate (l.length + 1) vnil, List.replicate (l.length + 1) []) ⟨by dsimp only; omega, by simp, .start⟩ (fun ⟨i, vs, ls⟩ ⟨hi, hv, hr⟩ => ?_)
  dsimp only at hi hv hr ⊢
  have hl := hr.l
  repeat first | refine nx ?_ | intro _
  refine gIf (fun c => ?_) fun c => ?_
  · repeat first | refine nx ?_ | intro _
    rename_i z
    exact gBk (i + 1, vs.set i z, ls.set i (List.replicate (q.length + 1) false)) ⟨by dsimp only; omega, by simp [hv], hr.next (by omega) rfl⟩ (by dsimp only; omega)
  · rw [hr.mx (by omega)]
    clear hr hl
    have hr0 : ((mxG (l.length + 1) (q.length + 1) fun x x_1 => false).getD 0 []).length = q.length + 1 := mxG_rlen (by omega)
    have hml : (mxG (l.length + 1) (q.length + 1) fun x x_1 => false).length = l.length + 1 := mxG_len
    repeat first | refine nx ?_ | intro _
    rw [mxG_set (f' := fun j k => decide (0 < WE r l q 0 j k)) (by omega) (by omega) (by rw [WE_zero 0 (Nat.zero_le _), if_pos ⟨rfl, rfl⟩]; rfl) (fun j' k' _ h2 h3 => by rw [WE_zero j' (by omega), if_neg h3]; rfl)]
    clear hr0 hml
    refine gLp (fun i : Nat => [(10, iv i)]) (fun i => [rZ rB 4 vs (mxG (l.length + 1) (q.length + 1) fun j k => decide (0 < WE r l q (min i (l.length - 4)) j k))]) (fun i => i ≤ l.length ∧ ∀ j, j < i → l.length - 4 ≤ j → rowB r l q (l.length - 4) j = false) (fun i => l.length - i) 0 ⟨Nat.zero_le _, fun j h => absurd h (Nat.not_lt_zero _)⟩ (fun i ⟨hi, hno⟩ => ?_) (h2 := ⟨by rw [Nat.zero_min], trivial⟩)
    have hRw := fun x hx => (ap.s x hx).1
    have hrl := (rul_gd ap.hr).1
    repeat first | refine nx ?_ | intro _
    refine gIf (fun c2 => ?_) fun c2 => ?_
    · have hmr := mxG_rlen (s := q.length + 1) (f := fun j k => decide (0 < WE r l q (min i (l.length - 4)) j k)) (show i < l.length + 1 by omega)
      have hml : (mxG (l.length + 1) (q.length + 1) fun j k => decide (0 < WE r l q (min i (l.length - 4)) j k)).length = l.length + 1 := mxG_len
      repeat first | refine nx ?_ | intro _
      refine gIf (fun c3 => ?_) fun c3 => ?_
      · have hmin : min i (l.length - 4) = l.length - 4 := by omega
        rw [hmin] at hmr hml ⊢
        have hany : ((mxG (l.length + 1) (q.length + 1) fun j k => decide (0 < WE r l q (l.length - 4) j k)).getD i []).any (fun x => true == x) = rowB r l q (l.length - 4) i := any_mx (by omega)
        repeat first | refine nx ?_ | intro _
        refine gIf (fun c4 => ?_) fun c4 => ?_ <;> repeat first | refine nx ?_ | intro _
        · rw [hany] at c4
          have : aliveB r l q = true := List.any_eq_true.2 ⟨i, List.mem_range.2 (by omega), by rw [c4, Bool.and_true]; exact decide_eq_true (by omega)⟩
          rw [this]
        · rw [hany] at c4
          refine gBk (i + 1) ⟨by omega, fun j h1 h2 => ?_⟩ (by omega) (h2 := ⟨by rw [show min (i + 1) (l.length - 4) = l.length - 4 by omega], trivial, trivial⟩)
          by_cases e : j = i
          · rw [e]; simpa using c4
          · exact hno j (by omega) h2
      · have hmin : min i (l.length - 4) = i := by omega
        rw [hmin] at hmr hml ⊢
        have hop := opts_ok ap.hr (phB_gd ap.hl).1 c2
        have hol := hop.2.2
        repeat first | refine nx ?_ | intro _
        refine gLp (fun m : Nat => [(59, iv m)]) (fun m => [rZ rB 4 vs (mxG (l.length + 1) (q.length + 1) fun j k => decide (0 < WO r l q i m j k))]) (fun m => m ≤ (optL r l i).length) (fun m => (optL r l i).length - m) 0 (Nat.zero_le _) (fun m hm => ?_) (h2 := ⟨mxG_congr fun j k _ _ => by rw [WO_zero], trivial⟩)
        repeat first | refine nx ?_ | intro _
        refine gIf (fun c4 => ?_) fun c4 => ?_
        · obtain ⟨pn, hpn, hp1, hp2, hgw⟩ : ∃ pn : Nat, ((optL r l i).getD m op0).pass = (pn : Int) ∧ 1 ≤ pn ∧ i + pn ≤ l.length ∧ GdP 4 ((optL r l i).getD m op0).wr := by
            obtain ⟨⟨a1, a2, a3, _⟩, a5, _⟩ := hop.1 _ (getD_in op0 c4)
            exact ⟨_, a3, a1, a2, a5⟩
          obtain ⟨_, _, hof, _⟩ := hop.1 _ (getD_in op0 c4)
          obtain ⟨hft, hbf⟩ := opts_ft (l := l) (i := i) ap.hr ap.s c2 _ (getD_in op0 c4)
          haveI : FtF ((optL r l i).getD m op0).f := ⟨hft⟩
          haveI : IN ((optL r l i).getD m op0).pass pn := ⟨hpn⟩
          have hpn2 : ((optL r l i).getD m op0).pass.toNat = pn := by omega
          have hwl := hgw.1
          repeat first | refine nx ?_ | intro _
          rename_i v12
          refine gLp (fun c : Nat => [(68, iv c)]) (fun c => [rZ rB 4 vs (mxG (l.length + 1) (q.length + 1) fun j k => decide (0 < WP r l q i m c j k))]) (fun c => c ≤ q.length + 1) (fun c => q.length + 1 - c) 0 (Nat.zero_le _) (fun c hc => ?_) (h2 := ⟨mxG_congr fun j k _ h2 => by rw [WP_zero _ _ _ (by omega)], trivial⟩)
          have hmr := fun j (h : j < l.length + 1) => mxG_rlen (s := q.length + 1) (f := fun j k => decide (0 < WP r l q i m c j k)) h
          have hml : (mxG (l.length + 1) (q.length + 1) fun j k => decide (0 < WP r l q i m c j k)).length = l.length + 1 := mxG_len
          have hmi := hmr i (by omega)
          have hmp := hmr (i + pn) (by omega)
          repeat first | refine nx ?_ | intro _
          refine gIf (fun c5 => ?_) fun c5 => ?_ <;> rw [mxG_rlen (by omega)] at c5
          · have hat : ((mxG (l.length + 1) (q.length + 1) fun j k => decide (0 < WP r l q i m c j k)).getD i []).getD c false = decide (0 < tot (ats r l i i) (q.take c)) := by
              rw [mxG_at _ (by omega) (by omega)]
              rw [WP_self ap.op c2 c4]
            repeat first | refine gDs 16 16 (by rfl) (by kernel_rfl) ?_ | refine nx ?_ | intro _
            refine gIf (fun c6 => ?_) fun c6 => ?_
            · have hc6 := c6.1.2
              repeat first | refine nx ?_ | intro _
              rw [mxG_set (f' := fun j k => decide (0 < WP r l q i m (c + 1) j k)) (by omega) (by omega) (by
                have e := WP_new (r := r) (l := l) (q := q) (i := i) (m := m) (c := c)
                rw [hpn2] at e
                rw [e, add_yes c6.2]
                have h1 := WP_nonneg (q := q) (c := c) (k := c + ((optL r l i).getD m op0).wr.length) ap c2 c4 hp2
                have h2 : 0 < tot (ats r l i i) (q.take c) := by
                  have := c6.1.1
                  rw [hat] at this
                  exact of_decide_eq_true this
                have h3 := Rat.mul_pos h2 hof
                exact decide_eq_true (by grind)) (fun j' k' _ _ h3 => by rw [WP_succ (by rw [hpn2]; exact h3)])]
              exact gBk (c + 1) (by omega) (by omega)
            · repeat first | refine nx ?_ | intro _
              refine gBk (c + 1) (by omega) (by omega) (h2 := ?_)
              refine ⟨mxG_congr fun j k _ h2 => ?_, ⟨trivial, trivial, trivial, trivial, trivial⟩, trivial, trivial⟩
              by_cases e : j = i + pn ∧ k = c + ((optL r l i).getD m op0).wr.length
              · obtain ⟨rfl, rfl⟩ := e
                have e := WP_new (r := r) (l := l) (q := q) (i := i) (m := m) (c := c)
                rw [hpn2] at e
                rw [e, add_no (by omega) (ats_wb ap i i hi).pos, Rat.add_zero]
                rintro ⟨h3, h4⟩
                refine c6 ⟨⟨?_, by omega⟩, h4⟩
                rw [hat]; exact decide_eq_true h3
              · rw [WP_succ (by rw [hpn2]; exact e)]
          · repeat first | refine nx ?_ | intro _
            obtain rfl : c = q.length + 1 := by omega
            exact gBk (m + 1) (by omega) (by omega) (h2 := ⟨mxG_congr fun j k _ h2 => by rw [WP_last ap.op c2 c4 _ (by omega)], trivial, trivial⟩)
        · obtain rfl : m = (optL r l i).length := by omega
          repeat first | refine nx ?_ | intro _
          exact gBk (i + 1) ⟨by omega, fun j h1 h2 => by omega⟩ (by omega) (h2 := ⟨mxG_congr fun j k _ h2 => by rw [WO_last, show min (i + 1) (l.length - 4) = i + 1 by omega], trivial, trivial⟩)
    · obtain rfl : i = l.length := by omega
      have hmin : min l.length (l.length - 4) = l.length - 4 := by omega
      rw [hmin]
      have hmr := mxG_rlen (s := q.length + 1) (f := fun j k => decide (0 < WE r l q (l.length - 4) j k)) (show l.length < l.length + 1 by omega)
      have hml : (mxG (l.length + 1) (q.length + 1) fun j k => decide (0 < WE r l q (l.length - 4) j k)).length = l.length + 1 := mxG_len
      have hany : ((mxG (l.length + 1) (q.length + 1) fun j k => decide (0 < WE r l q (l.length - 4) j k)).getD l.length []).any (fun x => true == x) = rowB r l q (l.length - 4) l.length := any_mx (by omega)
      repeat first | refine nx ?_ | intro _
      rw [hany]
      by_cases c5 : l.length < 5
      · have h1 : aliveB r l q = true := by
          refine List.any_eq_true.2 ⟨0, List.mem_range.2 (by omega), ?_⟩
          have h2 : rowB r l q (l.length - 4) 0 = true := by
            refine List.any_eq_true.2 ⟨0, List.mem_range.2 (by omega), ?_⟩
            rw [show l.length - 4 = 0 by omega, WE_zero 0 (Nat.zero_le _), if_pos ⟨rfl, rfl⟩]
            decide
          rw [h2, Bool.and_true]
          exact decide_eq_true (by omega)
        rw [h1, decide_eq_true (show (l.length : Int) - 5 < 0 by omega), Bool.or_true]
      · rw [decide_eq_false (show ¬ (l.length : Int) - 5 < 0 by omega), Bool.or_false, Bool.eq_iff_iff]
        constructor
        · intro h
          exact List.any_eq_true.2 ⟨l.length, List.mem_range.2 (by omega), by rw [h, Bool.and_true]; exact decide_eq_true (by omega)⟩
        · intro h
          obtain ⟨j, h1, h2⟩ := List.any_eq_true.1 h
          rw [Bool.and_eq_true, decide_eq_true_iff] at h2
          by_cases e : j = l.length
          · rw [← e]; exact (by rw [e] at h2 ⊢; exact h2.2)
          · have := hno j (by have := List.mem_range.1 h1; omega) h2.1
            rw [this] at h2
            exact absurd h2.2 (by decide)
end Go.E3
set_option linter.unusedVariables false
set_option maxRecDepth 20000
set_option maxHeartbeats 4000000
set_option synthInstance.maxSize 1000
namespace Go.E3
open Go Go.Ear Go.Proofs
section
variable {P : Program} {n : Nat} {c : Bool} {loc env : EL} {B : List Res} {ms : List Nat} {d : Nat} {x y : Operand} {t u : TypeId} {s1 s2 : ByteArray}
theorem OpW.catStr {ρ : Env} {w : World} {K : Env → World → Prop} {ty : TypeId} {pos : String} {af : Array Edge} {g : Option (Nat × Bool)} (hx : ev n ρ x = .string s1) (hy : ev n ρ y = .string s2) (h : (Op.stringOp .add s1 s2).run P w = .ok (.string (s1 ++ s2)) w) (hb : (binOp .add t (.string s1) (.string s2)) = Op.stringOp .add s1 s2)
    (hk : K (upd ρ d (.string (s1 ++ s2))) w) : OpW P n ⟨some d, .binOp .add t x y u, ty, pos, af, g⟩ ρ w K := by
  refine OpW.valD ?_ hk
  have he : (eqGuard .add t x y (.string s1) (.string s2)).run P w = .ok () w := by unfold eqGuard; split <;> rfl
  simp only [execOp, hx, hy, Sem.run_bind, he, Result.andThen, hb, h]; rfl
instance [lx : Lu n c loc env x (.cv (.string s1))] [ly : Lu n c loc env y (.cv (.string s2))] : St P n c loc env B ms d (.binOp .add t x y u) (s1.size + s2.size ≤ 9223372036854775807) (.cv (.string (s1 ++ s2))) := .p fun q hs _ _ _ _ w s _ _ _ _ _ kk => OpW.catStr (cvE (lx.h q (s.f x))) (cvE (ly.h q (s.f y))) (by
  have h : ¬ ((s1.size + s2.size : Nat) : Int) > IntKind.i64.max := by
    show ¬ ((s1.size + s2.size : Nat) : Int) > 9223372036854775807
    omega
  unfold Op.stringOp
  simp only [if_neg h]; rfl) rfl (kk _ rfl)
end
def keyW (ws : List ByteArray) : ByteArray := ws.foldl (fun k w => k ++ (w ++ ⟨#[32]⟩)) ⟨#[]⟩
def spL : List UInt8 → List UInt8 → List ByteArray
  | _, [] => []
  | acc, b :: t => if b = 32 then ⟨acc.toArray⟩ :: spL [] t else spL (acc ++ [b]) t
def spW (k : ByteArray) : List ByteArray := spL [] k.data.toList
def NoS (w : ByteArray) : Prop := ∀ b ∈ w.data.toList, b ≠ 32
theorem spL_word {t : List UInt8} : ∀ {w acc : List UInt8}, (∀ b ∈ w, b ≠ 32) → spL acc (w ++ 32 :: t) = ⟨(acc ++ w).toArray⟩ :: spL [] t
  | [], acc, _ => by
    show spL acc (32 :: t) = _
    rw [spL, if_pos rfl, List.append_nil]
  | b :: w, acc, h => by
    show spL acc (b :: (w ++ 32 :: t)) = _
    rw [spL, if_neg (h b (List.mem_cons_self ..)), spL_word fun x hx => h x (List.mem_cons_of_mem _ hx)]
    rw [List.append_assoc]; rfl
theorem keyW_data (ws : List ByteArray) : (keyW ws).data.toList = ws.flatMap fun w => w.data.toList ++ [32] := by
  unfold keyW
  have : ∀ (ws : List ByteArray) (k : ByteArray), (ws.foldl (fun k w => k ++ (w ++ ⟨#[32]⟩)) k).data.toList = k.data.toList ++ ws.flatMap fun w => w.data.toList ++ [32] := by
    intro ws
    induction ws with
    | nil => intro k; simp
    | cons w ws ih =>
      intro k
      rw [List.foldl_cons, ih, ByteArray.data_append, ByteArray.data_append, List.flatMap_cons]
      simp
  rw [this]; rfl
theorem spW_key {ws : List ByteArray} (h : ∀ w ∈ ws, NoS w) : spW (keyW ws) = ws := by
  unfold spW
  rw [keyW_data]
  induction ws with
  | nil => rfl
  | cons w ws ih =>
    rw [List.flatMap_cons, List.append_assoc]
    show spL [] (w.data.toList ++ 32 :: _) = _
    rw [spL_word (h w (List.mem_cons_self ..))]
    show _ :: spL [] (ws.flatMap fun w => w.data.toList ++ [32]) = _
    rw [ih fun x hx => h x (List.mem_cons_of_mem _ hx)]
    rfl
theorem keyW_succ {c : List En} {k : Nat} (h : k < c.length) : keyW ((c.take (k + 1)).map En.w) = keyW ((c.take k).map En.w) ++ ((c.getD k en0).w ++ ⟨#[32]⟩) := by
  unfold keyW
  rw [List.take_succ_eq_append_getElem h, List.map_append, List.foldl_append, List.getD_eq_getElem?_getD, List.getElem?_eq_getElem h]; rfl
theorem keyW_size {c : List En} (h : ∀ e ∈ c, e.w.size ≤ 1000000) : ∀ k, (keyW ((c.take k).map En.w)).size ≤ k * 1000001
  | 0 => Nat.zero_le _
  | k + 1 => by
    have ih := keyW_size h k
    by_cases hk : k < c.length
    · rw [keyW_succ hk, ByteArray.size_append, ByteArray.size_append]
      have h1 := h _ (getD_in en0 hk)
      have h2 : (⟨#[32]⟩ : ByteArray).size = 1 := rfl
      omega
    · rw [List.take_of_length_le (by omega)] at ih ⊢
      exact Nat.le_trans ih (Nat.mul_le_mul_right _ (Nat.le_succ k))
theorem words_succ {c : List En} {k : Nat} (h : k < c.length) : (c.take (k + 1)).map En.w = (c.take k).map En.w ++ [(c.getD k en0).w] := by
  rw [List.take_succ_eq_append_getElem h, List.map_append, List.getD_eq_getElem?_getD, List.getElem?_eq_getElem h]; rfl
def mkG (k : ByteArray) (x : Rat) : Rg := ⟨spW k, frK x⟩
abbrev MG (b : Bag ByteArray) : List (ByteArray × Rg) → Prop := fun l => MK (fun k : ByteArray => k) mkG l b
@[reducible] def rdc (l : List En) (r : List Rw) (q : List Int) (most : Int) (m : Value) : List SV := [lv rE l, lv rR r, lv rI q, iv most, ov m]
theorem addR_b {v m : Value} {l c : List En} {r : List Rw} {q : List Int} {most : Int} {f : Fr} {b : Bag ByteArray} {B1 : List Res} [ft : FtF f] : CtR Tryz.prog 133 [ov v, lv rE c, fv f] (rV v (rdc l r q most m) 130 :: rMp rgv m (MG b) :: B1) ((c.length ≤ 1000 ∧ ∀ e ∈ c, EnS e ∧ NoS e.w) ∧ bq (tot b (keyW (c.map En.w))) + bf f ≤ 134217000) Unit (fun _ => .tp []) (fun _ => rV v (rdc l r q most m) 130 :: rMp rgv m (MG (b ++ [(keyW (c.map En.w), f.rat)])) :: B1) := by
  refine (ctR Tryz.call133 Tryz.func133 Tryz.ntmps133 rfl Tryz.results133 rfl [10] fun h0 w0 ⟨⟨hp, hen⟩, hq⟩ => ?_)
  refine gOp m fun l0 mk => ?_
  repeat first | refine nx ?_ | intro _
  have hks := keyW_size (c := c) fun e he => (hen e he).1.1.1
  refine gNl rQ 9 ?_
  refine gLp (fun s : Nat × Value => [(13, iv s.1), (6, .cv (.string (keyW ((c.take s.1).map En.w)))), (7, ov s.2)]) (fun s => [rA rQ 9 s.2 ((c.take s.1).map En.w)]) (fun s => s.1 ≤ c.length) (fun s => c.length - s.1) (0, .slice none 0 0) (Nat.zero_le _) (fun ⟨k, u⟩ hk => ?_)
  dsimp only at hk ⊢
  have hk1 := hks k
  have h32 : (⟨#[32]⟩ : ByteArray).size = 1 := rfl
  repeat first | refine nx ?_ | intro _
  refine gIf (fun c2 => ?_) fun c2 => ?_
  · have hws := (hen _ (getD_in en0 c2)).1.1.1
    have hsa : ((c.getD k en0).w ++ (⟨#[32]⟩ : ByteArray)).size = (c.getD k en0).w.size + 1 := by rw [ByteArray.size_append]; rfl
    have hml : ((c.take k).map En.w).length = k := by rw [List.length_map, List.length_take]; omega
    have hke := keyW_succ c2
    have hwe := words_succ c2
    repeat first | refine nx ?_ | intro _
    rename_i u2
    rw [← hwe]
    refine gBk (k + 1, u2) (by dsimp only; omega) (by dsimp only; omega) (h1 := by rw [hke]; repeat' (first | refine And.intro ?_ ?_ | rfl | trivial))
  · rw [List.take_of_length_le (by omega)]
    have hsp : spW (keyW (c.map En.w)) = c.map En.w := spW_key fun w hw => by
      obtain ⟨e, he, rfl⟩ := List.mem_map.1 hw
      exact (hen e he).2
    obtain ⟨m1, m2⟩ := mk.get (fun p q h => h) (keyW (c.map En.w))
    have hfin := mk.add (fun p q h => h) (keyW (c.map En.w)) f.rat
    refine gFz u ?_
    by_cases hh : hasB b (keyW (c.map En.w))
    · have e := m1 hh
      repeat first | refine nx ?_ | intro _
      rw [e]
      dsimp only [Option.getD_some, mkG]
      repeat first | refine gDs 7 6 (by rfl) (by kernel_rfl) ?_ | refine nx ?_ | intro _
      unfold mkG at hfin
      rw [hsp] at hfin
      exact gEr () (h2 := ⟨⟨trivial, trivial, trivial, trivial, trivial⟩, hfin, trivial⟩)
    · have e := m2 hh
      repeat first | refine nx ?_ | intro _
      rw [e]
      dsimp only [Option.getD_none, rg0]
      have hz : bf fr0 ≤ 1 := by decide
      rw [tot_none hh, bq_zero] at hq
      have hr : fr0.rat = 0 := by rw [← frK_zero, frK_rat]
      rw [tot_none hh, ← hr] at hfin
      repeat first | refine gDs 7 6 (by rfl) (by kernel_rfl) ?_ | refine nx ?_ | intro _
      unfold mkG at hfin
      rw [hsp] at hfin
      exact gEr () (h2 := ⟨⟨trivial, trivial, trivial, trivial, trivial⟩, hfin, trivial⟩)
end Go.E3
