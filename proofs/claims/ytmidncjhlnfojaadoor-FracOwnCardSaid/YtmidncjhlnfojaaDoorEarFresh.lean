/- About package frac: EarFresh. -/
import Derived.Test.YtmidncjhlnfojaaDoorEarShort
import Derived.Test.YtmidncjhlnfojaaDoorEarLaw2
set_option linter.all false
namespace Go.Ear
def SF (h0 h : PH) (v : Value) : Prop := ∃ base l c, v = .slice base l c ∧ (0 < l → ∃ b off arr e, base = some ⟨b, off, none⟩ ∧ h0 b = none ∧ h b = some (.cells arr e (0, 0)) ∧ off + l ≤ arr.size)
section
variable {h0 h1 h h' : PH} {v : Value}
theorem SF.mono (u : SF h0 h v) (e : h.le h') : SF h0 h' v := by
  obtain ⟨base, l, c, rfl, k⟩ := u
  refine ⟨base, l, c, rfl, fun hl => ?_⟩
  obtain ⟨b, off, arr, t, e1, e2, e3, e4⟩ := k hl
  exact ⟨b, off, arr, t, e1, e2, e _ _ e3, e4⟩
theorem none_le (e : h0.le h1) {b : Nat} (hb : h1 b = none) : h0 b = none := by
  cases q : h0 b with
  | none => rfl
  | some o => rw [e b o q] at hb; cases hb
theorem SF.weak (e : h0.le h1) (u : SF h1 h v) : SF h0 h v := by
  obtain ⟨base, l, c, rfl, k⟩ := u
  refine ⟨base, l, c, rfl, fun hl => ?_⟩
  obtain ⟨b, off, arr, t, e1, e2, e3, e4⟩ := k hl
  exact ⟨b, off, arr, t, e1, none_le e e2, e3, e4⟩
theorem SF.nil (h0 h : PH) (b : Option Addr) (c : Nat) : SF h0 h (.slice b 0 c) := ⟨b, 0, c, rfl, fun hl => by omega⟩
theorem stab_SF (h0 : PH) : Stab fun h _ x => SF h0 h x := fun _ _ _ _ _ g u => u.mono g.le
def Uf (h0 h : PH) (v : Value) (l : List Nat) : Prop := U h v l ∧ SF h0 h v
theorem Uf.mono {l : List Nat} (u : Uf h0 h v l) (e : h.le h') : Uf h0 h' v l := ⟨u.1.mono e, u.2.mono e⟩
theorem Uf.weak {l : List Nat} (e : h0.le h1) (u : Uf h1 h v l) : Uf h0 h v l := ⟨u.1, u.2.weak e⟩
theorem stab_Uf (h0 : PH) (l : List Nat) : Stab fun h _ x => Uf h0 h x l := fun _ _ _ _ _ g u => u.mono g.le
def Kf (h0 h : PH) (v : Value) (q : Rat) : Prop := Kn h v q ∧ ∃ s x y, v = .agg #[s, x, y] ∧ SF h0 h x ∧ SF h0 h y
theorem Kf.mono {q : Rat} (u : Kf h0 h v q) (e : h.le h') : Kf h0 h' v q := by
  obtain ⟨a, s, x, y, e1, b, c⟩ := u; exact ⟨a.mono e, s, x, y, e1, b.mono e, c.mono e⟩
theorem Kf.weak {q : Rat} (e : h0.le h1) (u : Kf h1 h v q) : Kf h0 h v q := by
  obtain ⟨a, s, x, y, e1, b, c⟩ := u; exact ⟨a, s, x, y, e1, b.weak e, c.weak e⟩
theorem Kf.cast {q r : Rat} (e : q = r) (u : Kf h0 h v q) : Kf h0 h v r := e ▸ u
theorem stab_Kf (h0 : PH) (q : Rat) : Stab fun h _ x => Kf h0 h x q := fun _ _ _ _ _ g u => u.mono g.le
theorem Kf.mk {s x y : Value} {q : Rat} (k : Kn h (.agg #[s, x, y]) q) (a : SF h0 h x) (b : SF h0 h y) : Kf h0 h (.agg #[s, x, y]) q := ⟨k, s, x, y, rfl, a, b⟩
theorem Kf.sf {s x y : Value} {q : Rat} (k : Kf h0 h (.agg #[s, x, y]) q) : SF h0 h x ∧ SF h0 h y := by
  obtain ⟨_, s', x', y', e, a, b⟩ := k
  cases e; exact ⟨a, b⟩
theorem Kfz (h0 h : PH) : Kf h0 h (.agg #[.bool false, .slice none 0 0, .slice none 0 0]) 0 := Kf.mk (Kz h) (SF.nil _ _ _ _) (SF.nil _ _ _ _)
theorem uaz_size (k : IntKind) (l : List Nat) (z : Array Value) : l.length ≤ (uaz k l z).size := by
  unfold uaz; rw [Array.size_append, ua_size]; omega
theorem Uf.thaw {l : List Nat} {w : World} {r : Value} {t : TypeId} (f : Fit l) (hr : ∃ b c z, r = .slice (some ⟨b, 0, none⟩) l.length c ∧ h b = none ∧ w.heap.size ≤ b ∧ h' b = some (.cells (uaz .u32 l z) t (0, 0)) ∧ l.length ≤ c) : Uf h h' r l := by
  obtain ⟨b, c, z, rfl, h1, h2, h3, h4⟩ := hr
  refine ⟨U.ownz h3 f rfl h4, _, _, _, rfl, fun _ => ⟨b, 0, _, t, rfl, h1, h3, ?_⟩⟩
  rw [Nat.zero_add]; exact uaz_size _ _ _
theorem Uf.ofNil {r : Value} (u : U h r []) : Uf h0 h r [] := by
  obtain ⟨b, c, rfl, _⟩ := U.shape u
  exact ⟨u, SF.nil _ _ _ _⟩
end
structure WF where
  s : Bool
  b1 : Option Addr
  l1 : Nat
  c1 : Nat
  b2 : Option Addr
  l2 : Nat
  c2 : Nat
def wf0 : WF := ⟨false, none, 0, 0, none, 0, 0⟩
def rpW : Rp WF where
  k := 3
  R := fun _ cs m => cs = [.bool m.s, .slice m.b1 m.l1 m.c1, .slice m.b2 m.l2 m.c2]
  len := fun e => by rw [e]; rfl
  one := fun e c hc => by
    rw [e] at hc
    simp only [List.mem_cons, List.not_mem_nil, or_false] at hc
    rcases hc with rfl | rfl | rfl <;> rfl
  mono := fun e _ => e
def SW (h0 h : PH) (bl : Nat) (base : Option Addr) (l : Nat) : Prop := 0 < l → ∃ b off arr e, base = some ⟨b, off, none⟩ ∧ b ≠ bl ∧ h0 b = none ∧ h b = some (.cells arr e (0, 0)) ∧ off + l ≤ arr.size
theorem SW.of {h0 h h' : PH} {bl : Nat} {base : Option Addr} {l c : Nat} (u : SF h0 h (.slice base l c)) (hn : h bl = none) (e : h.le h') : SW h0 h' bl base l := by
  obtain ⟨base', l', c', ev, k⟩ := u
  cases ev
  intro hl
  obtain ⟨b, off, arr, t, e1, e2, e3, e4⟩ := k hl
  exact ⟨b, off, arr, t, e1, (by rintro rfl; rw [e3] at hn; cases hn), e2, e _ _ e3, e4⟩
theorem SW.mono {h0 h h' : PH} {bl : Nat} {base : Option Addr} {l : Nat} (u : SW h0 h bl base l) (e : h.le h') : SW h0 h' bl base l := fun hl => by
  obtain ⟨b, off, arr, t, e1, e2, e3, e4, e5⟩ := u hl
  exact ⟨b, off, arr, t, e1, e2, e3, e _ _ e4, e5⟩
def SWs (h0 h : PH) (bl : Nat) : List WF → Prop
  | [] => True
  | m :: ws => (SW h0 h bl m.b1 m.l1 ∧ SW h0 h bl m.b2 m.l2) ∧ SWs h0 h bl ws
theorem SWs.at {h0 h : PH} {bl : Nat} : ∀ {ws : List WF}, SWs h0 h bl ws → ∀ i, SW h0 h bl (ws.getD i wf0).b1 (ws.getD i wf0).l1 ∧ SW h0 h bl (ws.getD i wf0).b2 (ws.getD i wf0).l2
  | [], _, i => ⟨fun hl => absurd hl (by simp [wf0]), fun hl => absurd hl (by simp [wf0])⟩
  | m :: ws, u, 0 => u.1
  | m :: ws, u, i + 1 => by simpa using SWs.at u.2 i
theorem SWs.mono {h0 h h' : PH} {bl : Nat} (e : h.le h') : ∀ {ws : List WF}, SWs h0 h bl ws → SWs h0 h' bl ws
  | [], _ => trivial
  | _ :: _, u => ⟨⟨u.1.1.mono e, u.1.2.mono e⟩, SWs.mono e u.2⟩
def Wb : List WF → Prop
  | [] => True
  | m :: ws => (m.l1 ≤ 1000000 ∧ m.l2 ≤ 1000000) ∧ Wb ws
theorem Wb.at : ∀ {ws : List WF}, Wb ws → ∀ i, (ws.getD i wf0).l1 ≤ 1000000 ∧ (ws.getD i wf0).l2 ≤ 1000000
  | [], _, i => by simp [wf0]
  | m :: ws, u, 0 => u.1
  | m :: ws, u, i + 1 => by simpa using Wb.at u.2 i
def LWF (h0 h : PH) (v : Value) : Prop := ∃ (bl : Nat) (ws : List WF) (arr : Array Value) (t : TypeId), v = .slice (some ⟨bl, 0, none⟩) 8 8 ∧ ws.length = 8 ∧ h bl = some (.cells arr t (0, 0)) ∧ RelA rpW h arr ws ∧ SWs h0 h bl ws ∧ Wb ws
theorem LWF.mono {h0 h h' : PH} {v : Value} (u : LWF h0 h v) (e : h.le h') : LWF h0 h' v := by
  obtain ⟨bl, ws, arr, t, e1, e2, e3, e4, e5, e6⟩ := u
  exact ⟨bl, ws, arr, t, e1, e2, e _ _ e3, e4.mono e, e5.mono e, e6⟩
theorem stab_LWF (h0 : PH) : Stab fun h _ x => LWF h0 h x := fun _ _ _ _ _ g u => u.mono g.le
theorem LWF.shape {h0 h : PH} {v : Value} (u : LWF h0 h v) : ∃ b, v = .slice (some ⟨b, 0, none⟩) 8 8 := by
  obtain ⟨bl, _, _, _, e1, _⟩ := u; exact ⟨bl, e1⟩
def Wr (h : PH) (lo : Nat) (w : World) (base : Option Addr) (l : Nat) : Prop := 0 < l → ∃ b off arr e, base = some ⟨b, off, none⟩ ∧ h b = none ∧ lo ≤ b ∧ w.heap[b]? = some (.cells arr e (0, 0)) ∧ off + l ≤ arr.size
theorem Wr.put {h : PH} {lo b o : Nat} {w w' : World} {arr : Array Value} {e : TypeId} {v : Value} {base : Option Addr} {l : Nat} (hb : w.heap[b]? = some (.cells arr e (0, 0)))
    (pp : Put w w' b (.cells (arr.setIfInBounds o v) e (0, 0))) (q : Wr h lo w base l) : Wr h lo w' base l := fun hl => by
  obtain ⟨b', off, arr', e', e1, e2, e3, e4, e5⟩ := q hl
  by_cases hbb : b' = b
  · subst hbb
    rw [hb] at e4
    cases e4
    exact ⟨b', off, _, e, e1, e2, e3, pp.at_, by simpa using e5⟩
  · exact ⟨b', off, arr', e', e1, e2, e3, (pp.other b' hbb).trans e4, e5⟩
def PH.one (h6 hx : PH) (bl : Nat) : PH := fun i => bif Nat.beq i bl then h6 bl else hx i
theorem PH.one_at (h6 hx : PH) (bl : Nat) : PH.one h6 hx bl bl = h6 bl := by unfold PH.one; rw [beq_self]; rfl
theorem PH.one_ne (h6 hx : PH) {bl i : Nat} (h : i ≠ bl) : PH.one h6 hx bl i = hx i := by unfold PH.one; rw [beq_ne h]; rfl
theorem rewind {h hx h6 : PH} {w w6 : World} {v : Value} (g : Gr h w h6 w6) (l1 : h.le hx) (l2 : hx.le h6) (q : LWF hx h6 v) :
    ∃ hl ws, hx.le hl ∧ Gr h w hl w6 ∧ LR rpW hl v ws ∧ ws.length = 8 ∧ Wb ws ∧ ∀ i, i < 8 → Wr hl w.heap.size w6 (ws.getD i wf0).b1 (ws.getD i wf0).l1 ∧ Wr hl w.heap.size w6 (ws.getD i wf0).b2 (ws.getD i wf0).l2 := by
  obtain ⟨bl, ws, arr, t, rfl, e2, e3, e4, e5, e6⟩ := q
  have hle : PH.le hx (PH.one h6 hx bl) := fun b o hb => by
    by_cases e : b = bl
    · subst e; rw [PH.one_at]; exact l2 b o hb
    · rw [PH.one_ne _ _ e]; exact hb
  have hle6 : PH.le (PH.one h6 hx bl) h6 := fun b o hb => by
    by_cases e : b = bl
    · subst e; rw [PH.one_at] at hb; exact hb
    · rw [PH.one_ne _ _ e] at hb; exact l2 b o hb
  have hat := PH.one_at h6 hx bl
  refine ⟨PH.one h6 hx bl, ws, hle, ⟨fun b o hb => g.sat b o (hle6 b o hb), g.ext, l1.trans hle, fun b hb => g.fresh b fun hn => hb ?_⟩, ?_, e2, e6, ?_⟩
  · exact none_le hle6 hn
  · have hr : RelA rpW (PH.one h6 hx bl) arr ws := by
      obtain ⟨css, z, a, b⟩ := e4
      refine ⟨css, z, a, ?_⟩
      clear a e2 e3 e5 e6 hat hle hle6
      induction css generalizing ws with
      | nil => cases ws with
        | nil => trivial
        | cons _ _ => exact b.elim
      | cons cs css ih => cases ws with
        | nil => exact b.elim
        | cons m ws => exact ⟨b.1, ih ws b.2⟩
    exact LR.own (hat.trans e3) hr e2 (Nat.le_refl _)
  · intro i _
    have key : ∀ base l, SW hx h6 bl base l → Wr (PH.one h6 hx bl) w.heap.size w6 base l := by
      intro base l u hl
      obtain ⟨b, off, arr', t', q1, q2, q3, q4, q5⟩ := u hl
      refine ⟨b, off, arr', t', q1, ?_, ?_, g.sat b _ q4, q5⟩
      · rw [PH.one_ne _ _ q2]; exact q3
      · rcases g.fresh b (by rw [q4]; exact fun h => by cases h) with q6 | q6
        · exact absurd (none_le l1 q3) q6
        · exact q6
    exact ⟨key _ _ (e5.at i).1, key _ _ (e5.at i).2⟩
theorem sumF_one (a : Fr) : sumF [a] = a.rat := by show 0 + a.rat = _; rw [Rat.zero_add]
theorem prodF_one (a : Fr) : prodF [a] = a.rat := by show 1 * a.rat = _; rw [Rat.one_mul]
end Go.Ear
