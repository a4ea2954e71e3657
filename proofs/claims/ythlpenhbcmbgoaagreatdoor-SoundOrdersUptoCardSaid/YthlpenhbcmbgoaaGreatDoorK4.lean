/- K4: a part of the proofs about what is clipped and stored: how the program's functions run, and what they compute, for every input. -/
import Derived.Test.YthlpenhbcmbgoaaGreatDoorK3
set_option linter.all false
set_option linter.unusedVariables false
namespace Go.E3
open Go Go.Ear
class D0 (α : Type) (d : outParam α) : Prop where t : True
instance : D0 Int 0 := ⟨trivial⟩
instance : D0 Nat 0 := ⟨trivial⟩
instance : D0 Bool false := ⟨trivial⟩
instance {α : Type} : D0 (List α) [] := ⟨trivial⟩
class Rk {α : Type} (r : Rp α) (k : outParam Nat) : Prop where h : r.k = k
def mkRp {α : Type} (k : Nat) (c : α → List SV) (hl : ∀ x, (c x).length = k) (ho : ∀ x, (c x).all SV.one = true) : Rp α where
  k := k
  R := fun h cs x => denL h (c x) cs
  len := fun {h cs x} u => by rw [← hl x]; exact u.length
  one := fun {h cs x} u => u.one (ho x)
  mono := fun u e => u.mono e
def rW : Rp Value := mkRp 1 (fun x => [ov x]) (fun _ => rfl) (fun _ => rfl)
instance : RpC rW (fun x => [ov x]) := ⟨Iff.rfl⟩
instance : Rk rW 1 := ⟨rfl⟩
instance : D0 Value vnil := ⟨trivial⟩
class TStr (P : Program) (t : TypeId) : Prop where h : IsUnd P t .string
theorem cut_part {arr : Array Value} {off n o m : Nat} {vs : List Value} (h : cut arr off n = vs) (ho : o + m ≤ n) : cut arr (off + o) m = (vs.drop o).take m := by
  subst h
  unfold cut
  rw [List.drop_take, List.take_take, List.drop_drop, Nat.min_eq_left (by omega)]
theorem cut_all {arr : Array Value} {h : PH} {l : List SV} (u : denL h l arr.toList) : denL h l (cut arr 0 l.length) := by
  have : cut arr 0 l.length = arr.toList := by unfold cut; rw [← u.length, List.drop_zero]; exact List.take_of_length_le (Nat.le_refl _)
  rw [this]; exact u
structure At (w : World) (b off : Nat) (vs : List Value) : Prop where
  h : ∃ arr t fz, w.heap[b]? = some (.cells arr t fz) ∧ off + vs.length ≤ arr.size ∧ cut arr off vs.length = vs
section
variable {P : Program} {n : Nat} {ρ : Env} {w : World} {K : Env → World → Prop} {d : Tmp} {ty : TypeId} {pos : String} {af : Array Edge} {g : Option (Nat × Bool)} {t : TypeId} {x : Operand} {b off o m : Nat} {vs : List Value} {l l' : List SV} {S : SV} {h : PH}
theorem At.load1 (a : At w b off vs) (u : denL h l vs) [nt : Nth l o S] (ta : IsAgg P t false) (hx : ev n ρ x = .pointer (some ⟨b, off + o, none⟩)) (k : ∀ v, den h S v → K (upd ρ d v) w) : OpW P n ⟨some d, .load t x, ty, pos, af, g⟩ ρ w K := by
  obtain ⟨arr, tt, fz, hb, hs, hc⟩ := a.h
  obtain ⟨v, hv, hd⟩ := u.at nt.h
  have hlt : o < vs.length := by
    rcases Nat.lt_or_ge o vs.length with q | q
    · exact q
    · rw [List.getElem?_eq_none q] at hv; cases hv
  exact OpW.load1 ta hx hb (cut_cell hc o hlt hv) (k v hd)
theorem At.loadA (a : At w b off vs) (u : denL h l vs) [pr : Prt l o m l'] (ta : IsAgg P t true) (tz : IsSize P t m) (hx : ev n ρ x = .pointer (some ⟨b, off + o, none⟩)) (k : ∀ v, den h (.ag l') v → K (upd ρ d v) w) : OpW P n ⟨some d, .load t x, ty, pos, af, g⟩ ρ w K := by
  obtain ⟨arr, tt, fz, hb, hs, hc⟩ := a.h
  have hl := u.length
  have h2 := pr.h.2
  refine OpW.loadA ta tz hx hb (by omega) (cut_part hc (by omega)) (k _ ⟨_, rfl, ?_⟩)
  rw [← pr.h.1]
  exact (u.drop o).take m
end
section
variable {α : Type} {P : Program} {n : Nat} {c : Bool} {loc env : EL} {B : List Res} {ms : List Nat} {d : Nat} {x y z : Operand} {S T : SV} {t u e : TypeId} {k : IntKind} {i j : Int} {a b m o o2 : Nat} {l l' : List SV} {v : Value} {r : Rp α} {q q' : List α} {d0 : α} {f : α → List SV}
theorem pkE {h : PH} {h0 : PH} {w0 w : World} {x : Value} (g : Gr h0 w0 h w) (u : den h (.pk l o) x) : ∃ b off vs, x = .pointer (some ⟨b, off + o, none⟩) ∧ At w b off vs ∧ denL h l vs := by
  obtain ⟨b, off, arr, t, fz, a1, a2, a3, a4⟩ := u
  refine ⟨b, off, _, a2, ⟨arr, t, fz, g.sat _ _ a1, ?_, ?_⟩, a4⟩
  · rw [a4.length]; exact a3
  · rw [a4.length]
class HC (B : List Res) (v : Value) (l : outParam (List SV)) : Prop where h : ∀ {w0 h w}, Sat h w → OwnB w0 B h w → ∃ b off vs, v = .pointer (some ⟨b, off, none⟩) ∧ At w b off vs ∧ denL h l vs
instance [i : HV B v l t] : HC B v l := ⟨fun _ o => by
  obtain ⟨b, arr, e, a, u⟩ := i.h o
  refine ⟨b, 0, arr.toList, e, ⟨arr, t, _, a, by simp, ?_⟩, u⟩
  unfold cut; rw [List.drop_zero]; exact List.take_of_length_le (Nat.le_refl _)⟩
theorem hvE [i : HC B v l] {h0 : PH} {w0 : World} {ρ : Env} {h : PH} {w : World} {os : List Operand} (s : Sx h0 w0 loc env B os ρ h w) : ∃ b off vs, v = .pointer (some ⟨b, off, none⟩) ∧ At w b off vs ∧ denL h l vs := i.h s.gr.sat s.ow
theorem haE [i : HA B v α r e q] [rc : RpC r f] [D0 α d0] {h0 : PH} {w0 : World} {ρ : Env} {h : PH} {w : World} {os : List Operand} (s : Sx h0 w0 loc env B os ρ h w) {j : Nat} (hj : j < q.length) : ∃ b l c vs, v = .slice (some ⟨b, 0, none⟩) l c ∧ At w b (j * r.k) vs ∧ denL h (f (q.getD j d0)) vs := by
  have o := i.own s.ow
  obtain ⟨b, cap, arr, e, _, _, hb, _, u⟩ := o.block (by intro e; rw [e] at hj; cases hj)
  obtain ⟨cs, hc, hs, hr⟩ := u.at d0 hj
  have hl := r.len hr
  exact ⟨b, _, _, cs, e, ⟨arr, _, _, hb, by rw [hl]; exact hs, by rw [hl]; exact hc⟩, rc.h.1 hr⟩
instance [fa : FA P t a o2] [lx : Lu n c loc env x (.pk l o)] [ad : AddN o o2 b] : St P n c loc env B ms d (.fieldAddr t x a) True (.pk l b) := .p fun q _ _ _ _ _ _ s _ _ _ _ _ k => by
  obtain ⟨fs, f, sz, h1, h2, h3, h4, h5⟩ := fa.h
  have u := lx.h q (s.f x)
  have ⟨b, off, arr, t, fz, a1, a2, a3, a4⟩ := u
  exact OpW.fieldAddr h1 h2 h3 h4 a2 (by rw [h5]) (k _ ⟨b, off, arr, t, fz, a1, by rw [← ad.h, Nat.add_assoc], a3, a4⟩)
instance [fa : FA P t a o2] [lx : Lu n c loc env x (ov v)] [hv : HC B v l] : St P n c loc env B ms d (.fieldAddr t x a) True (fo v o2) := .p fun q _ _ _ _ _ _ s _ _ _ _ _ k => by
  obtain ⟨fs, f, sz, h1, h2, h3, h4, h5⟩ := fa.h
  have u := lx.h q (s.f x)
  obtain ⟨b, off, vs, e, _⟩ := hvE (v := v) s
  exact OpW.fieldAddr h1 h2 h3 h4 (u.1.trans e) (by rw [h5]) (k _ ⟨b, off, e, rfl⟩)
instance [fa : FA P t a o2] [lx : Lu n c loc env x (fo v o)] [ad : AddN o o2 b] : St P n c loc env B ms d (.fieldAddr t x a) True (fo v b) := .p fun q _ _ _ _ _ _ s _ _ _ _ _ k => by
  obtain ⟨fs, f, sz, h1, h2, h3, h4, h5⟩ := fa.h
  obtain ⟨b, off, e1, e2⟩ := lx.h q (s.f x)
  exact OpW.fieldAddr h1 h2 h3 h4 e2 (by rw [h5]) (k _ ⟨b, off, e1, by rw [← ad.h, Nat.add_assoc]⟩)
instance [fa : FA P t a o2] [lx : Lu n c loc env x (pa v m b o)] [ad : AddN o o2 e] : St P n c loc env B ms d (.fieldAddr t x a) True (pa v m b e) := .p fun q _ _ _ _ _ _ s _ _ _ _ _ k => by
  obtain ⟨fs, f, sz, h1, h2, h3, h4, h5⟩ := fa.h
  obtain ⟨b, _, _, e1, e2⟩ := lx.h q (s.f x)
  exact OpW.fieldAddr h1 h2 h3 h4 e2 (by rw [h5]) (k _ ⟨b, _, _, e1, by rw [← ad.h, Nat.add_assoc]⟩)
instance {sd : Prop} [ts : TS P t e] [tz : TZ P e m] [lx : Lu n c loc env x (lv r q)] [ly : Lu n c loc env y (.cv (.int k i))] [tn : TN i a sd] [rk : Rk r m] [rc : RpC r f] [D0 α d0] : St P n c loc env B ms d (.indexAddr t x y) (sd ∧ a < q.length) (.pk (f (q.getD a d0)) 0) := .p fun qc hsd _ _ _ _ _ s _ _ _ _ _ k => by
  have u : LR r _ _ q := lx.h qc (s.f x)
  obtain ⟨base, cp, e, hc⟩ := u.shape
  rw [e] at u
  refine OpW.indexL d0 rk.h.symm ts.h tz.h e u (cvE (ly.h qc (s.f y))) hsd.2 (tn.e hsd.1) fun b o arr e' fz cs hb hcu hsz hR => k _ ?_
  have hl := r.len hR
  rw [rk.h] at hl
  have dl := rc.h.1 hR
  have dll := dl.length
  refine ⟨b, o, arr, e', fz, hb, by simp, by omega, ?_⟩
  rw [← dll, hl, hcu]; exact dl
instance {sd : Prop} [ts : TS P t e] [tz : TZ P e m] [lx : Lu n c loc env x (ov v)] [ha : HA B v α r u q] [ly : Lu n c loc env y (.cv (.int k i))] [tn : TN i a sd] [rk : Rk r m] : St P n c loc env B ms d (.indexAddr t x y) (sd ∧ a < q.length) (pa v m a 0) := .p fun qc hsd _ _ _ _ _ s _ _ _ _ _ k => by
  have u := lx.h qc (s.f x)
  obtain ⟨b, cap, arr, e, _, _, hb, hcp, _⟩ := (ha.own s.ow).block (by intro e; rw [e] at hsd; exact absurd hsd.2 (by simp))
  have hi := tn.e hsd.1
  have := hsd.2
  exact OpW.indexAddr ts.h tz.h (u.1.trans e) (cvE (ly.h qc (s.f y))) (by omega) rfl (k _ ⟨b, _, _, e, by rw [hi]; simp⟩)
instance [ta : TA P t false] [lx : Lu n c loc env x (.pk l o)] [nt : Nth l o S] : St P n c loc env B ms d (.load t x) True S := .p fun q _ _ _ _ _ _ s _ _ _ _ _ k => by
  obtain ⟨b, off, vs, e, a, u⟩ := pkE s.gr (lx.h q (s.f x))
  exact a.load1 u ta.h e k
instance [ta : TA P t true] [tz : TZ P t m] [lx : Lu n c loc env x (.pk l o)] [pr : Prt l o m l'] : St P n c loc env B ms d (.load t x) True (.ag l') := .p fun q _ _ _ _ _ _ s _ _ _ _ _ k => by
  obtain ⟨b, off, vs, e, a, u⟩ := pkE s.gr (lx.h q (s.f x))
  exact a.loadA u ta.h tz.h e k
instance [ta : TA P t false] [lx : Lu n c loc env x (fo v o)] [hv : HC B v l] [nt : Nth l o S] : St P n c loc env B ms d (.load t x) True S := .p fun q _ _ _ _ _ _ s _ _ _ _ _ k => by
  obtain ⟨b, off, vs, e, a, u⟩ := hvE (v := v) s
  obtain ⟨b', off', e1, e2⟩ := lx.h q (s.f x)
  rw [e] at e1; cases e1
  exact a.load1 (o := o) u ta.h e2 k
instance [ta : TA P t true] [tz : TZ P t m] [lx : Lu n c loc env x (fo v o)] [hv : HC B v l] [pr : Prt l o m l'] : St P n c loc env B ms d (.load t x) True (.ag l') := .p fun q _ _ _ _ _ _ s _ _ _ _ _ k => by
  obtain ⟨b, off, vs, e, a, u⟩ := hvE (v := v) s
  obtain ⟨b', off', e1, e2⟩ := lx.h q (s.f x)
  rw [e] at e1; cases e1
  exact a.loadA (o := o) u ta.h tz.h e2 k
instance [ta : TA P t false] [lx : Lu n c loc env x (ov v)] [hv : HC B v l] [nt : Nth l 0 S] : St P n c loc env B ms d (.load t x) True S := .p fun q _ _ _ _ _ _ s _ _ _ _ _ k => by
  obtain ⟨b, off, vs, e, a, u⟩ := hvE (v := v) s
  exact a.load1 (o := 0) u ta.h ((lx.h q (s.f x)).1.trans e) k
instance [ta : TA P t true] [tz : TZ P t m] [lx : Lu n c loc env x (ov v)] [hv : HC B v l] [pr : Prt l 0 m l'] : St P n c loc env B ms d (.load t x) True (.ag l') := .p fun q _ _ _ _ _ _ s _ _ _ _ _ k => by
  obtain ⟨b, off, vs, e, a, u⟩ := hvE (v := v) s
  exact a.loadA (o := 0) u ta.h tz.h ((lx.h q (s.f x)).1.trans e) k
instance [ta : TA P t false] [lx : Lu n c loc env x (pa v m a o)] [ha : HA B v α r e q] [rk : Rk r m] [rc : RpC r f] [D0 α d0] [nt : Nth (f (q.getD a d0)) o S] : St P n c loc env B ms d (.load t x) (a < q.length) S := .p fun qc hsd _ _ _ _ _ s _ _ _ _ _ k => by
  obtain ⟨b, _, _, vs, e, at_, u⟩ := haE (v := v) (d0 := d0) (f := f) s hsd
  obtain ⟨b', _, _, e1, e2⟩ := lx.h qc (s.f x)
  rw [e] at e1; cases e1
  exact at_.load1 (o := o) u ta.h (by rw [e2, rk.h]) k
instance [ta : TA P t true] [tz : TZ P t b] [lx : Lu n c loc env x (pa v m a o)] [ha : HA B v α r e q] [rk : Rk r m] [rc : RpC r f] [D0 α d0] [pr : Prt (f (q.getD a d0)) o b l'] : St P n c loc env B ms d (.load t x) (a < q.length) (.ag l') := .p fun qc hsd _ _ _ _ _ s _ _ _ _ _ k => by
  obtain ⟨b, _, _, vs, e, at_, u⟩ := haE (v := v) (d0 := d0) (f := f) s hsd
  obtain ⟨b', _, _, e1, e2⟩ := lx.h qc (s.f x)
  rw [e] at e1; cases e1
  exact at_.loadA (o := o) u ta.h tz.h (by rw [e2, rk.h]) k
instance [ts : TS P t e] [lx : Lu n c loc env x (lv r q)] : St P n c loc env B ms d (.call ⟨.builtin .len, [x].toArray, [t].toArray⟩) True (.cv (.int .i64 (q.length : Int))) := .p fun qc _ _ _ _ _ _ s _ _ _ _ _ k => by
  have u : LR r _ _ q := lx.h qc (s.f x)
  obtain ⟨base, cp, e, hc⟩ := u.shape
  exact OpW.lenS ts.h e (k _ rfl)
instance [ts : TS P t e] [lx : Lu n c loc env x (ov v)] [ha : HA B v α r u q] : St P n c loc env B ms d (.call ⟨.builtin .len, [x].toArray, [t].toArray⟩) True (.cv (.int .i64 (q.length : Int))) := .p fun qc _ _ _ _ _ _ s _ _ _ _ _ k => by
  obtain ⟨base, cp, e, hc⟩ := (ha.own s.ow).shape
  exact OpW.lenS ts.h ((lx.h qc (s.f x)).1.trans e) (k _ rfl)
instance {s : ByteArray} [ts : TStr P t] [lx : Lu n c loc env x (.cv (.string s))] : St P n c loc env B ms d (.call ⟨.builtin .len, [x].toArray, [t].toArray⟩) True (.cv (.int .i64 (s.size : Int))) := .p fun qc _ _ _ _ _ _ s _ _ _ _ _ k =>
  OpW.lenStr ts.h (cvE (lx.h qc (s.f x))) (k _ rfl)
section
variable [lx : Lu n c loc env x (.cv (.int k i))] [ly : Lu n c loc env y (.cv (.int k j))] [a1 : IN i a] [b1 : IN j b]
instance : St P n c loc env B ms d (.call ⟨.builtin .max, [x, y].toArray, [t, u].toArray⟩) True (.cv (.int k ((max a b : Nat) : Int))) := .p fun q _ _ _ _ _ _ s _ _ _ _ _ k => OpW.maxI (cvE (lx.h q (s.f x))) (cvE (ly.h q (s.f y))) (fun w => by rw [a1.e, b1.e]; exact max_nat w) (k _ rfl)
instance : St P n c loc env B ms d (.call ⟨.builtin .min, [x, y].toArray, [t, u].toArray⟩) True (.cv (.int k ((min a b : Nat) : Int))) := .p fun q _ _ _ _ _ _ s _ _ _ _ _ k => OpW.minI (cvE (lx.h q (s.f x))) (cvE (ly.h q (s.f y))) (fun w => by rw [a1.e, b1.e]; exact min_nat w) (k _ rfl)
end
instance [lx : Lu n c loc env x (.tp l)] [nt : Nth l a S] : St P n c loc env B ms d (.extract x a) True S := .p fun q _ _ _ _ _ _ s _ _ _ _ _ k => by
  obtain ⟨vs, e, u⟩ := lx.h q (s.f x)
  obtain ⟨v, hv, hd⟩ := u.at nt.h
  exact OpW.extract e (by simpa using hv) (k _ hd)
instance [lx : Lu n c loc env x (ov v)] [hv : HC B v l] : St P n c loc env B ms d (.nilCheck x) True (ov v) := .p fun q _ _ _ _ _ _ s _ _ _ _ _ k => by
  have u := lx.h q (s.f x)
  obtain ⟨b, off, vs, e, _⟩ := hvE (v := v) s
  exact OpW.nilCheck (u.1.trans e) (k _ ⟨e.symm, u.2⟩)
theorem LR.drop {h : PH} {base : Option Addr} {len cap m sz : Nat} {l : List α} (u : LR r h (.slice base len cap) l) (hs : sz = r.k) (hm : m ≤ l.length) : LR r h (.slice (if cap = m then base else base.map (·.add (m * sz))) (len - m) (cap - m)) (l.drop m) := by
  obtain ⟨css, s, rr⟩ := u
  refine ⟨css.drop m, ?_, rr.drop m⟩
  subst hs
  have hl := rr.length
  obtain ⟨base', cap', e, h1, h2, h3⟩ := s
  cases e
  refine ⟨_, _, by rw [List.length_drop], by rw [List.length_drop]; omega, fun cs hc => h2 cs (List.mem_of_mem_drop hc), ?_⟩
  rcases h3 with e | ⟨b, off, arr, e', fz, rfl, hb, hsz, hcu⟩
  · exact .inl (by rw [e]; simp)
  · rcases Nat.lt_or_ge m css.length with hlt | hge
    · have hne : ¬ cap = m := by omega
      rw [if_neg hne]
      refine .inr ⟨b, off + m * r.k, arr, e', fz, by simp [addr_add], hb, ?_, fun i cs hi => ?_⟩
      · rw [List.length_drop]
        have : m * r.k + (css.length - m) * r.k = css.length * r.k := by rw [← Nat.add_mul]; congr 1; omega
        omega
      · rw [List.getElem?_drop] at hi
        have := hcu (m + i) cs hi
        rwa [Nat.add_assoc, ← Nat.add_mul]
    · exact .inl (List.drop_eq_nil_of_le hge)
instance [ts : TS P t e] [tz : TZ P e m] [lx : Lu n c loc env x (lv r q)] [ly : Lu n c loc env y (.cv (.int k i))] {sd : Prop} [tn : TN i a sd] : St P n c loc env B ms d (.slice t x none (some y) none) (sd ∧ a ≤ q.length) (lv r (q.take a)) := .p fun qc hsd _ _ _ _ _ s _ _ _ _ _ k => by
  have u : LR r _ _ q := lx.h qc (s.f x)
  obtain ⟨base, cp, e, hc⟩ := u.shape
  rw [e] at u
  exact OpW.sliceTo ts.h tz.h e ((cvE (ly.h qc (s.f y))).trans (by rw [tn.e hsd.1])) (Nat.le_trans hsd.2 hc) (k _ (u.take a hsd.2))
instance [ts : TS P t e] [tz : TZ P e m] [rk : Rk r m] [lx : Lu n c loc env x (lv r q)] [ly : Lu n c loc env y (.cv (.int k i))] {sd : Prop} [tn : TN i a sd] : St P n c loc env B ms d (.slice t x (some y) none none) (sd ∧ a ≤ q.length) (lv r (q.drop a)) := .p fun qc hsd _ _ _ _ _ s _ _ _ _ _ k => by
  have u : LR r _ _ q := lx.h qc (s.f x)
  obtain ⟨base, cp, e, hc⟩ := u.shape
  rw [e] at u
  exact OpW.sliceFrom ts.h tz.h e ((cvE (ly.h qc (s.f y))).trans (by rw [tn.e hsd.1])) hsd.2 (k _ (LR.drop u rk.h.symm hsd.2))
class NotIn (d : Nat) (ms : List Nat) : Prop where t : True
instance : NotIn d [] := ⟨trivial⟩
instance {ms : List Nat} [RflE (Nat.beq d a) false] [NotIn d ms] : NotIn d (a :: ms) := ⟨trivial⟩
instance [NotIn d ms] [lx : Lu n c loc env x S] [cl : Cl S l] : St P n c loc env B ms d (.box t x) True (.pk l 0) := ⟨fun q _ _ _ _ _ _ s _ _ _ _ _ k =>
  OpW.boxK s.gr.sat rfl rfl fun b h' w' gr hb => k _ _ _ gr (by
    have u := (cl.h (lx.h q (s.f x))).mono gr.le
    have hl := u.length
    exact ⟨b, 0, _, t, _, hb, rfl, by simp at hl; omega, cut_all u⟩)⟩
def fnv (f : Fn) (az cs : List SV) : SV := .kv ⟨fun h x => ∃ us vs, x = .func f us.toArray vs.toArray ∧ denL h az us ∧ denL h cs vs, fun ⟨_, _, e, _⟩ => e ▸ rfl, fun le ⟨us, vs, e, a, b⟩ => ⟨us, vs, e, a.mono le, b.mono le⟩⟩
instance {f : Fn} {az cs : List SV} : O1 (fnv f az cs) := ⟨rfl⟩
instance {f : Fn} {xs ys : List Operand} {az cs : List SV} [lx : Lus n c loc env xs az] [ly : Lus n c loc env ys cs] : St P n c loc env B ms d (.makeFunc f xs.toArray ys.toArray) True (fnv f az cs) := .p fun q _ _ _ _ _ _ s _ _ _ _ _ k =>
  OpW.makeFunc rfl (k _ ⟨_, _, rfl, lx.h q fun x hx => s.f x (by simp [Op.operands, hx]), ly.h q fun x hx => s.f x (by simp [Op.operands, hx])⟩)
end
theorem foldl_put : ∀ (cs : List Value) (k off : Nat) (arr : Array Value), (cs.zipIdx k).foldl (fun (a : Array Value) (p : Value × Nat) => a.setIfInBounds (off + p.2) p.1) arr = putIn arr (off + k) cs
  | [], k, off, arr => rfl
  | c :: cs, k, off, arr => by rw [List.zipIdx_cons, List.foldl_cons, foldl_put cs (k + 1) off]; rfl
theorem foldl_set (cs : List Value) (off : Nat) (arr : Array Value) (h : off + cs.length ≤ arr.size) :
    (cs.zipIdx.foldl (fun (a : Array Value) (p : Value × Nat) => a.setIfInBounds (off + p.2) p.1) arr).toList = arr.toList.take off ++ cs ++ arr.toList.drop (off + cs.length) := by
  rw [foldl_put cs 0 off arr]; exact putIn_toList cs arr off h
class Fil (places : List (Nat × Nat)) (l : List SV) (ps : List (Nat × SV)) (l' : outParam (List SV)) : Prop where
  h : ∀ {h : PH} {arr : Array Value} {vs : List (Nat × Value)}, denL h l arr.toList → vs.map (·.1) = ps.map (·.1) → denL h (ps.map (·.2)) (vs.map (·.2)) → ∃ arr', Instr.fill (places[·]?) arr vs = some arr' ∧ denL h l' arr'.toList
instance {places : List (Nat × Nat)} {l : List SV} : Fil places l [] l := ⟨fun {h arr vs} u e _ => by
  cases vs with
  | nil => exact ⟨arr, rfl, u⟩
  | cons v vs => cases e⟩
instance {places : List (Nat × Nat)} {l l1 l2 cs : List SV} {i off sz : Nat} {S : SV} {ps : List (Nat × SV)} [np : Nth places i (off, sz)] [cl : Cl S cs] [hl : RflE cs.length sz] [sp : Spl l off cs l1] [f : Fil places l1 ps l2] : Fil places l ((i, S) :: ps) l2 := ⟨fun {h arr vs} u e d => by
  cases vs with
  | nil => cases e
  | cons v vs =>
    obtain ⟨j, v⟩ := v
    simp only [List.map_cons, List.cons.injEq] at e d
    obtain ⟨rfl, e⟩ := e
    have uc := cl.h d.1
    have hlc := uc.length
    simp only [Array.length_toList] at hlc
    have hla := u.length
    simp only [Array.length_toList] at hla
    have hfit := sp.h.2
    have hs := hl.h
    unfold Instr.fill
    have hp : places[j]? = some (off, sz) := np.h
    simp only [hp]
    rw [if_neg (by simp; omega)]
    refine f.h ?_ e d.2
    rw [← Array.foldl_toList, Array.toList_zipIdx, foldl_set _ off arr (by simp; omega), ← sp.h.1]
    simp only [Array.length_toList, hlc]
    exact ((u.take off).app uc).app (u.drop (off + cs.length))⟩
class Lup (n : Nat) (c : Bool) (loc env : EL) (xs : List (Nat × Operand)) (Ss : outParam (List (Nat × SV))) : Prop where h : c = true → Ss.map (·.1) = xs.map (·.1) ∧ ∀ {h ρ}, (∀ p ∈ xs, Fx loc env h ρ p.2) → denL h (Ss.map (·.2)) (xs.map fun p => ev n ρ p.2)
instance {n : Nat} {c : Bool} {loc env : EL} : Lup n c loc env [] [] := ⟨fun _ => ⟨rfl, fun _ => trivial⟩⟩
instance {n i : Nat} {c : Bool} {loc env : EL} {x : Operand} {xs : List (Nat × Operand)} {S : SV} {Ss : List (Nat × SV)} [a : Lu n c loc env x S] [j : Lup n c loc env xs Ss] : Lup n c loc env ((i, x) :: xs) ((i, S) :: Ss) := ⟨fun q => ⟨by simp [(j.h q).1], fun u => ⟨a.h q (u _ (List.mem_cons_self ..)), (j.h q).2 fun p hp => u p (List.mem_cons_of_mem _ hp)⟩⟩⟩
section
variable {α : Type} {P : Program} {n : Nat} {c : Bool} {loc env : EL} {B : List Res} {ms : List Nat} {d : Nat} {t e : TypeId} {xs : List (Nat × Operand)} {ps : List (Nat × SV)} {places : List (Nat × Nat)} {zl l : List SV}
instance [lx : Lup n c loc env xs ps] [bt : BT P t places zl] [f : Fil places zl ps l] : St P n c loc env B ms d (.build t xs.toArray) True (.ag l) := .p fun q _ _ _ ρ _ _ s _ _ _ _ _ k => by
  obtain ⟨fs, z, h1, h2, h3, h4⟩ := bt.h
  obtain ⟨e1, e2⟩ := lx.h q
  obtain ⟨arr, hf, u⟩ := f.h (arr := z.cells) (vs := xs.map fun p => (p.1, ev n ρ p.2)) h4 (by rw [List.map_map]; exact e1.symm) (by rw [List.map_map]; exact e2 fun p hp => s.f p.2 (by simp [Op.operands]; exact ⟨_, hp⟩))
  exact OpW.build h1 h2 h3 (cs := arr.toList) (by rw [hf]) (k _ ⟨arr.toList, by simp, u⟩)
theorem isZero_of {e : TypeId} {k b : Nat} {z : Value} {i : TypeInfo} (el : El P e k b z i) : IsZero P e z := fun w => by
  simp [zeroValue, typeInfo, el.hi, el.hz]
class Rd {α : Type} (r : Rp α) (S : SV) (x : outParam α) : Prop where h : ∀ {h v}, den h S v → r.R h v.cells.toList x
class Els {α : Type} (r : Rp α) (i : Nat) (ps : List (Nat × SV)) (l : outParam (List α)) : Prop where
  h : ∀ {h : PH} {xs : List (Nat × Value)}, xs.map (·.1) = ps.map (·.1) → denL h (ps.map (·.2)) (xs.map (·.2)) → Go.Ear.Rows r h (xs.map fun p => p.2.cells.toList) l ∧ ∀ {sz : Nat} {arr : Array Value}, sz = r.k → (i + l.length) * sz ≤ arr.size →
    ∃ arr', Instr.fill (fun i => some (i * sz, sz)) arr xs = some arr' ∧ arr'.toList = arr.toList.take (i * sz) ++ (xs.map fun p => p.2.cells.toList).flatten ++ arr.toList.drop ((i + l.length) * sz)
instance {r : Rp α} {i : Nat} : Els r i [] [] := ⟨fun {h xs} e _ => by
  cases xs with
  | nil => exact ⟨trivial, fun {sz arr} _ _ => ⟨arr, rfl, by simp⟩⟩
  | cons x xs => cases e⟩
instance {r : Rp α} {i : Nat} {S : SV} {ps : List (Nat × SV)} {x : α} {l : List α} [rd : Rd r S x] [f : Els r (i + 1) ps l] : Els r i ((i, S) :: ps) (x :: l) := ⟨fun {h xs} e u => by
  cases xs with
  | nil => cases e
  | cons v xs =>
    obtain ⟨j, v⟩ := v
    simp only [List.map_cons, List.cons.injEq] at e u
    obtain ⟨rfl, e⟩ := e
    obtain ⟨a1, a2⟩ := f.h e u.2
    refine ⟨⟨rd.h u.1, a1⟩, fun {sz arr} hk hfit => ?_⟩
    have hv := r.len (rd.h u.1)
    rw [← hk] at hv
    simp only [Array.length_toList] at hv
    simp only [List.length_cons] at hfit ⊢
    have m1 : (j + 1) * sz = j * sz + sz := by rw [Nat.add_mul, Nat.one_mul]
    have m2 : (j + (l.length + 1)) * sz = (j + 1 + l.length) * sz := by congr 1; omega
    have m3 : (j + 1 + l.length) * sz = j * sz + sz + l.length * sz := by rw [Nat.add_mul, m1]
    rw [m2] at hfit ⊢
    have hle : j * sz + v.cells.toList.length ≤ arr.size := by simp only [Array.length_toList]; omega
    have hput := putIn_toList v.cells.toList arr (j * sz) hle
    obtain ⟨arr', h1, h2⟩ := a2 (arr := putIn arr (j * sz) v.cells.toList) hk (by rw [putIn_size]; exact hfit)
    refine ⟨arr', ?_, ?_⟩
    · unfold Instr.fill
      simp only
      rw [if_neg (by simp; omega), ← Array.foldl_toList, Array.toList_zipIdx, foldl_put _ 0 (j * sz) arr]
      exact h1
    · rw [h2, hput]
      simp only [List.map_cons, List.flatten_cons, Array.length_toList] at *
      have e1 : (arr.toList.take (j * sz) ++ v.cells.toList ++ arr.toList.drop (j * sz + v.cells.size)).take ((j + 1) * sz) = arr.toList.take (j * sz) ++ v.cells.toList := by
        rw [List.take_append_of_le_length (by simp; omega)]
        exact List.take_of_length_le (by simp; omega)
      have e2 : (arr.toList.take (j * sz) ++ v.cells.toList ++ arr.toList.drop (j * sz + v.cells.size)).drop ((j + 1 + l.length) * sz) = arr.toList.drop ((j + 1 + l.length) * sz) := by
        have hl1 : (arr.toList.take (j * sz) ++ v.cells.toList).length = j * sz + sz := by simp; omega
        rw [List.drop_append, List.drop_eq_nil_of_le (by omega), hl1, List.drop_drop, List.nil_append]
        congr 1; omega
      rw [e1, e2]; simp⟩
instance {len : Nat} {r : Rp α} {bb : Nat} {d0 : α} {q : List α} [nn : NotIn d ms] [lx : Lup n c loc env xs ps] [ts : TS P t e] [rt : RT P e α r bb d0] [f : Els r 0 ps q] : St P n c loc env B ms d (.buildSlice t len xs.toArray) (q.length = len ∧ Nat.ble (len * r.k) 16777216 = true) (lv r q) := ⟨fun qc sd _ _ ρ _ _ s _ _ _ _ _ k => by
  obtain ⟨e1, e2⟩ := lx.h qc
  obtain ⟨z, i, el, hz⟩ := rt.e
  have hzk : z.cells.size = r.k := el.hc.trans el.hk
  obtain ⟨rr, hf⟩ := f.h (xs := xs.map fun p => (p.1, ev n ρ p.2)) (by rw [List.map_map]; exact e1.symm) (by rw [List.map_map]; exact e2 fun p hp => s.f p.2 (by simp [Op.operands]; exact ⟨_, hp⟩))
  obtain ⟨arr, h1, h2⟩ := hf (sz := z.cells.size) (arr := ((List.replicate len z.cells.toList).flatten).toArray) hzk (by simp [sd.1])
  refine OpW.buildSliceO s.gr.sat ts.h (isZero_of el) (by rw [hzk]; exact rt.k) (by rw [hzk]; exact sd.2) h1 fun b w' gr hn hlo hb => ?_
  obtain ⟨h', g', le, hb', _⟩ := freeze_ex gr hb hn hlo
  refine k _ _ _ g' ?_
  refine LR.own' hb' (css := xs.map fun p => (ev n ρ p.2).cells.toList) ?_ ?_ sd.1 (Nat.le_refl _)
  · apply Array.toList_inj.1
    rw [h2, Nat.zero_mul, Nat.zero_add, sd.1, List.drop_eq_nil_of_le (by simp)]
    simp only [List.take_zero, List.nil_append, List.append_nil, List.map_map]
    rfl
  · have := rr.mono le
    rwa [List.map_map] at this⟩
end
class Ct (P : Program) (f : FuncId) (args : List SV) (side : outParam Prop) (S : outParam SV) : Prop where
  fn : IsFn P f
  h : side → ∀ {h w vs}, Sat h w → denL h args vs → Calls P f vs.toArray w (Ret h w fun h' v => den h' S v)
class CtB (P : Program) (f : FuncId) (args : List SV) (B : List Res) (side : outParam Prop) (S : outParam SV) : Prop where
  fn : IsFn P f
  h : side → ∀ {w0 h w vs}, Sat h w → OwnB w0 B h w → denL h args vs → Calls P f vs.toArray w (Ret h w fun h' v => den h' S v)
instance (priority := 200) {P : Program} {f : FuncId} {args : List SV} {B : List Res} {sd : Prop} {S : SV} [c : Ct P f args sd S] : CtB P f args B sd S := ⟨c.fn, fun a _ _ _ _ s _ u => c.h a s u⟩
class App3 (a b c : List SV) (l : outParam (List SV)) : Prop where h : a ++ b ++ c = l
instance {c : List SV} : App3 [] [] c c := ⟨rfl⟩
instance {x : SV} {b c l : List SV} [i : App3 [] b c l] : App3 [] (x :: b) c (x :: l) := ⟨by simp [← i.h]⟩
section
variable {P : Program} {n : Nat} {c : Bool} {loc env : EL} {B : List Res} {ms : List Nat} {d : Nat} {x : Operand} {S : SV} {f : FuncId} {xs : List Operand} {ts : Array TypeId} {az cs as1 l : List SV} {sd : Prop}
instance [lx : Lus n c loc env xs az] [ct : CtB P f az B sd S] : St P n c loc env B ms d (.call ⟨.value (.func f), xs.toArray, ts⟩) sd S := ⟨fun q hs _ _ _ _ _ s _ _ _ _ _ k =>
  OpW.callF ct.fn rfl (ct.h hs s.gr.sat s.ow (lx.h q fun x hx => s.f x (by simp [Op.operands, Call.operands, hx]))) fun v h' w' gr u => k v h' w' gr u⟩
class Fv (P : Program) (F : SV) (az : List SV) (B : List Res) (side : outParam Prop) (S : outParam SV) : Prop where
  h : side → ∀ {w0 h w x vs}, Sat h w → OwnB w0 B h w → den h F x → denL h az vs → ∃ (f : FuncId) (us cs : List Value), x = .func (.func f) us.toArray cs.toArray ∧ IsFn P f ∧ Calls P f (us ++ vs ++ cs).toArray w (Ret h w fun h' v => den h' S v)
instance [ap : App3 as1 az cs l] [ct : CtB P f l B sd S] : Fv P (fnv (.func f) as1 cs) az B sd S := ⟨fun hs w0 h w x vs sat ow u a => by
  obtain ⟨us, ws, e, a1, a2⟩ := u
  exact ⟨f, us, ws, e, ct.fn, ct.h hs sat ow (by rw [← ap.h]; exact (a1.app a).app a2)⟩⟩
instance [ct : CtB P f az B sd S] : Fv P (.cv (.func (.func f) #[] #[])) az B sd S := ⟨fun hs w0 h w x vs sat ow u a => ⟨f, [], [], u, ct.fn, by simpa using ct.h hs sat ow a⟩⟩
instance (priority := 10) {F : SV} {r : Res} [c : Fv P F az B sd S] : Fv P F az (r :: B) sd S := ⟨fun a _ _ _ _ _ s o u v => c.h a s o.2.2.2 u v⟩
instance (priority := 20) {F : SV} [c : Fv P F az B sd S] : Fv P F az (B.map bo) sd S := ⟨fun a _ _ _ _ _ s o u v => c.h a s o.unbo u v⟩
instance {t : Nat} {F : SV} [lf : Lu n c loc env (.tmp t) F] [lx : Lus n c loc env xs az] [fv : Fv P F az B sd S] : St P n c loc env B ms d (.call ⟨.value (.tmp t), xs.toArray, ts⟩) sd S := ⟨fun q hs _ _ _ _ _ s _ _ _ _ _ k => by
  obtain ⟨g, us, cs, e, hf, hc⟩ := fv.h hs s.gr.sat s.ow (lf.h q (s.f (.tmp t))) (lx.h q fun x hx => s.f x (by simp [Op.operands, Call.operands, hx]))
  exact OpW.callV e hf rfl hc fun v h' w' gr u => k v h' w' gr u⟩
end
end Go.E3
set_option linter.unusedVariables false
namespace Go.E3
open Go Go.Ear
inductive Kt where
  | fin
  | seq (c : Code) (k : Kt)
  | blk (id : Nat) (k : Kt)
  | scp (k : Kt)
  | cut (I : Act → World → Prop) (k : Kt)
  | asg (b : Nat) (o o' : Obj) (c : Code) (k : Kt)
def WT (C : Ctx) (P : Program) (n : Nat) (c : Code) (T : Exit → Act → World → Prop) (ρ : Env) (w : World) : Prop := c.wpIn (FX C) 0 P T (mkX C n ρ) w
def thenT (N : Act → World → Prop) (T : Exit → Act → World → Prop) : Exit → Act → World → Prop
  | .normal, a, w => N a w
  | e, a, w => T e a w
def scopeT (T : Exit → Act → World → Prop) : Exit → Act → World → Prop
  | .goto _, _, _ => False
  | e, a, w => T e a w
def run (r : Option Nat) (P : Program) (T : Exit → Act → World → Prop) : Kt → Exit → Act → World → Prop
  | .fin => T
  | .seq c k => thenT (c.wpIn { Fence.wide with round := r } 0 P (run r P T k)) (run r P T k)
  | .blk id k => Exit.inBlock id (run r P T k)
  | .scp k => scopeT (run r P T k)
  | .cut I k => thenT I (run r P T k)
  | .asg b o o' c k => thenT (fun a w => w.heap[b]? = some o ∧ ∀ w', Put w w' b o' → w' = w.putObj b o' → c.wpIn { Fence.wide with round := r } 0 P (run r P T k) a w') fun _ _ _ => False
section
variable {C : Ctx} {P : Program} {n : Nat} {T : Exit → Act → World → Prop} {ρ : Env} {w : World}
theorem WT.mono {c : Code} {T' : Exit → Act → World → Prop} (h : WT C P n c T ρ w) (hq : ∀ e a w, T e a w → T' e a w) : WT C P n c T' ρ w := wpIn_mono h hq
theorem WT.cond {c : Operand} {x y : Code} {t : Bool} (hc : ev n ρ c = .bool t) (ht : t = true → WT C P n x T ρ w) (hf : t = false → WT C P n y T ρ w) : WT C P n (.cond c x y) T ρ w := wpIn_cond_split (by rw [eval_mkX, hc]) ht hf
theorem WT.region {id : Nat} {l : List Oper} (hd : l.all noDefer = true) (h : Ops P n l.toArray (fun ρ w => T .normal (mkX C n ρ) w) l ρ w) : WT C P n (.region id l.toArray false) T ρ w := by
  refine wpIn_mono (WpX.region (X := C) (Q := onlyN fun ρ w => T .normal (mkX C n ρ) w) hd h) ?_
  rintro e a w ⟨ρ', rfl, q⟩
  cases e <;> first | exact q | exact q.elim
theorem WT.draw {id : Nat} {l : List Oper} {K : Env → World → Prop} (hd : l.all noDefer = true)
    (h : ∀ t, wpOps P l.toArray (toQ n (onlyN K)) (Region.schedule (P.follows .mixedOrders) l.toArray t) (mk n ρ) { w with drawn := w.drawn + 1 }) (hk : ∀ ρ w, K ρ w → T .normal (mkX C n ρ) w) : WT C P n (.region id l.toArray true) T ρ w := by
  refine wpIn_mono (WpX.draw (X := C) (K := K) (Q := onlyN K) hd h fun _ _ x => x) ?_
  rintro e a w ⟨ρ', rfl, q⟩
  cases e <;> first | exact hk _ _ q | exact q.elim
theorem WT.scope0 {c : Code} (h : WT X0 P n c (scopeT T) ρ w) : WT X0 P n (.scope c) T ρ w := wpIn_wide.2 (wp_scope_straight (wp_mono (wpIn_wide.1 h) fun e a w q => by cases e <;> first | exact q | exact q.elim))
theorem WT.loop {σ : Type} {c : Code} (I : σ → Env → World → Prop) (μ : σ → Nat) (s₀ : σ) (h₀ : I s₀ ρ w)
    (round : ∀ s ρ w, I s ρ w → WT C P n c (thenT (fun a w' => ∃ ρ', a = mkX C n ρ' ∧ ∃ s', I s' ρ' w' ∧ μ s' < μ s) T) ρ w) : WT C P n (.loop c) T ρ w := by
  refine wpIn_loop_ghost (fun k a w => ∃ s ρ, a = mkX C n ρ ∧ I s ρ w ∧ μ s = k) (μ s₀) ⟨s₀, ρ, rfl, h₀, rfl⟩ ?_
  rintro k a w ⟨s, ρ, rfl, hI, rfl⟩
  refine wpIn_mono (round s ρ w hI) ?_
  rintro e a w hq
  cases e with
  | normal => obtain ⟨ρ', rfl, s', hI', hlt⟩ := hq; exact ⟨μ s', hlt, s', ρ', rfl, hI', rfl⟩
  | _ => exact hq
end
structure Fix where
  T : Exit → Act → World → Prop
  h0 : PH
  w0 : World
  c : Ctx
class C0 (X : Fix) : Prop where h : X.c = X0
instance {T : Exit → Act → World → Prop} {h0 : PH} {w0 : World} : C0 ⟨T, h0, w0, X0⟩ := ⟨rfl⟩
structure GW (P : Program) (n : Nat) (X : Fix) (ms : List Nat) (loc env : EL) (B : List Res) (c : Code) (k : Kt) : Prop where p : ∀ ρ h w, Sy X.h0 X.w0 loc env B ρ h w → WT X.c P n c (run X.c.round P X.T k) ρ w
structure GX (P : Program) (n : Nat) (X : Fix) (ms : List Nat) (loc env : EL) (B : List Res) (e : Exit) (k : Kt) : Prop where p : ∀ ρ h w, Sy X.h0 X.w0 loc env B ρ h w → run X.c.round P X.T k e (mkX X.c n ρ) w
def isAsg : Op → Bool
  | .assign _ => true
  | .move _ => true
  | _ => false
def memN (d : Nat) : List Nat → Bool
  | [] => false
  | x :: l => Nat.beq x d || memN d l
def okR : List Oper → List Nat → List Nat → Bool
  | [], _, _ => true
  | o :: rest, L, E => (match o.dst with | none => okR rest L E | some d => !memN d L && (isAsg o.op || !memN d E) && okR rest (d :: L) E)
structure GO (P : Program) (n : Nat) (X : Fix) (ms : List Nat) (loc env : EL) (B : List Res) (ol rest : List Oper) (k : Kt) : Prop where
  p : okR rest (loc.map (·.1)) (env.map (·.1)) = true → ∀ ρ h w, Sy X.h0 X.w0 loc env B ρ h w → Ops P n ol.toArray (fun ρ w => run X.c.round P X.T k .normal (mkX X.c n ρ) w) rest ρ w
class Nx (g : Prop) (side g' : outParam Prop) : Prop where h : side → g' → g
structure Chk (b : Bool) : Prop where h : b = true
theorem nx {g side g' : Prop} [i : Nx g side g'] (k : g') (hs : side := by
  first
  | trivial
  | exact ⟨by kernel_rfl⟩
  | ((repeat' first | trivial | refine And.intro ?_ ?_ | intro _) <;> first | omega | rfl | (simp only [List.length_take, List.length_drop, List.length_append, List.length_cons, List.length_nil, List.length_set, List.length_replicate] at *; omega))) : g := i.h hs k
theorem nIn_of {d : Nat} : ∀ {l : EL}, memN d (l.map (·.1)) = false → nIn d l = true
  | [], _ => rfl
  | (s, S) :: l, h => by
    simp only [List.map_cons, memN, Bool.or_eq_false_iff] at h
    simp only [nIn, h.1, Bool.not_false, Bool.true_and]
    exact nIn_of h.2
class AppL {α : Type _} (a b : List α) (c : outParam (List α)) : Prop where h : a ++ b = c
instance {α : Type _} {b : List α} : AppL [] b b := ⟨rfl⟩
instance {α : Type _} {x : α} {a b c : List α} [i : AppL a b c] : AppL (x :: a) b (x :: c) := ⟨by rw [← i.h]; rfl⟩
theorem EnvOk.app {h : PH} {ρ : Env} : ∀ {a b : EL}, EnvOk h ρ a → EnvOk h ρ b → EnvOk h ρ (a ++ b)
  | [], _, _, v => v
  | _ :: _, _, u, v => ⟨u.1, EnvOk.app u.2 v⟩
class InE (env : EL) (d : Nat) : Prop where t : True
instance {env : EL} {d : Nat} {S : SV} : InE ((d, S) :: env) d := ⟨trivial⟩
instance (priority := low) {env : EL} {d s : Nat} {S : SV} [InE env d] : InE ((s, S) :: env) d := ⟨trivial⟩
class Dl (env : EL) (d : Nat) (env' : outParam EL) : Prop where h : nIn d env' = true ∧ (∀ {h ρ}, EnvOk h ρ env → EnvOk h ρ env') ∧ ∀ e, memN e (env.map (·.1)) = false → memN e (env'.map (·.1)) = false
instance {d : Nat} : Dl [] d [] := ⟨rfl, fun u => u, fun _ h => h⟩
instance {d : Nat} {S : SV} {env env' : EL} [i : Dl env d env'] : Dl ((d, S) :: env) d env' := ⟨i.h.1, fun u => i.h.2.1 u.2, fun e h => i.h.2.2 e (by simp only [List.map_cons, memN, Bool.or_eq_false_iff] at h; exact h.2)⟩
instance (priority := low) {d s : Nat} {S : SV} {env env' : EL} [b : RflE (Nat.beq s d) false] [i : Dl env d env'] : Dl ((s, S) :: env) d ((s, S) :: env') := ⟨by simp [nIn, b.h, i.h.1], fun u => ⟨u.1, i.h.2.1 u.2⟩, fun e h => by
  simp only [List.map_cons, memN, Bool.or_eq_false_iff] at h ⊢; exact ⟨h.1, i.h.2.2 e h.2⟩⟩
structure Gh where
  v : Value
  l : List Value
class OwL (l env : EL) (env' : outParam EL) : Prop where h : ∀ {h ρ}, EnvOk h ρ l → EnvOk h ρ env → EnvOk h ρ env'
instance {env : EL} : OwL [] env env := ⟨fun _ u => u⟩
instance (priority := low) {l env env' : EL} {p : Nat × SV} [i : OwL l env env'] : OwL (p :: l) env env' := ⟨fun a u => i.h a.2 u⟩
instance {l env env' : EL} {ν : Nat → Gh} {d : Nat} [i : OwL l env env'] : OwL ((d, ov (ν d).v) :: l) env ((d, ov (ν d).v) :: env') := ⟨fun a u => ⟨a.1, i.h a.2 u⟩⟩
instance {l env env' : EL} {S : SV} {d : Nat} [i : OwL l env env'] : OwL ((d, .cn true S) :: l) env ((d, S) :: env') := ⟨fun a u => ⟨a.1.1 rfl, i.h a.2 u⟩⟩
section
variable {P : Program} {n : Nat} {X : Fix} {ms : List Nat} {loc env env' : EL} {B B' : List Res} {c x y : Code} {I : Act → World → Prop} {k : Kt} {ol rest : List Oper} {d : Nat} {op : Op} {ty : TypeId} {pos : String} {af : Array Edge} {sd : Prop} {S : SV}
instance : Nx (GW P n X ms loc env B (.seq x y) k) True (GW P n X ms loc env B x (.seq y k)) := ⟨fun _ a => ⟨fun ρ h w s => wpIn_seq (a.p ρ h w s)⟩⟩
instance : Nx (GW P n X ms loc env B .skip k) True (GX P n X ms loc env B .normal k) := ⟨fun _ a => ⟨fun ρ h w s => wpIn_skip (a.p ρ h w s)⟩⟩
instance {l : Nat} : Nx (GW P n X ms loc env B (.label l) k) True (GX P n X ms loc env B .normal k) := ⟨fun _ a => ⟨fun ρ h w s => wpIn_label (a.p ρ h w s)⟩⟩
instance {id : Nat} : Nx (GW P n X ms loc env B (.exit id) k) True (GX P n X ms loc env B (.exit id) k) := ⟨fun _ a => ⟨fun ρ h w s => wpIn_exit (a.p ρ h w s)⟩⟩
instance : Nx (GW P n X ms loc env B .ret k) True (GX P n X ms loc env B .ret k) := ⟨fun _ a => ⟨fun ρ h w s => wpIn_ret (a.p ρ h w s)⟩⟩
instance {id : Nat} : Nx (GW P n X ms loc env B (.block id x) k) True (GW P n X ms loc env B x (.blk id k)) := ⟨fun _ a => ⟨fun ρ h w s => wpIn_block (a.p ρ h w s)⟩⟩
instance [hx : C0 X] : Nx (GW P n X ms loc env B (.scope x) k) True (GW P n X ms loc env B x (.scp k)) := ⟨fun _ a => ⟨fun ρ h w s => by
  have h1 := a.p ρ h w s
  rw [hx.h] at h1 ⊢
  exact WT.scope0 h1⟩⟩
instance : Nx (GX P n X ms loc env B .normal (.seq c k)) True (GW P n X ms loc env B c k) := ⟨fun _ a => ⟨fun ρ h w s => a.p ρ h w s⟩⟩
instance {id : Nat} : Nx (GX P n X ms loc env B .normal (.blk id k)) True (GX P n X ms loc env B .normal k) := ⟨fun _ a => ⟨fun ρ h w s => a.p ρ h w s⟩⟩
instance {id : Nat} : Nx (GX P n X ms loc env B (.exit id) (.seq c k)) True (GX P n X ms loc env B (.exit id) k) := ⟨fun _ a => ⟨fun ρ h w s => a.p ρ h w s⟩⟩
instance {id : Nat} : Nx (GX P n X ms loc env B (.exit id) (.cut I k)) True (GX P n X ms loc env B (.exit id) k) := ⟨fun _ a => ⟨fun ρ h w s => a.p ρ h w s⟩⟩
instance {id : Nat} : Nx (GX P n X ms loc env B (.exit id) (.blk id k)) True (GX P n X ms loc env B .normal k) := ⟨fun _ a => ⟨fun ρ h w s => by
  show Exit.inBlock id (run X.c.round P X.T k) (.exit id) _ w
  simp only [Exit.inBlock, if_true]; exact a.p ρ h w s⟩⟩
instance (priority := low) {id id' : Nat} [b : RflE (Nat.beq id' id) false] : Nx (GX P n X ms loc env B (.exit id') (.blk id k)) True (GX P n X ms loc env B (.exit id') k) := ⟨fun _ a => ⟨fun ρ h w s => by
  show Exit.inBlock id (run X.c.round P X.T k) (.exit id') _ w
  have hn : ¬ id' = id := fun e => by have := b.h; rw [e, beq_self] at this; cases this
  simp only [Exit.inBlock, if_neg hn]; exact a.p ρ h w s⟩⟩
instance : Nx (GX P n X ms loc env B .ret (.seq c k)) True (GX P n X ms loc env B .ret k) := ⟨fun _ a => ⟨fun ρ h w s => a.p ρ h w s⟩⟩
instance {id : Nat} : Nx (GX P n X ms loc env B .ret (.blk id k)) True (GX P n X ms loc env B .ret k) := ⟨fun _ a => ⟨fun ρ h w s => a.p ρ h w s⟩⟩
instance : Nx (GX P n X ms loc env B .ret (.scp k)) True (GX P n X ms loc env B .ret k) := ⟨fun _ a => ⟨fun ρ h w s => a.p ρ h w s⟩⟩
instance : Nx (GX P n X ms loc env B .ret (.cut I k)) True (GX P n X ms loc env B .ret k) := ⟨fun _ a => ⟨fun ρ h w s => a.p ρ h w s⟩⟩
theorem Sy.sb {h0 : PH} {w0 : World} {ρ : Env} {h : PH} {w : World} (s : Sy h0 w0 loc env B ρ h w) (p : Sb B B') : Sy h0 w0 loc env B' ρ h w := ⟨s.gr, s.lo, s.en, p.own s.ow⟩
instance {b : Nat} {o o' : Obj} [po : PO B b o B'] : Nx (GX P n X ms loc env B .normal (.asg b o o' c k)) True (GW P n X ms loc env (rO b o' :: B') c k) := ⟨fun _ a => ⟨fun ρ h w s => by
  have s' := s.sb po.h
  obtain ⟨e, f, d, g⟩ := s'.ow
  refine ⟨e, fun w' p _ => a.p ρ h w' ⟨s'.gr.put p (f b rfl).1 ((f b rfl).2.1 rfl), s'.lo, s'.en, p.at_, fun i hi => ⟨(f i hi).1, (f i hi).2.1, by rw [p.size]; exact (f i hi).2.2⟩, d, OwnB.after p g fun r hr q => d r hr b rfl q⟩⟩⟩⟩
instance {id : Nat} : Nx (GW P n X ms loc env B (.region id ol.toArray false) k) (Chk (okR ol [] (env.map (·.1)) && ol.all noDefer)) (GO P n X ms [] env B ol ol k) := ⟨fun ok a => ⟨fun ρ h w s => WT.region (Bool.and_eq_true_iff.1 ok.h).2 (a.p (Bool.and_eq_true_iff.1 ok.h).1 ρ h w ⟨s.gr, trivial, s.en, s.ow⟩)⟩⟩
instance {p : Nat × SV} [ow : OwL (p :: loc) env env'] : Nx (GO P n X ms (p :: loc) env B ol [] k) True (GX P n X ms [p] env' B .normal k) := ⟨fun _ a => ⟨fun _ ρ h w s => Ops.nil (a.p ρ h w ⟨s.gr, ⟨s.lo.1, trivial⟩, ow.h s.lo s.en, s.ow⟩)⟩⟩
instance (priority := high) {id : Nat} {y : Code} [ap : AppL loc env env'] : Nx (GO P n X ms loc env B ol [] (.seq (.seq (.block id (.loop c)) y) k)) True (GX P n X ms [] env' B .normal (.seq (.seq (.block id (.loop c)) y) k)) := ⟨fun _ a => ⟨fun _ ρ h w s => Ops.nil (a.p ρ h w ⟨s.gr, trivial, by rw [← ap.h]; exact s.lo.app s.en, s.ow⟩)⟩⟩
instance (priority := high) {id : Nat} [ap : AppL loc env env'] : Nx (GO P n X ms loc env B ol [] (.seq (.block id (.loop c)) k)) True (GX P n X ms [] env' B .normal (.seq (.block id (.loop c)) k)) := ⟨fun _ a => ⟨fun _ ρ h w s => Ops.nil (a.p ρ h w ⟨s.gr, trivial, by rw [← ap.h]; exact s.lo.app s.en, s.ow⟩)⟩⟩
instance : Nx (GO P n X ms [] env B ol [] k) True (GX P n X ms [] env B .normal k) := ⟨fun _ a => ⟨fun _ ρ h w s => Ops.nil (a.p ρ h w s)⟩⟩
theorem okR_some {o : Oper} {d : Nat} (hd : o.dst = some d) {L E : List Nat} (h : okR (o :: rest) L E = true) : memN d L = false ∧ (isAsg o.op = false → memN d E = false) ∧ okR rest (d :: L) E = true := by
  unfold okR at h
  rw [hd] at h
  simp only [Bool.and_eq_true, Bool.not_eq_true', Bool.or_eq_true] at h
  exact ⟨h.1.1, fun e => h.1.2.resolve_left (by rw [e]; exact Bool.noConfusion), h.2⟩
theorem okR_none {o : Oper} (hd : o.dst = none) {L E : List Nat} (h : okR (o :: rest) L E = true) : okR rest L E = true := by
  unfold okR at h
  rw [hd] at h; exact h
theorem okR_swap : ∀ {rest : List Oper} {L E L' E' : List Nat}, (∀ e, memN e L = false → memN e L' = false) → (∀ e, memN e L = false → memN e E = false → memN e E' = false) → okR rest L E = true → okR rest L' E' = true
  | [], _, _, _, _, _, _, _ => rfl
  | o :: rest, L, E, L', E', hL, hE, h => by
    unfold okR at h ⊢
    cases hd : o.dst with
    | none => simp only [hd] at h ⊢; exact okR_swap hL hE h
    | some d =>
      simp only [hd, Bool.and_eq_true, Bool.not_eq_true', Bool.or_eq_true] at h ⊢
      refine ⟨⟨hL d h.1.1, h.1.2.imp (fun x => x) (hE d h.1.1)⟩, okR_swap (fun e he => ?_) (fun e he => ?_) h.2⟩
      · simp only [memN, Bool.or_eq_false_iff] at he ⊢
        exact ⟨he.1, hL e he.2⟩
      · simp only [memN, Bool.or_eq_false_iff] at he
        exact hE e he.2
theorem Sy.put {h0 : PH} {w0 : World} {ρ : Env} {h h' : PH} {w w' : World} {v : Value} (s : Sy h0 w0 loc env B ρ h w) (g : Gr h w h' w') (u : den h' S v) (hl : memN d (loc.map (·.1)) = false) (he : memN d (env.map (·.1)) = false) : Sy h0 w0 ((d, S) :: loc) env B (upd ρ d v) h' w' :=
  ⟨s.gr.trans g, ⟨by rw [upd_at]; exact u, (s.lo.upd (nIn_of hl)).mono g.le⟩, (s.en.upd (nIn_of he)).mono g.le, s.ow.grow g⟩
instance (priority := low) {x : Operand} [st : St P n true loc env B ms d (.move x) sd S] : Nx (GO P n X ms loc env B ol (⟨some d, .move x, ty, pos, af, none⟩ :: rest) k) (memN d (env.map (·.1)) = false ∧ sd) (GO P n X ms ((d, S) :: loc) env B ol rest k) := ⟨fun hs a => ⟨fun ok ρ h w s => by
  obtain ⟨h1, h2, h3⟩ := okR_some rfl ok
  exact Ops.cons (st.h rfl hs.2 (s.x _) fun v h' w' g u => a.p h3 _ _ _ (s.put g u h1 hs.1))⟩⟩
instance (priority := low) [st : St P n true loc env B ms d op sd S] : Nx (GO P n X ms loc env B ol (⟨some d, op, ty, pos, af, none⟩ :: rest) k) ((isAsg op = false) ∧ sd) (GO P n X ms ((d, S) :: loc) env B ol rest k) := ⟨fun hs a => ⟨fun ok ρ h w s => by
  obtain ⟨h1, h2, h3⟩ := okR_some rfl ok
  exact Ops.cons (st.h rfl hs.2 (s.x _) fun v h' w' g u => a.p h3 _ _ _ (s.put g u h1 (h2 hs.1)))⟩⟩
end
end Go.E3
set_option linter.unusedVariables false
namespace Go.E3
open Go Go.Ear
class EqA {α : Type _} (a b : α) (sd : outParam Prop) : Prop where h : sd → a = b
instance (priority := high) {α : Type _} {a : α} : EqA a a True := ⟨fun _ => rfl⟩
instance (priority := low) {α : Type _} {a b : α} : EqA a b (a = b) := ⟨fun e => e⟩
instance {k : IntKind} {a b : Int} : EqA (SV.cv (.int k a)) (SV.cv (.int k b)) (a = b) := ⟨fun e => by rw [e]⟩
instance {a b : Bool} : EqA (SV.cv (.bool a)) (SV.cv (.bool b)) (a = b) := ⟨fun e => by rw [e]⟩
instance {α : Type} {r : Rp α} {a b : List α} : EqA (lv r a) (lv r b) (a = b) := ⟨fun e => by rw [e]⟩
class EqS (S T : SV) (sd : outParam Prop) : Prop where h : sd → ∀ {h v}, den h S v → den h T v
instance {S T : SV} {sd : Prop} [i : EqA S T sd] : EqS S T sd := ⟨fun e _ _ u => by rw [← i.h e]; exact u⟩
instance (priority := high) {α : Type} {r : Rp α} {l : List α} {b : Option Addr} {c : Nat} : EqS (.cv (.slice b 0 c)) (lv r l) (l = []) := ⟨fun e h v u => by
  subst e; rw [u]; exact LR.nil r h b c⟩
class EqSL (l m : List SV) (sd : outParam Prop) : Prop where h : sd → ∀ {h vs}, denL h l vs → denL h m vs
instance : EqSL [] [] True := ⟨fun _ _ _ u => u⟩
instance {S T : SV} {sd : Prop} [i : EqS S T sd] : EqSL [S] [T] sd := ⟨fun e h vs u => by
  match vs, u with
  | _ :: _, u => exact ⟨i.h e u.1, u.2⟩⟩
instance (priority := low) {S T : SV} {l m : List SV} {s1 s2 : Prop} [i : EqS S T s1] [j : EqSL l m s2] : EqSL (S :: l) (T :: m) (s1 ∧ s2) := ⟨fun e h vs u => by
  match vs, u with
  | _ :: _, u => exact ⟨i.h e.1 u.1, j.h e.2 u.2⟩⟩
instance (priority := high) {l m : List SV} {sd : Prop} [i : EqSL l m sd] : EqS (.ag l) (.ag m) sd := ⟨fun e h v ⟨vs, a, u⟩ => ⟨vs, a, i.h e u⟩⟩
instance (priority := high) {l m : List SV} {sd : Prop} [i : EqSL l m sd] : EqS (.tp l) (.tp m) sd := ⟨fun e h v ⟨vs, a, u⟩ => ⟨vs, a, i.h e u⟩⟩
instance (priority := high) {l m : List SV} {o : Nat} {sd : Prop} [i : EqSL l m sd] [RflE l.length m.length] : EqS (.pk l o) (.pk m o) sd := ⟨fun e h v u => by
  have hl : l.length = m.length := RflE.h
  obtain ⟨b, off, arr, t, fz, a1, a2, a3, a4⟩ := u
  rw [hl] at a3 a4
  exact ⟨b, off, arr, t, fz, a1, a2, a3, i.h e a4⟩⟩
section
variable {P : Program} {n : Nat} {X : Fix} {ms : List Nat} {loc env env' : EL} {B B' : List Res} {c x y : Code} {k : Kt} {ol rest : List Oper} {d : Nat} {op : Op} {ty : TypeId} {pos : String} {af : Array Edge} {sd : Prop} {S : SV} {a b m : Nat} {t e : TypeId} {o1 o2 : Operand}
theorem asg_step {op : Op} (a : GO P n X ms loc ((d, S) :: env') B ol rest k) (h1 : isAsg op = true) (hop : ∀ {ρ : Env} {h : PH} {w : World}, Sy X.h0 X.w0 loc env B ρ h w → ∀ {ty : TypeId} {pos : String} {af : Array Edge} {K : Env → World → Prop}, (∀ v, den h S v → K (upd ρ d v) w) → OpW P n ⟨some d, op, ty, pos, af, none⟩ ρ w K) (dl : Dl env d env') : GO P n X ms loc env B ol (⟨some d, op, ty, pos, af, none⟩ :: rest) k := ⟨fun ok ρ h w s => by
  obtain ⟨h1, _, h3⟩ := okR_some rfl ok
  refine Ops.cons (hop s fun v u => a.p (okR_swap (fun e he => ?_) (fun e he h2 => ?_) h3) _ _ _ ⟨s.gr, s.lo.upd (nIn_of h1), ⟨?_, (dl.h.2.1 s.en).upd dl.h.1⟩, s.ow⟩)
  · simp only [memN, Bool.or_eq_false_iff] at he; exact he.2
  · simp only [memN, Bool.or_eq_false_iff] at he
    simp only [List.map_cons, memN, Bool.or_eq_false_iff]; exact ⟨he.1, dl.h.2.2 e h2⟩
  · rw [upd_at]; exact u⟩
instance [lx : Lu n true loc env o1 S] [dl : Dl env d env'] : Nx (GO P n X ms loc env B ol (⟨some d, .assign o1, ty, pos, af, none⟩ :: rest) k) True (GO P n X ms loc ((d, S) :: env') B ol rest k) := ⟨fun _ a => asg_step a rfl (fun s _ _ _ _ k => OpW.assign rfl (k _ (lx.h rfl ((s.x [o1]).fx o1 (by simp))))) dl⟩
instance (priority := high) [ie : InE env d] [lx : Lu n true loc env o1 S] [dl : Dl env d env'] : Nx (GO P n X ms loc env B ol (⟨some d, .move o1, ty, pos, af, none⟩ :: rest) k) True (GO P n X ms loc ((d, S) :: env') B ol rest k) := ⟨fun _ a => asg_step a rfl (fun s _ _ _ _ k => OpW.move rfl (k _ (lx.h rfl ((s.x [o1]).fx o1 (by simp))))) dl⟩
theorem okR_env {o : Oper} {d : Nat} (hd : o.dst = some d) (ha : isAsg o.op = false) {L E : List Nat} (h : okR (o :: rest) L E = true) : memN d L = false ∧ memN d E = false ∧ okR rest L (d :: E) = true := by
  obtain ⟨h1, h2, h3⟩ := okR_some hd h
  refine ⟨h1, h2 ha, okR_swap (fun e he => ?_) (fun e he h2 => ?_) h3⟩
  · simp only [memN, Bool.or_eq_false_iff] at he; exact he.2
  · simp only [memN, Bool.or_eq_false_iff] at he ⊢; exact ⟨he.1, h2⟩
theorem Sy.var {h0 : PH} {w0 : World} {ρ : Env} {h h' : PH} {w w' : World} {v : Value} (s : Sy h0 w0 loc env B ρ h w) (g : Gr h w h' w') (u : den h' S v) (hl : memN d (loc.map (·.1)) = false) (he : memN d (env.map (·.1)) = false) : Sy h0 w0 loc ((d, S) :: env) B (upd ρ d v) h' w' :=
  ⟨s.gr.trans g, (s.lo.upd (nIn_of hl)).mono g.le, ⟨by rw [upd_at]; exact u, (s.en.upd (nIn_of he)).mono g.le⟩, s.ow.grow g⟩
theorem OwnB.new {w0 : World} {h h' : PH} {w w' : World} {r : Res} (o : OwnB w0 B h w) (g : Gr h w h' w') (hw : w0.heap.size ≤ w.heap.size) (hp : r.pr h' w') (hf : ∀ i, r.fp i → w.heap.size ≤ i ∧ i < w'.heap.size ∧ h' i = none) : OwnB w0 (r :: B) h' w' :=
  ⟨hp, fun i hi => ⟨(hf i hi).2.2, fun _ => Nat.le_trans hw (hf i hi).1, (hf i hi).2.1⟩, fun r' hr' i hi q => by have := (o.foot r' hr' i q).2.2; have := (hf i hi).1; omega, o.grow g⟩
instance (priority := high) [nn : NotIn d ms] [st : St P n true loc env B ms d (.box t o1) sd S] : Nx (GO P n X ms loc env B ol (⟨some d, .box t o1, ty, pos, af, none⟩ :: rest) k) sd (GO P n X ms loc ((d, S) :: env) B ol rest k) := ⟨fun hs a => ⟨fun ok ρ h w s => by
  obtain ⟨h1, h2, h3⟩ := okR_env rfl rfl ok
  exact Ops.cons (st.h rfl hs (s.x _) fun v h' w' g u => a.p h3 _ _ _ (s.var g u h1 h2))⟩⟩
class IsIn (d : Nat) (ms : List Nat) : Prop where t : True
instance {l : List Nat} : IsIn d (d :: l) := ⟨trivial⟩
instance (priority := low) {l : List Nat} [IsIn d l] : IsIn d (a :: l) := ⟨trivial⟩
instance {l : List SV} [nn : IsIn d ms] [lx : Lu n true loc env o1 S] [cl : Cl S l] : Nx (GO P n X ms loc env B ol (⟨some d, .box t o1, ty, pos, af, none⟩ :: rest) k) True (∀ v, GO P n X ms loc ((d, ov v) :: env) (rV v l t :: B) ol rest k) := ⟨fun _ a => ⟨fun ok ρ h w s => by
  obtain ⟨h1, h2, h3⟩ := okR_env rfl rfl ok
  have u := cl.h (lx.h rfl ((s.x [o1]).fx o1 (by simp)))
  refine Ops.cons (OpW.boxO s.gr.sat rfl rfl fun b w' g hn hlo hb => ?_)
  have sv := s.var (v := .pointer (some ⟨b, 0, none⟩)) (S := ov (.pointer (some ⟨b, 0, none⟩))) g ⟨rfl, rfl⟩ h1 h2
  exact (a _).p h3 _ _ _ ⟨sv.gr, sv.lo, sv.en, s.ow.new g s.gr.ext.size ⟨b, _, rfl, hb, u⟩ fun i hi => by cases hi; exact ⟨hlo, blk_lt hb, hn⟩⟩⟩⟩
instance {l : List SV} [zc : ZC P t l] : Nx (GO P n X ms loc env B ol (⟨some d, .alloc t, ty, pos, af, none⟩ :: rest) k) True (∀ v, GO P n X ms loc ((d, ov v) :: env) (rV v l t :: B) ol rest k) := ⟨fun _ a => ⟨fun ok ρ h w s => by
  obtain ⟨h1, h2, h3⟩ := okR_env rfl rfl ok
  obtain ⟨z, hz, hu⟩ := zc.h
  refine Ops.cons (OpW.allocO s.gr.sat hz rfl fun b w' g hn hlo hb => ?_)
  have sv := s.var (v := .pointer (some ⟨b, 0, none⟩)) (S := ov (.pointer (some ⟨b, 0, none⟩))) g ⟨rfl, rfl⟩ h1 h2
  exact (a _).p h3 _ _ _ ⟨sv.gr, sv.lo, sv.en, s.ow.new g s.gr.ext.size ⟨b, _, rfl, hb, hu⟩ fun i hi => by cases hi; exact ⟨hlo, blk_lt hb, hn⟩⟩⟩⟩
section
variable {α : Type} {r : Rp α} {bb : Nat} {d0 : α} {q q' : List α} {v : Value} {kx ky : IntKind} {i j : Int}
theorem own_made {h : PH} {w : World} {z : Value} {b : Nat} {ti : TypeInfo} (el : El P e r.k bb z ti) (hz : r.R h z.cells.toList d0) (hn : h b = none) (hb : w.heap[b]? = some (.cells (madeCells z.cells (a * ti.size)) e (0, 0))) : OwnL r 0 h w e (.slice (some ⟨b, 0, none⟩) a a) (List.replicate a d0) := by
  have hs := el.hc.trans el.hk
  have hm : madeCells z.cells (a * ti.size) = ((List.replicate a z.cells.toList).flatten).toArray := by rw [← el.hc]; exact made_list
  refine ⟨List.replicate a z.cells.toList, ⟨by simp [hs], .inr ⟨b, a, _, by simp, Nat.zero_le _, hn, hb, by simp, ?_, ?_⟩⟩, Go.Ear.Rows.replicate hz a⟩
  · rw [hm]; simp [hs]
  · rw [hm]; simp; exact List.take_of_length_le (by simp [hs])
instance [ts : TS P t e] [rt : RT P e α r bb d0] [lx : Lu n true loc env o1 (.cv (.int kx i))] [ly : Lu n true loc env o2 (.cv (.int ky j))] [a1 : IN i a] [b1 : IN j b] : Nx (GO P n X ms loc env B ol (⟨some d, .makeSlice t o1 o2, ty, pos, af, none⟩ :: rest) k) (a = b ∧ bb * a ≤ 281474976710656 ∧ a ≤ 9223372036854775807) (∀ v, GO P n X ms ((d, ov v) :: loc) env (rA r e v (List.replicate a d0) :: B) ol rest k) := ⟨fun hs f => ⟨fun ok ρ h w s => by
  obtain ⟨h1, h2, h3⟩ := okR_some rfl ok
  obtain ⟨z, ti, el, hz⟩ := rt.e
  obtain ⟨rfl, s2, s3⟩ := hs
  have hx := cvE (lx.h rfl ((s.x [o1]).fx o1 (by simp)))
  have hy := cvE (ly.h rfl ((s.x [o2]).fx o2 (by simp)))
  rw [a1.e] at hx; rw [b1.e] at hy
  refine Ops.cons (OpW.makeO s.gr.sat ts.h el.hi el.hz hx hy (Nat.le_refl _) (by rw [el.hb]; exact s2) s3 rfl fun b w' g hn hlo hb => ?_)
  have sv := s.put (v := .slice (some ⟨b, 0, none⟩) a a) (S := ov (.slice (some ⟨b, 0, none⟩) a a)) g ⟨rfl, rfl⟩ h1 (h2 rfl)
  exact (f _).p h3 _ _ _ ⟨sv.gr, sv.lo, sv.en, s.ow.new g s.gr.ext.size (own_made el (hz _) hn hb) fun i hi => by cases hi; exact ⟨hlo, blk_lt hb, hn⟩⟩⟩⟩
theorem own_one {lo : Nat} {h : PH} {w : World} {v : Value} (u : OwnL r lo h w e v q) : v.oneCell' = true := by
  obtain ⟨_, _, rfl, _⟩ := u.shape; rfl
theorem own_app {h0 : PH} {w0 : World} {ρ : Env} {h : PH} {w w' : World} {v' : Value} (s : Sy h0 w0 loc env (rA r e v q :: B) ρ h w) (own : OwnL r 0 h w' e v' q') (ow : Ow w w' (Value.blk v)) (hbl : ∀ b, Value.blk v' = some b → Value.blk v = some b ∨ w.heap.size ≤ b) : Sy h0 w0 loc env (rA r e v' q' :: B) ρ h w' := by
  have at_ := s.ow.at 0 rfl
  have hf : ∀ i, (rA r e v q).fp i → h i = none ∧ w0.heap.size ≤ i := fun i hi => ⟨(at_.2 i hi).1, (at_.2 i hi).2.1 rfl⟩
  have g := s.gr.ow ow fun i hi => hf i hi
  refine ⟨g, s.lo, s.en, OwnB.set (j := 0) (r := rA r e v q) rfl (fun _ _ x => x) ow.size (fun r' hr' i hi => ?_) own (fun i hi => ?_) s.ow s.gr.ext.size rfl⟩
  · have f := s.ow.foot r' (List.mem_of_mem_eraseIdx hr') i hi
    exact ⟨ow.block i f.2.2 fun e => s.ow.apart 0 rfl r' hr' i e.symm hi, f.1⟩
  · rcases hbl i hi with x | x
    · exact .inl ⟨x, (hf i x).1⟩
    · exact .inr ⟨x, (own.lt hi).1, (own.lt hi).2.1⟩
theorem Sy.perm {h0 : PH} {w0 : World} {ρ : Env} {h : PH} {w : World} (s : Sy h0 w0 loc env B ρ h w) (p : B.Perm B') : Sy h0 w0 loc env B' ρ h w := ⟨s.gr, s.lo, s.en, s.ow.perm p⟩
theorem Sy.set {h0 : PH} {w0 : World} {ρ : Env} {h : PH} {w : World} {v : Value} (s : Sy h0 w0 loc env B ρ h w) (u : den h S v) (hl : memN d (loc.map (·.1)) = false) (he : memN d (env.map (·.1)) = false) : Sy h0 w0 ((d, S) :: loc) env B (upd ρ d v) h w := s.put (Gr.refl s.gr.sat) u hl he
instance [ts : TS P t e] [rt : RT P e α r bb d0] [lx : Lu n true loc env o1 (ov v)] [pa : PA B v α r e q B'] [ly : Lu n true loc env o2 (lv r q')] : Nx (GO P n X ms loc env B ol (⟨some d, .call ⟨.builtin .append, [o1, o2].toArray, [t, t].toArray⟩, ty, pos, af, none⟩ :: rest) k) (q.length + q'.length ≤ 9223372036854775807 ∧ (q.length + q'.length) * bb ≤ 140737488355328) (∀ v', GO P n X ms ((d, ov v') :: loc) env (rA r e v' (q ++ q') :: B') ol rest k) := ⟨fun hs f => ⟨fun ok ρ h w s => by
  obtain ⟨h1, h2, h3⟩ := okR_some rfl ok
  obtain ⟨z, ti, el, hz⟩ := rt.e
  have hx := lx.h rfl ((s.x [o1]).fx o1 (by simp))
  have hy := ly.h rfl ((s.x [o2]).fx o2 (by simp))
  have s' := s.sb pa.h
  refine Ops.cons (OpW.appendL (lo := 0) ts.h el.hi el.hz el.hc el.hk s.gr.sat (Nat.zero_le _) hx.1 rfl (s'.ow.at 0 rfl).1 hy hs.1 (by rw [el.hb]; exact hs.2) fun v' w' own ow hbl => ?_)
  exact (f v').p h3 _ _ _ ((own_app s' own ow hbl).set ⟨rfl, own_one own⟩ h1 (h2 rfl))⟩⟩
instance [ts : TS P t e] [rt : RT P e α r bb d0] [lx : Lu n true loc env o1 (.cv (.slice none 0 0))] [ly : Lu n true loc env o2 (lv r q')] : Nx (GO P n X ms loc env B ol (⟨some d, .call ⟨.builtin .append, [o1, o2].toArray, [t, t].toArray⟩, ty, pos, af, none⟩ :: rest) k) (q'.length ≤ 9223372036854775807 ∧ q'.length * bb ≤ 140737488355328) (∀ v', GO P n X ms ((d, ov v') :: loc) env (rA r e v' q' :: B) ol rest k) := ⟨fun hs f => ⟨fun ok ρ h w s => by
  obtain ⟨h1, h2, h3⟩ := okR_some rfl ok
  obtain ⟨z, ti, el, hz⟩ := rt.e
  have hx := cvE (lx.h rfl ((s.x [o1]).fx o1 (by simp)))
  have hy := ly.h rfl ((s.x [o2]).fx o2 (by simp))
  have s' : Sy X.h0 X.w0 loc env (rA r e (.slice none 0 0) [] :: B) ρ h w := ⟨s.gr, s.lo, s.en, OwnL.nil r 0 h w e, (fun i hi => by cases hi), (fun r' hr' i hi => by cases hi), s.ow⟩
  refine Ops.cons (OpW.appendL (lo := 0) ts.h el.hi el.hz el.hc el.hk s.gr.sat (Nat.zero_le _) hx rfl (s'.ow.at 0 rfl).1 hy (by simpa using hs.1) (by rw [el.hb]; simpa using hs.2) fun v' w' own ow hbl => ?_)
  exact (f v').p h3 _ _ _ ((own_app s' own ow hbl).set ⟨rfl, own_one own⟩ h1 (h2 rfl))⟩⟩
instance {len : Nat} {xs : List (Nat × Operand)} {ps : List (Nat × SV)} [nn : IsIn d ms] [lx : Lup n true loc env xs ps] [ts : TS P t e] [rt : RT P e α r bb d0] [f : Els r 0 ps q] : Nx (GO P n X ms loc env B ol (⟨some d, .buildSlice t len xs.toArray, ty, pos, af, none⟩ :: rest) k) (q.length = len ∧ Nat.ble (len * r.k) 16777216 = true) (∀ v, GO P n X ms ((d, ov v) :: loc) env (rA r e v q :: B) ol rest k) := ⟨fun sd g => ⟨fun ok ρ h w s => by
  obtain ⟨h1, h2, h3⟩ := okR_some rfl ok
  obtain ⟨e1, e2⟩ := lx.h rfl
  obtain ⟨z, i, el, hz⟩ := rt.e
  have hzk : z.cells.size = r.k := el.hc.trans el.hk
  have sx := s.x (xs.map (·.2))
  obtain ⟨rr, hf⟩ := f.h (xs := xs.map fun p => (p.1, ev n ρ p.2)) (by rw [List.map_map]; exact e1.symm) (by rw [List.map_map]; exact e2 fun p hp => sx.fx p.2 (List.mem_map.2 ⟨p, hp, rfl⟩))
  obtain ⟨arr, g1, g2⟩ := hf (sz := z.cells.size) (arr := ((List.replicate len z.cells.toList).flatten).toArray) hzk (by simp [sd.1])
  have ha : arr.toList = (xs.map fun p => (ev n ρ p.2).cells.toList).flatten := by
    rw [g2, Nat.zero_mul, Nat.zero_add, sd.1, List.drop_eq_nil_of_le (by simp)]
    simp only [List.take_zero, List.nil_append, List.append_nil, List.map_map]
    rfl
  refine Ops.cons (OpW.buildSliceO s.gr.sat ts.h (isZero_of el) (by rw [hzk]; exact rt.k) (by rw [hzk]; exact sd.2) g1 fun b w' gr hn hlo hb => ?_)
  have sv := s.put (v := .slice (some ⟨b, 0, none⟩) len len) (S := ov (.slice (some ⟨b, 0, none⟩) len len)) gr ⟨rfl, rfl⟩ h1 (h2 rfl)
  refine (g _).p h3 _ _ _ ⟨sv.gr, sv.lo, sv.en, s.ow.new gr s.gr.ext.size ?_ fun i hi => by cases hi; exact ⟨hlo, blk_lt hb, hn⟩⟩
  rw [List.map_map] at rr
  have hl := rr.length
  have hfl := flatten_length rr.lens
  have hsz : arr.size = len * r.k := by rw [← Array.length_toList, ha, ← sd.1, ← hl]; exact hfl
  refine ⟨_, ⟨?_, .inr ⟨b, len, arr, by rw [sd.1], Nat.zero_le _, hn, hb, by rw [sd.1]; exact Nat.le_refl _, hsz, ?_⟩⟩, rr⟩
  · rw [hfl, hl]
  · rw [ha]; exact List.take_of_length_le (by rw [← ha, Array.length_toList, hsz, sd.1]; exact Nat.le_refl _)⟩⟩
instance [ts : TS P t e] {u : TypeId} {lc : Nat} [lx : Lu n true loc env o1 (lv r q)] : Nx (GO P n X ms loc env B ol (⟨some d, .binOp .eql t o1 (.const (.slice none 0 lc)) u, ty, pos, af, none⟩ :: rest) k) True (∀ b : Bool, (b = true → q = []) → GO P n X ms ((d, .cv (.bool b)) :: loc) env B ol rest k) := ⟨fun _ f => ⟨fun ok ρ h w s => by
  obtain ⟨h1, h2, h3⟩ := okR_some rfl ok
  have hx : LR r h _ q := lx.h rfl ((s.x [o1]).fx o1 (by simp))
  obtain ⟨bs, c, ex, _⟩ := hx.shape
  rw [ex] at hx
  exact Ops.cons (OpW.eqlNil ts.h ex rfl rfl ((f _ fun hb => hx.isNone hb).p h3 _ _ _ (s.set rfl h1 (h2 rfl))))⟩⟩
theorem own_put {h0 : PH} {w0 : World} {ρ : Env} {h : PH} {w w' : World} {r r' : Res} {b : Nat} {o : Obj} (nb : r.bor = false) (s : Sy h0 w0 loc env (r :: B) ρ h w) (p : Put w w' b o) (hp : r'.pr h w') (hb : r.fp b) (hf : ∀ i, r'.fp i → r.fp i) : Sy h0 w0 loc env (r' :: B) ρ h w' := by
  have at_ := s.ow.at 0 rfl
  refine ⟨s.gr.put p (at_.2 b hb).1 ((at_.2 b hb).2.1 nb), s.lo, s.en, OwnB.set (j := 0) (r := r) nb (fun _ _ x => x) (by rw [p.size]; exact Nat.le_refl _) (fun r' hr' i hi => ?_) hp (fun i hi => .inl ⟨hf i hi, (at_.2 i (hf i hi)).1⟩) s.ow s.gr.ext.size rfl⟩
  have f := s.ow.foot r' (List.mem_of_mem_eraseIdx hr') i hi
  exact ⟨p.other i fun e => s.ow.apart 0 rfl r' hr' b hb (e ▸ hi), f.1⟩
class Pl (S : SV) (B : List Res) (v : outParam Value) (o : outParam Nat) : Prop where h : ∀ {h x}, den h S x → ∀ {b}, v = .pointer (some ⟨b, 0, none⟩) → x = .pointer (some ⟨b, o, none⟩)
instance {o : Nat} : Pl (fo v o) B v o := ⟨fun ⟨b, off, e1, e2⟩ b' e => by rw [e] at e1; cases e1; rw [e2, Nat.zero_add]⟩
instance : Pl (ov v) B v 0 := ⟨fun u b' e => by rw [u.1, e]⟩
theorem splice_den {h : PH} {l cs l' : List SV} {o : Nat} {arr : Array Value} {vs : List Value} (u : denL h l arr.toList) (uc : denL h cs vs) (hs : l.take o ++ cs ++ l.drop (o + cs.length) = l') (hfit : o + cs.length ≤ l.length) : denL h l' (putIn arr o vs).toList := by
  have hl := u.length
  have hc := uc.length
  simp only [Array.length_toList] at hl
  rw [putIn_toList vs arr o (by omega), ← hs, hc]
  exact ((u.take o).app uc).app (u.drop _)
section
variable {l cs l' : List SV} {o : Nat} {T : SV} {u : TypeId}
instance [lx : Lu n true loc env o1 T] [pl : Pl T B v o] [pv : PV B v l e B'] [ly : Lu n true loc env o2 S] [os : O1 S] [sp : Spl l o [S] l'] [tz : TZ P t 1] : Nx (GO P n X ms loc env B ol (⟨none, .store t o1 o2, ty, pos, af, none⟩ :: rest) k) True (GO P n X ms loc env (rV v l' e :: B') ol rest k) := ⟨fun _ f => ⟨fun ok ρ h w s => by
  have hx := lx.h rfl ((s.x [o1]).fx o1 (by simp))
  have hy := ly.h rfl ((s.x [o2]).fx o2 (by simp))
  have s' := s.sb pv.h
  obtain ⟨b, arr, ev_, hb, ud⟩ := (s'.ow.at 0 rfl).1
  have hsz := ud.length
  simp only [Array.length_toList] at hsz
  have hfit := sp.h.2
  simp only [List.length_cons, List.length_nil] at hfit
  refine Ops.cons (OpW.store1 tz.h (pl.h hx ev_) rfl (hy.one os.h) hb (by omega) fun w' p => f.p (okR_none rfl ok) _ _ _ (own_put rfl s' p ⟨b, _, ev_, p.at_, ?_⟩ ev_ fun i hi => hi))
  exact splice_den (cs := [S]) (vs := [_]) ud (show den _ _ _ ∧ True from ⟨hy, trivial⟩) sp.h.1 sp.h.2⟩⟩
instance [lx : Lu n true loc env o1 T] [pl : Pl T B v o] [pv : PV B v l e B'] [ly : Lu n true loc env o2 (.ag cs)] [oc : O1L cs] [sp : Spl l o cs l'] [tz : TZ P t m] [ml : RflE cs.length m] : Nx (GO P n X ms loc env B ol (⟨none, .store t o1 o2, ty, pos, af, none⟩ :: rest) k) True (GO P n X ms loc env (rV v l' e :: B') ol rest k) := ⟨fun _ f => ⟨fun ok ρ h w s => by
  have hx := lx.h rfl ((s.x [o1]).fx o1 (by simp))
  obtain ⟨vs, hy, uc⟩ := ly.h rfl ((s.x [o2]).fx o2 (by simp))
  have s' := s.sb pv.h
  obtain ⟨b, arr, ev_, hb, ud⟩ := (s'.ow.at 0 rfl).1
  have hsz := ud.length
  simp only [Array.length_toList] at hsz
  have hfit := sp.h.2
  have hc := uc.length
  have hm := ml.h
  refine Ops.cons (OpW.storeA tz.h (by omega) (pl.h hx ev_) hy (uc.one oc.h) hb (by omega) fun w' p => f.p (okR_none rfl ok) _ _ _ (own_put rfl s' p ⟨b, _, ev_, p.at_, splice_den ud uc sp.h.1 sp.h.2⟩ ev_ fun i hi => hi))⟩⟩
end
section
variable {x' : α} {p : Nat}
theorem own_elem {h0 : PH} {w0 : World} {ρ : Env} {h : PH} {w w' : World} {mk : List α → List Res} {cs : List Value} {b cap : Nat} {arr : Array Value} (ua : UA B v α r e q mk) (s : Sy h0 w0 loc env B ρ h w) (hj : a < q.length) (rk : r.k = m) (hr : r.R h cs x') (ev_ : v = .slice (some ⟨b, 0, none⟩) q.length cap) (hb : w.heap[b]? = some (.cells arr e (0, 0))) (p : Put w w' b (.cells (putIn arr (a * m) cs) e (0, 0))) : Sy h0 w0 loc env (mk (q.set a x')) ρ h w' := by
  obtain ⟨ho, hf⟩ := ua.own s.ow
  have hfb := hf b (by rw [ev_]; rfl)
  refine ⟨s.gr.put p hfb.2 hfb.1, s.lo, s.en, ua.put s.ow p (by rw [ev_]; rfl) ?_ (List.length_set ..)⟩
  obtain ⟨css0, a0, b0⟩ := ho
  rcases a0.2 with ⟨hn, _⟩ | ⟨bb2, cap2, arr2, h5, h6, h7, h8, h9, h10, h11⟩
  · rw [ev_] at hn; cases hn
  · rw [ev_] at h5; cases h5
    rw [hb] at h8; cases h8
    have u : RelA r h arr q := ⟨css0, arr.toList.drop css0.flatten.length, by
      have hl := flatten_length b0.lens
      rw [b0.length] at hl
      have h12 := h11
      rw [← hl] at h12
      conv => lhs; rw [← List.take_append_drop css0.flatten.length arr.toList, h12], b0⟩
    have hset := RelA.set u hj hr
    rw [rk] at hset
    obtain ⟨css, z, hz, rr⟩ := hset
    have hl := rr.length
    rw [List.length_set] at hl
    have hfl := flatten_length rr.lens
    refine ⟨css, ⟨by rw [List.length_set, hfl, hl], .inr ⟨b, cap, _, by rw [List.length_set]; exact ev_, Nat.zero_le _, hfb.2, p.at_, by rw [List.length_set]; exact h9, by rw [putIn_size]; exact h10, ?_⟩⟩, rr⟩
    rw [hz, List.length_set, List.take_append_of_le_length (by rw [hfl, hl]; exact Nat.le_refl _)]
    exact List.take_of_length_le (by rw [hfl, hl]; exact Nat.le_refl _)
instance {mk : List α → List Res} [lx : Lu n true loc env o1 (pa v m a 0)] [ua : UA B v α r e q mk] [rk : Rk r m] [ly : Lu n true loc env o2 S] [rd : Rd r S x'] [tz : TZ P t m] : Nx (GO P n X ms loc env B ol (⟨none, .store t o1 o2, ty, pos, af, none⟩ :: rest) k) (a < q.length) (GO P n X ms loc env (mk (q.set a x')) ol rest k) := ⟨fun hj f => ⟨fun ok ρ h w s => by
  have hx := lx.h rfl ((s.x [o1]).fx o1 (by simp))
  have hy := ly.h rfl ((s.x [o2]).fx o2 (by simp))
  obtain ⟨b, cap, arr, ev_, _, hnb, hb, hle, ur⟩ := OwnL.block (ua.own s.ow).1 (by intro e; rw [e] at hj; cases hj)
  obtain ⟨b', l', c', e1, e2⟩ := hx
  rw [ev_] at e1; cases e1
  have hr := rd.h hy
  have hfit := ur.fit rk.h.symm hj
  have hlen := r.len hr
  rw [rk.h] at hlen
  cases hv : ev n ρ o2 with
  | agg vs =>
    rw [hv] at hr hlen
    have h1 := r.one hr
    exact Ops.cons (OpW.storeA (cs := vs.toList) tz.h hlen e2 (by rw [hv]) h1 hb (by omega) fun w' p => f.p (okR_none rfl ok) _ _ _ (own_elem ua s hj rk.h hr ev_ hb p))
  | _ =>
    rw [hv] at hr hlen
    have hm : m = 1 := by rw [← hlen]; rfl
    subst hm
    exact Ops.cons (OpW.store1 tz.h e2 hv (r.one hr _ (by simp [Value.cells])) hb (by omega) fun w' p => f.p (okR_none rfl ok) _ _ _ (own_elem ua s hj rk.h hr ev_ hb (by simpa [putIn, Value.cells] using p)))⟩⟩
end
end
class GDst (ol : List Oper) (j : Nat) (e : outParam Nat) : Prop where h : (ol[j]?).bind (·.dst) = some e
instance {o : Op} {g : Option (Nat × Bool)} : GDst (⟨some d, o, ty, pos, af, g⟩ :: ol) 0 d := ⟨rfl⟩
instance {o : Oper} {j e : Nat} [i : GDst ol j e] : GDst (o :: ol) (j + 1) e := ⟨by simpa using i.h⟩
class Gd (S : SV) (b : Bool) (c : outParam Bool) : Prop where
  h : ∀ {h v}, den h S v → (c = true ∧ v = .bool b) ∨ (c = false ∧ (v = undef ∨ ∃ b', v = .bool b' ∧ (b' == b) = false))
instance {g : Bool} : Gd (.cv (.bool g)) true g := ⟨fun u => by cases u; cases g; exact .inr ⟨rfl, .inr ⟨false, rfl, rfl⟩⟩; exact .inl ⟨rfl, rfl⟩⟩
class Nt (a : Bool) (b : outParam Bool) : Prop where h : (!a) = b
instance (priority := low) {a : Bool} : Nt a (!a) := ⟨rfl⟩
class An (a b : Bool) (c : outParam Bool) : Prop where h : (a && b) = c
instance (priority := low) {a b : Bool} : An a b (a && b) := ⟨rfl⟩
instance {g g2 : Bool} [nt : Nt g g2] : Gd (.cv (.bool g)) false g2 := ⟨fun u => by rw [← nt.h]; cases u; cases g; exact .inl ⟨rfl, rfl⟩; exact .inr ⟨rfl, .inr ⟨true, rfl, rfl⟩⟩⟩
instance {g q b c c2 : Bool} [i : Gd (.cv (.bool g)) b c] [an : An q c c2] : Gd (.cn q (.cv (.bool g))) b c2 := ⟨fun {h v} u => by
  rw [← an.h]
  cases q with
  | false => exact .inr ⟨rfl, .inl (u.2 rfl)⟩
  | true => exact i.h (u.1 rfl)⟩
theorem guard_step {h0 : PH} {w0 : World} {ρ : Env} {h : PH} {w : World} {K : Env → World → Prop} {j : Nat} {b : Bool} {g : Nat} {Sg : SV} {q : Bool} [gd : GDst ol j g] [bl : RflE (Nat.ble n g) false] [gc : Gd Sg b q] [st : St P n q loc env B ms d op sd S]
    (hg : den h Sg (ρ g)) (s : Sx h0 w0 loc env B op.operands.toList ρ h w) (hs : q = true → sd) (hk : ∀ v h' w', Gr h w h' w' → den h' (.cn q S) v → K (upd ρ d v) w') : OpG P n ol.toArray ⟨some d, op, ty, pos, af, some (j, b)⟩ ρ w K := by
  have hd : (ol.toArray[j]?).bind (·.dst) = some g := by simpa using gd.h
  rcases gc.h hg with ⟨hq, hv⟩ | ⟨hq, hv | ⟨b', hv, hb⟩⟩
  · exact OpG.live hd (blt_of bl.h) hv (st.h hq (hs hq) s fun v h' w' g u => hk v h' w' g ⟨fun _ => u, fun e => absurd (hq.symm.trans e) Bool.noConfusion⟩)
  · exact OpG.dead0 hd (blt_of bl.h) hv (hk _ _ _ (Gr.refl s.gr.sat) ⟨fun e => absurd (hq.symm.trans e) Bool.false_ne_true, fun _ => rfl⟩)
  · exact OpG.dead hd (blt_of bl.h) hv hb (hk _ _ _ (Gr.refl s.gr.sat) ⟨fun e => absurd (hq.symm.trans e) Bool.false_ne_true, fun _ => rfl⟩)
theorem Ops.ofG {ops : Array Oper} {K : Env → World → Prop} {o : Oper} {ρ : Env} {w : World} (g : OpG P n ops o ρ w (Ops P n ops K rest)) : Ops P n ops K (o :: rest) ρ w := by
  unfold Ops; unfold OpG at g
  split
  · rename_i hw; rw [if_pos hw] at g; exact g
  · rename_i hw; rw [if_neg hw] at g; exact g
instance {j g : Nat} {b q : Bool} {Sg : SV} {p : Prop} [gd : GDst ol j g] [bl : RflE (Nat.ble n g) false] [lg : LkT loc env g Sg] [gc : Gd Sg b q] [st : St P n q loc env B ms d op sd S] [tp : TP q p] : Nx (GO P n X ms loc env B ol (⟨some d, op, ty, pos, af, some (j, b)⟩ :: rest) k) (memN d (env.map (·.1)) = false ∧ (p → sd)) (GO P n X ms ((d, .cn q S) :: loc) env B ol rest k) := ⟨fun hs a => ⟨fun ok ρ h w s => by
  obtain ⟨h1, h2, h3⟩ := okR_some rfl ok
  exact Ops.ofG (guard_step (gc := gc) (st := st) (lg.h.elim s.lo.mem s.en.mem) (s.x _) (fun hq => hs.2 (tp.h.1 hq)) fun v h' w' g u => a.p h3 _ _ _ (s.put g u h1 hs.1))⟩⟩
theorem gIf {o : Operand} {b : Bool} {p : Prop} [l : Lu n true loc env o (.cv (.bool b))] [tp : TP b p] (ht : p → GW P n X ms [] env B x k) (hf : ¬ p → GW P n X ms [] env B y k) : GW P n X ms loc env B (.cond o x y) k := ⟨fun ρ h w s =>
  WT.cond (cvE (l.h rfl ((s.x [o]).fx o (by simp)))) (fun e => (ht (tp.h.1 e)).p _ _ _ ⟨s.gr, trivial, s.en, s.ow⟩) fun e => (hf (fun q => by rw [tp.h.2 q] at e; cases e)).p _ _ _ ⟨s.gr, trivial, s.en, s.ow⟩⟩
instance (priority := high) {o : Operand} [l : Lu n true loc env o (.cv (.bool true))] : Nx (GW P n X ms loc env B (.cond o x y) k) True (GW P n X ms [] env B x k) := ⟨fun _ a => gIf (fun _ => a) fun q => absurd trivial q⟩
instance (priority := high) {o : Operand} [l : Lu n true loc env o (.cv (.bool false))] : Nx (GW P n X ms loc env B (.cond o x y) k) True (GW P n X ms [] env B y k) := ⟨fun _ a => gIf (fun q => q.elim) fun _ => a⟩
class ArgE (i : Nat) (args : List SV) (env : outParam EL) : Prop where
  h : ∀ {h vs}, denL h args vs → EnvOk h (env0 i vs) env
  n : ∀ j, j < i → nIn j env = true
instance {i : Nat} : ArgE i [] [] := ⟨fun _ => trivial, fun _ _ => rfl⟩
instance {i : Nat} {args : List SV} [a : ArgE (i + 1) args env] : ArgE i (S :: args) ((i, S) :: env) := ⟨fun {h vs} u => by
  cases vs with
  | nil => exact u.elim
  | cons v vs =>
    refine ⟨?_, (a.h u.2).upd (v := v) (a.n i (Nat.lt_succ_self i))⟩
    show den h S (upd (env0 (i + 1) vs) i v i)
    rw [upd_at]; exact u.1, fun j hj => by
  unfold nIn
  rw [beq_ne (by omega : i ≠ j), a.n j (by omega)]; rfl⟩
def resL (P : Program) (n : Nat) (ρ : Env) (w : World) : List ResultVar → List Value → Prop
  | [], [] => True
  | r :: rs, v :: vs => resOf P n ρ w r v ∧ resL P n ρ w rs vs
  | _, _ => False
def res1 : List Value → Value
  | [v] => v
  | l => .tuple l.toArray
def oneOf : List SV → SV
  | [S] => S
  | l => .tp l
def fE (n : Nat) (R : Env → World → Prop) : Exit → Act → World → Prop
  | .normal, a, w | .ret, a, w => ∃ ρ, (a = mkX X0 n ρ ∧ R ρ w) ∨ ∃ D, a = mkX ⟨none, [{ target := .collected D, args := #[] }]⟩ n ρ ∧ w.heap[D]? = some (.deferred (some [])) ∧ ∀ w', Put w w' D (.deferred none) → R ρ w'
  | _, _, _ => False
def fQ (P : Program) (n : Nat) (rs : List ResultVar) (h0 : PH) (w0 : World) (S : SV) (ρ : Env) (w : World) : Prop := ∃ vs h', resL P n ρ w rs vs ∧ Gr h0 w0 h' w ∧ den h' S (res1 vs)
theorem mapM_res {ρ : Env} {w : World} : ∀ {rs : List ResultVar} {vs : List Value}, resL P n ρ w rs vs → (rs.mapM (resOne (mk n ρ).tmps)).run P w = .ok vs w
  | [], [], _ => rfl
  | r :: rs, v :: vs, u => by
    have h1 : (resOne (mk n ρ).tmps r).run P w = .ok v w := u.1
    have h2 := mapM_res u.2
    simp only [List.mapM_cons, Sem.run_bind, h1, Result.andThen, h2]; rfl
theorem callsE {f : FuncId} {fn : Func} {c : Code} {vs : List Value} {w : World} {R : Env → World → Prop} {R' : Value → World → Prop} (hf : P.funcs[f]? = some fn) (hb : fn.body = some c) (hn : Nat.ble vs.length fn.ntmps = true)
    (h : WT X0 P fn.ntmps c (fE fn.ntmps R) (env0 0 vs) w) (hR : ∀ ρ w, R ρ w → ∃ v, (results fn (mk fn.ntmps ρ).tmps).run P w = .ok v w ∧ R' v w) : Calls P f vs.toArray w fun e w' => ∃ v, e = .returned v ∧ R' v w' := by
  refine (callsIn_wide (n := 0)).1 ?_
  refine callsIn_of_wp_marks hf hb trivial ?_
  have := mk_env0 (Nat.le_of_ble_eq_true hn)
  simp only [List.size_toArray]
  rw [this]
  refine wpIn_mono h ?_
  intro e a w' hq
  have key : (∃ ρ, (a = mkX X0 fn.ntmps ρ ∧ R ρ w') ∨ ∃ D, a = mkX ⟨none, [{ target := .collected D, args := #[] }]⟩ fn.ntmps ρ ∧ w'.heap[D]? = some (.deferred (some [])) ∧ ∀ w2, Put w' w2 D (.deferred none) → R ρ w2) →
      bodyPostM (FX X0) 0 P fn (fun e w' => ∃ v, e = .returned v ∧ R' v w') .ret a w' := by
    rintro ⟨ρ, ⟨rfl, r⟩ | ⟨D, rfl, hD, r⟩⟩
    · obtain ⟨v, h1, h2⟩ := hR _ _ r; exact ⟨v, h1, v, rfl, h2⟩
    · obtain ⟨v, h1, h2⟩ := hR _ _ (r _ (Put.obj (o := .deferred none) (blk_lt hD)))
      exact ⟨by simp, .inl ⟨D, _, rfl, run_takeDeferred hD, v, h1, v, rfl, h2⟩⟩
  cases e with
  | normal => exact key hq
  | ret => exact key hq
  | _ => exact hq.elim
theorem res_run {fn : Func} {rs : List ResultVar} {ρ : Env} {w : World} {vs : List Value} (hr : fn.results = rs.toArray) (hres : resL P fn.ntmps ρ w rs vs) : (results fn (mk fn.ntmps ρ).tmps).run P w = .ok (res1 vs) w := by
  have hm := mapM_res hres
  rw [results_eq, hr]
  simp only [List.mapM_toArray, Sem.run_bind, Sem.run_map, hm]
  match vs with
  | [] => rfl
  | [v] => rfl
  | v :: u :: vs => simp [res1]
theorem ctB {f : FuncId} {fn : Func} {args : List SV} {rs : List ResultVar} {B : List Res} (call : IsFn P f) (hf : P.funcs[f]? = some fn) (hn : fn.ntmps = n) (hb : fn.body = some c) (hr : fn.results = rs.toArray) (hl : Nat.ble args.length n = true) [ae : ArgE 0 args env] (ms : List Nat) (body : ∀ h0 w0, sd → GW P n ⟨fE n (fQ P n rs h0 w0 S), h0, w0, X0⟩ ms [] env (B.map bo) c .fin) : CtB P f args B sd S := ⟨call, fun hs w0 h w vs sat ow u => by
  subst hn
  refine (callsE hf hb (by rw [u.length]; exact hl) ((body h w hs).p (env0 0 vs) h w ⟨Gr.refl sat, trivial, ae.h u, ow.bo w⟩) (R' := fun v w' => ∃ h', Gr h w h' w' ∧ den h' S v) ?_).mono ?_
  · rintro ρ w' ⟨vs, h', hres, g, d⟩
    exact ⟨_, res_run hr hres, h', g, d⟩
  · rintro e w' ⟨v, rfl, h', g, d⟩
    exact ⟨v, h', rfl, g, d⟩⟩
theorem ctI {f : FuncId} {fn : Func} {args : List SV} {rs : List ResultVar} (call : IsFn P f) (hf : P.funcs[f]? = some fn) (hn : fn.ntmps = n) (hb : fn.body = some c) (hr : fn.results = rs.toArray) (hl : Nat.ble args.length n = true) [ae : ArgE 0 args env] (ms : List Nat) (body : ∀ h0 w0, sd → GW P n ⟨fE n (fQ P n rs h0 w0 S), h0, w0, X0⟩ ms [] env [] c .fin) : Ct P f args sd S :=
  have cb : CtB P f args [] sd S := ctB call hf hn hb hr hl ms body
  ⟨call, fun hs _ w _ sat u => cb.h (w0 := w) hs sat trivial u⟩
class Fz (B : List Res) (S : SV) (T : outParam SV) : Prop where h : ∀ {h h'}, h.le h' → (∀ r ∈ B, r.fz h') → ∀ {v}, den h S v → den h' T v
class FzL (B : List Res) (S : List SV) (T : outParam (List SV)) : Prop where h : ∀ {h h'}, h.le h' → (∀ r ∈ B, r.fz h') → ∀ {v}, denL h S v → denL h' T v
instance (priority := low) : Fz B S S := ⟨fun le _ _ u => u.mono le⟩
instance : FzL B [] [] := ⟨fun _ _ v u => by cases v; trivial; exact u⟩
instance {T : SV} {Ss Ts : List SV} [i : Fz B S T] [j : FzL B Ss Ts] : FzL B (S :: Ss) (T :: Ts) := ⟨fun le z v u => by
  cases v with
  | nil => exact u
  | cons v vs => exact ⟨i.h le z u.1, j.h le z u.2⟩⟩
instance {l m : List SV} [i : FzL B l m] : Fz B (.ag l) (.ag m) := ⟨fun le z v ⟨vs, e, u⟩ => ⟨vs, e, i.h le z u⟩⟩
instance {α : Type} {r : Rp α} {v : Value} {q : List α} [ha : MA B v α r e q] : Fz B (ov v) (lv r q) := ⟨fun {h h'} le z x u => by
  have : LR r h' v q := z _ ha.h
  rw [u.1]; exact this⟩
class Rs (P : Program) (n : Nat) (loc env : EL) (B : List Res) (rs : List ResultVar) (Ss : outParam (List SV)) : Prop where
  h : ∀ {h0 w0 ρ h w}, Sy h0 w0 loc env B ρ h w → ∃ vs, resL P n ρ w rs vs ∧ denL h Ss vs
instance : Rs P n loc env B [] [] := ⟨fun _ => ⟨[], trivial, trivial⟩⟩
instance {rs : List ResultVar} {Ss : List SV} {s : Nat} [lx : Lu n true loc env (.tmp s) S] [i : Rs P n loc env B rs Ss] : Rs P n loc env B (.tmp s :: rs) (S :: Ss) := ⟨fun {h0 w0 ρ h w} y => by
  obtain ⟨vs, a, b⟩ := i.h y
  exact ⟨_ :: vs, ⟨resOf_tmp rfl, a⟩, lx.h rfl ((y.x [.tmp s]).fx (.tmp s) (by simp)), b⟩⟩
instance {rs : List ResultVar} {Ss : List SV} {s : Nat} {v : Value} {l : List SV} [ta : TA P t false] [lx : Lu n true loc env (.tmp s) (ov v)] [hv : HV B v l e] [nt : Nth l 0 S] [i : Rs P n loc env B rs Ss] : Rs P n loc env B (.cell s t :: rs) (S :: Ss) := ⟨fun {h0 w0 ρ h w} y => by
  obtain ⟨vs, a, b⟩ := i.h y
  have hx := lx.h rfl ((y.x [.tmp s]).fx (.tmp s) (by simp))
  obtain ⟨b', arr, e1, e2, e3⟩ := hv.own y.ow
  obtain ⟨u, hu, du⟩ := e3.at nt.h
  exact ⟨u :: vs, ⟨resOf_cell1 ta.h (hx.1.trans e1) e2 (by simpa using hu), a⟩, du, b⟩⟩
instance {rs : List ResultVar} {Ss : List SV} {s : Nat} {v : Value} {l : List SV} [ta : TA P t true] [tz : TZ P t m] [lx : Lu n true loc env (.tmp s) (ov v)] [hv : HV B v l e] [ml : RflE l.length m] [i : Rs P n loc env B rs Ss] : Rs P n loc env B (.cell s t :: rs) (.ag l :: Ss) := ⟨fun {h0 w0 ρ h w} y => by
  obtain ⟨vs, a, b⟩ := i.h y
  have hx := lx.h rfl ((y.x [.tmp s]).fx (.tmp s) (by simp))
  obtain ⟨b', arr, e1, e2, e3⟩ := hv.own y.ow
  have hl := e3.length
  simp only [Array.length_toList] at hl
  have hm := ml.h
  refine ⟨.agg arr.toList.toArray :: vs, ⟨resOf_cellA ta.h tz.h (hx.1.trans e1) e2 (by omega) ?_, a⟩, ⟨arr.toList, rfl, e3⟩, b⟩
  unfold cut; rw [List.drop_zero]; exact List.take_of_length_le (by simp; omega)⟩
theorem fQ_of {rs : List ResultVar} {h0 : PH} {w0 : World} {T T' : SV} {Ss Ts : List SV} [r : Rs P n loc env B rs Ss] [f : FzL B Ss Ts] (hS : oneOf Ts = T') [eq : EqS T' T sd] (hs : sd) {ρ : Env} {h : PH} {w : World} (s : Sy h0 w0 loc env B ρ h w) : fQ P n rs h0 w0 T ρ w := by
  obtain ⟨vs, a, b⟩ := r.h s
  obtain ⟨h', g, le, z⟩ := OwnB.all s.gr s.ow
  have hd := f.h le z b
  have hv : den h' T' (res1 vs) := by
    subst hS
    match Ts, vs, hd with
    | [], [], _ => exact ⟨[], rfl, trivial⟩
    | [S], [v], d => exact d.1
    | S :: T :: Ss, v :: u :: vs, d => exact ⟨v :: u :: vs, rfl, d⟩
  exact ⟨vs, h', a, g, eq.h hs hv⟩
class Fin (X : Fix) (n : Nat) (R : outParam (Env → World → Prop)) (P : Program) (loc env : EL) (B : List Res) (B' : outParam (List Res)) : Prop where
  h : (∀ ρ h w, Sy X.h0 X.w0 loc env B' ρ h w → R ρ w) → ∀ e, e = .normal ∨ e = .ret → ∀ ρ h w, Sy X.h0 X.w0 loc env B ρ h w → run X.c.round P X.T .fin e (mkX X.c n ρ) w
instance {R : Env → World → Prop} {h0 : PH} {w0 : World} : Fin ⟨fE n R, h0, w0, X0⟩ n R P loc env B B := ⟨fun hR e he ρ h w s => by rcases he with rfl | rfl <;> exact ⟨ρ, .inl ⟨rfl, hR ρ h w s⟩⟩⟩
instance {R : Env → World → Prop} {h0 : PH} {w0 : World} {D : Nat} [po : PO B D (.deferred (some [])) B'] : Fin ⟨fE n R, h0, w0, ⟨none, [{ target := .collected D, args := #[] }]⟩⟩ n R P loc env B B' := ⟨fun hR e he ρ h w s => by
  have s' := s.sb po.h
  obtain ⟨a, f, d, g⟩ := s'.ow
  have key : ∀ w', Put w w' D (.deferred none) → R ρ w' := fun w' p => hR ρ h w' ⟨s'.gr.put p (f D rfl).1 ((f D rfl).2.1 rfl), s'.lo, s'.en, OwnB.after p g fun r hr q => d r hr D rfl q⟩
  rcases he with rfl | rfl <;> exact ⟨ρ, .inr ⟨D, rfl, a, key⟩⟩⟩
theorem gEnd {rs : List ResultVar} {h0 : PH} {w0 : World} {T T' : SV} {Ss Ts : List SV} {R0 : Exit → Act → World → Prop} {C : Ctx} [fi : Fin ⟨R0, h0, w0, C⟩ n (fQ P n rs h0 w0 T) P loc env B B'] [r : Rs P n loc env B' rs Ss] [f : FzL B' Ss Ts] (hS : oneOf Ts = T') [eq : EqS T' T sd] (hs : sd) {e : Exit} (he : e = .normal ∨ e = .ret) : GX P n ⟨R0, h0, w0, C⟩ ms loc env B e .fin :=
  ⟨fun ρ h w s => fi.h (fun ρ h w s => fQ_of (r := r) (f := f) hS (eq := eq) hs s) e he ρ h w s⟩
class OneOf (l : List SV) (S : outParam SV) : Prop where h : oneOf l = S
instance : OneOf [S] S := ⟨rfl⟩
instance : OneOf [] (.tp []) := ⟨rfl⟩
instance {S T : SV} {l : List SV} : OneOf (S :: T :: l) (.tp (S :: T :: l)) := ⟨rfl⟩
instance {rs : List ResultVar} {h0 : PH} {w0 : World} {T T' : SV} {Ss Ts : List SV} {C : Ctx} [fi : Fin ⟨fE n (fQ P n rs h0 w0 T), h0, w0, C⟩ n (fQ P n rs h0 w0 T) P loc env B B'] [r : Rs P n loc env B' rs Ss] [f : FzL B' Ss Ts] [o : OneOf Ts T'] [eq : EqS T' T sd] : Nx (GX P n ⟨fE n (fQ P n rs h0 w0 T), h0, w0, C⟩ ms loc env B .ret .fin) True sd := ⟨fun _ e => gEnd (fi := fi) (r := r) (f := f) o.h (eq := eq) e (.inr rfl)⟩
class SbE (v : Value) (T : SV) (l : EL) (l' : outParam EL) : Prop where h : ∀ {h ρ}, (∀ x, x = v → den h T x) → EnvOk h ρ l → EnvOk h ρ l'
class SbL (v : Value) (T : SV) (l : List SV) (l' : outParam (List SV)) : Prop where h : ∀ {h vs}, (∀ x, x = v → den h T x) → denL h l vs → denL h l' vs
class SbB (v : Value) (T : SV) (B : List Res) (B' : outParam (List Res)) : Prop where h : ∀ {w0 h w}, (∀ h', h.le h' → ∀ x, x = v → den h' T x) → OwnB w0 B h w → OwnB w0 B' h w ∧ ∀ r ∈ B', ∃ r' ∈ B, ∀ i, r.fp i → r'.fp i
instance {v : Value} {T : SV} : SbE v T [] [] := ⟨fun _ u => u⟩
instance (priority := high) {v : Value} {T : SV} {s : Nat} {l l' : EL} [i : SbE v T l l'] : SbE v T ((s, ov v) :: l) ((s, T) :: l') := ⟨fun q u => ⟨q _ u.1.1, i.h q u.2⟩⟩
instance {v : Value} {S T : SV} {s : Nat} {l l' : EL} [i : SbE v T l l'] : SbE v T ((s, S) :: l) ((s, S) :: l') := ⟨fun q u => ⟨u.1, i.h q u.2⟩⟩
instance {v : Value} {T : SV} : SbL v T [] [] := ⟨fun _ u => u⟩
instance (priority := high) {v : Value} {T : SV} {l l' : List SV} [i : SbL v T l l'] : SbL v T (ov v :: l) (T :: l') := ⟨fun {h vs} q u => by
  match vs, u with
  | _ :: _, u => exact ⟨q _ u.1.1, i.h q u.2⟩⟩
instance {v : Value} {S T : SV} {l l' : List SV} [i : SbL v T l l'] : SbL v T (S :: l) (S :: l') := ⟨fun {h vs} q u => by
  match vs, u with
  | _ :: _, u => exact ⟨u.1, i.h q u.2⟩⟩
instance {v : Value} {T : SV} : SbB v T [] [] := ⟨fun _ o => ⟨o, fun _ h => by cases h⟩⟩
instance {v : Value} {T : SV} {r : Res} {B B' : List Res} [i : SbB v T B B'] : SbB v T (r :: B) (r :: B') := ⟨fun q o => by
  obtain ⟨a, b⟩ := i.h q o.2.2.2
  refine ⟨⟨o.1, o.2.1, fun r' hr' j hj hj' => ?_, a⟩, fun r' hr' => ?_⟩
  · obtain ⟨r2, h2, h3⟩ := b r' hr'
    exact o.2.2.1 r2 h2 j hj (h3 j hj')
  · rcases List.mem_cons.1 hr' with rfl | hr'
    · exact ⟨_, List.mem_cons_self .., fun _ x => x⟩
    · obtain ⟨r2, h2, h3⟩ := b r' hr'
      exact ⟨r2, List.mem_cons_of_mem _ h2, h3⟩⟩
instance (priority := high) {v x : Value} {T : SV} {l l' : List SV} {B B' : List Res} [a : SbL v T l l'] [i : SbB v T B B'] : SbB v T (rV x l t :: B) (rV x l' t :: B') := ⟨fun q o => by
  obtain ⟨a', b⟩ := i.h q o.2.2.2
  refine ⟨⟨?_, o.2.1, fun r' hr' j hj hj' => ?_, a'⟩, fun r' hr' => ?_⟩
  · obtain ⟨b', arr, e1, e2, e3⟩ := o.1
    exact ⟨b', arr, e1, e2, a.h (q _ (fun _ _ x => x)) e3⟩
  · obtain ⟨r2, h2, h3⟩ := b r' hr'
    exact o.2.2.1 r2 h2 j hj (h3 j hj')
  · rcases List.mem_cons.1 hr' with rfl | hr'
    · exact ⟨_, List.mem_cons_self .., fun _ x => x⟩
    · obtain ⟨r2, h2, h3⟩ := b r' hr'
      exact ⟨r2, List.mem_cons_of_mem _ h2, h3⟩⟩
theorem Sy.fz {α : Type} {v : Value} {r : Rp α} {q : List α} {h0 : PH} {w0 : World} {loc' : EL} {B1 B2 : List Res} {ρ : Env} {h : PH} {w : World} [pa : PA B v α r e q B1] [sl : SbE v (lv r q) loc loc'] [se : SbE v (lv r q) env env'] [sb : SbB v (lv r q) B1 B2] (s : Sy h0 w0 loc env B ρ h w) : ∃ h', Sy h0 w0 loc' env' B2 ρ h' w := by
  have s' := s.sb pa.h
  obtain ⟨h', g, le, z, o⟩ := OwnB.freeze (j := 0) s'.gr s'.ow rfl
  have z' : LR r h' v q := z
  have key : ∀ x, x = v → den h' (lv r q) x := fun x e => by subst e; exact z'
  exact ⟨h', g, sl.h key (s.lo.mono le), se.h key (s.en.mono le), (sb.h (fun h2 l2 x e => by subst e; exact z'.mono l2) o).1⟩
theorem gFz {α : Type} (v : Value) {r : Rp α} {q : List α} {loc' : EL} {B1 B2 : List Res} [pa : PA B v α r e q B1] [sl : SbE v (lv r q) loc loc'] [se : SbE v (lv r q) env env'] [sb : SbB v (lv r q) B1 B2] (g : GW P n X ms loc' env' B2 c k) : GW P n X ms loc env B c k := ⟨fun ρ h w s => by
  obtain ⟨h', s'⟩ := s.fz (v := v) (r := r) (q := q) (pa := pa) (sl := sl) (se := se) (sb := sb)
  exact g.p ρ h' w s'⟩
class FO (Ss : List SV) (v : outParam Value) : Prop where t : True
instance {v : Value} {l : List SV} : FO (ov v :: l) v := ⟨trivial⟩
class SameDom (a b : EL) : Prop where h : b.map (·.1) = a.map (·.1)
instance : SameDom [] [] := ⟨rfl⟩
instance {s : Nat} {S T : SV} {a b : EL} [i : SameDom a b] : SameDom ((s, S) :: a) ((s, T) :: b) := ⟨by simp [i.h]⟩
instance (priority := 50) {α : Type} {v : Value} {r : Rp α} {q : List α} {loc' : EL} {B1 B2 : List Res} {f : Operand} {xs : List Operand} {ts : Array TypeId} {Ss : List SV} [lx : Lus n true loc env xs Ss] [fo : FO Ss v] [pa : PA B v α r e q B1] [sl : SbE v (lv r q) loc loc'] [se : SbE v (lv r q) env env'] [sb : SbB v (lv r q) B1 B2] [d1 : SameDom loc loc'] [d2 : SameDom env env'] :
    Nx (GO P n X ms loc env B ol (⟨some d, .call ⟨.value f, xs.toArray, ts⟩, ty, pos, af, none⟩ :: rest) k) True (GO P n X ms loc' env' B2 ol (⟨some d, .call ⟨.value f, xs.toArray, ts⟩, ty, pos, af, none⟩ :: rest) k) := ⟨fun _ g => ⟨fun ok ρ h w s => by
  obtain ⟨h', s'⟩ := s.fz (v := v) (r := r) (q := q) (pa := pa) (sl := sl) (se := se) (sb := sb)
  exact g.p (by rw [d1.h, d2.h]; exact ok) ρ h' w s'⟩⟩
class CtO (P : Program) (f : FuncId) (args : List SV) (side : outParam Prop) (T : outParam (Gh → List Res)) : Prop where
  fn : IsFn P f
  h : side → ∀ {h w vs}, Sat h w → denL h args vs → Calls P f vs.toArray w fun e w' => ∃ g : Gh, e = .returned g.v ∧ ∃ h', Gr h w h' w' ∧ g.v.oneCell' = true ∧ OwnB w (T g) h' w'
def fO (P : Program) (n : Nat) (rs : List ResultVar) (h0 : PH) (w0 : World) (T : Gh → List Res) (ρ : Env) (w : World) : Prop := ∃ (g : Gh) (h' : PH), resL P n ρ w rs [g.v] ∧ Gr h0 w0 h' w ∧ g.v.oneCell' = true ∧ OwnB w0 (T g) h' w
theorem ctO {f : FuncId} {fn : Func} {args : List SV} {rs : List ResultVar} {T : Gh → List Res} (call : IsFn P f) (hf : P.funcs[f]? = some fn) (hn : fn.ntmps = n) (hb : fn.body = some c) (hr : fn.results = rs.toArray) (hl : Nat.ble args.length n = true) [ae : ArgE 0 args env] (ms : List Nat) (body : ∀ h0 w0, sd → GW P n ⟨fE n (fO P n rs h0 w0 T), h0, w0, X0⟩ ms [] env [] c .fin) : CtO P f args sd T := ⟨call, fun hs h w vs sat u => by
  subst hn
  refine (callsE hf hb (by rw [u.length]; exact hl) ((body h w hs).p (env0 0 vs) h w ⟨Gr.refl sat, trivial, ae.h u, trivial⟩) (R' := fun v w' => ∃ g : Gh, g.v = v ∧ ∃ h', Gr h w h' w' ∧ g.v.oneCell' = true ∧ OwnB w (T g) h' w') ?_).mono ?_
  · rintro ρ w' ⟨g, h', hres, x⟩
    exact ⟨_, res_run hr hres, g, rfl, h', x⟩
  · rintro e w' ⟨v, rfl, g, rfl, x⟩
    exact ⟨g, rfl, x⟩⟩
theorem CtO.az {f : FuncId} {az bs : List SV} {T : Gh → List Res} (c : CtO P f bs sd T) (i : ∀ {h vs}, denL h az vs → denL h bs vs) : CtO P f az sd T := ⟨c.fn, fun x _ _ _ s u => c.h x s (i u)⟩
class MtB (B l : List Res) (sd : outParam Prop) (rest : outParam (List Res)) : Prop where h : sd → Sb B (l ++ rest)
instance {B : List Res} : MtB B [] True B := ⟨fun _ => .refl _⟩
theorem Sb.more {B B1 l rest : List Res} {x : Res} (p : Sb B (x :: B1)) (i : Sb B1 (l ++ rest)) : Sb B (x :: l ++ rest) := p.trans (i.cons x)
instance {α : Type} {B B1 l rest : List Res} {v : Value} {r : Rp α} {e : TypeId} {q q0 : List α} {s1 s2 : Prop} [p : PA B v α r e q0 B1] [ea : EqA q0 q s1] [i : MtB B1 l s2 rest] : MtB B (rA r e v q :: l) (s1 ∧ s2) rest := ⟨fun x => by rw [← ea.h x.1]; exact p.h.more (i.h x.2)⟩
theorem rV_as {v : Value} {e : TypeId} {q q0 : List SV} {s1 : Prop} (ea : EqSL q0 q s1) (x : s1) (B : List Res) : Sb (rV v q0 e :: B) (rV v q e :: B) := ⟨fun o => by
  obtain ⟨⟨b, arr, e1, e2, e3⟩, f, d, g⟩ := o
  exact ⟨⟨b, arr, e1, e2, ea.h x e3⟩, f, d, g⟩, fun r hr i q => by
  rcases List.mem_cons.1 hr with rfl | hr
  · exact ⟨_, List.mem_cons_self .., q⟩
  · exact ⟨r, List.mem_cons_of_mem _ hr, q⟩⟩
instance {B B1 l rest : List Res} {v : Value} {e : TypeId} {q q0 : List SV} {s1 s2 : Prop} [p : PV B v q0 e B1] [ea : EqSL q0 q s1] [i : MtB B1 l s2 rest] : MtB B (rV v q e :: l) (s1 ∧ s2) rest := ⟨fun x => (p.h.trans (rV_as ea x.1 B1)).more (i.h x.2)⟩
instance {α : Type} {B B1 l rest : List Res} {vs : List Value} {r : Rp α} {e : TypeId} {q q0 : List (List α)} {s1 s2 : Prop} [p : PZ B vs α r e q0 B1] [ea : EqA q0 q s1] [i : MtB B1 l s2 rest] : MtB B (rZ r e vs q :: l) (s1 ∧ s2) rest := ⟨fun x => by rw [← ea.h x.1]; exact p.h.more (i.h x.2)⟩
instance {B B1 l rest : List Res} {b : Nat} {o o' : Obj} {s2 : Prop} [p : PO B b o B1] [ea : RflE o o'] [i : MtB B1 l s2 rest] : MtB B (rO b o' :: l) s2 rest := ⟨fun x => by rw [← ea.h]; exact p.h.more (i.h x)⟩
theorem gEo {rs : List ResultVar} {h0 : PH} {w0 : World} {T : Gh → List Res} {R0 : Exit → Act → World → Prop} {C : Ctx} {kb : List Res} (g : Gh) [fi : Fin ⟨R0, h0, w0, C⟩ n (fO P n rs h0 w0 T) P loc env B B'] [r : Rs P n loc env B' rs [ov g.v]] [mb : MtB B' (T g) sd kb] (hs : sd) {e : Exit} (he : e = .normal ∨ e = .ret := by first | exact .inl rfl | exact .inr rfl) : GX P n ⟨R0, h0, w0, C⟩ ms loc env B e .fin := ⟨fun ρ h w s => fi.h (fun ρ h w s => by
  obtain ⟨vs, a, b⟩ := r.h s
  match vs, b with
  | [x], b =>
    have o := (mb.h hs).own s.ow
    have hx : x = g.v := b.1.1
    subst hx
    exact ⟨g, h, a, s.gr, b.1.2, o.left⟩) e he ρ h w s⟩
instance {α : Type} {r : Rp α} {q l : List α} {v : Value} {rs : List ResultVar} {h0 : PH} {w0 : World} {C : Ctx} [fi : Fin ⟨fE n (fO P n rs h0 w0 fun g => [rA r e g.v l]), h0, w0, C⟩ n (fO P n rs h0 w0 fun g => [rA r e g.v l]) P loc env B B'] [r1 : Rs P n loc env B' rs [ov v]] {B1 : List Res} [pa : PA B' v α r e q B1] [eq : EqA q l sd] : Nx (GX P n ⟨fE n (fO P n rs h0 w0 fun g => [rA r e g.v l]), h0, w0, C⟩ ms loc env B .ret .fin) True sd := ⟨fun _ x => by
  refine gEo (T := fun g => [rA r e g.v l]) ⟨v, []⟩ (fi := fi) (r := r1) (mb := ⟨fun _ => ?_⟩) (kb := B1) trivial (.inr rfl)
  rw [← eq.h x]; exact pa.h⟩
instance {α : Type} {r : Rp α} {l : List α} {rs : List ResultVar} {h0 : PH} {w0 : World} {C : Ctx} [fi : Fin ⟨fE n (fO P n rs h0 w0 fun g => [rA r e g.v l]), h0, w0, C⟩ n (fO P n rs h0 w0 fun g => [rA r e g.v l]) P loc env B B'] [r1 : Rs P n loc env B' rs [.cv (.slice none 0 0)]] : Nx (GX P n ⟨fE n (fO P n rs h0 w0 fun g => [rA r e g.v l]), h0, w0, C⟩ ms loc env B .ret .fin) True (l = []) := ⟨fun _ x => ⟨fun ρ h w s => fi.h (fun ρ h w s => by
  obtain ⟨vs, a, b⟩ := r1.h s
  match vs, b with
  | [y], b =>
    have hy : y = .slice none 0 0 := b.1
    subst hy; subst x
    exact ⟨⟨_, []⟩, h, a, s.gr, rfl, OwnL.nil r 0 h w e, (fun i hi => by cases hi), (fun r' hr' => by cases hr'), trivial⟩) .ret (.inr rfl) ρ h w s⟩⟩
theorem OwnB.join {w0 : World} {h h1 : PH} {w w' : World} {A : List Res} (ha : OwnB w A h1 w') (hw : w0.heap.size ≤ w.heap.size) (hB : OwnB w0 B h w) (g : Gr h w h1 w') (hnb : ∀ r ∈ A, r.bor = false) : OwnB w0 (A ++ B) h1 w' := by
  have hb := hB.grow g
  induction A with
  | nil => exact hb
  | cons r A ih =>
    refine ⟨ha.1, fun i hi => ⟨(ha.2.1 i hi).1, fun e => Nat.le_trans hw ((ha.2.1 i hi).2.1 e), (ha.2.1 i hi).2.2⟩, fun r' hr' i hi q => ?_, ih ha.2.2.2 fun r hr => hnb r (List.mem_cons_of_mem _ hr)⟩
    rcases List.mem_append.1 hr' with m | m
    · exact ha.2.2.1 r' m i hi q
    · have h1 := (ha.2.1 i hi).2.1 (hnb r (List.mem_cons_self ..))
      have h2 := (hB.foot r' m i q).2.2
      omega
class NB (l : List Res) : Prop where h : ∀ r ∈ l, r.bor = false
instance : NB [] := ⟨fun _ h => by cases h⟩
instance {α : Type} {r : Rp α} {v : Value} {q : List α} {l : List Res} [i : NB l] : NB (rA r e v q :: l) := ⟨fun x hx => by rcases List.mem_cons.1 hx with rfl | hx; rfl; exact i.h x hx⟩
instance {α : Type} {r : Rp α} {vs : List Value} {q : List (List α)} {l : List Res} [i : NB l] : NB (rZ r e vs q :: l) := ⟨fun x hx => by rcases List.mem_cons.1 hx with rfl | hx; rfl; exact i.h x hx⟩
instance (priority := high) {f : FuncId} {xs : List Operand} {ts : Array TypeId} {Ss : List SV} {T : Gh → List Res} {B' : Gh → List Res} [nn : IsIn d ms] [lx : Lus n true loc env xs Ss] [ct : CtO P f Ss sd T] [nb : ∀ g, NB (T g)] [ap : ∀ g, AppL (T g) B (B' g)] : Nx (GO P n X ms loc env B ol (⟨some d, .call ⟨.value (.func f), xs.toArray, ts⟩, ty, pos, af, none⟩ :: rest) k) sd (∀ g : Gh, GO P n X ms ((d, ov g.v) :: loc) env (B' g) ol rest k) := ⟨fun hs g => ⟨fun ok ρ h w s => by
  obtain ⟨h1, h2, h3⟩ := okR_some rfl ok
  have hx : denL h Ss (xs.map (ev n ρ)) := lx.h rfl fun x hx => (s.x [x]).fx x (by simp)
  refine Ops.cons (OpW.enter (f := f) (args := (xs.map (ev n ρ)).toArray) (w' := w) ?_ (ct.h hs s.gr.sat hx) ?_)
  · simp only [execOp, resolve, ev, Deferred.ofValue, Sem.run_bind, Sem.run_pure, Result.andThen, invoke, List.map_toArray]
    have := ct.fn (#[] ++ (xs.map (ev n ρ)).toArray ++ #[]) w
    simpa using this
  · rintro e w'' ⟨q, rfl, h', gr, o1, ow⟩
    have sv := s.put (v := q.v) (S := ov q.v) gr ⟨rfl, o1⟩ h1 (h2 rfl)
    exact ⟨q.v, rfl, (g q).p h3 _ _ _ ⟨sv.gr, sv.lo, sv.en, by rw [← (ap q).h]; exact OwnB.join ow s.gr.ext.size s.ow gr (nb q).h⟩⟩⟩⟩
end
end Go.E3
set_option linter.unusedVariables false
namespace Go.E3
open Go Go.Ear
class MtE (env l : EL) (sd : outParam Prop) : Prop where h : sd → ∀ {h ρ}, EnvOk h ρ env → EnvOk h ρ l
instance {env : EL} : MtE env [] True := ⟨fun _ _ _ _ => trivial⟩
instance {env l : EL} {d : Nat} {S T : SV} {s1 s2 : Prop} [lk : LkE env d S] [e : EqS S T s1] [i : MtE env l s2] : MtE env ((d, T) :: l) (s1 ∧ s2) := ⟨fun q _ _ u => ⟨e.h q.1 (u.mem lk.h), i.h q.2 u⟩⟩
class KpE (l env : EL) (env' : outParam EL) : Prop where h : ∀ {h ρ}, EnvOk h ρ env → EnvOk h ρ env'
instance {env : EL} : KpE [] env env := ⟨fun u => u⟩
instance {l env env1 env2 : EL} {d : Nat} {S : SV} [i : Dl env d env1] [j : KpE l env1 env2] : KpE ((d, S) :: l) env env2 := ⟨fun u => j.h (i.h.2.1 u)⟩
class MR (P : Program) (e : TypeId) (bb : outParam Nat) : Prop where h : ∃ ti, El P e 1 bb (.slice none 0 0) ti
theorem rep_getD (a t : Nat) : (List.replicate a vnil).getD t vnil = vnil := by
  rw [List.getD_eq_getElem?_getD, List.getElem?_replicate]; split <;> rfl
theorem rep_getD' {β : Type} (a t : Nat) : (List.replicate a ([] : List β)).getD t [] = [] := by
  rw [List.getD_eq_getElem?_getD, List.getElem?_replicate]; split <;> rfl
theorem OwnB.any {w0 : World} {h : PH} {w : World} : ∀ {B : List Res}, OwnB w0 B h w → OwnB (noW w) B h w
  | [], _ => trivial
  | _ :: _, o => ⟨o.1, fun i hi => ⟨(o.2.1 i hi).1, fun _ => Nat.zero_le _, (o.2.1 i hi).2.2⟩, o.2.2.1, OwnB.any o.2.2.2⟩
theorem own_rows {α : Type} {P : Program} {e : TypeId} {bb a : Nat} {w0 : World} {h : PH} {w : World} {b : Nat} {ti : TypeInfo} (el : El P e 1 bb (.slice none 0 0) ti) (hn : h b = none) (hb : w.heap[b]? = some (.cells (madeCells (Value.slice none 0 0).cells (a * ti.size)) e (0, 0))) (hlo : w0.heap.size ≤ b) (r : Rp α) (e2 : TypeId) :
    OwnB w0 [rA rW e (.slice (some ⟨b, 0, none⟩) a a) (List.replicate a vnil), rZ r e2 (List.replicate a vnil) (List.replicate a [])] h w :=
  ⟨own_made (r := rW) el (show den _ _ _ ∧ True from ⟨⟨rfl, rfl⟩, trivial⟩) hn hb, fun i hi => by cases hi; exact ⟨hn, fun _ => hlo, blk_lt hb⟩, (fun r' hr' i hi => by
    rcases List.mem_singleton.1 hr' with rfl
    rintro ⟨t, ht⟩; rw [rep_getD, blk_nil] at ht; cases ht),
   ⟨by simp, fun t => by rw [rep_getD, rep_getD']; exact OwnL.nil .., (fun t u b hb => by rw [rep_getD, blk_nil] at hb; cases hb)⟩, (fun i ⟨t, ht⟩ => by rw [rep_getD, blk_nil] at ht; cases ht), (fun r' hr' => by cases hr'), trivial⟩
structure Bk {σ : Type} (C : Ctx) (n : Nat) (h0 : PH) (w0 : World) (E : σ → EL) (Bs : σ → List Res) (I : σ → Prop) (μ : σ → Nat) (s : σ) (a : Act) (w : World) : Prop where
  p : ∃ ρ, a = mkX C n ρ ∧ ∃ s', I s' ∧ μ s' < μ s ∧ ∃ h, Sy h0 w0 [] (E s') (Bs s') ρ h w
structure Me {σ : Type} (C : Ctx) (n : Nat) (h0 : PH) (w0 : World) (E : σ → EL) (Bs : σ → List Res) (I : σ → Prop) (a : Act) (w : World) : Prop where
  p : ∃ ρ, a = mkX C n ρ ∧ ∃ s', I s' ∧ ∃ h, Sy h0 w0 [] (E s') (Bs s') ρ h w
section
variable {P : Program} {n : Nat} {X : Fix} {ms : List Nat} {loc env kept : EL} {B kb : List Res} {x y : Code} {k : Kt} {σ : Type} {s1 s2 : Prop}
theorem gLp (es : σ → EL) (rs : σ → List Res) (I : σ → Prop) (μ : σ → Nat) (s0 : σ) [kp : KpE (es s0) env kept] [me : MtE env (es s0) s1] [mb : MtB B (rs s0) s2 kb] {E : σ → EL} {Bs : σ → List Res} [ae : ∀ s, AppL (es s) kept (E s)] [ab : ∀ s, AppL (rs s) kb (Bs s)]
    (hI : I s0) (round : ∀ s, I s → GW P n X ms [] (E s) (Bs s) x (.cut (Bk X.c n X.h0 X.w0 E Bs I μ s) k)) (h1 : s1 := by first | trivial | ((try dsimp only); (try simp only [List.length_replicate, List.length_set]); repeat' (first | refine And.intro ?_ ?_ | rfl | trivial | omega))) (h2 : s2 := by first | trivial | ((try dsimp only); (try simp only [List.length_replicate, List.length_set]); repeat' (first | refine And.intro ?_ ?_ | rfl | trivial | omega))) : GW P n X ms loc env B (.loop x) k := ⟨fun ρ h w s => by
  refine WT.loop (fun s ρ w => I s ∧ ∃ h, Sy X.h0 X.w0 [] (E s) (Bs s) ρ h w) μ s0 ⟨hI, h, s.gr, trivial, ?_, ?_⟩ ?_
  · rw [← (ae s0).h]; exact (me.h h1 s.en).app (kp.h s.en)
  · rw [← (ab s0).h]; exact (mb.h h2).own s.ow
  · rintro s' ρ' w' ⟨hi, h', sy⟩
    refine ((round s' hi).p ρ' h' w' sy).mono fun e a2 w2 hq => ?_
    cases e with
    | normal =>
      obtain ⟨ρ2, rfl, s2, a1, a2, a3⟩ := Bk.p hq
      exact ⟨ρ2, rfl, s2, ⟨a1, a3⟩, a2⟩
    | _ => exact hq⟩
theorem gBk {E : σ → EL} {Bs : σ → List Res} {I : σ → Prop} {μ : σ → Nat} {s : σ} (s' : σ) [me : MtE env (E s') s1] [mb : MtB B (Bs s') s2 kb] (hI : I s') (hm : μ s' < μ s) (h1 : s1 := by first | trivial | ((try dsimp only); (try simp only [List.length_replicate, List.length_set]); repeat' (first | refine And.intro ?_ ?_ | rfl | trivial | omega))) (h2 : s2 := by first | trivial | ((try dsimp only); (try simp only [List.length_replicate, List.length_set]); repeat' (first | refine And.intro ?_ ?_ | rfl | trivial | omega))) :
    GX P n X ms loc env B .normal (.cut (Bk X.c n X.h0 X.w0 E Bs I μ s) k) := ⟨fun ρ h w sy => ⟨⟨ρ, rfl, s', hI, hm, h, sy.gr, trivial, me.h h1 sy.en, ((mb.h h2).own sy.ow).left⟩⟩⟩
class KE (ss : List Nat) (env : EL) (env' : outParam EL) : Prop where h : ∀ {h ρ}, EnvOk h ρ env → EnvOk h ρ env'
instance {env : EL} : KE [] env [] := ⟨fun _ => trivial⟩
instance {s : Nat} {ss : List Nat} {env env' : EL} {S : SV} [l : LkE env s S] [i : KE ss env env'] : KE (s :: ss) env ((s, S) :: env') := ⟨fun u => ⟨u.mem l.h, i.h u⟩⟩
theorem gKp (ss : List Nat) {env' : EL} [ke : KE ss env env'] (g : GW P n X ms [] env' B x k) : GW P n X ms loc env B x k := ⟨fun ρ h w s => g.p ρ h w ⟨s.gr, trivial, ke.h s.en, s.ow⟩⟩
theorem gTab {ol rest : List Oper} {d : Nat} {t ty : TypeId} {pos : String} {af : Array Edge} {s : ByteArray} {y : Operand} {kk : IntKind} {i : Int} {a : Nat} {r : Int} [ts : TStr P t] [ly : Lu n true loc env y (.cv (.int kk i))] [a1 : IN i a] (h : (s[a]?).map (fun b => ((b.toNat : Nat) : Int)) = some r) (g : GO P n X ms ((d, .cv (.int .u8 r)) :: loc) env B ol rest k) : GO P n X ms loc env B ol (⟨some d, .index t (.const (.string s)) y, ty, pos, af, none⟩ :: rest) k := ⟨fun ok ρ hh w sy => by
  obtain ⟨h1, h2, h3⟩ := okR_some rfl ok
  obtain ⟨b, hb, e⟩ := Option.map_eq_some_iff.1 h
  exact Ops.cons (OpW.indexStr ts.h rfl ((cvE (ly.h rfl ((sy.x [y]).fx y (by simp)))).trans (by rw [a1.e])) hb (g.p h3 _ _ _ (sy.set (by rw [← e]; rfl) h1 (h2 rfl))))⟩
structure Mt (C : Ctx) (n : Nat) (h0 : PH) (w0 : World) (E : EL) (B : List Res) (a : Act) (w : World) : Prop where
  p : ∃ ρ, a = mkX C n ρ ∧ ∃ h, Sy h0 w0 [] E B ρ h w
theorem gJ (es : EL) {o : Operand} {b : Bool} {p : Prop} {E : EL} [l : Lu n true loc env o (.cv (.bool b))] [tp : TP b p] [kp : KpE es env kept] [ae : AppL es kept E] (ht : p → GW P n X ms [] env B x (.cut (Mt X.c n X.h0 X.w0 E B) k)) (hf : ¬ p → GW P n X ms [] env B y (.cut (Mt X.c n X.h0 X.w0 E B) k)) (g : GX P n X ms [] E B .normal k) : GW P n X ms loc env B (.cond o x y) k := ⟨fun ρ h w s => by
  have key : ∀ c, GW P n X ms [] env B c (.cut (Mt X.c n X.h0 X.w0 E B) k) → WT X.c P n c (run X.c.round P X.T k) ρ w := fun c gc => by
    refine (gc.p ρ h w ⟨s.gr, trivial, s.en, s.ow⟩).mono fun e a2 w2 hq => ?_
    cases e with
    | normal => obtain ⟨ρ2, rfl, h2, s2⟩ := Mt.p hq; exact g.p _ _ _ s2
    | _ => exact hq
  exact WT.cond (cvE (l.h rfl ((s.x [o]).fx o (by simp)))) (fun e => key _ (ht (tp.h.1 e))) fun e => key _ (hf (fun q => by rw [tp.h.2 q] at e; cases e))⟩
theorem gM {E : EL} {B' : List Res} [me : MtE env E s1] [mb : MtB B B' s2 kb] (h1 : s1 := by first | trivial | ((try dsimp only); (try simp only [List.length_replicate, List.length_set]); repeat' (first | refine And.intro ?_ ?_ | rfl | trivial | omega))) (h2 : s2 := by first | trivial | ((try dsimp only); (try simp only [List.length_replicate, List.length_set]); repeat' (first | refine And.intro ?_ ?_ | rfl | trivial | omega))) : GX P n X ms loc env B .normal (.cut (Mt X.c n X.h0 X.w0 E B') k) := ⟨fun ρ h w sy => ⟨⟨ρ, rfl, h, sy.gr, trivial, me.h h1 sy.en, ((mb.h h2).own sy.ow).left⟩⟩⟩
end
end Go.E3
