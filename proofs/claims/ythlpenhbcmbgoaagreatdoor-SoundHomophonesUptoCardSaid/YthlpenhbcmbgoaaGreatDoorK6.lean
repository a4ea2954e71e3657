/- K6: a part of the proofs about what is clipped and stored: how the program's functions run, and what they compute, for every input. -/
import Derived.Test.YthlpenhbcmbgoaaGreatDoorK5
import Derived.Test.YthlpenhbcmbgoaaGreatDoorK4
set_option linter.all false
set_option linter.unusedVariables false
namespace Go.E3
open Go Go.Ear
class It (P : Program) (F : SV) (idx : outParam (Nat → Int)) (len : outParam Nat) (sd : outParam Prop) : Prop where
  h : sd → ∀ {h x}, den h F x → ∃ (gf : FuncId) (lb : Array Value), x = .func (.func gf) #[] lb ∧ IsFn P gf ∧ IterK P gf lb (fun k => .int .i64 (idx k)) len (Sat h)
section
variable {P : Program} {n : Nat} {X : Fix} {ms : List Nat} {loc env kept : EL} {B kb : List Res} {x y : Code} {k : Kt} {σ : Type} {s1 s2 : Prop}
theorem gMe {E : σ → EL} {Bs : σ → List Res} {I : σ → Prop} (s' : σ) [me : MtE env (E s') s1] [mb : MtB B (Bs s') s2 kb] (hI : I s') (h1 : s1 := by first | trivial | ((try dsimp only); (try simp only [List.length_replicate, List.length_set]); repeat' (first | refine And.intro ?_ ?_ | rfl | trivial | omega))) (h2 : s2 := by first | trivial | ((try dsimp only); (try simp only [List.length_replicate, List.length_set]); repeat' (first | refine And.intro ?_ ?_ | rfl | trivial | omega))) :
    GX P n X ms loc env B .normal (.cut (Me X.c n X.h0 X.w0 E Bs I) k) := ⟨fun ρ h w sy => ⟨⟨ρ, rfl, s', hI, h, sy.gr, trivial, me.h h1 sy.en, ((mb.h h2).own sy.ow).left⟩⟩⟩
theorem OwnB.obj {w0 : World} {h : PH} {w w' : World} {b : Nat} {o o' : Obj} {B : List Res} (ob : OwnB w0 (rO b o :: B) h w) (p : Put w w' b o') : OwnB w0 (rO b o' :: B) h w' :=
  ⟨p.at_, fun i hi => ⟨(ob.2.1 i hi).1, (ob.2.1 i hi).2.1, by rw [p.size]; exact (ob.2.1 i hi).2.2⟩, ob.2.2.1, OwnB.after p ob.2.2.2 fun r hr q => ob.2.2.1 r hr b rfl q⟩
theorem Gr.base {h0 hi h : PH} {w0 w w' : World} (a : Gr h0 w0 hi w) (b : Gr h0 w0 h w') (l : hi.le h) : Gr hi w0 h w' := ⟨b.sat, b.ext, l, fun i e => (b.fresh i e).imp (fun q e2 => q (by
  cases x : h0 i with
  | none => rfl
  | some o => rw [a.le i o x] at e2; cases e2)) id, fun e1 e2 => b.drawn (by
  cases x : h0 1 with
  | none => rfl
  | some o => rw [a.le 1 o x] at e1; cases e1) e2⟩
theorem Gr.unbase {h0 hi h : PH} {w0 w w' : World} (a : Gr h0 w0 hi w) (b : Gr hi w0 h w') : Gr h0 w0 h w' := ⟨b.sat, b.ext, a.le.trans b.le, fun i e => (b.fresh i e).elim (a.fresh i) .inr, fun e1 e2 => b.drawn (by
  cases x : hi 1 with
  | none => rfl
  | some o =>
    rcases a.fresh 1 (by rw [x]; exact fun h => nomatch h) with h1 | h1
    · exact absurd e1 h1
    · omega) e2⟩
end
section
variable {α : Type} {r : Rp α} {e : TypeId} {x : Value} {q : List α} {us us2 : List Value} {ls ls2 : List (List α)} {B : List Res} {a : Nat}
theorem Sb.zset (ha : a < us.length) : Sb (rA r e x q :: rZ r e us ls :: B) (rZ r e (us.set a x) (ls.set a q) :: B) := by
  have hz : ∀ (t b : Nat), Value.blk ((us.set a x).getD t vnil) = some b → (t = a ∧ Value.blk x = some b) ∨ (t ≠ a ∧ Value.blk (us.getD t vnil) = some b) := fun t b hb => by
    rw [getD_set' ha] at hb
    by_cases e : t = a
    · rw [if_pos e] at hb; exact .inl ⟨e, hb⟩
    · rw [if_neg e] at hb; exact .inr ⟨e, hb⟩
  refine ⟨fun {w0 h w} o => ?_, fun r' hr' i hi => ?_⟩
  · obtain ⟨o1, f1, d1, ⟨l1, g1, c1⟩, f2, d2, g2⟩ := o
    have hd : ∀ b t, Value.blk x = some b → Value.blk (us.getD t vnil) ≠ some b := fun b t h1 h2 => d1 _ (List.mem_cons_self ..) b h1 ⟨t, h2⟩
    refine ⟨⟨by rw [List.length_set, List.length_set]; exact l1, fun t => ?_, fun t u b h1 h2 => ?_⟩, fun i ⟨t, ht⟩ => ?_, fun r' hr' i ⟨t, ht⟩ => ?_, g2⟩
    · rw [getD_set' ha, getD_set' (by omega)]
      by_cases e : t = a
      · rw [if_pos e, if_pos e]; exact o1
      · rw [if_neg e, if_neg e]; exact g1 t
    · rcases hz t b h1 with ⟨e1, e2⟩ | ⟨e1, e2⟩ <;> rcases hz u b h2 with ⟨e3, e4⟩ | ⟨e3, e4⟩
      · omega
      · exact (hd b u e2 e4).elim
      · exact (hd b t e4 e2).elim
      · exact c1 t u b e2 e4
    · rcases hz t i ht with ⟨_, e2⟩ | ⟨_, e2⟩
      · exact f1 i e2
      · exact f2 i ⟨t, e2⟩
    · rcases hz t i ht with ⟨_, e2⟩ | ⟨_, e2⟩
      · exact d1 r' (List.mem_cons_of_mem _ hr') i e2
      · exact d2 r' hr' i ⟨t, e2⟩
  · rcases List.mem_cons.1 hr' with rfl | hr'
    · obtain ⟨t, ht⟩ := hi
      rcases hz t i ht with ⟨_, e2⟩ | ⟨_, e2⟩
      · exact ⟨_, List.mem_cons_self .., e2⟩
      · exact ⟨_, List.mem_cons_of_mem _ (List.mem_cons_self ..), t, e2⟩
    · exact ⟨r', List.mem_cons_of_mem _ (List.mem_cons_of_mem _ hr'), hi⟩
theorem getD_snoc {β : Type _} {l : List β} {y d : β} {t : Nat} : (l ++ [y]).getD t d = if t = l.length then y else l.getD t d := by
  simp only [List.getD_eq_getElem?_getD]
  by_cases h : t < l.length
  · rw [List.getElem?_append_left h, if_neg (by omega)]
  · rw [List.getElem?_append_right (by omega)]
    by_cases e : t = l.length
    · subst e; simp
    · rw [if_neg e, List.getElem?_eq_none (by simp; omega), List.getElem?_eq_none (by omega)]
theorem Sb.zapp : Sb (rA r e x q :: rZ r e us ls :: B) (rZ r e (us ++ [x]) (ls ++ [q]) :: B) := by
  have hz : ∀ (t b : Nat), Value.blk ((us ++ [x]).getD t vnil) = some b → (t = us.length ∧ Value.blk x = some b) ∨ (t ≠ us.length ∧ Value.blk (us.getD t vnil) = some b) := fun t b hb => by
    rw [getD_snoc] at hb
    by_cases e : t = us.length
    · rw [if_pos e] at hb; exact .inl ⟨e, hb⟩
    · rw [if_neg e] at hb; exact .inr ⟨e, hb⟩
  refine ⟨fun {w0 h w} o => ?_, fun r' hr' i hi => ?_⟩
  · obtain ⟨o1, f1, d1, ⟨l1, g1, c1⟩, f2, d2, g2⟩ := o
    have hd : ∀ b t, Value.blk x = some b → Value.blk (us.getD t vnil) ≠ some b := fun b t h1 h2 => d1 _ (List.mem_cons_self ..) b h1 ⟨t, h2⟩
    refine ⟨⟨by simp [l1], fun t => ?_, fun t u b h1 h2 => ?_⟩, fun i ⟨t, ht⟩ => ?_, fun r' hr' i ⟨t, ht⟩ => ?_, g2⟩
    · rw [getD_snoc, getD_snoc, ← l1]
      by_cases e : t = us.length
      · rw [if_pos e, if_pos e]; exact o1
      · rw [if_neg e, if_neg e]; exact g1 t
    · rcases hz t b h1 with ⟨e1, e2⟩ | ⟨e1, e2⟩ <;> rcases hz u b h2 with ⟨e3, e4⟩ | ⟨e3, e4⟩
      · omega
      · exact (hd b u e2 e4).elim
      · exact (hd b t e4 e2).elim
      · exact c1 t u b e2 e4
    · rcases hz t i ht with ⟨_, e2⟩ | ⟨_, e2⟩
      · exact f1 i e2
      · exact f2 i ⟨t, e2⟩
    · rcases hz t i ht with ⟨_, e2⟩ | ⟨_, e2⟩
      · exact d1 r' (List.mem_cons_of_mem _ hr') i e2
      · exact d2 r' hr' i ⟨t, e2⟩
  · rcases List.mem_cons.1 hr' with rfl | hr'
    · obtain ⟨t, ht⟩ := hi
      rcases hz t i ht with ⟨_, e2⟩ | ⟨_, e2⟩
      · exact ⟨_, List.mem_cons_self .., e2⟩
      · exact ⟨_, List.mem_cons_of_mem _ (List.mem_cons_self ..), t, e2⟩
    · exact ⟨r', List.mem_cons_of_mem _ (List.mem_cons_of_mem _ hr'), hi⟩
theorem Rows.rL {h : PH} : ∀ {css : List (List Value)} {us : List Value} {ls : List (List α)}, Go.Ear.Rows rW h css us → us.length = ls.length → (∀ t, LR r h (us.getD t vnil) (ls.getD t [])) → Go.Ear.Rows (rL r) h css ls
  | [], [], [], _, _, _ => trivial
  | [_] :: css, x :: us, l :: ls, u, e, z => ⟨⟨by have := z 0; rw [u.1.1.1]; exact this, trivial⟩, Rows.rL u.2 (by simpa using e) fun t => z (t + 1)⟩
  | [] :: _, _ :: _, _ :: _, u, _, _ => u.1.elim
  | (_ :: _ :: _) :: _, _ :: _, _ :: _, u, _, _ => u.1.2.elim
theorem LR.rL {h : PH} {v : Value} (u : LR rW h v us) (hl : us.length = ls.length) (z : ∀ t, LR r h (us.getD t vnil) (ls.getD t [])) : LR (rL r) h v ls := by
  obtain ⟨css, a, b⟩ := u
  exact ⟨css, a, Rows.rL b hl z⟩
end
section
variable {P : Program} {n : Nat} {X : Fix} {ms : List Nat} {loc env env' : EL} {B B' : List Res} {c x y : Code} {k : Kt} {ol rest : List Oper} {d : Nat} {op : Op} {ty : TypeId} {pos : String} {af : Array Edge} {sd : Prop} {S : SV} {a b m : Nat} {t e : TypeId} {o1 o2 : Operand}
section
variable {α : Type} {r : Rp α} {bb bb2 : Nat} {d0 : α} {q : List α} {v z : Value} {vs us : List Value} {ls : List (List α)} {e2 ew : TypeId} {kx ky : IntKind} {i j : Int} {B1 B2 B3 : List Res}
instance (priority := high) [ts : TS P t e] [ts2 : TS P e e2] [mr : MR P e bb2] [rt : RT P e2 α r bb d0] [lx : Lu n true loc env o1 (.cv (.int kx i))] [ly : Lu n true loc env o2 (.cv (.int ky j))] [a1 : IN i a] [b1 : IN j b] : Nx (GO P n X ms loc env B ol (⟨some d, .makeSlice t o1 o2, ty, pos, af, none⟩ :: rest) k) (a = b ∧ bb2 * a ≤ 281474976710656 ∧ a ≤ 9223372036854775807) (∀ v, GO P n X ms ((d, ov v) :: loc) env (rA rW e v (List.replicate a vnil) :: rZ r e2 (List.replicate a vnil) (List.replicate a []) :: B) ol rest k) := ⟨fun hs f => ⟨fun ok ρ h w s => by
  obtain ⟨h1, h2, h3⟩ := okR_some rfl ok
  obtain ⟨ti, el⟩ := mr.h
  obtain ⟨rfl, s2, s3⟩ := hs
  have hx := cvE (lx.h rfl ((s.x [o1]).fx o1 (by simp)))
  have hy := cvE (ly.h rfl ((s.x [o2]).fx o2 (by simp)))
  rw [a1.e] at hx; rw [b1.e] at hy
  refine Ops.cons (OpW.makeO s.gr.sat ts.h el.hi el.hz hx hy (Nat.le_refl _) (by rw [el.hb]; exact s2) s3 rfl fun b w' g hn hlo hb => ?_)
  have sv := s.put (v := .slice (some ⟨b, 0, none⟩) a a) (S := ov (.slice (some ⟨b, 0, none⟩) a a)) g ⟨rfl, rfl⟩ h1 (h2 rfl)
  exact (f _).p h3 _ _ _ ⟨sv.gr, sv.lo, sv.en, OwnB.join (own_rows (w0 := w) el hn hb hlo r e2) s.gr.ext.size s.ow g (NB.h)⟩⟩⟩
theorem store_z (hB : Sb B (rA rW ew v (vs.set a z) :: B')) (f : GO P n X ms loc env (rA rW ew v (vs.set a z) :: B') ol rest k) : GO P n X ms loc env B ol rest k := ⟨fun ok ρ h w s => f.p ok ρ h w (s.sb hB)⟩
instance (priority := high) [lx : Lu n true loc env o1 (pa v 1 a 0)] [ly : Lu n true loc env o2 (ov z)] [p1 : PA B z α r e2 q B1] [p2 : PA B1 v Value rW ew vs B2] [p3 : PZ B2 vs α r e2 ls B3] [tz : TZ P t 1] : Nx (GO P n X ms loc env B ol (⟨none, .store t o1 o2, ty, pos, af, none⟩ :: rest) k) (a < vs.length) (GO P n X ms loc env (rA rW ew v (vs.set a z) :: rZ r e2 (vs.set a z) (ls.set a q) :: B3) ol rest k) := ⟨fun hj f => by
  have sb : Sb B (rA rW ew v vs :: rA r e2 z q :: rZ r e2 vs ls :: B3) := (p1.h.trans ((p2.h.cons _).trans (.perm (.swap ..)))).trans (((p3.h.cons _)).cons _)
  refine ⟨fun ok ρ h w s => ?_⟩
  have g : GO P n X ms loc env (rA rW ew v vs :: rA r e2 z q :: rZ r e2 vs ls :: B3) ol (⟨none, .store t o1 o2, ty, pos, af, none⟩ :: rest) k :=
    Nx.h (self := inferInstance) hj (store_z ((Sb.zset hj).cons _) f)
  exact g.p ok ρ h w (s.sb sb)⟩
instance (priority := high) [lx : Lu n true loc env o1 (pa v 1 a 0)] [ly : Lu n true loc env o2 (ov z)] [p1 : PA B z α r e2 q B1] [p2 : PA B1 v Value rW ew vs B2] [p3 : PZ B2 (vs.set a vnil) α r e2 ls B3] [tz : TZ P t 1] : Nx (GO P n X ms loc env B ol (⟨none, .store t o1 o2, ty, pos, af, none⟩ :: rest) k) (a < vs.length) (GO P n X ms loc env (rA rW ew v (vs.set a z) :: rZ r e2 (vs.set a z) (ls.set a q) :: B3) ol rest k) := ⟨fun hj f => by
  have sb : Sb B (rA rW ew v vs :: rA r e2 z q :: rZ r e2 (vs.set a vnil) ls :: B3) := (p1.h.trans ((p2.h.cons _).trans (.perm (.swap ..)))).trans (((p3.h.cons _)).cons _)
  refine ⟨fun ok ρ h w s => ?_⟩
  have hz : Sb (rA r e2 z q :: rZ r e2 (vs.set a vnil) ls :: B3) (rZ r e2 (vs.set a z) (ls.set a q) :: B3) := by
    have := Sb.zset (r := r) (e := e2) (x := z) (q := q) (us := vs.set a vnil) (ls := ls) (B := B3) (a := a) (by rw [List.length_set]; exact hj)
    rwa [List.set_set] at this
  have g : GO P n X ms loc env (rA rW ew v vs :: rA r e2 z q :: rZ r e2 (vs.set a vnil) ls :: B3) ol (⟨none, .store t o1 o2, ty, pos, af, none⟩ :: rest) k :=
    Nx.h (self := inferInstance) hj (store_z (hz.cons _) f)
  exact g.p ok ρ h w (s.sb sb)⟩
instance (priority := high) [ts : TS P t ew] [mr : MR P ew bb2] [lx : Lu n true loc env o1 (ov v)] [ly : Lu n true loc env o2 (lv rW [z])] [p1 : PA B z α r e2 q B1] [p2 : PA B1 v Value rW ew vs B2] [p3 : PZ B2 vs α r e2 ls B3] : Nx (GO P n X ms loc env B ol (⟨some d, .call ⟨.builtin .append, [o1, o2].toArray, [t, t].toArray⟩, ty, pos, af, none⟩ :: rest) k) (vs.length + 1 ≤ 9223372036854775807 ∧ (vs.length + 1) * bb2 ≤ 140737488355328) (∀ v', GO P n X ms ((d, ov v') :: loc) env (rA rW ew v' (vs ++ [z]) :: rZ r e2 (vs ++ [z]) (ls ++ [q]) :: B3) ol rest k) := ⟨fun hs f => ⟨fun ok ρ h w s0 => by
  have sb : Sb B (rA rW ew v vs :: rA r e2 z q :: rZ r e2 vs ls :: B3) := (p1.h.trans ((p2.h.cons _).trans (.perm (.swap ..)))).trans (((p3.h.cons _)).cons _)
  have s := s0.sb sb
  obtain ⟨h1, h2, h3⟩ := okR_some rfl ok
  obtain ⟨ti, el⟩ := mr.h
  have hx := lx.h rfl ((s.x [o1]).fx o1 (by simp))
  have hy := ly.h rfl ((s.x [o2]).fx o2 (by simp))
  refine Ops.cons (OpW.appendL (lo := 0) ts.h el.hi el.hz el.hc el.hk s.gr.sat (Nat.zero_le _) hx.1 rfl (s.ow.at 0 rfl).1 hy hs.1 (by rw [el.hb]; exact hs.2) fun v' w' own ow hbl => ?_)
  exact (f v').p h3 _ _ _ (((own_app s own ow hbl).sb ((Sb.zapp).cons _)).set ⟨rfl, own_one own⟩ h1 (h2 rfl))⟩⟩
instance (priority := high) [ma : MA B v Value rW ew vs] [mz : MZ B vs α r e2 ls] : Fz B (ov v) (lv (rL r) ls) := ⟨fun {h h'} le z x u => by
  have z1 : LR rW h' v vs := z _ ma.h
  have z2 : vs.length = ls.length ∧ ∀ t, LR r h' (vs.getD t vnil) (ls.getD t []) := z _ mz.h
  rw [u.1]; exact LR.rL z1 z2.1 z2.2⟩
theorem Sy.fzM {loc' : EL} {h0 : PH} {w0 : World} {ρ : Env} {h : PH} {w : World} [p1 : PA B v Value rW ew vs B1] [p2 : PZ B1 vs α r e2 ls B2] [sl : SbE v (lv (rL r) ls) loc loc'] [se : SbE v (lv (rL r) ls) env env'] [sb : SbB v (lv (rL r) ls) B2 B3] (s : Sy h0 w0 loc env B ρ h w) : ∃ h', Sy h0 w0 loc' env' B3 ρ h' w := by
  have s' := s.sb (p1.h.trans (p2.h.cons _))
  obtain ⟨h1, g1, le1, z1, o1⟩ := OwnB.freeze (j := 0) s'.gr s'.ow rfl
  obtain ⟨h2, g2, le2, z2, o2⟩ := OwnB.freeze (j := 0) g1 o1 rfl
  have z1' : LR rW h2 v vs := (show LR rW h1 v vs from z1).mono le2
  have z2' : vs.length = ls.length ∧ ∀ t, LR r h2 (vs.getD t vnil) (ls.getD t []) := z2
  have zz := LR.rL z1' z2'.1 z2'.2
  have key : ∀ x, x = v → den h2 (lv (rL r) ls) x := fun x e => by subst e; exact zz
  exact ⟨h2, g2, sl.h key (s.lo.mono (le1.trans le2)), se.h key (s.en.mono (le1.trans le2)), (sb.h (fun h3 l3 x e => by subst e; exact zz.mono l3) o2).1⟩
instance (priority := 60) {loc' : EL} {f : Operand} {xs : List Operand} {ts : Array TypeId} {Ss : List SV} [lx : Lus n true loc env xs Ss] [fo : FO Ss v] [p1 : PA B v Value rW ew vs B1] [p2 : PZ B1 vs α r e2 ls B2] [sl : SbE v (lv (rL r) ls) loc loc'] [se : SbE v (lv (rL r) ls) env env'] [sb : SbB v (lv (rL r) ls) B2 B3] [d1 : SameDom loc loc'] [d2 : SameDom env env'] :
    Nx (GO P n X ms loc env B ol (⟨some d, .call ⟨.value f, xs.toArray, ts⟩, ty, pos, af, none⟩ :: rest) k) True (GO P n X ms loc' env' B3 ol (⟨some d, .call ⟨.value f, xs.toArray, ts⟩, ty, pos, af, none⟩ :: rest) k) := ⟨fun _ g => ⟨fun ok ρ h w s => by
  obtain ⟨h', s'⟩ := s.fzM (v := v) (p1 := p1) (p2 := p2) (sl := sl) (se := se) (sb := sb)
  exact g.p (by rw [d1.h, d2.h]; exact ok) ρ h' w s'⟩⟩
end
instance (priority := 5) {x : Res} {l rest : List Res} [i : MtB B l sd rest] : MtB (x :: B) l sd (x :: rest) := ⟨fun q => ((i.h q).cons x).trans (.perm (List.perm_middle.symm))⟩
class CtR (P : Program) (f : FuncId) (args : List SV) (B : List Res) (side : outParam Prop) (σ : outParam Type) (S : outParam (σ → SV)) (B' : outParam (σ → List Res)) : Prop where
  fn : IsFn P f
  h : side → ∀ {h0 w0 h w vs}, Gr h0 w0 h w → OwnB w0 B h w → denL h args vs → Calls P f vs.toArray w fun e w' => ∃ v, e = .returned v ∧ ∃ (h' : PH) (s : σ), Gr h0 w0 h' w' ∧ h.le h' ∧ OwnB w0 (B' s) h' w' ∧ den h' (S s) v
def fR {σ : Type} (P : Program) (n : Nat) (rs : List ResultVar) (h0 : PH) (w0 : World) (S : σ → SV) (B' : σ → List Res) (ρ : Env) (w : World) : Prop := ∃ vs h' s, resL P n ρ w rs vs ∧ Gr h0 w0 h' w ∧ OwnB w0 (B' s) h' w ∧ den h' (S s) (res1 vs)
theorem ctR {σ : Type} {S : σ → SV} {B' : σ → List Res} {f : FuncId} {fn : Func} {args : List SV} {rs : List ResultVar} (call : IsFn P f) (hf : P.funcs[f]? = some fn) (hn : fn.ntmps = n) (hb : fn.body = some c) (hr : fn.results = rs.toArray) (hl : Nat.ble args.length n = true) [ae : ArgE 0 args env] (ms : List Nat) (body : ∀ h0 w0, sd → GW P n ⟨fE n (fR P n rs h0 w0 S B'), h0, w0, X0⟩ ms [] env B c .fin) : CtR P f args B sd σ S B' := ⟨call, fun hs h0 w0 h w vs gr ow u => by
  subst hn
  refine (callsE hf hb (by rw [u.length]; exact hl) ((body h w0 hs).p (env0 0 vs) h w ⟨Gr.base gr gr (PH.le.refl h), trivial, ae.h u, ow⟩) (R' := fun v w' => ∃ h' s, Gr h w0 h' w' ∧ OwnB w0 (B' s) h' w' ∧ den h' (S s) v) ?_).mono ?_
  · rintro ρ w' ⟨vs, h', s, hres, x⟩
    exact ⟨_, res_run hr hres, h', s, x⟩
  · rintro e w' ⟨v, rfl, h', s, g, o, d⟩
    exact ⟨v, rfl, h', s, Gr.unbase gr g, g.le, o, d⟩⟩
theorem gEr {σ : Type} {S : σ → SV} {B1 : σ → List Res} {rs : List ResultVar} {h0 : PH} {w0 : World} {R0 : Exit → Act → World → Prop} {C : Ctx} {kb : List Res} {Ss : List SV} {T : SV} {s1 s2 : Prop} (s : σ) [fi : Fin ⟨R0, h0, w0, C⟩ n (fR P n rs h0 w0 S B1) P loc env B B'] [r : Rs P n loc env B' rs Ss] [oo : OneOf Ss T] [eq : EqS T (S s) s1] [mb : MtB B' (B1 s) s2 kb] {e : Exit} (h1 : s1 := by first | trivial | ((try dsimp only); repeat' (first | refine And.intro ?_ ?_ | rfl | trivial | omega))) (h2 : s2 := by first | trivial | ((try dsimp only); repeat' (first | refine And.intro ?_ ?_ | rfl | trivial | omega))) (he : e = .normal ∨ e = .ret := by first | exact .inl rfl | exact .inr rfl) : GX P n ⟨R0, h0, w0, C⟩ ms loc env B e .fin := ⟨fun ρ h w sy => fi.h (fun ρ h w sy => by
  obtain ⟨vs, a, b⟩ := r.h sy
  refine ⟨vs, h, s, a, sy.gr, ((mb.h h2).own sy.ow).left, eq.h h1 ?_⟩
  rw [← oo.h]
  match Ss, vs, b with
  | [], [], _ => exact ⟨[], rfl, trivial⟩
  | [S], [v], d => exact d.1
  | S :: T :: Ss, v :: u :: vs, d => exact ⟨v :: u :: vs, rfl, d⟩) e he ρ h w sy⟩
theorem callR {σ : Type} {S : σ → SV} {B' : σ → List Res} {h0 : PH} {w0 : World} {ρ : Env} {h : PH} {w : World} {K : Env → World → Prop} {dd : Option Tmp} {f : FuncId} {xs : List Operand} {ts : Array TypeId} {Ss : List SV} (ct : CtR P f Ss B sd σ S B') (hs : sd) (s : Sy h0 w0 loc env B ρ h w) (hx : denL h Ss (xs.map (ev n ρ))) (hk : ∀ v h' s w', Gr h0 w0 h' w' → h.le h' → OwnB w0 (B' s) h' w' → den h' (S s) v → K (updO ρ dd v) w') : OpW P n ⟨dd, .call ⟨.value (.func f), xs.toArray, ts⟩, ty, pos, af, none⟩ ρ w K := by
  refine OpW.enter (f := f) (args := (xs.map (ev n ρ)).toArray) (w' := w) ?_ (ct.h hs s.gr s.ow hx) ?_
  · simp only [execOp, resolve, ev, Deferred.ofValue, Sem.run_bind, Sem.run_pure, Result.andThen, invoke, List.map_toArray]
    have := ct.fn (#[] ++ (xs.map (ev n ρ)).toArray ++ #[]) w
    simpa using this
  · rintro e w'' ⟨v, rfl, h', s, g, le, o, d⟩
    exact ⟨v, rfl, hk v h' s w'' g le o d⟩
instance {σ : Type} {S : σ → SV} {B' : σ → List Res} {f : FuncId} {xs : List Operand} {ts : Array TypeId} {Ss : List SV} [lx : Lus n true loc env xs Ss] [ct : CtR P f Ss B sd σ S B'] : Nx (GO P n X ms loc env B ol (⟨some d, .call ⟨.value (.func f), xs.toArray, ts⟩, ty, pos, af, none⟩ :: rest) k) sd (∀ s : σ, GO P n X ms ((d, S s) :: loc) env (B' s) ol rest k) := ⟨fun hs g => ⟨fun ok ρ h w sy => by
  obtain ⟨h1, h2, h3⟩ := okR_some rfl ok
  exact Ops.cons (callR ct hs sy (lx.h rfl fun x hx => (sy.x [x]).fx x (by simp)) fun v h' s w' gr le o u => (g s).p h3 _ _ _ ⟨gr, ⟨by show den h' (S s) (upd ρ d v d); rw [upd_at]; exact u, (sy.lo.upd (nIn_of h1)).mono le⟩, (sy.en.upd (nIn_of (h2 rfl))).mono le, o⟩)⟩⟩
instance {σ : Type} {S : σ → SV} {B' : σ → List Res} {f : FuncId} {xs : List Operand} {ts : Array TypeId} {Ss : List SV} [lx : Lus n true loc env xs Ss] [ct : CtR P f Ss B sd σ S B'] : Nx (GO P n X ms loc env B ol (⟨none, .call ⟨.value (.func f), xs.toArray, ts⟩, ty, pos, af, none⟩ :: rest) k) sd (∀ s : σ, GO P n X ms loc env (B' s) ol rest k) := ⟨fun hs g => ⟨fun ok ρ h w sy => by
  exact Ops.cons (callR ct hs sy (lx.h rfl fun x hx => (sy.x [x]).fx x (by simp)) fun v h' s w' gr le o u => (g s).p (okR_none rfl ok) _ _ _ ⟨gr, sy.lo.mono le, sy.en.mono le, o⟩)⟩⟩
class FpS (B' B : List Res) : Prop where h : ∀ r ∈ B', ∀ i, r.fp i → ∃ r ∈ B, r.fp i
instance {α : Type} {r : Rp α} {e : TypeId} {v : Value} {q q' : List α} {B1 : List Res} [pa : PA B v α r e q B1] : FpS (rA r e v q' :: B1) B := ⟨fun r' hr' i hi => by
  rcases List.mem_cons.1 hr' with rfl | hr'
  · exact pa.h.fp _ (List.mem_cons_self ..) i hi
  · exact pa.h.fp _ (List.mem_cons_of_mem _ hr') i hi⟩
instance {i t d : Nat} {Ls : EL} {lt : Nat → Bool} {L : (Nat → Gh) → EL} {S : Unit → SV} {B' : Unit → List Res} {f : FuncId} {xs : List Operand} {ts : Array TypeId} {Ss : List SV} [lf : Lu n true Ls env (.tmp t) (.cv (.func (.func f) #[] #[]))] [lx : Lus n true Ls env xs Ss] [ct : CtR P f Ss B sd Unit S B'] [fs : FpS (B' ()) B] :
    Nx (GE P n X ms Ls env B ol (⟨some d, .call ⟨.value (.tmp t), xs.toArray, ts⟩, ty, pos, af, none⟩ :: rest) k lt 1 i L []) (((List.range i).all fun j => reach ol 9 i j || lt j) = true ∧ sd) (∀ ν, GO P n X ms ((d, S ()) :: L ν) env (B' ()) ol rest k) := ⟨fun hs g => ⟨fun ql => .stm (some (d, S ())) (B' ()) rfl (.inr rfl) (fun ν ρ h w s => by
  have hfv := cvE (lf.h rfl ((s.sub (os' := [.tmp t]) (fun x hx => by simp [looks, Op.operands, Call.operands] at hx ⊢; exact .inl hx) (ql ν)).fx (.tmp t) (by simp)))
  have s' : Sx X.h0 X.w0 Ls env B xs ρ h w := s.sub (fun x hx => by simp [looks, Op.operands, Call.operands, hx]) (ql ν)
  have hx : denL h Ss (xs.map (ev n ρ)) := lx.h rfl fun x hx => s'.fx x hx
  refine OpG.plain (OpW.enter (f := f) (args := (xs.map (ev n ρ)).toArray) (w' := w) ?_ (ct.h hs.2 s.gr s.ow hx) ?_)
  · have := ct.fn (#[] ++ (xs.map (ev n ρ)).toArray ++ #[]) w
    simp only [execOp, resolve, hfv, Deferred.ofValue, Sem.run_bind, Sem.run_pure, Result.andThen, invoke, List.map_toArray]
    simpa using this
  · rintro e w'' ⟨v, rfl, h', s1, g', le, o, dd⟩
    exact ⟨v, rfl, h', ⟨v, rfl, dd⟩, g', le, (fun e => by cases e), (fun e => by cases e), o⟩) (fun j hj => by
  have := List.all_eq_true.1 hs.1 j (List.mem_range.2 hj)
  simpa using this) fs.h fun ν => by simpa [rv, xLc] using g ν⟩⟩
instance {i d : Nat} {Ls : EL} {lt : Nat → Bool} {L : (Nat → Gh) → EL} {S : Unit → SV} {B' : Unit → List Res} {f : FuncId} {xs : List Operand} {ts : Array TypeId} {Ss : List SV} [lx : Lus n true Ls env xs Ss] [ct : CtR P f Ss B sd Unit S B'] [fs : FpS (B' ()) B] :
    Nx (GE P n X ms Ls env B ol (⟨some d, .call ⟨.value (.func f), xs.toArray, ts⟩, ty, pos, af, none⟩ :: rest) k lt 1 i L []) (((List.range i).all fun j => reach ol 9 i j || lt j) = true ∧ sd) (∀ ν, GO P n X ms ((d, S ()) :: L ν) env (B' ()) ol rest k) := ⟨fun hs g => ⟨fun ql => .stm (some (d, S ())) (B' ()) rfl (.inr rfl) (fun ν ρ h w s => by
  have s' : Sx X.h0 X.w0 Ls env B xs ρ h w := s.sub (fun x hx => by simp [looks, Op.operands, Call.operands, hx]) (ql ν)
  have hx : denL h Ss (xs.map (ev n ρ)) := lx.h rfl fun x hx => s'.fx x hx
  refine OpG.plain (OpW.enter (f := f) (args := (xs.map (ev n ρ)).toArray) (w' := w) ?_ (ct.h hs.2 s.gr s.ow hx) ?_)
  · have := ct.fn (#[] ++ (xs.map (ev n ρ)).toArray ++ #[]) w
    simp only [execOp, resolve, ev, Deferred.ofValue, Sem.run_bind, Sem.run_pure, Result.andThen, invoke, List.map_toArray]
    simpa using this
  · rintro e w'' ⟨v, rfl, h', s1, g', le, o, dd⟩
    exact ⟨v, rfl, h', ⟨v, rfl, dd⟩, g', le, (fun e => by cases e), (fun e => by cases e), o⟩) (fun j hj => by
  have := List.all_eq_true.1 hs.1 j (List.mem_range.2 hj)
  simpa using this) fs.h fun ν => by simpa [rv, xLc] using g ν⟩⟩
end
end Go.E3
set_option linter.unusedVariables false
namespace Go.E3
open Go Go.Ear
section
variable {P : Program} {n : Nat} {X : Fix} {ms : List Nat} {loc env : EL} {B : List Res} {k : Kt} {ol rest l : List Oper} {d m i : Nat} {op : Op} {ty : TypeId} {pos : String} {af : Array Edge} {t e : TypeId} {L : (Nat → Gh) → EL} {R : List (Nat × (Gh → Res))} {Ls : EL} {lt : Nat → Bool}
instance (priority := high) appN {α : Type} {r : Rp α} {bb : Nat} {d0 : α} {q' : List α} {o1 o2 : Operand} [lf : RflE (lt i) false] [ts : TS P t e] [rt : RT P e α r bb d0] [lx : Lu n true Ls env o1 (.cv (.slice none 0 0))] [ly : Lu n true Ls env o2 (lv r q')] : Nx (GE P n X ms Ls env B ol (⟨some d, .call ⟨.builtin .append, [o1, o2].toArray, [t, t].toArray⟩, ty, pos, af, none⟩ :: rest) k lt (m + 1) i L R) (q'.length ≤ 9223372036854775807 ∧ q'.length * bb ≤ 140737488355328) (GE P n X ms Ls env B ol rest k lt m (i + 1) (fun ν => (d, ov (ν d).v) :: L ν) ((d, fun g => rA r e g.v q') :: R)) := ⟨fun hs f => ⟨fun ql => .own d (fun g => rA r e g.v q') rfl (fun ν ρ h w s => by
  obtain ⟨z, ti, el, hz⟩ := rt.e
  have s' : Sx X.h0 X.w0 Ls env B [o1, o2] ρ h w := s.sub (fun x hx => by simp [looks, Op.operands, Call.operands] at hx ⊢; exact hx) (ql ν)
  have hx := cvE (lx.h rfl (s'.fx o1 (by simp)))
  have hy := ly.h rfl (s'.fx o2 (by simp))
  refine OpG.plain (OpW.appendL (lo := 0) ts.h el.hi el.hz el.hc el.hk s.gr.sat (Nat.zero_le _) hx rfl (OwnL.nil r 0 h w e) hy (by simpa using hs.1) (by rw [el.hb]; simpa using hs.2) fun v' w' own ow hbl => ?_)
  refine ⟨v', [], h, rfl, (Gr.refl s.gr.sat).ow ow (fun i hi => by cases hi), own_one own, by rw [List.nil_append] at own; exact own, fun i hi => ?_⟩
  rcases hbl i hi with x | x
  · cases x
  · exact ⟨x, (own.lt hi).1, (own.lt hi).2.1⟩) lf.h (f.p fun ν e h => List.mem_cons_of_mem _ (ql ν e h))⟩⟩
class FP (ps : List (Nat × SV)) (v : outParam Value) : Prop where t : True
instance {v : Value} {i : Nat} {l : List (Nat × SV)} : FP ((i, ov v) :: l) v := ⟨trivial⟩
instance (priority := low) {v : Value} {p : Nat × SV} {l : List (Nat × SV)} [FP l v] : FP (p :: l) v := ⟨trivial⟩
instance (priority := high) {α : Type} {v : Value} {r : Rp α} {q : List α} {env env' loc' : EL} {B1 B2 : List Res} {len : Nat} {xs : List (Nat × Operand)} {ps : List (Nat × SV)} [lx : Lup n true loc env xs ps] [fo : FP ps v] [pa : PA B v α r e q B1] [sl : SbE v (lv r q) loc loc'] [se : SbE v (lv r q) env env'] [sb : SbB v (lv r q) B1 B2] [d1 : SameDom loc loc'] [d2 : SameDom env env'] :
    Nx (GO P n X ms loc env B ol (⟨some d, .buildSlice t len xs.toArray, ty, pos, af, none⟩ :: rest) k) True (GO P n X ms loc' env' B2 ol (⟨some d, .buildSlice t len xs.toArray, ty, pos, af, none⟩ :: rest) k) := ⟨fun _ g => ⟨fun ok ρ h w s => by
  obtain ⟨h', s'⟩ := s.fz (v := v) (r := r) (q := q) (pa := pa) (sl := sl) (se := se) (sb := sb)
  exact g.p (by rw [d1.h, d2.h]; exact ok) ρ h' w s'⟩⟩
end
end Go.E3
set_option linter.unusedVariables false
namespace Go.E3
open Go Go.Ear
theorem set_putIn {arr : Array Value} {p m o : Nat} {v : Value} (hf : p + m ≤ arr.size) (ho : o < m) : arr.setIfInBounds (p + o) v = putIn arr p ((cut arr p m).set o v) := by
  have hl : (cut arr p m).length = m := by unfold cut; rw [List.length_take, List.length_drop, Array.length_toList]; omega
  apply Array.toList_inj.1
  rw [putIn_toList _ _ _ (by rw [List.length_set, hl]; exact hf), Array.toList_setIfInBounds, List.length_set, hl]
  have hl2 : arr.toList.length = arr.size := Array.length_toList
  apply List.ext_getElem?
  intro j
  rw [List.getElem?_set]
  by_cases e : p + o = j
  · subst e
    rw [if_pos rfl, if_pos (by omega), List.getElem?_append_left (by rw [List.length_append, List.length_take, List.length_set, hl]; omega), List.getElem?_append_right (by rw [List.length_take]; omega), List.length_take, Nat.min_eq_left (by omega), Nat.add_sub_cancel_left, List.getElem?_set, if_pos rfl, if_pos (by omega)]
  · rw [if_neg e]
    by_cases h1 : j < p
    · rw [List.getElem?_append_left (by rw [List.length_append, List.length_take, List.length_set, hl]; omega), List.getElem?_append_left (by rw [List.length_take]; omega), List.getElem?_take, if_pos h1]
    · by_cases h2 : j < p + m
      · rw [List.getElem?_append_left (by rw [List.length_append, List.length_take, List.length_set, hl]; omega), List.getElem?_append_right (by rw [List.length_take]; omega), List.length_take, Nat.min_eq_left (by omega), List.getElem?_set, if_neg (by omega)]
        unfold cut
        rw [List.getElem?_take, if_pos (by omega), List.getElem?_drop, show p + (j - p) = j by omega]
      · rw [List.getElem?_append_right (by rw [List.length_append, List.length_take, List.length_set, hl]; omega), List.length_append, List.length_take, List.length_set, hl, Nat.min_eq_left (by omega), List.getElem?_drop]
        congr 1; omega
class RdC {α : Type} (r : Rp α) (o : Nat) (S : SV) (f : outParam (α → α)) : Prop where
  h : ∀ {h cs x v}, r.R h cs x → den h S v → o < r.k ∧ v.oneCell' = true ∧ r.R h (cs.set o v) (f x)
section
variable {P : Program} {n : Nat} {X : Fix} {ms : List Nat} {loc env : EL} {B : List Res} {k : Kt} {ol rest : List Oper} {a m o : Nat} {ty : TypeId} {pos : String} {af : Array Edge} {t e : TypeId} {α : Type} {v : Value} {r : Rp α} {q : List α} {S : SV} {o1 o2 : Operand} {f : α → α} {d0 : α}
instance {mk : List α → List Res} [D0 α d0] [lx : Lu n true loc env o1 (pa v m a o)] [ua : UA B v α r e q mk] [rk : Rk r m] [ly : Lu n true loc env o2 S] [rd : RdC r o S f] [tz : TZ P t 1] : Nx (GO P n X ms loc env B ol (⟨none, .store t o1 o2, ty, pos, af, none⟩ :: rest) k) (a < q.length) (GO P n X ms loc env (mk (q.set a (f (q.getD a d0)))) ol rest k) := ⟨fun hj g => ⟨fun ok ρ h w s => by
  have hx := lx.h rfl ((s.x [o1]).fx o1 (by simp))
  have hy := ly.h rfl ((s.x [o2]).fx o2 (by simp))
  obtain ⟨b, cap, arr, ev_, _, hnb, hb, hle, ur⟩ := OwnL.block (ua.own s.ow).1 (by intro e; rw [e] at hj; cases hj)
  obtain ⟨b', l', c', e1, e2⟩ := hx
  rw [ev_] at e1; cases e1
  obtain ⟨cs, hc, hs, hr⟩ := ur.at d0 hj
  obtain ⟨h1, h2, h3⟩ := rd.h hr hy
  have hk := rk.h
  rw [hk] at hc hs h1
  refine Ops.cons (OpW.store1 tz.h e2 rfl h2 hb (by omega) fun w' p => g.p (okR_none rfl ok) _ _ _ (own_elem ua s hj hk h3 ev_ hb ?_))
  rw [set_putIn hs h1, hc] at p; exact p⟩⟩
end
end Go.E3
set_option linter.unusedVariables false
namespace Go.E3
open Go Go.Ear
set_option maxRecDepth 20000
set_option synthInstance.maxSize 1000
theorem rtW {P : Program} {e : TypeId} {β : Type} {r0 : Rp β} {bb bb2 : Nat} {d0 : β} (rt0 : RT P e β r0 bb2 d0) (k1 : Rk r0 1) (mr : MR P e bb) : RT P e Value rW bb vnil := ⟨by have := rt0.k; rw [k1.h] at this; exact this, by
  obtain ⟨ti, el⟩ := mr.h
  exact ⟨_, ti, el, fun h => ⟨⟨rfl, rfl⟩, trivial⟩⟩⟩
instance (priority := high) {P : Program} {n : Nat} {c : Bool} {loc env : EL} {B : List Res} {ms : List Nat} {d : Nat} {o : Operand} {z : Value} {t e : TypeId} {β : Type} {r0 : Rp β} {bb bb2 : Nat} {d0 : β} [nn : NotIn d ms] [lx : Lup n c loc env [(0, o)] [(0, ov z)]] [ts : TS P t e] [rt0 : RT P e β r0 bb2 d0] [k1 : Rk r0 1] [mr : MR P e bb] : St P n c loc env B ms d (.buildSlice t 1 #[(0, o)]) True (lv rW [z]) :=
  haveI := rtW rt0 k1 mr
  haveI : St P n c loc env B ms d (.buildSlice t 1 [(0, o)].toArray) ([z].length = 1 ∧ Nat.ble (1 * rW.k) 16777216 = true) (lv rW [z]) := inferInstance
  ⟨fun q _ => this.h q ⟨rfl, rfl⟩⟩
instance (priority := 20000) {P : Program} {n : Nat} {X : Fix} {ms : List Nat} {loc env : EL} {B : List Res} {k : Kt} {ol rest : List Oper} {d : Nat} {ty : TypeId} {pos : String} {af : Array Edge} {o : Operand} {z : Value} {t e : TypeId} {β : Type} {r0 : Rp β} {bb bb2 : Nat} {d0 : β} [nn : NotIn d ms] [lx : Lup n true loc env [(0, o)] [(0, ov z)]] [ts : TS P t e] [rt0 : RT P e β r0 bb2 d0] [k1 : Rk r0 1] [mr : MR P e bb] : Nx (GO P n X ms loc env B ol (⟨some d, .buildSlice t 1 #[(0, o)], ty, pos, af, none⟩ :: rest) k) True (GO P n X ms ((d, lv rW [z]) :: loc) env B ol rest k) :=
  haveI st : St P n true loc env B ms d (.buildSlice t 1 #[(0, o)]) True (lv rW [z]) := inferInstance
  ⟨fun _ a => ⟨fun ok ρ h w s => by
    obtain ⟨h1, h2, h3⟩ := okR_some rfl ok
    exact Ops.cons (st.h rfl trivial (s.x _) fun v h' w' g u => a.p h3 _ _ _ (s.put g u h1 (h2 rfl)))⟩⟩
end Go.E3
set_option linter.unusedVariables false
namespace Go.E3
open Go Go.Ear
section
variable {P : Program} {n : Nat} {X : Fix} {ms : List Nat} {loc env : EL} {B B1 : List Res} {k : Kt} {ol rest : List Oper} {d m i : Nat} {ty : TypeId} {pos : String} {af : Array Edge} {t e : TypeId} {L : (Nat → Gh) → EL} {R : List (Nat × (Gh → Res))} {Ls : EL} {lt : Nat → Bool} {sd : Prop}
instance gapp {α : Type} {r : Rp α} {bb : Nat} {d0 : α} {q q' : List α} {v : Value} {o1 o2 : Operand} [ts : TS P t e] [rt : RT P e α r bb d0] [lx : Lu n true Ls env o1 (ov v)] [pa : PA B v α r e q B1] [ly : Lu n true Ls env o2 (lv r q')] : Nx (GE P n X ms Ls env B ol (⟨some d, .call ⟨.builtin .append, [o1, o2].toArray, [t, t].toArray⟩, ty, pos, af, none⟩ :: rest) k lt 1 i L []) (((List.range i).all fun j => reach ol 9 i j || lt j) = true ∧ q.length + q'.length ≤ 9223372036854775807 ∧ (q.length + q'.length) * bb ≤ 140737488355328) (∀ ν v', GO P n X ms ((d, ov v') :: L ν) env (rA r e v' (q ++ q') :: B1) ol rest k) := ⟨fun hs g => ⟨fun ql => .app d ov (fun v' => rA r e v' (q ++ q') :: B1) rfl rfl (fun ν ρ h w s => by
  obtain ⟨z, ti, el, hz⟩ := rt.e
  have s' : Sx X.h0 X.w0 Ls env B [o1, o2] ρ h w := s.sub (fun x hx => by simp [looks, Op.operands, Call.operands] at hx ⊢; exact hx) (ql ν)
  have hx := lx.h rfl (s'.fx o1 (by simp))
  have hy := ly.h rfl (s'.fx o2 (by simp))
  have sy : Sy X.h0 X.w0 [] [] B ρ h w := ⟨s.gr, trivial, trivial, s.ow⟩
  have sb := sy.sb pa.h
  refine OpG.plain (OpW.appendL (lo := 0) ts.h el.hi el.hz el.hc el.hk s.gr.sat (Nat.zero_le _) hx.1 rfl (sb.ow.at 0 rfl).1 hy hs.2.1 (by rw [el.hb]; exact hs.2.2) fun v' w' own ow hbl => ?_)
  have sn := own_app sb own ow hbl
  exact ⟨v', h, ⟨rfl, rfl, own_one own⟩, sn.gr, PH.le.refl h, (fun e => by cases e), (fun e => by cases e), sn.ow⟩) (fun j hj => by
  have := List.all_eq_true.1 hs.1 j (List.mem_range.2 hj)
  simpa using this) fun ν v => by simpa [rv] using g ν v⟩⟩
class CtN (P : Program) (f : FuncId) (args : List SV) (side : outParam Prop) (S : outParam (Gh → SV)) (T : outParam (Gh → List Res)) : Prop where
  fn : IsFn P f
  h : side → ∀ {h w vs}, Sat h w → denL h args vs → Calls P f vs.toArray w fun e w' => ∃ g : Gh, e = .returned g.v ∧ ∃ h', Gr h w h' w' ∧ den h' (S g) g.v ∧ OwnB w (T g) h' w'
theorem CtN.of {σ : Type} {S0 : σ → SV} {B0 : σ → List Res} {f : FuncId} {args : List SV} {S : Gh → SV} {T : Gh → List Res} (c : CtR P f args [] sd σ S0 B0) (enc : σ → List Value) (hS : ∀ v s, S ⟨v, enc s⟩ = S0 s) (hT : ∀ v s, T ⟨v, enc s⟩ = B0 s) : CtN P f args sd S T := ⟨c.fn, fun hs h w vs sat u => (c.h hs (Gr.refl sat) trivial u).mono fun e w' ⟨v, he, h', s, gr, le, o, dn⟩ => ⟨⟨v, enc s⟩, he, h', gr, by rw [hS]; exact dn, by rw [hT]; exact o⟩⟩
instance (priority := high) gnew {f : FuncId} {xs : List Operand} {ts : Array TypeId} {Ss : List SV} {S : Gh → SV} {T : Gh → List Res} [lf : RflE (lt i) false] [nn : IsIn d ms] [lx : Lus n true Ls env xs Ss] [ct : CtN P f Ss sd S T] [nb : ∀ g, NB (T g)] : Nx (GE P n X ms Ls env B ol (⟨some d, .call ⟨.value (.func f), xs.toArray, ts⟩, ty, pos, af, none⟩ :: rest) k lt (m + 1) i L R) sd (GE P n X ms Ls env B ol rest k lt m (i + 1) (fun ν => (d, S (ν d)) :: L ν) ((d, fun g => rJ (T g)) :: R)) := ⟨fun hs g => ⟨fun ql => .new d S (fun g => rJ (T g)) rfl (fun ν ρ h w s => by
  have s' : Sx X.h0 X.w0 Ls env B xs ρ h w := s.sub (fun x hx => by simp [looks, Op.operands, Call.operands, hx]) (ql ν)
  have hx : denL h Ss (xs.map (ev n ρ)) := lx.h rfl fun x hx => s'.fx x hx
  refine OpG.plain (OpW.enter (f := f) (args := (xs.map (ev n ρ)).toArray) (w' := w) ?_ (ct.h hs s.gr.sat hx) ?_)
  · simp only [execOp, resolve, ev, Deferred.ofValue, Sem.run_bind, Sem.run_pure, Result.andThen, invoke, List.map_toArray]
    have := ct.fn (#[] ++ (xs.map (ev n ρ)).toArray ++ #[]) w
    simpa using this
  · rintro e w'' ⟨q, rfl, h', gr, o1, ow⟩
    refine ⟨q.v, rfl, q.v, q.l, h', rfl, gr, o1, OwnB.any ow, fun i ⟨r, hr, hi⟩ => ?_⟩
    have := ow.foot r hr i hi
    exact ⟨this.2.1 ((nb q).h r hr), this.2.2, this.1⟩) lf.h (g.p fun ν e h => List.mem_cons_of_mem _ (ql ν e h))⟩⟩
end
end Go.E3
set_option linter.unusedVariables false
namespace Go.E3
open Go Go.Ear
structure MidW where
  d : Nat
  S : Value → SV
  B2 : Value → List Res
section
variable (P : Program) (n : Nat) (X : Fix) (ms : List Nat) (env : EL) (ol : List Oper)
inductive GM (B : List Res) (k : Kt) (p m : Nat) : Option MidW → EL → Nat → List Oper → Prop
  | st {L i o rest} (d : Nat) (S : SV) (hi : i < p) (hd : o.dst = some d) (h : TriP P n X env B ol L o d S) (g : GM B k p m none ((d, S) :: L) (i + 1) rest) : GM B k p m none L i (o :: rest)
  | wr {L o rest} (w : MidW) (hd : o.dst = some w.d) (h : TriV P n X env B ol L o (some (w.d, w.S)) w.B2) (g : GM B k p m (some w) L (p + 1) rest) : GM B k p m none L p (o :: rest)
  | mid {w L i o rest} (d : Nat) (S : SV) (hp : p < i) (hd : o.dst = some d) (h : TriP P n X env B ol L o d S) (h2 : ∀ v, TriP P n X env (w.B2 v) ol L o d S) (g : GM B k p m (some w) ((d, S) :: L) (i + 1) rest) : GM B k p m (some w) L i (o :: rest)
  | fin {w L rest} (g : ∀ v, GO P n X ms ((w.d, w.S v) :: L) env (w.B2 v) ol rest k) : GM B k p m (some w) L m rest
end
section
variable {P : Program} {n : Nat} {X : Fix} {ms : List Nat} {env : EL} {ol : List Oper} {B : List Res} {k : Kt} {p m : Nat}
abbrev lcs (res : List (Option (Nat × SV))) : EL := (res.filterMap id).reverse
theorem lcs_some (q : Nat × SV) (res : List (Option (Nat × SV))) (L : EL) : lcs (some q :: res) ++ L = lcs res ++ (q :: L) := by simp [lcs]
theorem lcs_none (res : List (Option (Nat × SV))) : lcs (none :: res) = lcs res := by simp [lcs]
theorem GM.sem {ws : Option MidW} {L : EL} {i : Nat} {rest : List Oper} (g : GM P n X ms env ol B k p m ws L i rest) :
    ∃ (res : List (Option (Nat × SV))) (w : MidW), i + res.length = m ∧ (ws = some w ∨ (ws = none ∧ i ≤ p ∧ ∃ o, rest[p - i]? = some o ∧ res[p - i]? = some none ∧ o.dst = some w.d ∧ TriV P n X env B ol (lcs (res.take (p - i)) ++ L) o (some (w.d, w.S)) w.B2)) ∧
      (∀ j q, res[j]? = some (some q) → ∃ o, rest[j]? = some o ∧ o.dst = some q.1 ∧ TriP P n X env B ol (lcs (res.take j) ++ L) o q.1 q.2 ∧ (p < i + j → ∀ v, TriP P n X env (w.B2 v) ol (lcs (res.take j) ++ L) o q.1 q.2)) ∧
      (∀ j, res[j]? = some none → i + j = p) ∧ res.length ≤ rest.length ∧ ∀ v, GO P n X ms ((w.d, w.S v) :: (lcs res ++ L)) env (w.B2 v) ol (rest.drop res.length) k := by
  induction g with
  | @st L i o rest d S hi hd h g ih =>
    obtain ⟨res, w, e, hw, hr, hn, hle, hg⟩ := ih
    refine ⟨some (d, S) :: res, w, by simp only [List.length_cons]; omega, .inr ⟨rfl, by omega, ?_⟩, fun j q hj => ?_, fun j hj => ?_, by simp only [List.length_cons]; omega, fun v => by rw [lcs_some]; simpa using hg v⟩
    · rcases hw with hw | ⟨_, h1, o', h2, h3, h4, h5⟩
      · cases hw
      · rw [show p - i = p - (i + 1) + 1 by omega]
        refine ⟨o', by simpa using h2, by simpa using h3, h4, ?_⟩
        rw [List.take_succ_cons, lcs_some]; exact h5
    · cases j with
      | zero =>
        have hj : (d, S) = q := by simpa using hj
        subst hj
        exact ⟨o, rfl, hd, by simpa [lcs] using h, fun hh => by omega⟩
      | succ j =>
        obtain ⟨o', a, b, c, d'⟩ := hr j q (by simpa using hj)
        refine ⟨o', by simpa using a, b, ?_, fun hh => ?_⟩
        · rw [List.take_succ_cons, lcs_some]; exact c
        · rw [List.take_succ_cons, lcs_some]; exact d' (by omega)
    · cases j with
      | zero => simp at hj
      | succ j => have := hn j (by simpa using hj); omega
  | @wr L o rest w hd h g ih =>
    obtain ⟨res, w', e, hw, hr, hn, hle, hg⟩ := ih
    have hw : w = w' := by
      rcases hw with hw | ⟨hw, _⟩
      · exact Option.some.inj hw
      · cases hw
    subst hw
    refine ⟨none :: res, w, by simp only [List.length_cons]; omega, .inr ⟨rfl, Nat.le_refl _, o, by simp, by simp, hd, by simpa [lcs] using h⟩, fun j q hj => ?_, fun j hj => ?_, by simp only [List.length_cons]; omega, fun v => by rw [lcs_none]; simpa using hg v⟩
    · cases j with
      | zero => simp at hj
      | succ j =>
        obtain ⟨o', a, b, c, d'⟩ := hr j q (by simpa using hj)
        refine ⟨o', by simpa using a, b, ?_, fun hh => ?_⟩
        · rw [List.take_succ_cons, lcs_none]; exact c
        · rw [List.take_succ_cons, lcs_none]; exact d' (by omega)
    · cases j with
      | zero => rfl
      | succ j => have := hn j (by simpa using hj); omega
  | @mid w L i o rest d S hp hd h h2 g ih =>
    obtain ⟨res, w', e, hw, hr, hn, hle, hg⟩ := ih
    have hw : w = w' := by
      rcases hw with hw | ⟨hw, _⟩
      · exact Option.some.inj hw
      · cases hw
    subst hw
    refine ⟨some (d, S) :: res, w, by simp only [List.length_cons]; omega, .inl rfl, fun j q hj => ?_, fun j hj => ?_, by simp only [List.length_cons]; omega, fun v => by rw [lcs_some]; simpa using hg v⟩
    · cases j with
      | zero =>
        have hj : (d, S) = q := by simpa using hj
        subst hj
        exact ⟨o, rfl, hd, by simpa [lcs] using h, fun _ v => by simpa [lcs] using h2 v⟩
      | succ j =>
        obtain ⟨o', a, b, c, d'⟩ := hr j q (by simpa using hj)
        refine ⟨o', by simpa using a, b, ?_, fun hh => ?_⟩
        · rw [List.take_succ_cons, lcs_some]; exact c
        · rw [List.take_succ_cons, lcs_some]; exact d' (by omega)
    · cases j with
      | zero => simp at hj
      | succ j => have := hn j (by simpa using hj); omega
  | @fin w L rest g => exact ⟨[], w, by simp, .inl rfl, fun j q hj => by simp at hj, fun j hj => by simp at hj, by simp, fun v => by simpa [lcs] using g v⟩
open Classical in
noncomputable def bM (w : MidW) (p : Nat) (B : List Res) (D : Nat → Prop) (ρ : Env) : List Res := if D p then w.B2 (ρ w.d) else B
end
theorem ltf {a b : Nat} (h : Nat.ble a b = false) : b < a := by
  rcases Nat.lt_or_ge b a with x | x
  · exact x
  · rw [Nat.ble_eq_true_of_le x] at h; cases h
theorem Sb.tl (r : Res) (B : List Res) : Sb (r :: B) B := ⟨fun o => o.2.2.2, fun r' hr i hi => ⟨r', List.mem_cons_of_mem _ hr, hi⟩⟩
section
variable {P : Program} {n : Nat} {X : Fix} {ms : List Nat} {loc env : EL} {B Bm B1 : List Res} {k : Kt} {ol rest : List Oper} {d p m i : Nat} {op : Op} {ty : TypeId} {pos : String} {af : Array Edge} {sd : Prop} {S : SV} {t e : TypeId}
theorem TriP.sb {o : Oper} (sb : Sb B B1) (h : TriP P n X env B1 ol loc o d S) : TriP P n X env B ol loc o d S := fun ρ h1 w s => h ρ h1 w ⟨s.gr, s.fx, sb.own s.ow⟩
structure GF (P : Program) (n : Nat) (X : Fix) (ms : List Nat) (loc env : EL) (B : List Res) (ol rest : List Oper) (k : Kt) (p m i : Nat) : Prop where
  p : GM P n X ms env ol B k p m none loc i rest
structure GFm (P : Program) (n : Nat) (X : Fix) (ms : List Nat) (loc env : EL) (Bm : List Res) (ol rest : List Oper) (k : Kt) (p m i d : Nat) (S : Value → SV) (B2 : Value → List Res) : Prop where
  p : ∀ B, Sb B Bm → (∀ v, Sb (B2 v) Bm) → GM P n X ms env ol B k p m (some ⟨d, S, B2⟩) loc i rest
instance [lt : RflE (Nat.ble p i) false] [st : St P n true loc env B ms d op sd S] : Nx (GF P n X ms loc env B ol (⟨some d, op, ty, pos, af, none⟩ :: rest) k p m i) sd (GF P n X ms ((d, S) :: loc) env B ol rest k p m (i + 1)) := ⟨fun hs g => ⟨.st d S (ltf lt.h) rfl (triP (st := st) hs fun _ h => h) g.p⟩⟩
instance [eq : RflE (Nat.beq i p) true] {α : Type} {r : Rp α} {bb : Nat} {d0 : α} {q q' : List α} {v : Value} {o1 o2 : Operand} [ts : TS P t e] [rt : RT P e α r bb d0] [lx : Lu n true loc env o1 (ov v)] [pa : PA B v α r e q B1] [ly : Lu n true loc env o2 (lv r q')] : Nx (GF P n X ms loc env B ol (⟨some d, .call ⟨.builtin .append, [o1, o2].toArray, [t, t].toArray⟩, ty, pos, af, none⟩ :: rest) k p m i) (q.length + q'.length ≤ 9223372036854775807 ∧ (q.length + q'.length) * bb ≤ 140737488355328) (GFm P n X ms loc env B1 ol rest k p m (i + 1) d ov (fun v' => rA r e v' (q ++ q') :: B1)) := ⟨fun hs g => ⟨by
  have e := Nat.eq_of_beq_eq_true eq.h
  subst e
  refine .wr ⟨d, ov, fun v' => rA r _ v' (q ++ q') :: B1⟩ rfl (fun ρ h w s => ?_) (g.p B (pa.h.trans (.tl _ _)) fun v => .tl _ _)
  obtain ⟨z, ti, el, hz⟩ := rt.e
  have s' : Sx X.h0 X.w0 loc env B [o1, o2] ρ h w := s.sub (fun x hx => by simp [looks, Op.operands, Call.operands] at hx ⊢; exact hx) (fun _ h => h)
  have hx := lx.h rfl (s'.fx o1 (by simp))
  have hy := ly.h rfl (s'.fx o2 (by simp))
  have sy : Sy X.h0 X.w0 [] [] B ρ h w := ⟨s.gr, trivial, trivial, s.ow⟩
  have sb := sy.sb pa.h
  refine OpG.plain (OpW.appendL (lo := 0) ts.h el.hi el.hz el.hc el.hk s.gr.sat (Nat.zero_le _) hx.1 rfl (sb.ow.at 0 rfl).1 hy hs.1 (by rw [el.hb]; exact hs.2) fun v' w' own ow hbl => ?_)
  have sn := own_app sb own ow hbl
  exact ⟨v', h, ⟨rfl, rfl, own_one own⟩, sn.gr, PH.le.refl h, (fun e => by cases e), (fun e => by cases e), sn.ow⟩⟩⟩
instance {S0 : Value → SV} {B2 : Value → List Res} {dw : Nat} [lt : RflE (Nat.ble m i) false] [lp : RflE (Nat.ble i p) false] [st : St P n true loc env Bm ms d op sd S] : Nx (GFm P n X ms loc env Bm ol (⟨some d, op, ty, pos, af, none⟩ :: rest) k p m i dw S0 B2) sd (GFm P n X ms ((d, S) :: loc) env Bm ol rest k p m (i + 1) dw S0 B2) := ⟨fun hs g => ⟨fun B sb sb2 => .mid d S (ltf lp.h) rfl (TriP.sb sb (triP (st := st) hs fun _ h => h)) (fun v => TriP.sb (sb2 v) (triP (st := st) hs fun _ h => h)) (g.p B sb sb2)⟩⟩
instance {S0 : Value → SV} {B2 : Value → List Res} {dw : Nat} [eq : RflE (Nat.beq i m) true] : Nx (GFm P n X ms loc env Bm ol rest k p m i dw S0 B2) True (∀ v, GO P n X ms ((dw, S0 v) :: loc) env (B2 v) ol rest k) := ⟨fun _ g => ⟨fun B sb sb2 => by
  have e := Nat.eq_of_beq_eq_true eq.h
  subst e
  exact .fin (w := ⟨dw, S0, B2⟩) g⟩⟩
end
structure MidV where
  d1 : Nat
  S1 : Value → SV
  B1 : Value → List Res
  d2 : Nat
  S2 : Value → SV
  B2 : Value → Value → List Res
section
variable (P : Program) (n : Nat) (X : Fix) (ms : List Nat) (env : EL) (ol : List Oper)
inductive GV (B : List Res) (k : Kt) (w : MidV) (p r m : Nat) : EL → Nat → List Oper → Prop
  | st {L i o rest} (d : Nat) (S : SV) (hi : i < p) (hd : o.dst = some d) (h : TriP P n X env B ol L o d S) (g : GV B k w p r m ((d, S) :: L) (i + 1) rest) : GV B k w p r m L i (o :: rest)
  | wr {L o rest} (hd : o.dst = some w.d1) (h : TriV P n X env B ol L o (some (w.d1, w.S1)) w.B1) (g : GV B k w p r m L (p + 1) rest) : GV B k w p r m L p (o :: rest)
  | wr2 {L o rest} (hp : p < r) (hd : o.dst = some w.d2) (h : ∀ v, TriV P n X env (w.B1 v) ol ((w.d1, w.S1 v) :: L) o (some (w.d2, w.S2)) (w.B2 v)) (g : GV B k w p r m L (r + 1) rest) : GV B k w p r m L r (o :: rest)
  | mid {L i o rest} (d : Nat) (S : SV) (hp : p < i) (hr : i ≠ r) (hd : o.dst = some d) (h : TriP P n X env B ol L o d S) (h2 : ∀ v, TriP P n X env (w.B1 v) ol L o d S) (h3 : ∀ v v', TriP P n X env (w.B2 v v') ol L o d S) (g : GV B k w p r m ((d, S) :: L) (i + 1) rest) : GV B k w p r m L i (o :: rest)
  | fin {L rest} (g : ∀ v v', GO P n X ms ((w.d2, w.S2 v') :: (w.d1, w.S1 v) :: L) env (w.B2 v v') ol rest k) : GV B k w p r m L m rest
end
section
variable {P : Program} {n : Nat} {X : Fix} {ms : List Nat} {env : EL} {ol : List Oper} {B : List Res} {k : Kt} {p r m : Nat} {w : MidV}
theorem GV.sem (hpr : p < r) {L : EL} {i : Nat} {rest : List Oper} (g : GV P n X ms env ol B k w p r m L i rest) :
    ∃ (res : List (Option (Nat × SV))), i + res.length = m ∧
      (∀ j, res[j]? = some none → ∃ o, rest[j]? = some o ∧ ((i + j = p ∧ o.dst = some w.d1 ∧ TriV P n X env B ol (lcs (res.take j) ++ L) o (some (w.d1, w.S1)) w.B1) ∨ (i + j = r ∧ p < r ∧ o.dst = some w.d2 ∧ ∀ v, TriV P n X env (w.B1 v) ol ((w.d1, w.S1 v) :: (lcs (res.take j) ++ L)) o (some (w.d2, w.S2)) (w.B2 v)))) ∧
      (∀ j q, res[j]? = some (some q) → i + j ≠ p ∧ i + j ≠ r ∧ ∃ o, rest[j]? = some o ∧ o.dst = some q.1 ∧ TriP P n X env B ol (lcs (res.take j) ++ L) o q.1 q.2 ∧ (p < i + j → (∀ v, TriP P n X env (w.B1 v) ol (lcs (res.take j) ++ L) o q.1 q.2) ∧ ∀ v v', TriP P n X env (w.B2 v v') ol (lcs (res.take j) ++ L) o q.1 q.2)) ∧
      res.length ≤ rest.length ∧ ∀ v v', GO P n X ms ((w.d2, w.S2 v') :: (w.d1, w.S1 v) :: (lcs res ++ L)) env (w.B2 v v') ol (rest.drop res.length) k := by
  induction g with
  | @st L i o rest d S hi hd h g ih =>
    obtain ⟨res, e, hn, hr, hle, hg⟩ := ih
    refine ⟨some (d, S) :: res, by simp only [List.length_cons]; omega, fun j hj => ?_, fun j q hj => ?_, by simp only [List.length_cons]; omega, fun v v' => by rw [lcs_some]; simpa using hg v v'⟩
    · cases j with
      | zero => simp at hj
      | succ j =>
        obtain ⟨o', a, b⟩ := hn j (by simpa using hj)
        refine ⟨o', by simpa using a, ?_⟩
        rw [List.take_succ_cons, lcs_some, show i + (j + 1) = i + 1 + j by omega]; exact b
    · cases j with
      | zero =>
        have hj : (d, S) = q := by simpa using hj
        subst hj
        exact ⟨by omega, by omega, o, rfl, hd, by simpa [lcs] using h, fun hh => by omega⟩
      | succ j =>
        obtain ⟨x, y, o', a, b⟩ := hr j q (by simpa using hj)
        refine ⟨by omega, by omega, o', by simpa using a, ?_⟩
        rw [List.take_succ_cons, lcs_some, show i + (j + 1) = i + 1 + j by omega]; exact b
  | @wr L o rest hd h g ih =>
    obtain ⟨res, e, hn, hr, hle, hg⟩ := ih
    refine ⟨none :: res, by simp only [List.length_cons]; omega, fun j hj => ?_, fun j q hj => ?_, by simp only [List.length_cons]; omega, fun v v' => by rw [lcs_none]; simpa using hg v v'⟩
    · cases j with
      | zero => exact ⟨o, rfl, .inl ⟨rfl, hd, by simpa [lcs] using h⟩⟩
      | succ j =>
        obtain ⟨o', a, b⟩ := hn j (by simpa using hj)
        refine ⟨o', by simpa using a, ?_⟩
        rw [List.take_succ_cons, lcs_none, show p + (j + 1) = p + 1 + j by omega]; exact b
    · cases j with
      | zero => simp at hj
      | succ j =>
        obtain ⟨x, y, o', a, b⟩ := hr j q (by simpa using hj)
        refine ⟨by omega, by omega, o', by simpa using a, ?_⟩
        rw [List.take_succ_cons, lcs_none, show p + (j + 1) = p + 1 + j by omega]; exact b
  | @wr2 L o rest hp hd h g ih =>
    obtain ⟨res, e, hn, hr, hle, hg⟩ := ih
    refine ⟨none :: res, by simp only [List.length_cons]; omega, fun j hj => ?_, fun j q hj => ?_, by simp only [List.length_cons]; omega, fun v v' => by rw [lcs_none]; simpa using hg v v'⟩
    · cases j with
      | zero => exact ⟨o, rfl, .inr ⟨rfl, hp, hd, by simpa [lcs] using h⟩⟩
      | succ j =>
        obtain ⟨o', a, b⟩ := hn j (by simpa using hj)
        refine ⟨o', by simpa using a, ?_⟩
        rw [List.take_succ_cons, lcs_none, show r + (j + 1) = r + 1 + j by omega]; exact b
    · cases j with
      | zero => simp at hj
      | succ j =>
        obtain ⟨x, y, o', a, b⟩ := hr j q (by simpa using hj)
        refine ⟨by omega, by omega, o', by simpa using a, ?_⟩
        rw [List.take_succ_cons, lcs_none, show r + (j + 1) = r + 1 + j by omega]; exact b
  | @mid L i o rest d S hp hir hd h h2 h3 g ih =>
    obtain ⟨res, e, hn, hr, hle, hg⟩ := ih
    refine ⟨some (d, S) :: res, by simp only [List.length_cons]; omega, fun j hj => ?_, fun j q hj => ?_, by simp only [List.length_cons]; omega, fun v v' => by rw [lcs_some]; simpa using hg v v'⟩
    · cases j with
      | zero => simp at hj
      | succ j =>
        obtain ⟨o', a, b⟩ := hn j (by simpa using hj)
        refine ⟨o', by simpa using a, ?_⟩
        rw [List.take_succ_cons, lcs_some, show i + (j + 1) = i + 1 + j by omega]; exact b
    · cases j with
      | zero =>
        have hj : (d, S) = q := by simpa using hj
        subst hj
        exact ⟨by omega, by omega, o, rfl, hd, by simpa [lcs] using h, fun _ => ⟨fun v => by simpa [lcs] using h2 v, fun v v' => by simpa [lcs] using h3 v v'⟩⟩
      | succ j =>
        obtain ⟨x, y, o', a, b⟩ := hr j q (by simpa using hj)
        refine ⟨by omega, by omega, o', by simpa using a, ?_⟩
        rw [List.take_succ_cons, lcs_some, show i + (j + 1) = i + 1 + j by omega]; exact b
  | @fin L rest g => exact ⟨[], by simp, fun j hj => by simp at hj, fun j q hj => by simp at hj, by simp, fun v v' => by simpa [lcs] using g v v'⟩
open Classical in
noncomputable def bV (w : MidV) (p r : Nat) (B : List Res) (D : Nat → Prop) (ρ : Env) : List Res := if D r then w.B2 (ρ w.d1) (ρ w.d2) else if D p then w.B1 (ρ w.d1) else B
end
section
class OnlyV (B : List Res) (B' : outParam (List Res)) : Prop where h : Sb B B'
instance : OnlyV [] [] := ⟨.refl _⟩
instance {v : Value} {q : List SV} {t : TypeId} {B B' : List Res} [i : OnlyV B B'] : OnlyV (rV v q t :: B) (rV v q t :: B') := ⟨i.h.cons _⟩
instance (priority := low) {r : Res} {B B' : List Res} [i : OnlyV B B'] : OnlyV (r :: B) B' := ⟨(Sb.tl r B).trans i.h⟩
variable {P : Program} {n : Nat} {X : Fix} {ms : List Nat} {loc env : EL} {B Bm : List Res} {k : Kt} {ol rest : List Oper} {d p r m i d1 d2 : Nat} {op : Op} {ty : TypeId} {pos : String} {af : Array Edge} {sd : Prop} {S : SV} {t e : TypeId} {S1 S2 : Value → SV} {B1 : Value → List Res} {B2 : Value → Value → List Res}
structure GT (P : Program) (n : Nat) (X : Fix) (ms : List Nat) (loc env : EL) (B Bm : List Res) (ol rest : List Oper) (k : Kt) (p r m i : Nat) : Prop where
  p : Sb B Bm → ∃ w, GV P n X ms env ol B k w p r m loc i rest
structure GT1 (P : Program) (n : Nat) (X : Fix) (ms : List Nat) (loc env : EL) (Bm : List Res) (ol rest : List Oper) (k : Kt) (p r m i d1 : Nat) (S1 : Value → SV) (B1 : Value → List Res) : Prop where
  p : ∀ B, Sb B Bm → ∃ d2 S2 B2, (∀ v v', Sb (B2 v v') Bm) ∧ GV P n X ms env ol B k ⟨d1, S1, B1, d2, S2, B2⟩ p r m loc i rest
structure GT2 (P : Program) (n : Nat) (X : Fix) (ms : List Nat) (loc env : EL) (Bm : List Res) (ol rest : List Oper) (k : Kt) (p r m i d1 d2 : Nat) (S1 S2 : Value → SV) (B1 : Value → List Res) (B2 : Value → Value → List Res) : Prop where
  p : ∀ B, Sb B Bm → (∀ v, Sb (B1 v) Bm) → GV P n X ms env ol B k ⟨d1, S1, B1, d2, S2, B2⟩ p r m loc i rest
instance [lt : RflE (Nat.ble p i) false] [st : St P n true loc env B ms d op sd S] : Nx (GT P n X ms loc env B Bm ol (⟨some d, op, ty, pos, af, none⟩ :: rest) k p r m i) sd (GT P n X ms ((d, S) :: loc) env B Bm ol rest k p r m (i + 1)) := ⟨fun hs g => ⟨fun sb => by
  obtain ⟨w, hw⟩ := g.p sb
  exact ⟨w, .st d S (ltf lt.h) rfl (triP (st := st) hs fun _ h => h) hw⟩⟩⟩
theorem app_triv {B C : List Res} {loc' : EL} {α : Type} {rp : Rp α} {bb : Nat} {d0 : α} {q q' : List α} {v : Value} {o1 o2 : Operand} [ts : TS P t e] [rt : RT P e α rp bb d0] (lx : ∀ {h ρ}, Fx loc' env h ρ o1 → ev n ρ o1 = v) (pa : ∀ {w0 h w}, OwnB w0 B h w → OwnB w0 (rA rp e v q :: C) h w) [ly : Lu n true loc env o2 (lv rp q')] (ql : ∀ e ∈ loc, e ∈ loc') (hs : q.length + q'.length ≤ 9223372036854775807 ∧ (q.length + q'.length) * bb ≤ 140737488355328) : TriV P n X env B ol loc' ⟨some d, .call ⟨.builtin .append, [o1, o2].toArray, [t, t].toArray⟩, ty, pos, af, none⟩ (some (d, ov)) (fun v' => rA rp e v' (q ++ q') :: C) := fun ρ h w s => by
  obtain ⟨z, ti, el, hz⟩ := rt.e
  have s' : Sx X.h0 X.w0 loc' env B [o1, o2] ρ h w := s.sub (fun x hx => by simp [looks, Op.operands, Call.operands] at hx ⊢; exact hx) (fun _ h => h)
  have s2 : Sx X.h0 X.w0 loc env B [o1, o2] ρ h w := s'.sub (fun _ h => h) ql
  have hx := lx (s'.fx o1 (by simp))
  have hy := ly.h rfl (s2.fx o2 (by simp))
  have sb : Sy X.h0 X.w0 [] [] (rA rp e v q :: C) ρ h w := ⟨s.gr, trivial, trivial, pa s.ow⟩
  refine OpG.plain (OpW.appendL (lo := 0) ts.h el.hi el.hz el.hc el.hk s.gr.sat (Nat.zero_le _) hx rfl (sb.ow.at 0 rfl).1 hy hs.1 (by rw [el.hb]; exact hs.2) fun v' w' own ow hbl => ?_)
  have sn := own_app sb own ow hbl
  exact ⟨v', h, ⟨rfl, rfl, own_one own⟩, sn.gr, PH.le.refl h, (fun e => by cases e), (fun e => by cases e), sn.ow⟩
instance [eq : RflE (Nat.beq i p) true] {α : Type} {rp : Rp α} {bb : Nat} {d0 : α} {q q' : List α} {v : Value} {o1 o2 : Operand} {C : List Res} [ts : TS P t e] [rt : RT P e α rp bb d0] [lx : Lu n true loc env o1 (ov v)] [pa : PA B v α rp e q C] [ly : Lu n true loc env o2 (lv rp q')] : Nx (GT P n X ms loc env B Bm ol (⟨some d, .call ⟨.builtin .append, [o1, o2].toArray, [t, t].toArray⟩, ty, pos, af, none⟩ :: rest) k p r m i) (q.length + q'.length ≤ 9223372036854775807 ∧ (q.length + q'.length) * bb ≤ 140737488355328) (GT1 P n X ms loc env Bm ol rest k p r m (i + 1) d ov (fun v' => rA rp e v' (q ++ q') :: C)) := ⟨fun hs g => ⟨fun sb => by
  have e := Nat.eq_of_beq_eq_true eq.h
  subst e
  obtain ⟨d2, S2, B2, _, hw⟩ := g.p B sb
  exact ⟨_, .wr rfl (app_triv (fun f => (lx.h rfl f).1) pa.h.own (fun _ h => h) hs) hw⟩⟩⟩
instance (priority := high) [eq : RflE (Nat.beq i p) true] {α : Type} {rp : Rp α} {bb : Nat} {d0 : α} {q' : List α} {o1 o2 : Operand} [ts : TS P t e] [rt : RT P e α rp bb d0] [lx : Lu n true loc env o1 (.cv (.slice none 0 0))] [ly : Lu n true loc env o2 (lv rp q')] : Nx (GT P n X ms loc env B Bm ol (⟨some d, .call ⟨.builtin .append, [o1, o2].toArray, [t, t].toArray⟩, ty, pos, af, none⟩ :: rest) k p r m i) (q'.length ≤ 9223372036854775807 ∧ q'.length * bb ≤ 140737488355328) (GT1 P n X ms loc env Bm ol rest k p r m (i + 1) d ov (fun v' => rA rp e v' q' :: B)) := ⟨fun hs g => ⟨fun sb => by
  have e := Nat.eq_of_beq_eq_true eq.h
  subst e
  obtain ⟨d2, S2, B2, _, hw⟩ := g.p B sb
  exact ⟨_, .wr rfl (app_triv (q := []) (v := .slice none 0 0) (fun f => cvE (lx.h rfl f)) (fun {w0 h w} o => ⟨OwnL.nil rp 0 h w _, (fun i hi => by cases hi), (fun r' hr' i hi => by cases hi), o⟩) (fun _ h => h) ⟨by simpa using hs.1, by simpa using hs.2⟩) hw⟩⟩⟩
instance [lp : RflE (Nat.ble i p) false] [lr : RflE (Nat.beq i r) false] [lt : RflE (Nat.ble m i) false] [st : St P n true loc env Bm ms d op sd S] [o1 : ∀ v, OnlyV (B1 v) Bm] : Nx (GT1 P n X ms loc env Bm ol (⟨some d, op, ty, pos, af, none⟩ :: rest) k p r m i d1 S1 B1) sd (GT1 P n X ms ((d, S) :: loc) env Bm ol rest k p r m (i + 1) d1 S1 B1) := ⟨fun hs g => ⟨fun B sb => by
  obtain ⟨d2, S2, B2, h2, hw⟩ := g.p B sb
  have ht : TriP P n X env Bm ol loc ⟨some d, op, ty, pos, af, none⟩ d S := triP (st := st) hs fun _ h => h
  exact ⟨d2, S2, B2, h2, .mid d S (ltf lp.h) (fun e => by have := lr.h; rw [e, beq_self] at this; cases this) rfl (TriP.sb sb ht) (fun v => TriP.sb (o1 v).h ht) (fun v v' => TriP.sb (h2 v v') ht) hw⟩⟩⟩
instance [eq : RflE (Nat.beq i r) true] [lpr : RflE (Nat.ble r p) false] {α : Type} {rp : Rp α} {bb : Nat} {d0 : α} {q q' : List α} {V : Value → Value} {o1 o2 : Operand} {C : Value → List Res} [ts : TS P t e] [rt : RT P e α rp bb d0] [lx : ∀ u, Lu n true ((d1, S1 u) :: loc) env o1 (ov (V u))] [pa : ∀ u, PA (B1 u) (V u) α rp e q (C u)] [ly : Lu n true loc env o2 (lv rp q')] [b1 : ∀ u, OnlyV (B1 u) Bm] [b2 : ∀ u v', OnlyV (rA rp e v' (q ++ q') :: C u) Bm] : Nx (GT1 P n X ms loc env Bm ol (⟨some d, .call ⟨.builtin .append, [o1, o2].toArray, [t, t].toArray⟩, ty, pos, af, none⟩ :: rest) k p r m i d1 S1 B1) (q.length + q'.length ≤ 9223372036854775807 ∧ (q.length + q'.length) * bb ≤ 140737488355328) (GT2 P n X ms loc env Bm ol rest k p r m (i + 1) d1 d S1 ov B1 (fun u v' => rA rp e v' (q ++ q') :: C u)) := ⟨fun hs g => ⟨fun B sb => by
  have e := Nat.eq_of_beq_eq_true eq.h
  subst e
  exact ⟨d, ov, _, fun u v' => (b2 u v').h, .wr2 (ltf lpr.h) rfl (fun u => app_triv (fun f => ((lx u).h rfl f).1) (pa u).h.own (fun _ h => List.mem_cons_of_mem _ h) hs) (g.p B sb fun u => (b1 u).h)⟩⟩⟩
instance [lp : RflE (Nat.ble i p) false] [lr : RflE (Nat.beq i r) false] [lt : RflE (Nat.ble m i) false] [st : St P n true loc env Bm ms d op sd S] [o2 : ∀ u v', OnlyV (B2 u v') Bm] : Nx (GT2 P n X ms loc env Bm ol (⟨some d, op, ty, pos, af, none⟩ :: rest) k p r m i d1 d2 S1 S2 B1 B2) sd (GT2 P n X ms ((d, S) :: loc) env Bm ol rest k p r m (i + 1) d1 d2 S1 S2 B1 B2) := ⟨fun hs g => ⟨fun B sb sb1 => by
  have ht : TriP P n X env Bm ol loc ⟨some d, op, ty, pos, af, none⟩ d S := triP (st := st) hs fun _ h => h
  exact .mid d S (ltf lp.h) (fun e => by have := lr.h; rw [e, beq_self] at this; cases this) rfl (TriP.sb sb ht) (fun v => TriP.sb (sb1 v) ht) (fun v v' => TriP.sb (o2 v v').h ht) (g.p B sb sb1)⟩⟩
instance [eq : RflE (Nat.beq i m) true] : Nx (GT2 P n X ms loc env Bm ol rest k p r m i d1 d2 S1 S2 B1 B2) True (∀ v v', GO P n X ms ((d2, S2 v') :: (d1, S1 v) :: loc) env (B2 v v') ol rest k) := ⟨fun _ g => ⟨fun B sb sb1 => by
  have e := Nat.eq_of_beq_eq_true eq.h
  subst e
  exact .fin g⟩⟩
end
section
variable {P : Program} {n : Nat} {X : Fix} {ms : List Nat} {loc env : EL} {B : List Res} {ol : List Oper} {k : Kt}
theorem gDs (sz m : Nat) {id : Nat} [mx : MixO P] (hs : Nat.beq ol.length sz = true) (c : (dagC ol m (env.map (·.1)) && ol.all noDefer) = true) (g : GE P n X ms [] env B ol ol k (fun _ => false) m 0 (fun _ => []) []) : GW P n X ms loc env B (.region id ol.toArray true) k := gDr m c g
theorem gDsL (sz : Nat) (lt : Nat → Bool) (m : Nat) {id : Nat} [mx : MixO P] (hs : Nat.beq ol.length sz = true) (c : (dagC ol m (env.map (·.1)) && ol.all noDefer) = true) (g : GE P n X ms [] env B ol ol k lt m 0 (fun _ => []) []) : GW P n X ms loc env B (.region id ol.toArray true) k := gDrL lt m c g
end
theorem _root_.Go.Ear.LR.cap {α : Type} {r : Rp α} {h : PH} {base : Option Addr} {len cap c : Nat} {l : List α} (u : LR r h (.slice base len cap) l) (hc : l.length ≤ c) : LR r h (.slice base len c) l := by
  obtain ⟨css, ⟨b0, cp, e, h1, h2, h3⟩, b⟩ := u
  cases e
  exact ⟨css, ⟨base, c, rfl, by rw [b.length]; exact hc, h2, h3⟩, b⟩
theorem OpW.sliceCap {P : Program} {n : Nat} {d : Nat} {ty : TypeId} {pos : String} {af : Array Edge} {g : Option (Nat × Bool)} {ρ : Env} {w : World} {K : Env → World → Prop} {t e : TypeId} {x y z : Operand} {k k2 : IntKind} {a : Option Addr} {l c m : Nat} {sz : Nat} (ht : IsUnd P t (.slice e)) (hs : IsSize P e sz) (hx : ev n ρ x = .slice a l c) (hy : ev n ρ y = .int k m) (hz : ev n ρ z = .int k2 m) (hm : m ≤ c)
    (hk : K (upd ρ d (.slice a m m)) w) : OpW P n ⟨some d, .slice t x none (some y) (some z), ty, pos, af, g⟩ ρ w K := by
  refine OpW.slice hx ?_ hk
  have hmm : (0 : Int) ≤ (m : Int) ∧ (m : Int) ≤ (c : Int) := by omega
  have hm2 : (0 : Int) ≤ (m : Int) ∧ (m : Int) ≤ (m : Int) := by omega
  have ha : (if m = 0 then a else a.map (·.add (0 * sz))) = a := by
    split
    · rfl
    · cases a <;> simp [Addr.add]
  simp only [Instr.sliceAt, Sem.run_bind, ht.run w, Result.andThen, Option.map_none, Option.map_some, hy, hz, Instr.slice, Instr.sliceBounds, Instr.sliceBound, asIntOf, Sem.run_pure, hmm, hm2, and_self, if_true, hs w, Int.toNat_natCast, Nat.sub_zero, ha]
section
variable {P : Program} {n : Nat} {c : Bool} {loc env : EL} {B : List Res} {ms : List Nat} {d : Nat} {t e : TypeId} {m : Nat} {x y z : Operand} {k k2 : IntKind} {i i2 : Int} {a b : Nat}
instance {α : Type} {r : Rp α} {q : List α} [ts : TS P t e] [tz : TZ P e m] [lx : Lu n c loc env x (lv r q)] [ly : Lu n c loc env y (.cv (.int k i))] [lz : Lu n c loc env z (.cv (.int k2 i2))] {sd sd2 : Prop} [tn : TN i a sd] [tn2 : TN i2 b sd2] : St P n c loc env B ms d (.slice t x none (some y) (some z)) ((sd ∧ sd2) ∧ a = b ∧ a ≤ q.length) (lv r (q.take a)) := .p fun qc hsd _ _ _ _ _ s _ _ _ _ _ kk => by
  have u : LR r _ _ q := lx.h qc (s.f x)
  obtain ⟨base, cp, e, hc⟩ := u.shape
  rw [e] at u
  obtain ⟨⟨s1, s2⟩, s3, s4⟩ := hsd
  subst s3
  exact OpW.sliceCap ts.h tz.h e ((cvE (ly.h qc (s.f y))).trans (by rw [tn.e s1])) ((cvE (lz.h qc (s.f z))).trans (by rw [tn2.e s2])) (Nat.le_trans s4 hc) (kk _ ((u.take a s4).cap (by simp; omega)))
instance {u : TypeId} {s1 s2 : ByteArray} [lx : Lu n c loc env x (.cv (.string s1))] [ly : Lu n c loc env y (.cv (.string s2))] : St P n c loc env B ms d (.binOp .eql t x y u) True (.cv (.bool (decide (s1.data.toList = s2.data.toList)))) := .p fun q _ _ _ _ _ _ s _ _ _ _ _ kk => OpW.eqlS (cvE (lx.h q (s.f x))) (cvE (ly.h q (s.f y))) (by
  rw [ByteArray.toList_eq, ByteArray.toList_eq, Bool.eq_iff_iff]; simp) (kk _ rfl)
end
section
variable {P : Program} {n : Nat} {X : Fix} {ms : List Nat} {loc env env' : EL} {B : List Res} {ol : List Oper} {k : Kt} {a b y : Code}
instance (priority := high) {id : Nat} [ap : AppL loc env env'] : Nx (GO P n X ms loc env B ol [] (.seq (.seq (.block id (.seq a b)) y) k)) True (GX P n X ms [] env' B .normal (.seq (.seq (.block id (.seq a b)) y) k)) := ⟨fun _ a => ⟨fun _ ρ h w s => Ops.nil (a.p ρ h w ⟨s.gr, trivial, by rw [← ap.h]; exact s.lo.app s.en, s.ow⟩)⟩⟩
instance (priority := high) {id : Nat} [ap : AppL loc env env'] : Nx (GO P n X ms loc env B ol [] (.seq (.block id (.seq a b)) k)) True (GX P n X ms [] env' B .normal (.seq (.block id (.seq a b)) k)) := ⟨fun _ a => ⟨fun _ ρ h w s => Ops.nil (a.p ρ h w ⟨s.gr, trivial, by rw [← ap.h]; exact s.lo.app s.en, s.ow⟩)⟩⟩
end
end Go.E3
set_option linter.unusedVariables false
namespace Go.E3
open Go Go.Ear
section
variable {P : Program} {b : Frame} {a : Act} {k : List Item} {cs : List Frame} {w : World} {Q : Exit → Act → World → Prop} {F : Fence} {n : Nat}
theorem stepR_scope {c : Code} : step P (lone (b.atR a (.code (.scope c) :: k)) cs w) = .next (lone (b.atR a (.code c :: .inScope c :: k)) cs w) :=
  step_lone_go (by simp [stepG, stepG.exec, Frame.atR])
theorem stepR_inScope {c : Code} : step P (lone (b.atR a (.inScope c :: k)) cs w) = .next (lone (b.atR a k) cs w) :=
  step_lone_go (by simp [stepG, stepG.exec, Frame.atR])
theorem wpIn_scope {c : Code} (h : c.wpIn F n P (scopeT Q) a w) : (Code.scope c).wpIn F n P Q a w := by
  intro b k cs hro hb hr
  have h0 : (lone (b.atR a (.code (.scope c) :: k)) cs w).fenced P F := fenced_calm hb hr rfl
  obtain ⟨e, a₁, w₁, hq, harr⟩ := h b (.inScope c :: k) cs hro hb hr
  cases e with
  | normal => exact ⟨.normal, a₁, w₁, hq, .head h0 stepR_scope (StepsIn.trans harr (.one (fenced_calm hb hr rfl) stepR_inScope))⟩
  | exit id =>
    have hx : exitTo id (.inScope c :: k) = exitTo id k := by simp [exitTo]
    exact ⟨.exit id, a₁, w₁, hq, fun k' hk => .head h0 stepR_scope (harr.1 k' (by rw [hx]; exact hk)),
        fun hr' hk => let ⟨k₁, h1, h2⟩ := harr.2 hr' (by rw [hx]; exact hk); ⟨k₁, h1, .head h0 stepR_scope h2⟩⟩
  | goto l => exact hq.elim
  | ret => exact ⟨_, a₁, w₁, hq, .of_steps (.one h0 stepR_scope) harr⟩
  | panic ch => exact ⟨_, a₁, w₁, hq, .of_steps (.one h0 stepR_scope) harr⟩
  | outgrown => exact ⟨_, a₁, w₁, hq, .of_steps (.one h0 stepR_scope) harr⟩
end
section
variable {P : Program} {n : Nat} {X : Fix} {ms : List Nat} {loc env : EL} {B : List Res} {k : Kt} {x : Code}
instance (priority := low) : Nx (GW P n X ms loc env B (.scope x) k) True (GW P n X ms loc env B x (.scp k)) := ⟨fun _ a => ⟨fun ρ h w s => by
  have h1 := a.p ρ h w s
  exact wpIn_scope h1⟩⟩
end
end Go.E3
set_option linter.unusedVariables false
set_option maxHeartbeats 4000000
namespace Go.E3
open Go Go.Ear
section
variable (P : Program) (n : Nat) (X : Fix) (ms : List Nat) (env : EL) (B : List Res) (ol : List Oper)
inductive GDk (k : Kt) (late : Nat → Bool) (Kp : List Res → Prop) : ((Nat → Gh) → EL) → List (Nat × (Gh → Res)) → Nat → List Oper → Nat → Prop
  | nil {L R i rest} (h : ∀ ν, GO P n X ms (L ν) env (rv B R ν) ol rest k) : GDk k late Kp L R i rest 0
  | sto {L R i o rest} (a : Nat) (T T' : Gh → Res) (hd : o.dst = none) (hm : (a, T) ∈ R) (hdd : depOk ol i a = true) (nb : ∀ γ, (T γ).bor = false) (h : ∀ ν, TriS P n X env B ol (L ν) o (ν a) T T') (g : ∀ ν, GO P n X ms (L ν) env (rv B (R.map (eR (.own a T'))) ν) ol rest k) : GDk k late Kp L R i (o :: rest) 1
  | stm {L R i o rest} (x : Option (Nat × SV)) (B2 : List Res) (hd : o.dst = x.map (·.1)) (hx : x = none ∨ R = []) (h : ∀ ν, TriM P n X env B ol (L ν) o x B2) (hl : ∀ j, j < i → reach ol 9 i j = true ∨ late j = true) (hf : ∀ r ∈ B2, ∀ i, r.fp i → ∃ r ∈ B, r.fp i) (hK : Kp B2) (g : ∀ ν, GO P n X ms (xLc x ++ L ν) env (rv B2 R ν) ol rest k) : GDk k late Kp L R i (o :: rest) 1
  | app {L R i o rest} (d : Nat) (S : Value → SV) (B2 : Value → List Res) (hd : o.dst = some d) (hR : R = []) (hK : ∀ v, Kp (B2 v)) (h : ∀ ν, TriV P n X env B ol (L ν) o (some (d, S)) B2) (hl : ∀ j, j < i → reach ol 9 i j = true ∨ late j = true) (g : ∀ ν v, GO P n X ms ((d, S v) :: L ν) env (rv (B2 v) R ν) ol rest k) : GDk k late Kp L R i (o :: rest) 1
  | new {L R i o rest m} (d : Nat) (S : Gh → SV) (T : Gh → Res) (hd : o.dst = some d) (h : ∀ ν, TriN P n X env B ol (L ν) o d S T) (hl : late i = false) (g : GDk k late Kp (fun ν => (d, S (ν d)) :: L ν) ((d, T) :: R) (i + 1) rest m) : GDk k late Kp L R i (o :: rest) (m + 1)
  | st {L R i o rest m} (d : Nat) (SS : (Nat → Gh) → SV) (dd : List Nat) (hd : o.dst = some d) (hs : ∀ ν ν', (∀ e ∈ dd, ν e = ν' e) → SS ν = SS ν') (hdd : dd.all (depOk ol i) = true) (h : ∀ ν, TriP P n X env B ol (L ν) o d (SS ν)) (hl : late i = true → ∀ B' ν, Kp B' → TriP P n X env B' ol (L ν) o d (SS ν))
      (g : GDk k late Kp (fun ν => (d, SS ν) :: L ν) R (i + 1) rest m) : GDk k late Kp L R i (o :: rest) (m + 1)
  | own {L R i o rest m} (d : Nat) (T : Gh → Res) (hd : o.dst = some d) (h : ∀ ν, TriO P n X env B ol (L ν) o d T) (hl : late i = false) (g : GDk k late Kp (fun ν => (d, ov (ν d).v) :: L ν) ((d, T) :: R) (i + 1) rest m) : GDk k late Kp L R i (o :: rest) (m + 1)
def StepK (late : Nat → Bool) (Kp : List Res → Prop) (loc : (Nat → Gh) → EL) (i : Nat) (o : Oper) (q : Nat × Kd) : Prop := o.dst = some q.1 ∧ match q.2 with
  | .p SS dd => (∀ ν ν', (∀ e ∈ dd, ν e = ν' e) → SS ν = SS ν') ∧ dd.all (depOk ol i) = true ∧ (∀ ν, TriP P n X env B ol (loc ν) o q.1 (SS ν)) ∧ (late i = true → ∀ B' ν, Kp B' → TriP P n X env B' ol (loc ν) o q.1 (SS ν))
  | .o S T => (∀ ν, TriN P n X env B ol (loc ν) o q.1 S T) ∧ late i = false
def FinK (late : Nat → Bool) (Kp : List Res → Prop) (loc : (Nat → Gh) → EL) (R : List (Nat × (Gh → Res))) (i m0 m : Nat) (rest : List Oper) : Sw → Prop
  | .no => m = m0
  | .own a T' => m = m0 + 1 ∧ ∃ o T, rest[m0]? = some o ∧ o.dst = none ∧ (a, T) ∈ R ∧ depOk ol (i + m0) a = true ∧ (∀ γ, (T γ).bor = false) ∧ ∀ ν, TriS P n X env B ol (loc ν) o (ν a) T T'
  | .mem x B2 => m = m0 + 1 ∧ ∃ o, rest[m0]? = some o ∧ o.dst = x.map (·.1) ∧ (x = none ∨ R = []) ∧ (∀ ν, TriV P n X env B ol (loc ν) o x B2) ∧ (∀ j, j < i + m0 → reach ol 9 (i + m0) j = true ∨ late j = true) ∧ (x = none → ∀ v, ∀ r ∈ B2 v, ∀ i, r.fp i → ∃ r ∈ B, r.fp i) ∧ ∀ v, Kp (B2 v)
end
section
variable {P : Program} {n : Nat} {X : Fix} {ms : List Nat} {env : EL} {B : List Res} {ol : List Oper} {k : Kt}
theorem GDk.sem {late : Nat → Bool} {Kp : List Res → Prop} {L : (Nat → Gh) → EL} {R : List (Nat × (Gh → Res))} {i : Nat} {rest : List Oper} {m : Nat} (g : GDk P n X ms env B ol k late Kp L R i rest m) :
    ∃ (res : List (Nat × Kd)) (sw : Sw), m ≤ rest.length ∧ FinK P n X env B ol late Kp (fun ν => ((res.map (ent · ν)).reverse ++ L ν)) (rscs res ++ R) i res.length m rest sw ∧ (∀ j, j < res.length → ∃ o q, rest[j]? = some o ∧ res[j]? = some q ∧ StepK P n X env B ol late Kp (fun ν => ((res.take j).map (ent · ν)).reverse ++ L ν) (i + j) o q) ∧
      ∀ ν v, GO P n X ms (xL sw v ++ ((res.map (ent · ν)).reverse ++ L ν)) env (rv (bS sw v B) ((rscs res ++ R).map (eR sw)) ν) ol (rest.drop m) k := by
  have fin : ∀ {q : Nat × Kd} {L L' : (Nat → Gh) → EL} {R R' : List (Nat × (Gh → Res))} {res : List (Nat × Kd)} {i m : Nat} {o : Oper} {rest : List Oper} {sw : Sw}, (∀ ν, L' ν = ent q ν :: L ν) → R' = rsc q ++ R → FinK P n X env B ol late Kp (fun ν => ((res.map (ent · ν)).reverse ++ L' ν)) (rscs res ++ R') (i + 1) res.length m rest sw → FinK P n X env B ol late Kp (fun ν => (((q :: res).map (ent · ν)).reverse ++ L ν)) (rscs (q :: res) ++ R) i (q :: res).length (m + 1) (o :: rest) sw := by
    intro q L L' R R' res i m o rest sw hL hR hf
    have e1 : (fun ν => (((q :: res).map (ent · ν)).reverse ++ L ν)) = (fun ν => ((res.map (ent · ν)).reverse ++ L' ν)) := by funext ν; rw [hL]; simp
    have e2 : rscs (q :: res) ++ R = rscs res ++ R' := by rw [hR]; simp [rscs]
    rw [e1, e2]
    cases sw with
    | no => simp only [FinK, List.length_cons] at hf ⊢; omega
    | own a T' =>
      obtain ⟨e1, o', T, e2, e3, e4, e5, e6, e7⟩ := hf
      exact ⟨by simp only [List.length_cons]; omega, o', T, by simpa using e2, e3, e4, by rw [List.length_cons, show i + (res.length + 1) = i + 1 + res.length by omega]; exact e5, e6, e7⟩
    | mem x B2 =>
      obtain ⟨e1, o', e2, e3, ex, e4, e5⟩ := hf
      exact ⟨by simp only [List.length_cons]; omega, o', by simpa using e2, e3, ex, e4, by rw [List.length_cons, show i + (res.length + 1) = i + 1 + res.length by omega]; exact e5⟩
  induction g with
  | nil h => exact ⟨[], .no, Nat.zero_le _, rfl, fun j hj => by simp at hj, fun ν v => by simpa [rscs, eR_id (f := .no) (fun _ _ => rfl), bS, xL] using h ν⟩
  | @sto L R i o rest a T T' hd hm hdd nb h g => exact ⟨[], .own a T', by simp, ⟨rfl, o, T, rfl, hd, by simpa [rscs] using hm, by simpa using hdd, nb, by simpa using h⟩, fun j hj => by simp at hj, fun ν v => by simpa [rscs, bS, xL] using g ν⟩
  | @stm L R i o rest x B2 hd hx h hl hff hK g =>
    refine ⟨[], .mem (x.map fun p => (p.1, fun _ => p.2)) (fun _ => B2), by simp, ⟨rfl, o, rfl, ?_, ?_, fun ν => by simpa using (h ν).v, by simpa using hl, fun _ _ => hff, fun _ => hK⟩, fun j hj => by simp at hj, fun ν v => ?_⟩
    · rw [hd]; cases x <;> rfl
    · rcases hx with rfl | hx
      · exact .inl rfl
      · exact .inr (by simpa [rscs] using hx)
    · have := g ν
      cases x <;> simpa [rscs, bS, xL, xLc, eR_id (f := .mem _ _) (fun _ _ => rfl)] using this
  | @app L R i o rest d S B2 hd hR hK h hl g =>
    refine ⟨[], .mem (some (d, S)) B2, by simp, ⟨rfl, o, rfl, hd, .inr (by simpa [rscs] using hR), fun ν => by simpa using h ν, by simpa using hl, (fun e => by cases e), hK⟩, fun j hj => by simp at hj, fun ν v => ?_⟩
    simpa [rscs, bS, xL, eR_id (f := .mem _ _) (fun _ _ => rfl)] using g ν v
  | @st L R i o rest m d SS dd hd hs hdd h hl g ih =>
    obtain ⟨res, sw, h2, hf, h3, h4⟩ := ih
    refine ⟨(d, .p SS dd) :: res, sw, by simp; omega, fin (fun ν => rfl) rfl hf, fun j hj => ?_, fun ν v => by simpa [ent, rsc, rscs] using h4 ν v⟩
    cases j with
    | zero => exact ⟨o, _, rfl, rfl, hd, hs, hdd, by simpa using h, by simpa using hl⟩
    | succ j =>
      obtain ⟨o', q, e1, e2, e3⟩ := h3 j (by simpa using hj)
      refine ⟨o', q, by simpa using e1, by simpa using e2, ?_⟩
      have : (fun ν => ((((d, Kd.p SS dd) :: res).take (j + 1)).map (ent · ν)).reverse ++ L ν) = (fun ν => ((res.take j).map (ent · ν)).reverse ++ ((d, SS ν) :: L ν)) := by funext ν; simp [ent]
      rw [this, show i + (j + 1) = i + 1 + j by omega]; exact e3
  | @own L R i o rest m d T hd h hl g ih =>
    obtain ⟨res, sw, h2, hf, h3, h4⟩ := ih
    refine ⟨(d, .o (fun g => ov g.v) T) :: res, sw, by simp; omega, fin (fun ν => rfl) rfl hf, fun j hj => ?_, fun ν v => by simpa [ent, rsc, rscs] using h4 ν v⟩
    cases j with
    | zero => exact ⟨o, _, rfl, rfl, hd, fun ν => by simpa using (h ν).nn, by simpa using hl⟩
    | succ j =>
      obtain ⟨o', q, e1, e2, e3⟩ := h3 j (by simpa using hj)
      refine ⟨o', q, by simpa using e1, by simpa using e2, ?_⟩
      have : (fun ν => ((((d, Kd.o (fun g => ov g.v) T) :: res).take (j + 1)).map (ent · ν)).reverse ++ L ν) = (fun ν => ((res.take j).map (ent · ν)).reverse ++ ((d, ov (ν d).v) :: L ν)) := by funext ν; simp [ent]
      rw [this, show i + (j + 1) = i + 1 + j by omega]; exact e3
  | @new L R i o rest m d S T hd h hl g ih =>
    obtain ⟨res, sw, h2, hf, h3, h4⟩ := ih
    refine ⟨(d, .o S T) :: res, sw, by simp; omega, fin (fun ν => rfl) rfl hf, fun j hj => ?_, fun ν v => by simpa [ent, rsc, rscs] using h4 ν v⟩
    cases j with
    | zero => exact ⟨o, _, rfl, rfl, hd, by simpa using h, by simpa using hl⟩
    | succ j =>
      obtain ⟨o', q, e1, e2, e3⟩ := h3 j (by simpa using hj)
      refine ⟨o', q, by simpa using e1, by simpa using e2, ?_⟩
      have : (fun ν => ((((d, Kd.o S T) :: res).take (j + 1)).map (ent · ν)).reverse ++ L ν) = (fun ν => ((res.take j).map (ent · ν)).reverse ++ ((d, S (ν d)) :: L ν)) := by funext ν; simp [ent]
      rw [this, show i + (j + 1) = i + 1 + j by omega]; exact e3
end
structure GEk (P : Program) (n : Nat) (X : Fix) (ms : List Nat) (Ls env : EL) (B : List Res) (ol rest : List Oper) (k : Kt) (lt : Nat → Bool) (Kp : List Res → Prop) (m i : Nat) (L : (Nat → Gh) → EL) (R : List (Nat × (Gh → Res))) : Prop where
  p : (∀ ν e, e ∈ Ls → e ∈ L ν) → GDk P n X ms env B ol k lt Kp L R i rest m
section
variable {P : Program} {n : Nat} {X : Fix} {ms : List Nat} {loc env : EL} {B : List Res} {ol rest : List Oper} {k : Kt} {Ls : EL} {lt : Nat → Bool} {Kp : List Res → Prop} {d : Nat} {op : Op} {m i : Nat} {L : (Nat → Gh) → EL} {R : List (Nat × (Gh → Res))} {ty t e : TypeId} {pos : String} {af : Array Edge} {sd : Prop} {S : SV}
instance (priority := low) [lf : RflE (lt i) false] [st : St P n true Ls env B ms d op sd S] : Nx (GEk P n X ms Ls env B ol (⟨some d, op, ty, pos, af, none⟩ :: rest) k lt Kp (m + 1) i L R) sd (GEk P n X ms ((d, S) :: Ls) env B ol rest k lt Kp m (i + 1) (fun ν => (d, S) :: L ν) R) := ⟨fun hs g => ⟨fun q => .st d (fun _ => S) [] rfl (fun _ _ _ => rfl) rfl (fun ν => triP (st := st) hs (q ν)) (lfT lf) (g.p (subL q))⟩⟩
instance {R1 R' : (Nat → Gh) → List Res} [rl : ∀ ν, RL B R ν (R1 ν)] [fl : ∀ ν, FlB (R1 ν) (R' ν)] : Nx (GEk P n X ms Ls env B ol rest k lt Kp 0 i L R) True (∀ ν, GO P n X ms (L ν) env (R' ν) ol rest k) := ⟨fun _ g => ⟨fun _ => .nil fun ν => ⟨fun ok ρ h w s => (g ν).p ok ρ h w (s.sb (by rw [(rl ν).h]; exact (fl ν).h))⟩⟩⟩
instance (priority := high) {x : Operand} [lf : RflE (lt i) true] [st : ∀ B', St P n true Ls env B' ms d (.move x) sd S] : Nx (GEk P n X ms Ls env B ol (⟨some d, .move x, ty, pos, af, none⟩ :: rest) k lt Kp (m + 1) i L R) sd (GEk P n X ms ((d, S) :: Ls) env B ol rest k lt Kp m (i + 1) (fun ν => (d, S) :: L ν) R) := ⟨fun hs g => ⟨fun q => .st d (fun _ => S) [] rfl (fun _ _ _ => rfl) rfl (fun ν => triP (st := st B) hs (q ν)) (fun _ B' ν _ => triP (st := st B') hs (q ν)) (g.p (subL q))⟩⟩
instance {α : Type} {v : Value} {r : Rp α} {q : List α} {x' : α} {a sz : Nat} {o1 o2 : Operand} {mk : List α → List Res} {R1 R' : (Nat → Gh) → List Res} [lx : Lu n true Ls env o1 (pa v sz a 0)] [ua : UA B v α r e q mk] [rk : Rk r sz] [ly : Lu n true Ls env o2 S] [rd : Rd r S x'] [tz : TZ P t sz] [rl : ∀ ν, RL (mk (q.set a x')) R ν (R1 ν)] [fl : ∀ ν, FlB (R1 ν) (R' ν)] :
    Nx (GEk P n X ms Ls env B ol (⟨none, .store t o1 o2, ty, pos, af, none⟩ :: rest) k lt Kp 1 i L R) (((List.range i).all fun j => reach ol 9 i j || lt j) = true ∧ a < q.length ∧ Kp (mk (q.set a x'))) (∀ ν, GO P n X ms (L ν) env (R' ν) ol rest k) := ⟨fun hs g => ⟨fun ql => .stm none (mk (q.set a x')) rfl (.inl rfl) (fun ν ρ h w s => by
  obtain ⟨_, hj, _⟩ := hs
  have hx := lx.h rfl ((s.sub (os' := [o1]) (fun x hx => by simp [looks, Op.operands] at hx ⊢; exact .inl hx) (ql ν)).fx o1 (by simp))
  have hy := ly.h rfl ((s.sub (os' := [o2]) (fun x hx => by simp [looks, Op.operands] at hx ⊢; exact .inr hx) (ql ν)).fx o2 (by simp))
  obtain ⟨b, cap, arr, ev_, _, hnb, hb, hle, ur⟩ := OwnL.block (ua.own s.ow).1 (by intro e; rw [e] at hj; cases hj)
  obtain ⟨b', l', c', e1, e2⟩ := hx
  rw [ev_] at e1; cases e1
  have hr := rd.h hy
  have hfit := ur.fit rk.h.symm hj
  have hlen := r.len hr
  rw [rk.h] at hlen
  have sy : Sy X.h0 X.w0 [] [] B ρ h w := ⟨s.gr, trivial, trivial, s.ow⟩
  obtain ⟨y, hy2, hfm⟩ := ua.fpm
  have hbf : ∃ r ∈ B, r.fp b := ⟨y, hy2, hfm b (by rw [ev_]; rfl)⟩
  have hfb := (ua.own s.ow).2 b (by rw [ev_]; rfl)
  cases hv : ev n ρ o2 with
  | agg vs =>
    rw [hv] at hr hlen
    have h1 := r.one hr
    exact OpG.plain (OpW.storeA (cs := vs.toList) tz.h hlen e2 (by rw [hv]) h1 hb (by omega) fun w' p => triM_put s p hfb.2 hfb.1 hbf (own_elem ua sy hj rk.h hr ev_ hb p).ow)
  | _ =>
    rw [hv] at hr hlen
    have hm : sz = 1 := by rw [← hlen]; rfl
    subst hm
    exact OpG.plain (OpW.store1 tz.h e2 hv (r.one hr _ (by simp [Value.cells])) hb (by omega) fun w' p => triM_put s p hfb.2 hfb.1 hbf (own_elem ua sy hj rk.h hr ev_ hb (by simpa [putIn, Value.cells] using p)).ow)) (fun j hj => by
  have := List.all_eq_true.1 hs.1 j (List.mem_range.2 hj)
  simpa using this) (fun r' hr' i hi => by obtain ⟨y, hy, f⟩ := ua.sub _ r' hr'; exact ⟨y, hy, f i hi⟩) hs.2.2 fun ν => ⟨fun ok ρ h w s => (g ν).p ok ρ h w (s.sb (by rw [(rl ν).h]; exact (fl ν).h))⟩⟩⟩
end
end Go.E3
set_option linter.unusedVariables false
namespace Go.E3
open Go Go.Ear
section
variable {P : Program}
theorem max_int {k : IntKind} {t u ty : TypeId} {a b : Int} (w : World) : (Builtin.max_ #[t, u] ty #[.int k a, .int k b]).run P w = .ok (.int k (max a b)) w := by
  have h : (if b > a then b else a) = max a b := by split <;> omega
  show Result.ok (Value.int k (if b > a then b else a)) w = _
  rw [h]
theorem min_int {k : IntKind} {t u ty : TypeId} {a b : Int} (w : World) : (Builtin.min_ #[t, u] ty #[.int k a, .int k b]).run P w = .ok (.int k (min a b)) w := by
  have h : (if b < a then b else a) = min a b := by split <;> omega
  show Result.ok (Value.int k (if b < a then b else a)) w = _
  rw [h]
end
section
variable {P : Program} {n : Nat} {c : Bool} {loc env : EL} {B : List Res} {ms : List Nat} {d : Nat} {x y : Operand} {t u : TypeId} {k : IntKind} {i j : Int}
section
variable [lx : Lu n c loc env x (.cv (.int k i))] [ly : Lu n c loc env y (.cv (.int k j))]
instance (priority := low) {lo hi : Int} [km : KI k lo hi] : St P n c loc env B ms d (.binOp .mul t x y u) (lo ≤ i * j ∧ i * j ≤ hi) (.cv (.int k (i * j))) := .p fun q sd _ _ _ _ _ s _ _ _ _ _ kk => OpW.mul (cvE (lx.h q (s.f x))) (cvE (ly.h q (s.f y))) (km.h sd.1 sd.2) (kk _ rfl)
instance (priority := 20) {lo hi : Int} [km : KI k lo hi] : St P n c loc env B ms d (.binOp .quo t x y u) (0 ≤ i ∧ 0 < j ∧ i ≤ hi ∧ lo ≤ 0) (.cv (.int k (i / j))) := .p fun q sd _ _ _ _ _ s _ _ _ _ _ kk => OpW.quo (cvE (lx.h q (s.f x))) (cvE (ly.h q (s.f y))) (by have := sd.2.1; omega) (by
  rw [Int.tdiv_eq_ediv_of_nonneg sd.1]
  have h1 := Int.ediv_nonneg sd.1 (Int.le_of_lt sd.2.1)
  have h2 : i / j ≤ i := Int.ediv_le_self j sd.1
  exact km.h (by have := sd.2.2.2; omega) (by have := sd.2.2.1; omega)) (kk _ rfl)
instance (priority := 20) : St P n c loc env B ms d (.binOp .rem t x y u) (0 ≤ i ∧ 0 < j) (.cv (.int k (i % j))) := .p fun q sd _ _ _ _ _ s _ _ _ _ _ kk => OpW.rem (cvE (lx.h q (s.f x))) (cvE (ly.h q (s.f y))) (by have := sd.2; omega) (Int.tmod_eq_emod_of_nonneg sd.1) (kk _ rfl)
instance (priority := 50) : St P n c loc env B ms d (.call ⟨.builtin .max, [x, y].toArray, [t, u].toArray⟩) True (.cv (.int k (max i j))) := .p fun q _ _ _ _ _ _ s _ _ _ _ _ kk => OpW.maxI (cvE (lx.h q (s.f x))) (cvE (ly.h q (s.f y))) (fun w => max_int w) (kk _ rfl)
instance (priority := 50) : St P n c loc env B ms d (.call ⟨.builtin .min, [x, y].toArray, [t, u].toArray⟩) True (.cv (.int k (min i j))) := .p fun q _ _ _ _ _ _ s _ _ _ _ _ kk => OpW.minI (cvE (lx.h q (s.f x))) (cvE (ly.h q (s.f y))) (fun w => min_int w) (kk _ rfl)
end
end
end Go.E3
