/- K5: a part of the proofs about what is clipped and stored: how the program's functions run, and what they compute, for every input. -/
import Derived.Test.YtabmlonaohfncaaDoorProg
import Derived.Test.YtabmlonaohfncaaDoorK4
import Derived.Test.YtabmlonaohfncaaDoorK3
import Derived.Test.YtabmlonaohfncaaDoorK2
set_option linter.all false
namespace Go.Ear
def bf (f : Fr) : Nat := max (max f.n.length f.d.length) 1
theorem bq_pos (q : Rat) : 1 ≤ bq q := Nat.le_trans (sz_pos q.den_nz) (bq_den q)
theorem F.bq {h : PH} {v : Value} {f : Fr} (u : F h v f) : bq f.rat ≤ bf f := bq_rat u.fit
theorem bf_frK (q : Rat) : bf (frK q) = bq q := by
  have hp := bq_pos q
  have h1 := bq_K q
  apply Nat.le_antisymm
  · unfold bf; omega
  · unfold Go.Ear.bq
    have hd : sz q.den ≤ max (frK q).d.length 1 := by
      unfold frK
      simp only
      by_cases e : q.den = 1
      · rw [if_pos e, e, sz_one]; omega
      · rw [if_neg e]; unfold sz; omega
    have hn : sz q.num.natAbs = (frK q).n.length := rfl
    unfold bf; omega
def wts (l : List Fr) : Nat := (l.map fun f => bf f + 1).sum
theorem LF.bq {h : PH} {v : Value} {l : List Fr} (u : LR rpF h v l) : ∀ x ∈ l, Go.Ear.bq x.rat ≤ bf x := by
  intro x hx
  obtain ⟨base, cap, rfl, _⟩ := u.shape
  obtain ⟨i, hi, rfl⟩ := List.getElem_of_mem hx
  obtain ⟨b, off, arr, e, fz, cs, _, _, _, _, hr⟩ := u.at fr0 hi
  have := F.bq hr
  rwa [List.getD_eq_getElem?_getD, List.getElem?_eq_getElem hi] at this
def foldA (q : Rat) (l : List Fr) : Rat := l.foldl (fun s f => s + f.rat) q
def foldM (q : Rat) (l : List Fr) : Rat := l.foldl (fun s f => s * f.rat) q
def sumF (l : List Fr) : Rat := foldA 0 l
def prodF (l : List Fr) : Rat := foldM 1 l
theorem take_snoc {α : Type} {l : List α} {k : Nat} (d : α) (hk : k < l.length) : l.take (k + 1) = l.take k ++ [l.getD k d] := by
  rw [List.take_succ_eq_append_getElem hk, List.getD_eq_getElem?_getD, List.getElem?_eq_getElem hk]; rfl
def errDiv (b : Rat) : Int := if b = 0 then 3 else 0
def wholeQ (q : Rat) : Int := if -9223372036854775808 ≤ q.floor ∧ q.floor ≤ 9223372036854775807 then q.floor else 0
def wholeE (q : Rat) : Int := if -9223372036854775808 ≤ q.floor ∧ q.floor ≤ 9223372036854775807 then 0 else 6
def floorQ (q : Rat) (d : Int) : Rat := if d < 1 then 0 else ((q * (d : Rat)).floor : Rat) * (d : Rat)⁻¹
def powQ (q : Rat) (n : Int) : Rat := if n > 4096 ∨ n < -4096 then 0 else if n < 0 then q⁻¹ ^ n.natAbs else q ^ n.natAbs
def powE (q : Rat) (n : Int) : Int := if n > 4096 ∨ n < -4096 then 5 else if n < 0 ∧ q = 0 then 3 else 0
def sizeQ (q : Rat) : Nat := bitlen q.num.natAbs + bitlen q.den
end Go.Ear
namespace Go.Ear
end Go.Ear
set_option linter.unusedVariables false
namespace Go.E3
open Go Go.Ear
def rU : Rp Nat := mkRp 1 (fun x => [.cv (.int .u32 (x : Int))]) (fun _ => rfl) (fun _ => rfl)
instance : RpC rU (fun x => [.cv (.int .u32 (x : Int))]) := ⟨Iff.rfl⟩
instance : Rk rU 1 := ⟨rfl⟩
def rI : Rp Int := mkRp 1 (fun x => [.cv (.int .i64 x)]) (fun _ => rfl) (fun _ => rfl)
instance : RpC rI (fun x => [.cv (.int .i64 x)]) := ⟨Iff.rfl⟩
instance : Rk rI 1 := ⟨rfl⟩
def rB : Rp Bool := mkRp 1 (fun x => [.cv (.bool x)]) (fun _ => rfl) (fun _ => rfl)
instance : RpC rB (fun x => [.cv (.bool x)]) := ⟨Iff.rfl⟩
instance : Rk rB 1 := ⟨rfl⟩
def rL {α : Type} (r : Rp α) : Rp (List α) := mkRp 1 (fun x => [lv r x]) (fun _ => rfl) (fun _ => rfl)
instance {α : Type} {r : Rp α} : RpC (rL r) (fun x => [lv r x]) := ⟨Iff.rfl⟩
instance {α : Type} {r : Rp α} : Rk (rL r) 1 := ⟨rfl⟩
@[reducible] def uv (l : List Nat) : SV := lv rU l
@[reducible] def fv (f : Fr) : SV := .ag [.cv (.bool f.neg), lv rU f.n, lv rU f.d]
def rF : Rp Fr := mkRp 3 (fun f => [.cv (.bool f.neg), lv rU f.n, lv rU f.d]) (fun _ => rfl) (fun _ => rfl)
instance : RpC rF (fun f => [.cv (.bool f.neg), lv rU f.n, lv rU f.d]) := ⟨Iff.rfl⟩
instance : Rk rF 3 := ⟨rfl⟩
instance : D0 Fr fr0 := ⟨trivial⟩
class Vw {α : Type} (v : α → SV) (S : SV) (x : outParam α) : Prop where h : ∀ {h u}, den h S u → den h (v x) u
instance {α : Type} {r : Rp α} {l : List α} : Vw (lv r) (lv r l) l := ⟨fun u => u⟩
theorem nil_lv {α : Type} {r : Rp α} {b : Option Addr} {c : Nat} {h : PH} {v : Value} (u : den h (.cv (.slice b 0 c)) v) : den h (lv r []) v := by rw [u]; exact LR.nil r h b c
instance {α : Type} {r : Rp α} {b : Option Addr} {c : Nat} : Vw (lv r) (.cv (.slice b 0 c)) [] := ⟨nil_lv⟩
@[reducible] def iv (i : Int) : SV := .cv (.int .i64 i)
@[reducible] def bv (b : Bool) : SV := .cv (.bool b)
instance (priority := high) {f : Fr} : Vw fv (.ag [.cv (.bool f.neg), lv rU f.n, lv rU f.d]) f := ⟨fun u => u⟩
instance {b : Bool} {S T : SV} {l m : List Nat} [i : Vw (lv rU) S l] [j : Vw (lv rU) T m] : Vw fv (.ag [.cv (.bool b), S, T]) ⟨b, l, m⟩ := ⟨fun ⟨vs, e, u⟩ => ⟨vs, e, by
  match vs, u with
  | [_, _, _], ⟨a, b, c, d⟩ => exact ⟨a, i.h b, j.h c, d⟩⟩⟩
theorem Ct.az {P : Program} {f : FuncId} {az bs : List SV} {sd : Prop} {S : SV} (c : Ct P f bs sd S) (i : ∀ {h vs}, denL h az vs → denL h bs vs) : Ct P f az sd S := ⟨c.fn, fun x _ _ _ s u => c.h x s (i u)⟩
theorem cO1 {α : Type} {v : α → SV} {x : α} {P : Program} {f : FuncId} {sd : Prop} {S : SV} {R : Gh → List Res} {l : List SV} (i : Vw v S x) (c : CtO P f (v x :: l) sd R) : CtO P f (S :: l) sd R := c.az fun {h vs} u => by
  match vs, u with
  | _ :: _, u => exact ⟨i.h u.1, u.2⟩
theorem ct1 {α : Type} {v : α → SV} {x : α} {P : Program} {f : FuncId} {sd : Prop} {S R : SV} {l : List SV} (i : Vw v S x) (c : Ct P f (v x :: l) sd R) : Ct P f (S :: l) sd R := c.az fun {h vs} u => by
  match vs, u with
  | _ :: _, u => exact ⟨i.h u.1, u.2⟩
theorem ct2 {α β : Type} {v : α → SV} {x : α} {v2 : β → SV} {y : β} {P : Program} {f : FuncId} {sd : Prop} {S T R : SV} {l : List SV} (i : Vw v S x) (j : Vw v2 T y) (c : Ct P f (v x :: v2 y :: l) sd R) : Ct P f (S :: T :: l) sd R := c.az fun {h vs} u => by
  match vs, u with
  | _ :: _ :: _, u => exact ⟨i.h u.1, j.h u.2.1, u.2.2⟩
theorem ct3 {α β γ : Type} {v : α → SV} {x : α} {v2 : β → SV} {y : β} {v3 : γ → SV} {z : γ} {P : Program} {f : FuncId} {sd : Prop} {S T U R : SV} {l : List SV} (i : Vw v S x) (j : Vw v2 T y) (k : Vw v3 U z) (c : Ct P f (v x :: v2 y :: v3 z :: l) sd R) : Ct P f (S :: T :: U :: l) sd R := c.az fun {h vs} u => by
  match vs, u with
  | _ :: _ :: _ :: _, u => exact ⟨i.h u.1, j.h u.2.1, k.h u.2.2.1, u.2.2.2⟩
@[reducible] def nv (n : Nat) : SV := lv rU (digs n)
@[reducible] def qv (q : Rat) : SV := .ag [.cv (.bool (decide (q.num < 0))), lv rU (digs q.num.natAbs), lv rU (digs q.den)]
instance {n : Nat} : Vw nv (lv rU (digs n)) n := ⟨fun u => u⟩
instance {b : Option Addr} {c : Nat} : Vw nv (.cv (.slice b 0 c)) 0 := ⟨fun u => by
  have := nil_lv (r := rU) u
  unfold nv; rw [digs_zero]; exact this⟩
instance {q : Rat} : Vw qv (.ag [.cv (.bool (decide (q.num < 0))), lv rU (digs q.num.natAbs), lv rU (digs q.den)]) q := ⟨fun u => u⟩
class Sz (n : Nat) (b : outParam Nat) : Prop where h : sz n ≤ b
class Bq (q : Rat) (b : outParam Nat) : Prop where h : bq q ≤ b
class Bf (f : Fr) (b : outParam Nat) : Prop where h : f.n.length ≤ b ∧ f.d.length ≤ b ∧ 1 ≤ b
class FtL (l : List Nat) : Prop where h : Fit l
class FtF (f : Fr) : Prop where h : Fit f.n ∧ Fit f.d
instance {n : Nat} : FtL (digs n) := ⟨digs_fit n⟩
instance {f : Fr} [i : FtF f] : FtL f.n := ⟨i.h.1⟩
instance {f : Fr} [i : FtF f] : FtL f.d := ⟨i.h.2⟩
theorem one_cells {S : SV} {h : PH} {v : Value} (u : den h S v) (o : S.one = true) : denL h [S] v.cells.toList := by rw [cells_one (u.one o)]; exact ⟨u, trivial⟩
instance {i : Int} {a : Nat} [x : IN i a] : Rd rU (.cv (.int .u32 i)) a := ⟨fun u => by rw [x.e] at u; exact one_cells u rfl⟩
instance {i : Int} : Rd rI (.cv (.int .i64 i)) i := ⟨fun u => one_cells u rfl⟩
instance {b : Bool} : Rd rB (.cv (.bool b)) b := ⟨fun u => one_cells u rfl⟩
instance {x : Value} : Rd rW (ov x) x := ⟨fun u => one_cells u rfl⟩
instance {α : Type} {r : Rp α} {l : List α} : Rd (rL r) (lv r l) l := ⟨fun u => one_cells u rfl⟩
instance {α : Type} {r : Rp α} {b : Option Addr} {c : Nat} : Rd (rL r) (.cv (.slice b 0 c)) [] := ⟨fun u => one_cells (nil_lv (r := r) u) rfl⟩
instance {S : SV} {f : Fr} [i : Vw fv S f] : Rd rF S f := ⟨fun u => by
  obtain ⟨vs, e, d⟩ := i.h u
  subst e; exact d⟩
@[reducible] def kk (q : Rat) : SV := fv (frK q)
class Rt (f : Fr) (q : outParam Rat) : Prop where h : f.rat = q
class Bfe (f : Fr) (b : outParam Nat) : Prop where h : bf f = b
instance (priority := low) {f : Fr} : Rt f f.rat := ⟨rfl⟩
instance (priority := low) {f : Fr} : Bfe f (bf f) := ⟨rfl⟩
instance {q : Rat} : Rt (frK q) q := ⟨frK_rat q⟩
instance {q : Rat} : Bfe (frK q) (bq q) := ⟨bf_frK q⟩
instance {q : Rat} : FtF (frK q) := ⟨digs_fit _, by unfold frK; dsimp only; split; exact fun x hx => (List.not_mem_nil hx).elim; exact digs_fit _⟩
instance : FtF fr0 := ⟨fun x hx => (List.not_mem_nil hx).elim, fun x hx => (List.not_mem_nil hx).elim⟩
class VF (S : SV) (f : outParam Fr) (q : outParam Rat) (b : outParam Nat) : Prop where
  v : Vw fv S f
  t : FtF f
  r : f.rat = q
  b : bf f = b
instance {S : SV} {f : Fr} {q : Rat} {b : Nat} [v : Vw fv S f] [t : FtF f] [r : Rt f q] [e : Bfe f b] : VF S f q b := ⟨v, t, r.h, e.h⟩
theorem VF.le {S : SV} {f : Fr} {q : Rat} {b : Nat} (i : VF S f q b) : bq q ≤ b := by rw [← i.r, ← i.b]; exact bq_rat i.t.h
class FtS (l : List Fr) : Prop where h : ∀ f ∈ l, FtF f
instance : FtS [] := ⟨fun f hf => (List.not_mem_nil hf).elim⟩
instance {f : Fr} {l : List Fr} [a : FtF f] [b : FtS l] : FtS (f :: l) := ⟨fun g hg => by rcases List.mem_cons.1 hg with rfl | hg; exact a; exact b.h g hg⟩
theorem FtS.getD {l : List Fr} (i : FtS l) (k : Nat) : FtF (l.getD k fr0) := by
  rw [List.getD_eq_getElem?_getD]
  cases e : l[k]? with
  | none => exact inferInstanceAs (FtF fr0)
  | some x => exact i.h x (List.mem_of_getElem? e)
instance {l : List Fr} [i : FtS l] {k : Nat} : FtF (l.getD k fr0) := i.getD k
instance {l : List Rat} : FtS (l.map frK) := ⟨fun f hf => by obtain ⟨q, _, rfl⟩ := List.mem_map.1 hf; infer_instance⟩
class VL (S : SV) (l : outParam (List Fr)) : Prop where
  v : Vw (lv rF) S l
  t : FtS l
instance {S : SV} {l : List Fr} [v : Vw (lv rF) S l] [t : FtS l] : VL S l := ⟨v, t⟩
theorem FtS.bq {l : List Fr} (i : FtS l) : ∀ x ∈ l, Go.Ear.bq x.rat ≤ bf x := fun x hx => bq_rat (i.h x hx).h
end Go.E3
set_option linter.unusedVariables false
namespace Go.E3
open Go Go.Ear
section
variable {P : Program} {n : Nat} {X : Fix} {ms : List Nat} {loc env : EL} {B : List Res} {c : Code} {k : Kt}
theorem gNl {α : Type} (r : Rp α) (e : TypeId) (g : GW P n X ms loc env (rA r e (.slice none 0 0) [] :: B) c k) : GW P n X ms loc env B c k := ⟨fun ρ h w s => g.p ρ h w ⟨s.gr, s.lo, s.en, OwnL.nil r 0 h w e, (fun i hi => by cases hi), (fun r' hr' i hi => by cases hi), s.ow⟩⟩
end
section
variable {P : Program} {n : Nat} {X : Fix} {ms : List Nat} {loc env env' : EL} {B : List Res} {ol rest : List Oper} {k : Kt}
theorem gDr (m : Nat) {id : Nat} [mx : MixO P] (c : (dagC ol m (env.map (·.1)) && ol.all noDefer) = true) (g : GE P n X ms [] env B ol ol k (fun _ => false) m 0 (fun _ => []) []) : GW P n X ms loc env B (.region id ol.toArray true) k :=
  dag_sound mx.h (Bool.and_eq_true_iff.1 c).1 (Bool.and_eq_true_iff.1 c).2 (g.p fun _ _ h => h)
end
instance (priority := low) {B : List Res} : MtB B B True [] := ⟨fun _ => .perm (by rw [List.append_nil])⟩
instance (priority := high) {b : Option Addr} {l c : Nat} {v : Value} : EqS (.cv (.slice b l c)) (ov v) (v = .slice b l c) := ⟨fun e h u d => by subst e; exact ⟨d, rfl⟩⟩
end Go.E3
set_option linter.unusedVariables false
namespace Go.E3
open Go Go.Ear
class It (P : Program) (F : SV) (idx : outParam (Nat → Int)) (len : outParam Nat) (sd : outParam Prop) : Prop where
  h : sd → ∀ {h x}, den h F x → ∃ (gf : FuncId) (lb : Array Value), x = .func (.func gf) #[] lb ∧ IsFn P gf ∧ IterK P gf lb (fun k => .int .i64 (idx k)) len (Sat h)
section
variable {P : Program} {n : Nat} {X : Fix} {ms : List Nat} {loc env kept : EL} {B kb : List Res} {x y : Code} {k : Kt} {σ : Type} {s1 s2 : Prop}
theorem gMe {E : σ → EL} {Bs : σ → List Res} {I : σ → Prop} (s' : σ) [me : MtE env (E s') s1] [mb : MtB B (Bs s') s2 kb] (hI : I s') (h1 : s1 := by first | trivial | ((try dsimp only); (try simp only [List.length_replicate, List.length_set]); repeat' (first | refine And.intro ?_ ?_ | rfl | trivial | omega))) (h2 : s2 := by first | trivial | ((try dsimp only); (try simp only [List.length_replicate, List.length_set]); repeat' (first | refine And.intro ?_ ?_ | rfl | trivial | omega))) :
    GX P n X ms loc env B .normal (.cut (Me X.c n X.h0 X.w0 E Bs I) k) := ⟨fun ρ h w sy => ⟨⟨ρ, rfl, s', hI, h, sy.gr, trivial, me.h h1 sy.en, ((mb.h h2).own sy.ow).left⟩⟩⟩
theorem OwnB.obj {w0 : World} {h : PH} {w w' : World} {b : Nat} {o o' : Obj} {B : List Res} (ob : OwnB w0 (rO b o :: B) h w) (p : Put w w' b o') : OwnB w0 (rO b o' :: B) h w' :=
  ⟨p.at_, fun i hi => ⟨(ob.2.1 i hi).1, (ob.2.1 i hi).2.1, by rw [p.size]; exact (ob.2.1 i hi).2.2⟩, ob.2.2.1, OwnB.after p ob.2.2.2 fun r hr q => ob.2.2.1 r hr b rfl q⟩
theorem Gr.base {h0 hi h : PH} {w0 w w' : World} (a : Gr h0 w0 hi w) (b : Gr h0 w0 h w') (l : hi.le h) : Gr hi w0 h w' := ⟨b.sat, b.ext, l, fun i e => (b.fresh i e).imp (fun q e2 => q (by
  cases x : h0 i with
  | none => rfl
  | some o => rw [a.le i o x] at e2; cases e2)) id⟩
theorem Gr.unbase {h0 hi h : PH} {w0 w w' : World} (a : Gr h0 w0 hi w) (b : Gr hi w0 h w') : Gr h0 w0 h w' := ⟨b.sat, b.ext, a.le.trans b.le, fun i e => (b.fresh i e).elim (a.fresh i) .inr⟩
end
section
variable {α : Type} {r : Rp α} {e : TypeId} {x : Value} {q : List α} {us us2 : List Value} {ls ls2 : List (List α)} {B : List Res} {a : Nat}
theorem Sb.zset (ha : a < us.length) : Sb (rA r e x q :: rZ r e us ls :: B) (rZ r e (us.set a x) (ls.set a q) :: B) := by
  have hz : ∀ (t b : Nat), Value.blk ((us.set a x).getD t vnil) = some b → (t = a ∧ Value.blk x = some b) ∨ (t ≠ a ∧ Value.blk (us.getD t vnil) = some b) := fun t b hb => by
    rw [getD_set' ha] at hb
    by_cases e : t = a
    · rw [if_pos e] at hb; exact .inl ⟨e, hb⟩
    · rw [if_neg e] at hb; exact .inr ⟨e, hb⟩
  refine ⟨fun {w0 h w} o => ?_, fun r' hr' i hi => ?_⟩
  · obtain ⟨o1, f1, d1, ⟨l1, g1, c1⟩, f2, d2, g2⟩ := o
    have hd : ∀ b t, Value.blk x = some b → Value.blk (us.getD t vnil) ≠ some b := fun b t h1 h2 => d1 _ (List.mem_cons_self ..) b h1 ⟨t, h2⟩
    refine ⟨⟨by rw [List.length_set, List.length_set]; exact l1, fun t => ?_, fun t u b h1 h2 => ?_⟩, fun i ⟨t, ht⟩ => ?_, fun r' hr' i ⟨t, ht⟩ => ?_, g2⟩
    · rw [getD_set' ha, getD_set' (by omega)]
      by_cases e : t = a
      · rw [if_pos e, if_pos e]; exact o1
      · rw [if_neg e, if_neg e]; exact g1 t
    · rcases hz t b h1 with ⟨e1, e2⟩ | ⟨e1, e2⟩ <;> rcases hz u b h2 with ⟨e3, e4⟩ | ⟨e3, e4⟩
      · omega
      · exact (hd b u e2 e4).elim
      · exact (hd b t e4 e2).elim
      · exact c1 t u b e2 e4
    · rcases hz t i ht with ⟨_, e2⟩ | ⟨_, e2⟩
      · exact f1 i e2
      · exact f2 i ⟨t, e2⟩
    · rcases hz t i ht with ⟨_, e2⟩ | ⟨_, e2⟩
      · exact d1 r' (List.mem_cons_of_mem _ hr') i e2
      · exact d2 r' hr' i ⟨t, e2⟩
  · rcases List.mem_cons.1 hr' with rfl | hr'
    · obtain ⟨t, ht⟩ := hi
      rcases hz t i ht with ⟨_, e2⟩ | ⟨_, e2⟩
      · exact ⟨_, List.mem_cons_self .., e2⟩
      · exact ⟨_, List.mem_cons_of_mem _ (List.mem_cons_self ..), t, e2⟩
    · exact ⟨r', List.mem_cons_of_mem _ (List.mem_cons_of_mem _ hr'), hi⟩
theorem getD_snoc {β : Type _} {l : List β} {y d : β} {t : Nat} : (l ++ [y]).getD t d = if t = l.length then y else l.getD t d := by
  simp only [List.getD_eq_getElem?_getD]
  by_cases h : t < l.length
  · rw [List.getElem?_append_left h, if_neg (by omega)]
  · rw [List.getElem?_append_right (by omega)]
    by_cases e : t = l.length
    · subst e; simp
    · rw [if_neg e, List.getElem?_eq_none (by simp; omega), List.getElem?_eq_none (by omega)]
theorem Sb.zapp : Sb (rA r e x q :: rZ r e us ls :: B) (rZ r e (us ++ [x]) (ls ++ [q]) :: B) := by
  have hz : ∀ (t b : Nat), Value.blk ((us ++ [x]).getD t vnil) = some b → (t = us.length ∧ Value.blk x = some b) ∨ (t ≠ us.length ∧ Value.blk (us.getD t vnil) = some b) := fun t b hb => by
    rw [getD_snoc] at hb
    by_cases e : t = us.length
    · rw [if_pos e] at hb; exact .inl ⟨e, hb⟩
    · rw [if_neg e] at hb; exact .inr ⟨e, hb⟩
  refine ⟨fun {w0 h w} o => ?_, fun r' hr' i hi => ?_⟩
  · obtain ⟨o1, f1, d1, ⟨l1, g1, c1⟩, f2, d2, g2⟩ := o
    have hd : ∀ b t, Value.blk x = some b → Value.blk (us.getD t vnil) ≠ some b := fun b t h1 h2 => d1 _ (List.mem_cons_self ..) b h1 ⟨t, h2⟩
    refine ⟨⟨by simp [l1], fun t => ?_, fun t u b h1 h2 => ?_⟩, fun i ⟨t, ht⟩ => ?_, fun r' hr' i ⟨t, ht⟩ => ?_, g2⟩
    · rw [getD_snoc, getD_snoc, ← l1]
      by_cases e : t = us.length
      · rw [if_pos e, if_pos e]; exact o1
      · rw [if_neg e, if_neg e]; exact g1 t
    · rcases hz t b h1 with ⟨e1, e2⟩ | ⟨e1, e2⟩ <;> rcases hz u b h2 with ⟨e3, e4⟩ | ⟨e3, e4⟩
      · omega
      · exact (hd b u e2 e4).elim
      · exact (hd b t e4 e2).elim
      · exact c1 t u b e2 e4
    · rcases hz t i ht with ⟨_, e2⟩ | ⟨_, e2⟩
      · exact f1 i e2
      · exact f2 i ⟨t, e2⟩
    · rcases hz t i ht with ⟨_, e2⟩ | ⟨_, e2⟩
      · exact d1 r' (List.mem_cons_of_mem _ hr') i e2
      · exact d2 r' hr' i ⟨t, e2⟩
  · rcases List.mem_cons.1 hr' with rfl | hr'
    · obtain ⟨t, ht⟩ := hi
      rcases hz t i ht with ⟨_, e2⟩ | ⟨_, e2⟩
      · exact ⟨_, List.mem_cons_self .., e2⟩
      · exact ⟨_, List.mem_cons_of_mem _ (List.mem_cons_self ..), t, e2⟩
    · exact ⟨r', List.mem_cons_of_mem _ (List.mem_cons_of_mem _ hr'), hi⟩
theorem Rows.rL {h : PH} : ∀ {css : List (List Value)} {us : List Value} {ls : List (List α)}, Go.Ear.Rows rW h css us → us.length = ls.length → (∀ t, LR r h (us.getD t vnil) (ls.getD t [])) → Go.Ear.Rows (rL r) h css ls
  | [], [], [], _, _, _ => trivial
  | [_] :: css, x :: us, l :: ls, u, e, z => ⟨⟨by have := z 0; rw [u.1.1.1]; exact this, trivial⟩, Rows.rL u.2 (by simpa using e) fun t => z (t + 1)⟩
  | [] :: _, _ :: _, _ :: _, u, _, _ => u.1.elim
  | (_ :: _ :: _) :: _, _ :: _, _ :: _, u, _, _ => u.1.2.elim
theorem LR.rL {h : PH} {v : Value} (u : LR rW h v us) (hl : us.length = ls.length) (z : ∀ t, LR r h (us.getD t vnil) (ls.getD t [])) : LR (rL r) h v ls := by
  obtain ⟨css, a, b⟩ := u
  exact ⟨css, a, Rows.rL b hl z⟩
end
section
variable {P : Program} {n : Nat} {X : Fix} {ms : List Nat} {loc env env' : EL} {B B' : List Res} {c x y : Code} {k : Kt} {ol rest : List Oper} {d : Nat} {op : Op} {ty : TypeId} {pos : String} {af : Array Edge} {sd : Prop} {S : SV} {a b m : Nat} {t e : TypeId} {o1 o2 : Operand}
section
variable {α : Type} {r : Rp α} {bb bb2 : Nat} {d0 : α} {q : List α} {v z : Value} {vs us : List Value} {ls : List (List α)} {e2 ew : TypeId} {kx ky : IntKind} {i j : Int} {B1 B2 B3 : List Res}
instance (priority := high) [ts : TS P t e] [ts2 : TS P e e2] [mr : MR P e bb2] [rt : RT P e2 α r bb d0] [lx : Lu n true loc env o1 (.cv (.int kx i))] [ly : Lu n true loc env o2 (.cv (.int ky j))] [a1 : IN i a] [b1 : IN j b] : Nx (GO P n X ms loc env B ol (⟨some d, .makeSlice t o1 o2, ty, pos, af, none⟩ :: rest) k) (a = b ∧ bb2 * a ≤ 281474976710656 ∧ a ≤ 9223372036854775807) (∀ v, GO P n X ms ((d, ov v) :: loc) env (rA rW e v (List.replicate a vnil) :: rZ r e2 (List.replicate a vnil) (List.replicate a []) :: B) ol rest k) := ⟨fun hs f => ⟨fun ok ρ h w s => by
  obtain ⟨h1, h2, h3⟩ := okR_some rfl ok
  obtain ⟨ti, el⟩ := mr.h
  obtain ⟨rfl, s2, s3⟩ := hs
  have hx := cvE (lx.h rfl ((s.x [o1]).fx o1 (by simp)))
  have hy := cvE (ly.h rfl ((s.x [o2]).fx o2 (by simp)))
  rw [a1.e] at hx; rw [b1.e] at hy
  refine Ops.cons (OpW.makeO s.gr.sat ts.h el.hi el.hz hx hy (Nat.le_refl _) (by rw [el.hb]; exact s2) s3 rfl fun b w' g hn hlo hb => ?_)
  have sv := s.put (v := .slice (some ⟨b, 0, none⟩) a a) (S := ov (.slice (some ⟨b, 0, none⟩) a a)) g ⟨rfl, rfl⟩ h1 (h2 rfl)
  exact (f _).p h3 _ _ _ ⟨sv.gr, sv.lo, sv.en, OwnB.join (own_rows (w0 := w) el hn hb hlo r e2) s.gr.ext.size s.ow g (NB.h)⟩⟩⟩
theorem store_z (hB : Sb B (rA rW ew v (vs.set a z) :: B')) (f : GO P n X ms loc env (rA rW ew v (vs.set a z) :: B') ol rest k) : GO P n X ms loc env B ol rest k := ⟨fun ok ρ h w s => f.p ok ρ h w (s.sb hB)⟩
instance (priority := high) [lx : Lu n true loc env o1 (pa v 1 a 0)] [ly : Lu n true loc env o2 (ov z)] [p1 : PA B z α r e2 q B1] [p2 : PA B1 v Value rW ew vs B2] [p3 : PZ B2 vs α r e2 ls B3] [tz : TZ P t 1] : Nx (GO P n X ms loc env B ol (⟨none, .store t o1 o2, ty, pos, af, none⟩ :: rest) k) (a < vs.length) (GO P n X ms loc env (rA rW ew v (vs.set a z) :: rZ r e2 (vs.set a z) (ls.set a q) :: B3) ol rest k) := ⟨fun hj f => by
  have sb : Sb B (rA rW ew v vs :: rA r e2 z q :: rZ r e2 vs ls :: B3) := (p1.h.trans ((p2.h.cons _).trans (.perm (.swap ..)))).trans (((p3.h.cons _)).cons _)
  refine ⟨fun ok ρ h w s => ?_⟩
  have g : GO P n X ms loc env (rA rW ew v vs :: rA r e2 z q :: rZ r e2 vs ls :: B3) ol (⟨none, .store t o1 o2, ty, pos, af, none⟩ :: rest) k :=
    Nx.h (self := inferInstance) hj (store_z ((Sb.zset hj).cons _) f)
  exact g.p ok ρ h w (s.sb sb)⟩
instance (priority := high) [lx : Lu n true loc env o1 (pa v 1 a 0)] [ly : Lu n true loc env o2 (ov z)] [p1 : PA B z α r e2 q B1] [p2 : PA B1 v Value rW ew vs B2] [p3 : PZ B2 (vs.set a vnil) α r e2 ls B3] [tz : TZ P t 1] : Nx (GO P n X ms loc env B ol (⟨none, .store t o1 o2, ty, pos, af, none⟩ :: rest) k) (a < vs.length) (GO P n X ms loc env (rA rW ew v (vs.set a z) :: rZ r e2 (vs.set a z) (ls.set a q) :: B3) ol rest k) := ⟨fun hj f => by
  have sb : Sb B (rA rW ew v vs :: rA r e2 z q :: rZ r e2 (vs.set a vnil) ls :: B3) := (p1.h.trans ((p2.h.cons _).trans (.perm (.swap ..)))).trans (((p3.h.cons _)).cons _)
  refine ⟨fun ok ρ h w s => ?_⟩
  have hz : Sb (rA r e2 z q :: rZ r e2 (vs.set a vnil) ls :: B3) (rZ r e2 (vs.set a z) (ls.set a q) :: B3) := by
    have := Sb.zset (r := r) (e := e2) (x := z) (q := q) (us := vs.set a vnil) (ls := ls) (B := B3) (a := a) (by rw [List.length_set]; exact hj)
    rwa [List.set_set] at this
  have g : GO P n X ms loc env (rA rW ew v vs :: rA r e2 z q :: rZ r e2 (vs.set a vnil) ls :: B3) ol (⟨none, .store t o1 o2, ty, pos, af, none⟩ :: rest) k :=
    Nx.h (self := inferInstance) hj (store_z (hz.cons _) f)
  exact g.p ok ρ h w (s.sb sb)⟩
instance (priority := high) [ts : TS P t ew] [mr : MR P ew bb2] [lx : Lu n true loc env o1 (ov v)] [ly : Lu n true loc env o2 (lv rW [z])] [p1 : PA B z α r e2 q B1] [p2 : PA B1 v Value rW ew vs B2] [p3 : PZ B2 vs α r e2 ls B3] : Nx (GO P n X ms loc env B ol (⟨some d, .call ⟨.builtin .append, [o1, o2].toArray, [t, t].toArray⟩, ty, pos, af, none⟩ :: rest) k) (vs.length + 1 ≤ 9223372036854775807 ∧ (vs.length + 1) * bb2 ≤ 140737488355328) (∀ v', GO P n X ms ((d, ov v') :: loc) env (rA rW ew v' (vs ++ [z]) :: rZ r e2 (vs ++ [z]) (ls ++ [q]) :: B3) ol rest k) := ⟨fun hs f => ⟨fun ok ρ h w s0 => by
  have sb : Sb B (rA rW ew v vs :: rA r e2 z q :: rZ r e2 vs ls :: B3) := (p1.h.trans ((p2.h.cons _).trans (.perm (.swap ..)))).trans (((p3.h.cons _)).cons _)
  have s := s0.sb sb
  obtain ⟨h1, h2, h3⟩ := okR_some rfl ok
  obtain ⟨ti, el⟩ := mr.h
  have hx := lx.h rfl ((s.x [o1]).fx o1 (by simp))
  have hy := ly.h rfl ((s.x [o2]).fx o2 (by simp))
  refine Ops.cons (OpW.appendL (lo := 0) ts.h el.hi el.hz el.hc el.hk s.gr.sat (Nat.zero_le _) hx.1 rfl (s.ow.at 0 rfl).1 hy hs.1 (by rw [el.hb]; exact hs.2) fun v' w' own ow hbl => ?_)
  exact (f v').p h3 _ _ _ (((own_app s own ow hbl).sb ((Sb.zapp).cons _)).set ⟨rfl, own_one own⟩ h1 (h2 rfl))⟩⟩
instance (priority := high) [ma : MA B v Value rW ew vs] [mz : MZ B vs α r e2 ls] : Fz B (ov v) (lv (rL r) ls) := ⟨fun {h h'} le z x u => by
  have z1 : LR rW h' v vs := z _ ma.h
  have z2 : vs.length = ls.length ∧ ∀ t, LR r h' (vs.getD t vnil) (ls.getD t []) := z _ mz.h
  rw [u.1]; exact LR.rL z1 z2.1 z2.2⟩
theorem Sy.fzM {loc' : EL} {h0 : PH} {w0 : World} {ρ : Env} {h : PH} {w : World} [p1 : PA B v Value rW ew vs B1] [p2 : PZ B1 vs α r e2 ls B2] [sl : SbE v (lv (rL r) ls) loc loc'] [se : SbE v (lv (rL r) ls) env env'] [sb : SbB v (lv (rL r) ls) B2 B3] (s : Sy h0 w0 loc env B ρ h w) : ∃ h', Sy h0 w0 loc' env' B3 ρ h' w := by
  have s' := s.sb (p1.h.trans (p2.h.cons _))
  obtain ⟨h1, g1, le1, z1, o1⟩ := OwnB.freeze (j := 0) s'.gr s'.ow rfl
  obtain ⟨h2, g2, le2, z2, o2⟩ := OwnB.freeze (j := 0) g1 o1 rfl
  have z1' : LR rW h2 v vs := (show LR rW h1 v vs from z1).mono le2
  have z2' : vs.length = ls.length ∧ ∀ t, LR r h2 (vs.getD t vnil) (ls.getD t []) := z2
  have zz := LR.rL z1' z2'.1 z2'.2
  have key : ∀ x, x = v → den h2 (lv (rL r) ls) x := fun x e => by subst e; exact zz
  exact ⟨h2, g2, sl.h key (s.lo.mono (le1.trans le2)), se.h key (s.en.mono (le1.trans le2)), (sb.h (fun h3 l3 x e => by subst e; exact zz.mono l3) o2).1⟩
instance (priority := 60) {loc' : EL} {f : Operand} {xs : List Operand} {ts : Array TypeId} {Ss : List SV} [lx : Lus n true loc env xs Ss] [fo : FO Ss v] [p1 : PA B v Value rW ew vs B1] [p2 : PZ B1 vs α r e2 ls B2] [sl : SbE v (lv (rL r) ls) loc loc'] [se : SbE v (lv (rL r) ls) env env'] [sb : SbB v (lv (rL r) ls) B2 B3] [d1 : SameDom loc loc'] [d2 : SameDom env env'] :
    Nx (GO P n X ms loc env B ol (⟨some d, .call ⟨.value f, xs.toArray, ts⟩, ty, pos, af, none⟩ :: rest) k) True (GO P n X ms loc' env' B3 ol (⟨some d, .call ⟨.value f, xs.toArray, ts⟩, ty, pos, af, none⟩ :: rest) k) := ⟨fun _ g => ⟨fun ok ρ h w s => by
  obtain ⟨h', s'⟩ := s.fzM (v := v) (p1 := p1) (p2 := p2) (sl := sl) (se := se) (sb := sb)
  exact g.p (by rw [d1.h, d2.h]; exact ok) ρ h' w s'⟩⟩
end
instance (priority := 5) {x : Res} {l rest : List Res} [i : MtB B l sd rest] : MtB (x :: B) l sd (x :: rest) := ⟨fun q => ((i.h q).cons x).trans (.perm (List.perm_middle.symm))⟩
class CtR (P : Program) (f : FuncId) (args : List SV) (B : List Res) (side : outParam Prop) (σ : outParam Type) (S : outParam (σ → SV)) (B' : outParam (σ → List Res)) : Prop where
  fn : IsFn P f
  h : side → ∀ {h0 w0 h w vs}, Gr h0 w0 h w → OwnB w0 B h w → denL h args vs → Calls P f vs.toArray w fun e w' => ∃ v, e = .returned v ∧ ∃ (h' : PH) (s : σ), Gr h0 w0 h' w' ∧ h.le h' ∧ OwnB w0 (B' s) h' w' ∧ den h' (S s) v
def fR {σ : Type} (P : Program) (n : Nat) (rs : List ResultVar) (h0 : PH) (w0 : World) (S : σ → SV) (B' : σ → List Res) (ρ : Env) (w : World) : Prop := ∃ vs h' s, resL P n ρ w rs vs ∧ Gr h0 w0 h' w ∧ OwnB w0 (B' s) h' w ∧ den h' (S s) (res1 vs)
theorem ctR {σ : Type} {S : σ → SV} {B' : σ → List Res} {f : FuncId} {fn : Func} {args : List SV} {rs : List ResultVar} (call : IsFn P f) (hf : P.funcs[f]? = some fn) (hn : fn.ntmps = n) (hb : fn.body = some c) (hr : fn.results = rs.toArray) (hl : Nat.ble args.length n = true) [ae : ArgE 0 args env] (ms : List Nat) (body : ∀ h0 w0, sd → GW P n ⟨fE n (fR P n rs h0 w0 S B'), h0, w0, X0⟩ ms [] env B c .fin) : CtR P f args B sd σ S B' := ⟨call, fun hs h0 w0 h w vs gr ow u => by
  subst hn
  refine (callsE hf hb (by rw [u.length]; exact hl) ((body h w0 hs).p (env0 0 vs) h w ⟨Gr.base gr gr (PH.le.refl h), trivial, ae.h u, ow⟩) (R' := fun v w' => ∃ h' s, Gr h w0 h' w' ∧ OwnB w0 (B' s) h' w' ∧ den h' (S s) v) ?_).mono ?_
  · rintro ρ w' ⟨vs, h', s, hres, x⟩
    exact ⟨_, res_run hr hres, h', s, x⟩
  · rintro e w' ⟨v, rfl, h', s, g, o, d⟩
    exact ⟨v, rfl, h', s, Gr.unbase gr g, g.le, o, d⟩⟩
theorem gEr {σ : Type} {S : σ → SV} {B1 : σ → List Res} {rs : List ResultVar} {h0 : PH} {w0 : World} {R0 : Exit → Act → World → Prop} {C : Ctx} {kb : List Res} {Ss : List SV} {T : SV} {s1 s2 : Prop} (s : σ) [fi : Fin ⟨R0, h0, w0, C⟩ n (fR P n rs h0 w0 S B1) P loc env B B'] [r : Rs P n loc env B' rs Ss] [oo : OneOf Ss T] [eq : EqS T (S s) s1] [mb : MtB B' (B1 s) s2 kb] {e : Exit} (h1 : s1 := by first | trivial | ((try dsimp only); repeat' (first | refine And.intro ?_ ?_ | rfl | trivial | omega))) (h2 : s2 := by first | trivial | ((try dsimp only); repeat' (first | refine And.intro ?_ ?_ | rfl | trivial | omega))) (he : e = .normal ∨ e = .ret := by first | exact .inl rfl | exact .inr rfl) : GX P n ⟨R0, h0, w0, C⟩ ms loc env B e .fin := ⟨fun ρ h w sy => fi.h (fun ρ h w sy => by
  obtain ⟨vs, a, b⟩ := r.h sy
  refine ⟨vs, h, s, a, sy.gr, ((mb.h h2).own sy.ow).left, eq.h h1 ?_⟩
  rw [← oo.h]
  match Ss, vs, b with
  | [], [], _ => exact ⟨[], rfl, trivial⟩
  | [S], [v], d => exact d.1
  | S :: T :: Ss, v :: u :: vs, d => exact ⟨v :: u :: vs, rfl, d⟩) e he ρ h w sy⟩
theorem callR {σ : Type} {S : σ → SV} {B' : σ → List Res} {h0 : PH} {w0 : World} {ρ : Env} {h : PH} {w : World} {K : Env → World → Prop} {dd : Option Tmp} {f : FuncId} {xs : List Operand} {ts : Array TypeId} {Ss : List SV} (ct : CtR P f Ss B sd σ S B') (hs : sd) (s : Sy h0 w0 loc env B ρ h w) (hx : denL h Ss (xs.map (ev n ρ))) (hk : ∀ v h' s w', Gr h0 w0 h' w' → h.le h' → OwnB w0 (B' s) h' w' → den h' (S s) v → K (updO ρ dd v) w') : OpW P n ⟨dd, .call ⟨.value (.func f), xs.toArray, ts⟩, ty, pos, af, none⟩ ρ w K := by
  refine OpW.enter (f := f) (args := (xs.map (ev n ρ)).toArray) (w' := w) ?_ (ct.h hs s.gr s.ow hx) ?_
  · simp only [execOp, resolve, ev, Deferred.ofValue, Sem.run_bind, Sem.run_pure, Result.andThen, invoke, List.map_toArray]
    have := ct.fn (#[] ++ (xs.map (ev n ρ)).toArray ++ #[]) w
    simpa using this
  · rintro e w'' ⟨v, rfl, h', s, g, le, o, d⟩
    exact ⟨v, rfl, hk v h' s w'' g le o d⟩
instance {σ : Type} {S : σ → SV} {B' : σ → List Res} {f : FuncId} {xs : List Operand} {ts : Array TypeId} {Ss : List SV} [lx : Lus n true loc env xs Ss] [ct : CtR P f Ss B sd σ S B'] : Nx (GO P n X ms loc env B ol (⟨some d, .call ⟨.value (.func f), xs.toArray, ts⟩, ty, pos, af, none⟩ :: rest) k) sd (∀ s : σ, GO P n X ms ((d, S s) :: loc) env (B' s) ol rest k) := ⟨fun hs g => ⟨fun ok ρ h w sy => by
  obtain ⟨h1, h2, h3⟩ := okR_some rfl ok
  exact Ops.cons (callR ct hs sy (lx.h rfl fun x hx => (sy.x [x]).fx x (by simp)) fun v h' s w' gr le o u => (g s).p h3 _ _ _ ⟨gr, ⟨by show den h' (S s) (upd ρ d v d); rw [upd_at]; exact u, (sy.lo.upd (nIn_of h1)).mono le⟩, (sy.en.upd (nIn_of (h2 rfl))).mono le, o⟩)⟩⟩
instance {σ : Type} {S : σ → SV} {B' : σ → List Res} {f : FuncId} {xs : List Operand} {ts : Array TypeId} {Ss : List SV} [lx : Lus n true loc env xs Ss] [ct : CtR P f Ss B sd σ S B'] : Nx (GO P n X ms loc env B ol (⟨none, .call ⟨.value (.func f), xs.toArray, ts⟩, ty, pos, af, none⟩ :: rest) k) sd (∀ s : σ, GO P n X ms loc env (B' s) ol rest k) := ⟨fun hs g => ⟨fun ok ρ h w sy => by
  exact Ops.cons (callR ct hs sy (lx.h rfl fun x hx => (sy.x [x]).fx x (by simp)) fun v h' s w' gr le o u => (g s).p (okR_none rfl ok) _ _ _ ⟨gr, sy.lo.mono le, sy.en.mono le, o⟩)⟩⟩
class FpS (B' B : List Res) : Prop where h : ∀ r ∈ B', ∀ i, r.fp i → ∃ r ∈ B, r.fp i
instance {α : Type} {r : Rp α} {e : TypeId} {v : Value} {q q' : List α} {B1 : List Res} [pa : PA B v α r e q B1] : FpS (rA r e v q' :: B1) B := ⟨fun r' hr' i hi => by
  rcases List.mem_cons.1 hr' with rfl | hr'
  · exact pa.h.fp _ (List.mem_cons_self ..) i hi
  · exact pa.h.fp _ (List.mem_cons_of_mem _ hr') i hi⟩
instance {i t d : Nat} {Ls : EL} {lt : Nat → Bool} {L : (Nat → Gh) → EL} {S : Unit → SV} {B' : Unit → List Res} {f : FuncId} {xs : List Operand} {ts : Array TypeId} {Ss : List SV} [lf : Lu n true Ls env (.tmp t) (.cv (.func (.func f) #[] #[]))] [lx : Lus n true Ls env xs Ss] [ct : CtR P f Ss B sd Unit S B'] [fs : FpS (B' ()) B] :
    Nx (GE P n X ms Ls env B ol (⟨some d, .call ⟨.value (.tmp t), xs.toArray, ts⟩, ty, pos, af, none⟩ :: rest) k lt 1 i L []) (((List.range i).all fun j => reach ol 9 i j || lt j) = true ∧ sd) (∀ ν, GO P n X ms ((d, S ()) :: L ν) env (B' ()) ol rest k) := ⟨fun hs g => ⟨fun ql => .stm (some (d, S ())) (B' ()) rfl (.inr rfl) (fun ν ρ h w s => by
  have hfv := cvE (lf.h rfl ((s.sub (os' := [.tmp t]) (fun x hx => by simp [looks, Op.operands, Call.operands] at hx ⊢; exact .inl hx) (ql ν)).fx (.tmp t) (by simp)))
  have s' : Sx X.h0 X.w0 Ls env B xs ρ h w := s.sub (fun x hx => by simp [looks, Op.operands, Call.operands, hx]) (ql ν)
  have hx : denL h Ss (xs.map (ev n ρ)) := lx.h rfl fun x hx => s'.fx x hx
  refine OpG.plain (OpW.enter (f := f) (args := (xs.map (ev n ρ)).toArray) (w' := w) ?_ (ct.h hs.2 s.gr s.ow hx) ?_)
  · have := ct.fn (#[] ++ (xs.map (ev n ρ)).toArray ++ #[]) w
    simp only [execOp, resolve, hfv, Deferred.ofValue, Sem.run_bind, Sem.run_pure, Result.andThen, invoke, List.map_toArray]
    simpa using this
  · rintro e w'' ⟨v, rfl, h', s1, g', le, o, dd⟩
    exact ⟨v, rfl, h', ⟨v, rfl, dd⟩, g', le, (fun e => by cases e), (fun e => by cases e), o⟩) (fun j hj => by
  have := List.all_eq_true.1 hs.1 j (List.mem_range.2 hj)
  simpa using this) fs.h fun ν => by simpa [rv, xLc] using g ν⟩⟩
instance {i d : Nat} {Ls : EL} {lt : Nat → Bool} {L : (Nat → Gh) → EL} {S : Unit → SV} {B' : Unit → List Res} {f : FuncId} {xs : List Operand} {ts : Array TypeId} {Ss : List SV} [lx : Lus n true Ls env xs Ss] [ct : CtR P f Ss B sd Unit S B'] [fs : FpS (B' ()) B] :
    Nx (GE P n X ms Ls env B ol (⟨some d, .call ⟨.value (.func f), xs.toArray, ts⟩, ty, pos, af, none⟩ :: rest) k lt 1 i L []) (((List.range i).all fun j => reach ol 9 i j || lt j) = true ∧ sd) (∀ ν, GO P n X ms ((d, S ()) :: L ν) env (B' ()) ol rest k) := ⟨fun hs g => ⟨fun ql => .stm (some (d, S ())) (B' ()) rfl (.inr rfl) (fun ν ρ h w s => by
  have s' : Sx X.h0 X.w0 Ls env B xs ρ h w := s.sub (fun x hx => by simp [looks, Op.operands, Call.operands, hx]) (ql ν)
  have hx : denL h Ss (xs.map (ev n ρ)) := lx.h rfl fun x hx => s'.fx x hx
  refine OpG.plain (OpW.enter (f := f) (args := (xs.map (ev n ρ)).toArray) (w' := w) ?_ (ct.h hs.2 s.gr s.ow hx) ?_)
  · have := ct.fn (#[] ++ (xs.map (ev n ρ)).toArray ++ #[]) w
    simp only [execOp, resolve, ev, Deferred.ofValue, Sem.run_bind, Sem.run_pure, Result.andThen, invoke, List.map_toArray]
    simpa using this
  · rintro e w'' ⟨v, rfl, h', s1, g', le, o, dd⟩
    exact ⟨v, rfl, h', ⟨v, rfl, dd⟩, g', le, (fun e => by cases e), (fun e => by cases e), o⟩) (fun j hj => by
  have := List.all_eq_true.1 hs.1 j (List.mem_range.2 hj)
  simpa using this) fs.h fun ν => by simpa [rv, xLc] using g ν⟩⟩
end
end Go.E3
set_option linter.unusedVariables false
namespace Go.E3
open Go Go.Ear
section
variable {P : Program} {n : Nat} {X : Fix} {ms : List Nat} {loc env : EL} {B : List Res} {k : Kt} {ol rest l : List Oper} {d m i : Nat} {op : Op} {ty : TypeId} {pos : String} {af : Array Edge} {t e : TypeId} {L : (Nat → Gh) → EL} {R : List (Nat × (Gh → Res))} {Ls : EL} {lt : Nat → Bool}
instance (priority := high) appN {α : Type} {r : Rp α} {bb : Nat} {d0 : α} {q' : List α} {o1 o2 : Operand} [lf : RflE (lt i) false] [ts : TS P t e] [rt : RT P e α r bb d0] [lx : Lu n true Ls env o1 (.cv (.slice none 0 0))] [ly : Lu n true Ls env o2 (lv r q')] : Nx (GE P n X ms Ls env B ol (⟨some d, .call ⟨.builtin .append, [o1, o2].toArray, [t, t].toArray⟩, ty, pos, af, none⟩ :: rest) k lt (m + 1) i L R) (q'.length ≤ 9223372036854775807 ∧ q'.length * bb ≤ 140737488355328) (GE P n X ms Ls env B ol rest k lt m (i + 1) (fun ν => (d, ov (ν d).v) :: L ν) ((d, fun g => rA r e g.v q') :: R)) := ⟨fun hs f => ⟨fun ql => .own d (fun g => rA r e g.v q') rfl (fun ν ρ h w s => by
  obtain ⟨z, ti, el, hz⟩ := rt.e
  have s' : Sx X.h0 X.w0 Ls env B [o1, o2] ρ h w := s.sub (fun x hx => by simp [looks, Op.operands, Call.operands] at hx ⊢; exact hx) (ql ν)
  have hx := cvE (lx.h rfl (s'.fx o1 (by simp)))
  have hy := ly.h rfl (s'.fx o2 (by simp))
  refine OpG.plain (OpW.appendL (lo := 0) ts.h el.hi el.hz el.hc el.hk s.gr.sat (Nat.zero_le _) hx rfl (OwnL.nil r 0 h w e) hy (by simpa using hs.1) (by rw [el.hb]; simpa using hs.2) fun v' w' own ow hbl => ?_)
  refine ⟨v', [], h, rfl, (Gr.refl s.gr.sat).ow ow (fun i hi => by cases hi), own_one own, by rw [List.nil_append] at own; exact own, fun i hi => ?_⟩
  rcases hbl i hi with x | x
  · cases x
  · exact ⟨x, (own.lt hi).1, (own.lt hi).2.1⟩) lf.h (f.p fun ν e h => List.mem_cons_of_mem _ (ql ν e h))⟩⟩
class FP (ps : List (Nat × SV)) (v : outParam Value) : Prop where t : True
instance {v : Value} {i : Nat} {l : List (Nat × SV)} : FP ((i, ov v) :: l) v := ⟨trivial⟩
instance (priority := low) {v : Value} {p : Nat × SV} {l : List (Nat × SV)} [FP l v] : FP (p :: l) v := ⟨trivial⟩
instance (priority := high) {α : Type} {v : Value} {r : Rp α} {q : List α} {env env' loc' : EL} {B1 B2 : List Res} {len : Nat} {xs : List (Nat × Operand)} {ps : List (Nat × SV)} [lx : Lup n true loc env xs ps] [fo : FP ps v] [pa : PA B v α r e q B1] [sl : SbE v (lv r q) loc loc'] [se : SbE v (lv r q) env env'] [sb : SbB v (lv r q) B1 B2] [d1 : SameDom loc loc'] [d2 : SameDom env env'] :
    Nx (GO P n X ms loc env B ol (⟨some d, .buildSlice t len xs.toArray, ty, pos, af, none⟩ :: rest) k) True (GO P n X ms loc' env' B2 ol (⟨some d, .buildSlice t len xs.toArray, ty, pos, af, none⟩ :: rest) k) := ⟨fun _ g => ⟨fun ok ρ h w s => by
  obtain ⟨h', s'⟩ := s.fz (v := v) (r := r) (q := q) (pa := pa) (sl := sl) (se := se) (sb := sb)
  exact g.p (by rw [d1.h, d2.h]; exact ok) ρ h' w s'⟩⟩
end
end Go.E3
set_option linter.unusedVariables false
namespace Go.E3
open Go Go.Ear
theorem set_putIn {arr : Array Value} {p m o : Nat} {v : Value} (hf : p + m ≤ arr.size) (ho : o < m) : arr.setIfInBounds (p + o) v = putIn arr p ((cut arr p m).set o v) := by
  have hl : (cut arr p m).length = m := by unfold cut; rw [List.length_take, List.length_drop, Array.length_toList]; omega
  apply Array.toList_inj.1
  rw [putIn_toList _ _ _ (by rw [List.length_set, hl]; exact hf), Array.toList_setIfInBounds, List.length_set, hl]
  have hl2 : arr.toList.length = arr.size := Array.length_toList
  apply List.ext_getElem?
  intro j
  rw [List.getElem?_set]
  by_cases e : p + o = j
  · subst e
    rw [if_pos rfl, if_pos (by omega), List.getElem?_append_left (by rw [List.length_append, List.length_take, List.length_set, hl]; omega), List.getElem?_append_right (by rw [List.length_take]; omega), List.length_take, Nat.min_eq_left (by omega), Nat.add_sub_cancel_left, List.getElem?_set, if_pos rfl, if_pos (by omega)]
  · rw [if_neg e]
    by_cases h1 : j < p
    · rw [List.getElem?_append_left (by rw [List.length_append, List.length_take, List.length_set, hl]; omega), List.getElem?_append_left (by rw [List.length_take]; omega), List.getElem?_take, if_pos h1]
    · by_cases h2 : j < p + m
      · rw [List.getElem?_append_left (by rw [List.length_append, List.length_take, List.length_set, hl]; omega), List.getElem?_append_right (by rw [List.length_take]; omega), List.length_take, Nat.min_eq_left (by omega), List.getElem?_set, if_neg (by omega)]
        unfold cut
        rw [List.getElem?_take, if_pos (by omega), List.getElem?_drop, show p + (j - p) = j by omega]
      · rw [List.getElem?_append_right (by rw [List.length_append, List.length_take, List.length_set, hl]; omega), List.length_append, List.length_take, List.length_set, hl, Nat.min_eq_left (by omega), List.getElem?_drop]
        congr 1; omega
class RdC {α : Type} (r : Rp α) (o : Nat) (S : SV) (f : outParam (α → α)) : Prop where
  h : ∀ {h cs x v}, r.R h cs x → den h S v → o < r.k ∧ v.oneCell' = true ∧ r.R h (cs.set o v) (f x)
section
variable {P : Program} {n : Nat} {X : Fix} {ms : List Nat} {loc env : EL} {B : List Res} {k : Kt} {ol rest : List Oper} {a m o : Nat} {ty : TypeId} {pos : String} {af : Array Edge} {t e : TypeId} {α : Type} {v : Value} {r : Rp α} {q : List α} {S : SV} {o1 o2 : Operand} {f : α → α} {d0 : α}
instance {mk : List α → List Res} [D0 α d0] [lx : Lu n true loc env o1 (pa v m a o)] [ua : UA B v α r e q mk] [rk : Rk r m] [ly : Lu n true loc env o2 S] [rd : RdC r o S f] [tz : TZ P t 1] : Nx (GO P n X ms loc env B ol (⟨none, .store t o1 o2, ty, pos, af, none⟩ :: rest) k) (a < q.length) (GO P n X ms loc env (mk (q.set a (f (q.getD a d0)))) ol rest k) := ⟨fun hj g => ⟨fun ok ρ h w s => by
  have hx := lx.h rfl ((s.x [o1]).fx o1 (by simp))
  have hy := ly.h rfl ((s.x [o2]).fx o2 (by simp))
  obtain ⟨b, cap, arr, ev_, _, hnb, hb, hle, ur⟩ := OwnL.block (ua.own s.ow).1 (by intro e; rw [e] at hj; cases hj)
  obtain ⟨b', l', c', e1, e2⟩ := hx
  rw [ev_] at e1; cases e1
  obtain ⟨cs, hc, hs, hr⟩ := ur.at d0 hj
  obtain ⟨h1, h2, h3⟩ := rd.h hr hy
  have hk := rk.h
  rw [hk] at hc hs h1
  refine Ops.cons (OpW.store1 tz.h e2 rfl h2 hb (by omega) fun w' p => g.p (okR_none rfl ok) _ _ _ (own_elem ua s hj hk h3 ev_ hb ?_))
  rw [set_putIn hs h1, hc] at p; exact p⟩⟩
end
end Go.E3
set_option linter.unusedVariables false
namespace Go.E3
open Go Go.Ear
set_option maxRecDepth 20000
set_option synthInstance.maxSize 1000
theorem rtW {P : Program} {e : TypeId} {β : Type} {r0 : Rp β} {bb bb2 : Nat} {d0 : β} (rt0 : RT P e β r0 bb2 d0) (k1 : Rk r0 1) (mr : MR P e bb) : RT P e Value rW bb vnil := ⟨by have := rt0.k; rw [k1.h] at this; exact this, by
  obtain ⟨ti, el⟩ := mr.h
  exact ⟨_, ti, el, fun h => ⟨⟨rfl, rfl⟩, trivial⟩⟩⟩
instance (priority := high) {P : Program} {n : Nat} {c : Bool} {loc env : EL} {B : List Res} {ms : List Nat} {d : Nat} {o : Operand} {z : Value} {t e : TypeId} {β : Type} {r0 : Rp β} {bb bb2 : Nat} {d0 : β} [nn : NotIn d ms] [lx : Lup n c loc env [(0, o)] [(0, ov z)]] [ts : TS P t e] [rt0 : RT P e β r0 bb2 d0] [k1 : Rk r0 1] [mr : MR P e bb] : St P n c loc env B ms d (.buildSlice t 1 #[(0, o)]) True (lv rW [z]) :=
  haveI := rtW rt0 k1 mr
  haveI : St P n c loc env B ms d (.buildSlice t 1 [(0, o)].toArray) ([z].length = 1 ∧ Nat.ble (1 * rW.k) 16777216 = true) (lv rW [z]) := inferInstance
  ⟨fun q _ => this.h q ⟨rfl, rfl⟩⟩
instance (priority := 20000) {P : Program} {n : Nat} {X : Fix} {ms : List Nat} {loc env : EL} {B : List Res} {k : Kt} {ol rest : List Oper} {d : Nat} {ty : TypeId} {pos : String} {af : Array Edge} {o : Operand} {z : Value} {t e : TypeId} {β : Type} {r0 : Rp β} {bb bb2 : Nat} {d0 : β} [nn : NotIn d ms] [lx : Lup n true loc env [(0, o)] [(0, ov z)]] [ts : TS P t e] [rt0 : RT P e β r0 bb2 d0] [k1 : Rk r0 1] [mr : MR P e bb] : Nx (GO P n X ms loc env B ol (⟨some d, .buildSlice t 1 #[(0, o)], ty, pos, af, none⟩ :: rest) k) True (GO P n X ms ((d, lv rW [z]) :: loc) env B ol rest k) :=
  haveI st : St P n true loc env B ms d (.buildSlice t 1 #[(0, o)]) True (lv rW [z]) := inferInstance
  ⟨fun _ a => ⟨fun ok ρ h w s => by
    obtain ⟨h1, h2, h3⟩ := okR_some rfl ok
    exact Ops.cons (st.h rfl trivial (s.x _) fun v h' w' g u => a.p h3 _ _ _ (s.put g u h1 (h2 rfl)))⟩⟩
end Go.E3
set_option linter.unusedVariables false
namespace Go.E3
open Go Go.Ear
section
variable {P : Program} {n : Nat} {X : Fix} {ms : List Nat} {loc env : EL} {B B1 : List Res} {k : Kt} {ol rest : List Oper} {d m i : Nat} {ty : TypeId} {pos : String} {af : Array Edge} {t e : TypeId} {L : (Nat → Gh) → EL} {R : List (Nat × (Gh → Res))} {Ls : EL} {lt : Nat → Bool} {sd : Prop}
instance gapp {α : Type} {r : Rp α} {bb : Nat} {d0 : α} {q q' : List α} {v : Value} {o1 o2 : Operand} [ts : TS P t e] [rt : RT P e α r bb d0] [lx : Lu n true Ls env o1 (ov v)] [pa : PA B v α r e q B1] [ly : Lu n true Ls env o2 (lv r q')] : Nx (GE P n X ms Ls env B ol (⟨some d, .call ⟨.builtin .append, [o1, o2].toArray, [t, t].toArray⟩, ty, pos, af, none⟩ :: rest) k lt 1 i L []) (((List.range i).all fun j => reach ol 9 i j || lt j) = true ∧ q.length + q'.length ≤ 9223372036854775807 ∧ (q.length + q'.length) * bb ≤ 140737488355328) (∀ ν v', GO P n X ms ((d, ov v') :: L ν) env (rA r e v' (q ++ q') :: B1) ol rest k) := ⟨fun hs g => ⟨fun ql => .app d ov (fun v' => rA r e v' (q ++ q') :: B1) rfl rfl (fun ν ρ h w s => by
  obtain ⟨z, ti, el, hz⟩ := rt.e
  have s' : Sx X.h0 X.w0 Ls env B [o1, o2] ρ h w := s.sub (fun x hx => by simp [looks, Op.operands, Call.operands] at hx ⊢; exact hx) (ql ν)
  have hx := lx.h rfl (s'.fx o1 (by simp))
  have hy := ly.h rfl (s'.fx o2 (by simp))
  have sy : Sy X.h0 X.w0 [] [] B ρ h w := ⟨s.gr, trivial, trivial, s.ow⟩
  have sb := sy.sb pa.h
  refine OpG.plain (OpW.appendL (lo := 0) ts.h el.hi el.hz el.hc el.hk s.gr.sat (Nat.zero_le _) hx.1 rfl (sb.ow.at 0 rfl).1 hy hs.2.1 (by rw [el.hb]; exact hs.2.2) fun v' w' own ow hbl => ?_)
  have sn := own_app sb own ow hbl
  exact ⟨v', h, ⟨rfl, rfl, own_one own⟩, sn.gr, PH.le.refl h, (fun e => by cases e), (fun e => by cases e), sn.ow⟩) (fun j hj => by
  have := List.all_eq_true.1 hs.1 j (List.mem_range.2 hj)
  simpa using this) fun ν v => by simpa [rv] using g ν v⟩⟩
class CtN (P : Program) (f : FuncId) (args : List SV) (side : outParam Prop) (S : outParam (Gh → SV)) (T : outParam (Gh → List Res)) : Prop where
  fn : IsFn P f
  h : side → ∀ {h w vs}, Sat h w → denL h args vs → Calls P f vs.toArray w fun e w' => ∃ g : Gh, e = .returned g.v ∧ ∃ h', Gr h w h' w' ∧ den h' (S g) g.v ∧ OwnB w (T g) h' w'
theorem CtN.of {σ : Type} {S0 : σ → SV} {B0 : σ → List Res} {f : FuncId} {args : List SV} {S : Gh → SV} {T : Gh → List Res} (c : CtR P f args [] sd σ S0 B0) (enc : σ → List Value) (hS : ∀ v s, S ⟨v, enc s⟩ = S0 s) (hT : ∀ v s, T ⟨v, enc s⟩ = B0 s) : CtN P f args sd S T := ⟨c.fn, fun hs h w vs sat u => (c.h hs (Gr.refl sat) trivial u).mono fun e w' ⟨v, he, h', s, gr, le, o, dn⟩ => ⟨⟨v, enc s⟩, he, h', gr, by rw [hS]; exact dn, by rw [hT]; exact o⟩⟩
instance (priority := high) gnew {f : FuncId} {xs : List Operand} {ts : Array TypeId} {Ss : List SV} {S : Gh → SV} {T : Gh → List Res} [lf : RflE (lt i) false] [nn : IsIn d ms] [lx : Lus n true Ls env xs Ss] [ct : CtN P f Ss sd S T] [nb : ∀ g, NB (T g)] : Nx (GE P n X ms Ls env B ol (⟨some d, .call ⟨.value (.func f), xs.toArray, ts⟩, ty, pos, af, none⟩ :: rest) k lt (m + 1) i L R) sd (GE P n X ms Ls env B ol rest k lt m (i + 1) (fun ν => (d, S (ν d)) :: L ν) ((d, fun g => rJ (T g)) :: R)) := ⟨fun hs g => ⟨fun ql => .new d S (fun g => rJ (T g)) rfl (fun ν ρ h w s => by
  have s' : Sx X.h0 X.w0 Ls env B xs ρ h w := s.sub (fun x hx => by simp [looks, Op.operands, Call.operands, hx]) (ql ν)
  have hx : denL h Ss (xs.map (ev n ρ)) := lx.h rfl fun x hx => s'.fx x hx
  refine OpG.plain (OpW.enter (f := f) (args := (xs.map (ev n ρ)).toArray) (w' := w) ?_ (ct.h hs s.gr.sat hx) ?_)
  · simp only [execOp, resolve, ev, Deferred.ofValue, Sem.run_bind, Sem.run_pure, Result.andThen, invoke, List.map_toArray]
    have := ct.fn (#[] ++ (xs.map (ev n ρ)).toArray ++ #[]) w
    simpa using this
  · rintro e w'' ⟨q, rfl, h', gr, o1, ow⟩
    refine ⟨q.v, rfl, q.v, q.l, h', rfl, gr, o1, OwnB.any ow, fun i ⟨r, hr, hi⟩ => ?_⟩
    have := ow.foot r hr i hi
    exact ⟨this.2.1 ((nb q).h r hr), this.2.2, this.1⟩) lf.h (g.p fun ν e h => List.mem_cons_of_mem _ (ql ν e h))⟩⟩
end
end Go.E3
set_option linter.unusedVariables false
namespace Go.E3
open Go Go.Ear
section
variable {P : Program} {b : Frame} {a : Act} {k : List Item} {cs : List Frame} {w : World} {Q : Exit → Act → World → Prop} {F : Fence} {n : Nat}
theorem stepR_scope {c : Code} : step P (lone (b.atR a (.code (.scope c) :: k)) cs w) = .next (lone (b.atR a (.code c :: .inScope c :: k)) cs w) :=
  step_lone_go (by simp [stepG, stepG.exec, Frame.atR])
theorem stepR_inScope {c : Code} : step P (lone (b.atR a (.inScope c :: k)) cs w) = .next (lone (b.atR a k) cs w) :=
  step_lone_go (by simp [stepG, stepG.exec, Frame.atR])
theorem wpIn_scope {c : Code} (h : c.wpIn F n P (scopeT Q) a w) : (Code.scope c).wpIn F n P Q a w := by
  intro b k cs hro hb hr
  have h0 : (lone (b.atR a (.code (.scope c) :: k)) cs w).fenced P F := fenced_calm hb hr rfl
  obtain ⟨e, a₁, w₁, hq, harr⟩ := h b (.inScope c :: k) cs hro hb hr
  cases e with
  | normal => exact ⟨.normal, a₁, w₁, hq, .head h0 stepR_scope (StepsIn.trans harr (.one (fenced_calm hb hr rfl) stepR_inScope))⟩
  | exit id =>
    have hx : exitTo id (.inScope c :: k) = exitTo id k := by simp [exitTo]
    exact ⟨.exit id, a₁, w₁, hq, fun k' hk => .head h0 stepR_scope (harr.1 k' (by rw [hx]; exact hk)),
        fun hr' hk => let ⟨k₁, h1, h2⟩ := harr.2 hr' (by rw [hx]; exact hk); ⟨k₁, h1, .head h0 stepR_scope h2⟩⟩
  | goto l => exact hq.elim
  | ret => exact ⟨_, a₁, w₁, hq, .of_steps (.one h0 stepR_scope) harr⟩
  | panic ch => exact ⟨_, a₁, w₁, hq, .of_steps (.one h0 stepR_scope) harr⟩
  | outgrown => exact ⟨_, a₁, w₁, hq, .of_steps (.one h0 stepR_scope) harr⟩
end
section
variable {P : Program} {n : Nat} {X : Fix} {ms : List Nat} {loc env : EL} {B : List Res} {k : Kt} {x : Code}
instance (priority := low) : Nx (GW P n X ms loc env B (.scope x) k) True (GW P n X ms loc env B x (.scp k)) := ⟨fun _ a => ⟨fun ρ h w s => by
  have h1 := a.p ρ h w s
  exact wpIn_scope h1⟩⟩
end
end Go.E3
set_option linter.unusedVariables false
set_option maxHeartbeats 4000000
namespace Go.E3
open Go Go.Ear
section
variable (P : Program) (n : Nat) (X : Fix) (ms : List Nat) (env : EL) (B : List Res) (ol : List Oper)
inductive GDk (k : Kt) (late : Nat → Bool) (Kp : List Res → Prop) : ((Nat → Gh) → EL) → List (Nat × (Gh → Res)) → Nat → List Oper → Nat → Prop
  | nil {L R i rest} (h : ∀ ν, GO P n X ms (L ν) env (rv B R ν) ol rest k) : GDk k late Kp L R i rest 0
  | sto {L R i o rest} (a : Nat) (T T' : Gh → Res) (hd : o.dst = none) (hm : (a, T) ∈ R) (hdd : depOk ol i a = true) (nb : ∀ γ, (T γ).bor = false) (h : ∀ ν, TriS P n X env B ol (L ν) o (ν a) T T') (g : ∀ ν, GO P n X ms (L ν) env (rv B (R.map (eR (.own a T'))) ν) ol rest k) : GDk k late Kp L R i (o :: rest) 1
  | stm {L R i o rest} (x : Option (Nat × SV)) (B2 : List Res) (hd : o.dst = x.map (·.1)) (hx : x = none ∨ R = []) (h : ∀ ν, TriM P n X env B ol (L ν) o x B2) (hl : ∀ j, j < i → reach ol 9 i j = true ∨ late j = true) (hf : ∀ r ∈ B2, ∀ i, r.fp i → ∃ r ∈ B, r.fp i) (hK : Kp B2) (g : ∀ ν, GO P n X ms (xLc x ++ L ν) env (rv B2 R ν) ol rest k) : GDk k late Kp L R i (o :: rest) 1
  | app {L R i o rest} (d : Nat) (S : Value → SV) (B2 : Value → List Res) (hd : o.dst = some d) (hR : R = []) (hK : ∀ v, Kp (B2 v)) (h : ∀ ν, TriV P n X env B ol (L ν) o (some (d, S)) B2) (hl : ∀ j, j < i → reach ol 9 i j = true ∨ late j = true) (g : ∀ ν v, GO P n X ms ((d, S v) :: L ν) env (rv (B2 v) R ν) ol rest k) : GDk k late Kp L R i (o :: rest) 1
  | new {L R i o rest m} (d : Nat) (S : Gh → SV) (T : Gh → Res) (hd : o.dst = some d) (h : ∀ ν, TriN P n X env B ol (L ν) o d S T) (hl : late i = false) (g : GDk k late Kp (fun ν => (d, S (ν d)) :: L ν) ((d, T) :: R) (i + 1) rest m) : GDk k late Kp L R i (o :: rest) (m + 1)
  | st {L R i o rest m} (d : Nat) (SS : (Nat → Gh) → SV) (dd : List Nat) (hd : o.dst = some d) (hs : ∀ ν ν', (∀ e ∈ dd, ν e = ν' e) → SS ν = SS ν') (hdd : dd.all (depOk ol i) = true) (h : ∀ ν, TriP P n X env B ol (L ν) o d (SS ν)) (hl : late i = true → ∀ B' ν, Kp B' → TriP P n X env B' ol (L ν) o d (SS ν))
      (g : GDk k late Kp (fun ν => (d, SS ν) :: L ν) R (i + 1) rest m) : GDk k late Kp L R i (o :: rest) (m + 1)
  | own {L R i o rest m} (d : Nat) (T : Gh → Res) (hd : o.dst = some d) (h : ∀ ν, TriO P n X env B ol (L ν) o d T) (hl : late i = false) (g : GDk k late Kp (fun ν => (d, ov (ν d).v) :: L ν) ((d, T) :: R) (i + 1) rest m) : GDk k late Kp L R i (o :: rest) (m + 1)
def StepK (late : Nat → Bool) (Kp : List Res → Prop) (loc : (Nat → Gh) → EL) (i : Nat) (o : Oper) (q : Nat × Kd) : Prop := o.dst = some q.1 ∧ match q.2 with
  | .p SS dd => (∀ ν ν', (∀ e ∈ dd, ν e = ν' e) → SS ν = SS ν') ∧ dd.all (depOk ol i) = true ∧ (∀ ν, TriP P n X env B ol (loc ν) o q.1 (SS ν)) ∧ (late i = true → ∀ B' ν, Kp B' → TriP P n X env B' ol (loc ν) o q.1 (SS ν))
  | .o S T => (∀ ν, TriN P n X env B ol (loc ν) o q.1 S T) ∧ late i = false
def FinK (late : Nat → Bool) (Kp : List Res → Prop) (loc : (Nat → Gh) → EL) (R : List (Nat × (Gh → Res))) (i m0 m : Nat) (rest : List Oper) : Sw → Prop
  | .no => m = m0
  | .own a T' => m = m0 + 1 ∧ ∃ o T, rest[m0]? = some o ∧ o.dst = none ∧ (a, T) ∈ R ∧ depOk ol (i + m0) a = true ∧ (∀ γ, (T γ).bor = false) ∧ ∀ ν, TriS P n X env B ol (loc ν) o (ν a) T T'
  | .mem x B2 => m = m0 + 1 ∧ ∃ o, rest[m0]? = some o ∧ o.dst = x.map (·.1) ∧ (x = none ∨ R = []) ∧ (∀ ν, TriV P n X env B ol (loc ν) o x B2) ∧ (∀ j, j < i + m0 → reach ol 9 (i + m0) j = true ∨ late j = true) ∧ (x = none → ∀ v, ∀ r ∈ B2 v, ∀ i, r.fp i → ∃ r ∈ B, r.fp i) ∧ ∀ v, Kp (B2 v)
end
section
variable {P : Program} {n : Nat} {X : Fix} {ms : List Nat} {env : EL} {B : List Res} {ol : List Oper} {k : Kt}
theorem GDk.sem {late : Nat → Bool} {Kp : List Res → Prop} {L : (Nat → Gh) → EL} {R : List (Nat × (Gh → Res))} {i : Nat} {rest : List Oper} {m : Nat} (g : GDk P n X ms env B ol k late Kp L R i rest m) :
    ∃ (res : List (Nat × Kd)) (sw : Sw), m ≤ rest.length ∧ FinK P n X env B ol late Kp (fun ν => ((res.map (ent · ν)).reverse ++ L ν)) (rscs res ++ R) i res.length m rest sw ∧ (∀ j, j < res.length → ∃ o q, rest[j]? = some o ∧ res[j]? = some q ∧ StepK P n X env B ol late Kp (fun ν => ((res.take j).map (ent · ν)).reverse ++ L ν) (i + j) o q) ∧
      ∀ ν v, GO P n X ms (xL sw v ++ ((res.map (ent · ν)).reverse ++ L ν)) env (rv (bS sw v B) ((rscs res ++ R).map (eR sw)) ν) ol (rest.drop m) k := by
  have fin : ∀ {q : Nat × Kd} {L L' : (Nat → Gh) → EL} {R R' : List (Nat × (Gh → Res))} {res : List (Nat × Kd)} {i m : Nat} {o : Oper} {rest : List Oper} {sw : Sw}, (∀ ν, L' ν = ent q ν :: L ν) → R' = rsc q ++ R → FinK P n X env B ol late Kp (fun ν => ((res.map (ent · ν)).reverse ++ L' ν)) (rscs res ++ R') (i + 1) res.length m rest sw → FinK P n X env B ol late Kp (fun ν => (((q :: res).map (ent · ν)).reverse ++ L ν)) (rscs (q :: res) ++ R) i (q :: res).length (m + 1) (o :: rest) sw := by
    intro q L L' R R' res i m o rest sw hL hR hf
    have e1 : (fun ν => (((q :: res).map (ent · ν)).reverse ++ L ν)) = (fun ν => ((res.map (ent · ν)).reverse ++ L' ν)) := by funext ν; rw [hL]; simp
    have e2 : rscs (q :: res) ++ R = rscs res ++ R' := by rw [hR]; simp [rscs]
    rw [e1, e2]
    cases sw with
    | no => simp only [FinK, List.length_cons] at hf ⊢; omega
    | own a T' =>
      obtain ⟨e1, o', T, e2, e3, e4, e5, e6, e7⟩ := hf
      exact ⟨by simp only [List.length_cons]; omega, o', T, by simpa using e2, e3, e4, by rw [List.length_cons, show i + (res.length + 1) = i + 1 + res.length by omega]; exact e5, e6, e7⟩
    | mem x B2 =>
      obtain ⟨e1, o', e2, e3, ex, e4, e5⟩ := hf
      exact ⟨by simp only [List.length_cons]; omega, o', by simpa using e2, e3, ex, e4, by rw [List.length_cons, show i + (res.length + 1) = i + 1 + res.length by omega]; exact e5⟩
  induction g with
  | nil h => exact ⟨[], .no, Nat.zero_le _, rfl, fun j hj => by simp at hj, fun ν v => by simpa [rscs, eR_id (f := .no) (fun _ _ => rfl), bS, xL] using h ν⟩
  | @sto L R i o rest a T T' hd hm hdd nb h g => exact ⟨[], .own a T', by simp, ⟨rfl, o, T, rfl, hd, by simpa [rscs] using hm, by simpa using hdd, nb, by simpa using h⟩, fun j hj => by simp at hj, fun ν v => by simpa [rscs, bS, xL] using g ν⟩
  | @stm L R i o rest x B2 hd hx h hl hff hK g =>
    refine ⟨[], .mem (x.map fun p => (p.1, fun _ => p.2)) (fun _ => B2), by simp, ⟨rfl, o, rfl, ?_, ?_, fun ν => by simpa using (h ν).v, by simpa using hl, fun _ _ => hff, fun _ => hK⟩, fun j hj => by simp at hj, fun ν v => ?_⟩
    · rw [hd]; cases x <;> rfl
    · rcases hx with rfl | hx
      · exact .inl rfl
      · exact .inr (by simpa [rscs] using hx)
    · have := g ν
      cases x <;> simpa [rscs, bS, xL, xLc, eR_id (f := .mem _ _) (fun _ _ => rfl)] using this
  | @app L R i o rest d S B2 hd hR hK h hl g =>
    refine ⟨[], .mem (some (d, S)) B2, by simp, ⟨rfl, o, rfl, hd, .inr (by simpa [rscs] using hR), fun ν => by simpa using h ν, by simpa using hl, (fun e => by cases e), hK⟩, fun j hj => by simp at hj, fun ν v => ?_⟩
    simpa [rscs, bS, xL, eR_id (f := .mem _ _) (fun _ _ => rfl)] using g ν v
  | @st L R i o rest m d SS dd hd hs hdd h hl g ih =>
    obtain ⟨res, sw, h2, hf, h3, h4⟩ := ih
    refine ⟨(d, .p SS dd) :: res, sw, by simp; omega, fin (fun ν => rfl) rfl hf, fun j hj => ?_, fun ν v => by simpa [ent, rsc, rscs] using h4 ν v⟩
    cases j with
    | zero => exact ⟨o, _, rfl, rfl, hd, hs, hdd, by simpa using h, by simpa using hl⟩
    | succ j =>
      obtain ⟨o', q, e1, e2, e3⟩ := h3 j (by simpa using hj)
      refine ⟨o', q, by simpa using e1, by simpa using e2, ?_⟩
      have : (fun ν => ((((d, Kd.p SS dd) :: res).take (j + 1)).map (ent · ν)).reverse ++ L ν) = (fun ν => ((res.take j).map (ent · ν)).reverse ++ ((d, SS ν) :: L ν)) := by funext ν; simp [ent]
      rw [this, show i + (j + 1) = i + 1 + j by omega]; exact e3
  | @own L R i o rest m d T hd h hl g ih =>
    obtain ⟨res, sw, h2, hf, h3, h4⟩ := ih
    refine ⟨(d, .o (fun g => ov g.v) T) :: res, sw, by simp; omega, fin (fun ν => rfl) rfl hf, fun j hj => ?_, fun ν v => by simpa [ent, rsc, rscs] using h4 ν v⟩
    cases j with
    | zero => exact ⟨o, _, rfl, rfl, hd, fun ν => by simpa using (h ν).nn, by simpa using hl⟩
    | succ j =>
      obtain ⟨o', q, e1, e2, e3⟩ := h3 j (by simpa using hj)
      refine ⟨o', q, by simpa using e1, by simpa using e2, ?_⟩
      have : (fun ν => ((((d, Kd.o (fun g => ov g.v) T) :: res).take (j + 1)).map (ent · ν)).reverse ++ L ν) = (fun ν => ((res.take j).map (ent · ν)).reverse ++ ((d, ov (ν d).v) :: L ν)) := by funext ν; simp [ent]
      rw [this, show i + (j + 1) = i + 1 + j by omega]; exact e3
  | @new L R i o rest m d S T hd h hl g ih =>
    obtain ⟨res, sw, h2, hf, h3, h4⟩ := ih
    refine ⟨(d, .o S T) :: res, sw, by simp; omega, fin (fun ν => rfl) rfl hf, fun j hj => ?_, fun ν v => by simpa [ent, rsc, rscs] using h4 ν v⟩
    cases j with
    | zero => exact ⟨o, _, rfl, rfl, hd, by simpa using h, by simpa using hl⟩
    | succ j =>
      obtain ⟨o', q, e1, e2, e3⟩ := h3 j (by simpa using hj)
      refine ⟨o', q, by simpa using e1, by simpa using e2, ?_⟩
      have : (fun ν => ((((d, Kd.o S T) :: res).take (j + 1)).map (ent · ν)).reverse ++ L ν) = (fun ν => ((res.take j).map (ent · ν)).reverse ++ ((d, S (ν d)) :: L ν)) := by funext ν; simp [ent]
      rw [this, show i + (j + 1) = i + 1 + j by omega]; exact e3
end
structure GEk (P : Program) (n : Nat) (X : Fix) (ms : List Nat) (Ls env : EL) (B : List Res) (ol rest : List Oper) (k : Kt) (lt : Nat → Bool) (Kp : List Res → Prop) (m i : Nat) (L : (Nat → Gh) → EL) (R : List (Nat × (Gh → Res))) : Prop where
  p : (∀ ν e, e ∈ Ls → e ∈ L ν) → GDk P n X ms env B ol k lt Kp L R i rest m
section
variable {P : Program} {n : Nat} {X : Fix} {ms : List Nat} {loc env : EL} {B : List Res} {ol rest : List Oper} {k : Kt} {Ls : EL} {lt : Nat → Bool} {Kp : List Res → Prop} {d : Nat} {op : Op} {m i : Nat} {L : (Nat → Gh) → EL} {R : List (Nat × (Gh → Res))} {ty t e : TypeId} {pos : String} {af : Array Edge} {sd : Prop} {S : SV}
instance (priority := low) [lf : RflE (lt i) false] [st : St P n true Ls env B ms d op sd S] : Nx (GEk P n X ms Ls env B ol (⟨some d, op, ty, pos, af, none⟩ :: rest) k lt Kp (m + 1) i L R) sd (GEk P n X ms ((d, S) :: Ls) env B ol rest k lt Kp m (i + 1) (fun ν => (d, S) :: L ν) R) := ⟨fun hs g => ⟨fun q => .st d (fun _ => S) [] rfl (fun _ _ _ => rfl) rfl (fun ν => triP (st := st) hs (q ν)) (lfT lf) (g.p (subL q))⟩⟩
instance {R1 R' : (Nat → Gh) → List Res} [rl : ∀ ν, RL B R ν (R1 ν)] [fl : ∀ ν, FlB (R1 ν) (R' ν)] : Nx (GEk P n X ms Ls env B ol rest k lt Kp 0 i L R) True (∀ ν, GO P n X ms (L ν) env (R' ν) ol rest k) := ⟨fun _ g => ⟨fun _ => .nil fun ν => ⟨fun ok ρ h w s => (g ν).p ok ρ h w (s.sb (by rw [(rl ν).h]; exact (fl ν).h))⟩⟩⟩
instance (priority := high) {x : Operand} [lf : RflE (lt i) true] [st : ∀ B', St P n true Ls env B' ms d (.move x) sd S] : Nx (GEk P n X ms Ls env B ol (⟨some d, .move x, ty, pos, af, none⟩ :: rest) k lt Kp (m + 1) i L R) sd (GEk P n X ms ((d, S) :: Ls) env B ol rest k lt Kp m (i + 1) (fun ν => (d, S) :: L ν) R) := ⟨fun hs g => ⟨fun q => .st d (fun _ => S) [] rfl (fun _ _ _ => rfl) rfl (fun ν => triP (st := st B) hs (q ν)) (fun _ B' ν _ => triP (st := st B') hs (q ν)) (g.p (subL q))⟩⟩
instance {α : Type} {v : Value} {r : Rp α} {q : List α} {x' : α} {a sz : Nat} {o1 o2 : Operand} {mk : List α → List Res} {R1 R' : (Nat → Gh) → List Res} [lx : Lu n true Ls env o1 (pa v sz a 0)] [ua : UA B v α r e q mk] [rk : Rk r sz] [ly : Lu n true Ls env o2 S] [rd : Rd r S x'] [tz : TZ P t sz] [rl : ∀ ν, RL (mk (q.set a x')) R ν (R1 ν)] [fl : ∀ ν, FlB (R1 ν) (R' ν)] :
    Nx (GEk P n X ms Ls env B ol (⟨none, .store t o1 o2, ty, pos, af, none⟩ :: rest) k lt Kp 1 i L R) (((List.range i).all fun j => reach ol 9 i j || lt j) = true ∧ a < q.length ∧ Kp (mk (q.set a x'))) (∀ ν, GO P n X ms (L ν) env (R' ν) ol rest k) := ⟨fun hs g => ⟨fun ql => .stm none (mk (q.set a x')) rfl (.inl rfl) (fun ν ρ h w s => by
  obtain ⟨_, hj, _⟩ := hs
  have hx := lx.h rfl ((s.sub (os' := [o1]) (fun x hx => by simp [looks, Op.operands] at hx ⊢; exact .inl hx) (ql ν)).fx o1 (by simp))
  have hy := ly.h rfl ((s.sub (os' := [o2]) (fun x hx => by simp [looks, Op.operands] at hx ⊢; exact .inr hx) (ql ν)).fx o2 (by simp))
  obtain ⟨b, cap, arr, ev_, _, hnb, hb, hle, ur⟩ := OwnL.block (ua.own s.ow).1 (by intro e; rw [e] at hj; cases hj)
  obtain ⟨b', l', c', e1, e2⟩ := hx
  rw [ev_] at e1; cases e1
  have hr := rd.h hy
  have hfit := ur.fit rk.h.symm hj
  have hlen := r.len hr
  rw [rk.h] at hlen
  have sy : Sy X.h0 X.w0 [] [] B ρ h w := ⟨s.gr, trivial, trivial, s.ow⟩
  obtain ⟨y, hy2, hfm⟩ := ua.fpm
  have hbf : ∃ r ∈ B, r.fp b := ⟨y, hy2, hfm b (by rw [ev_]; rfl)⟩
  have hfb := (ua.own s.ow).2 b (by rw [ev_]; rfl)
  cases hv : ev n ρ o2 with
  | agg vs =>
    rw [hv] at hr hlen
    have h1 := r.one hr
    exact OpG.plain (OpW.storeA (cs := vs.toList) tz.h hlen e2 (by rw [hv]) h1 hb (by omega) fun w' p => triM_put s p hfb.2 hfb.1 hbf (own_elem ua sy hj rk.h hr ev_ hb p).ow)
  | _ =>
    rw [hv] at hr hlen
    have hm : sz = 1 := by rw [← hlen]; rfl
    subst hm
    exact OpG.plain (OpW.store1 tz.h e2 hv (r.one hr _ (by simp [Value.cells])) hb (by omega) fun w' p => triM_put s p hfb.2 hfb.1 hbf (own_elem ua sy hj rk.h hr ev_ hb (by simpa [putIn, Value.cells] using p)).ow)) (fun j hj => by
  have := List.all_eq_true.1 hs.1 j (List.mem_range.2 hj)
  simpa using this) (fun r' hr' i hi => by obtain ⟨y, hy, f⟩ := ua.sub _ r' hr'; exact ⟨y, hy, f i hi⟩) hs.2.2 fun ν => ⟨fun ok ρ h w s => (g ν).p ok ρ h w (s.sb (by rw [(rl ν).h]; exact (fl ν).h))⟩⟩⟩
end
end Go.E3
set_option linter.unusedVariables false
namespace Go.E3
open Go Go.Ear
section
variable {P : Program}
theorem max_int {k : IntKind} {t u ty : TypeId} {a b : Int} (w : World) : (Builtin.max_ #[t, u] ty #[.int k a, .int k b]).run P w = .ok (.int k (max a b)) w := by
  have h : (if b > a then b else a) = max a b := by split <;> omega
  show Result.ok (Value.int k (if b > a then b else a)) w = _
  rw [h]
theorem min_int {k : IntKind} {t u ty : TypeId} {a b : Int} (w : World) : (Builtin.min_ #[t, u] ty #[.int k a, .int k b]).run P w = .ok (.int k (min a b)) w := by
  have h : (if b < a then b else a) = min a b := by split <;> omega
  show Result.ok (Value.int k (if b < a then b else a)) w = _
  rw [h]
end
section
variable {P : Program} {n : Nat} {c : Bool} {loc env : EL} {B : List Res} {ms : List Nat} {d : Nat} {x y : Operand} {t u : TypeId} {k : IntKind} {i j : Int}
section
variable [lx : Lu n c loc env x (.cv (.int k i))] [ly : Lu n c loc env y (.cv (.int k j))]
instance (priority := low) {lo hi : Int} [km : KI k lo hi] : St P n c loc env B ms d (.binOp .mul t x y u) (lo ≤ i * j ∧ i * j ≤ hi) (.cv (.int k (i * j))) := .p fun q sd _ _ _ _ _ s _ _ _ _ _ kk => OpW.mul (cvE (lx.h q (s.f x))) (cvE (ly.h q (s.f y))) (km.h sd.1 sd.2) (kk _ rfl)
instance (priority := 20) {lo hi : Int} [km : KI k lo hi] : St P n c loc env B ms d (.binOp .quo t x y u) (0 ≤ i ∧ 0 < j ∧ i ≤ hi ∧ lo ≤ 0) (.cv (.int k (i / j))) := .p fun q sd _ _ _ _ _ s _ _ _ _ _ kk => OpW.quo (cvE (lx.h q (s.f x))) (cvE (ly.h q (s.f y))) (by have := sd.2.1; omega) (by
  rw [Int.tdiv_eq_ediv_of_nonneg sd.1]
  have h1 := Int.ediv_nonneg sd.1 (Int.le_of_lt sd.2.1)
  have h2 : i / j ≤ i := Int.ediv_le_self j sd.1
  exact km.h (by have := sd.2.2.2; omega) (by have := sd.2.2.1; omega)) (kk _ rfl)
instance (priority := 20) : St P n c loc env B ms d (.binOp .rem t x y u) (0 ≤ i ∧ 0 < j) (.cv (.int k (i % j))) := .p fun q sd _ _ _ _ _ s _ _ _ _ _ kk => OpW.rem (cvE (lx.h q (s.f x))) (cvE (ly.h q (s.f y))) (by have := sd.2; omega) (Int.tmod_eq_emod_of_nonneg sd.1) (kk _ rfl)
instance (priority := 50) : St P n c loc env B ms d (.call ⟨.builtin .max, [x, y].toArray, [t, u].toArray⟩) True (.cv (.int k (max i j))) := .p fun q _ _ _ _ _ _ s _ _ _ _ _ kk => OpW.maxI (cvE (lx.h q (s.f x))) (cvE (ly.h q (s.f y))) (fun w => max_int w) (kk _ rfl)
instance (priority := 50) : St P n c loc env B ms d (.call ⟨.builtin .min, [x, y].toArray, [t, u].toArray⟩) True (.cv (.int k (min i j))) := .p fun q _ _ _ _ _ _ s _ _ _ _ _ kk => OpW.minI (cvE (lx.h q (s.f x))) (cvE (ly.h q (s.f y))) (fun w => min_int w) (kk _ rfl)
end
end
end Go.E3
set_option linter.unusedVariables false
set_option maxRecDepth 20000
namespace Go.E3
open Go Go.Ear Go.Proofs
instance : MixO Tryd.prog := ⟨rfl⟩
instance : TZ Tryd.prog 1 1 := ⟨Tryd.sizeOf1⟩
instance : TA Tryd.prog 1 false := ⟨Tryd.isAgg1⟩
instance : ZC Tryd.prog 1 [.cv .nilFunc] := ⟨_, Tryd.zeroValue1, by first | exact ⟨rfl, trivial⟩⟩
instance : TZ Tryd.prog 2 1 := ⟨Tryd.sizeOf2⟩
instance : TA Tryd.prog 2 false := ⟨Tryd.isAgg2⟩
instance : TI Tryd.prog 2 .i64 := ⟨Tryd.underlying2⟩
instance : TD Tryd.prog 2 := ⟨_, Tryd.underlying2⟩
instance : ZC Tryd.prog 2 [.cv (.int .i64 0)] := ⟨_, Tryd.zeroValue2, by first | exact ⟨rfl, trivial⟩⟩
instance : TZ Tryd.prog 3 1 := ⟨Tryd.sizeOf3⟩
instance : TA Tryd.prog 3 false := ⟨Tryd.isAgg3⟩
instance : TI Tryd.prog 3 .i64 := ⟨Tryd.underlying3⟩
instance : TD Tryd.prog 3 := ⟨_, Tryd.underlying3⟩
instance : ZC Tryd.prog 3 [.cv (.int .i64 0)] := ⟨_, Tryd.zeroValue3, by first | exact ⟨rfl, trivial⟩⟩
instance : TZ Tryd.prog 4 1 := ⟨Tryd.sizeOf4⟩
instance : TA Tryd.prog 4 false := ⟨Tryd.isAgg4⟩
instance : TB Tryd.prog 4 := ⟨Tryd.underlying4⟩
instance : ZC Tryd.prog 4 [.cv (.bool false)] := ⟨_, Tryd.zeroValue4, by first | exact ⟨rfl, trivial⟩⟩
instance : TZ Tryd.prog 5 1 := ⟨Tryd.sizeOf5⟩
instance : TA Tryd.prog 5 false := ⟨Tryd.isAgg5⟩
instance : TI Tryd.prog 5 .u8 := ⟨Tryd.underlying5⟩
instance : TD Tryd.prog 5 := ⟨_, Tryd.underlying5⟩
instance : ZC Tryd.prog 5 [.cv (.int .u8 0)] := ⟨_, Tryd.zeroValue5, by first | exact ⟨rfl, trivial⟩⟩
instance : TZ Tryd.prog 6 1 := ⟨Tryd.sizeOf6⟩
instance : TA Tryd.prog 6 false := ⟨Tryd.isAgg6⟩
instance : TI Tryd.prog 6 .u8 := ⟨Tryd.underlying6⟩
instance : TD Tryd.prog 6 := ⟨_, Tryd.underlying6⟩
instance : ZC Tryd.prog 6 [.cv (.int .u8 0)] := ⟨_, Tryd.zeroValue6, by first | exact ⟨rfl, trivial⟩⟩
instance : TZ Tryd.prog 7 4 := ⟨Tryd.sizeOf7⟩
instance : TA Tryd.prog 7 true := ⟨Tryd.isAgg7⟩
instance : ZC Tryd.prog 7 [.cv (.int .i64 0), .cv (.int .i64 0), .cv (.bool false), .cv (.int .u8 0)] := ⟨_, Tryd.zeroValue7, by first | exact ⟨rfl, rfl, rfl, rfl, trivial⟩⟩
instance : FA Tryd.prog 7 0 0 := ⟨_, _, _, Tryd.underlying7, rfl, Tryd.sizeOf2, by decide, rfl⟩
instance : FA Tryd.prog 7 1 1 := ⟨_, _, _, Tryd.underlying7, rfl, Tryd.sizeOf3, by decide, rfl⟩
instance : FA Tryd.prog 7 2 2 := ⟨_, _, _, Tryd.underlying7, rfl, Tryd.sizeOf4, by decide, rfl⟩
instance : FA Tryd.prog 7 3 3 := ⟨_, _, _, Tryd.underlying7, rfl, Tryd.sizeOf6, by decide, rfl⟩
instance : BT Tryd.prog 7 [(0, 1), (1, 1), (2, 1), (3, 1)] [.cv (.int .i64 0), .cv (.int .i64 0), .cv (.bool false), .cv (.int .u8 0)] := ⟨_, _, Tryd.underlying7, Tryd.zeroValue7, fun _ => by kernel_rfl, by first | exact ⟨rfl, rfl, rfl, rfl, trivial⟩⟩
instance : TZ Tryd.prog 8 4 := ⟨Tryd.sizeOf8⟩
instance : TA Tryd.prog 8 true := ⟨Tryd.isAgg8⟩
instance : ZC Tryd.prog 8 [.cv (.int .i64 0), .cv (.int .i64 0), .cv (.bool false), .cv (.int .u8 0)] := ⟨_, Tryd.zeroValue8, by first | exact ⟨rfl, rfl, rfl, rfl, trivial⟩⟩
instance : FA Tryd.prog 8 0 0 := ⟨_, _, _, Tryd.underlying8, rfl, Tryd.sizeOf2, by decide, rfl⟩
instance : FA Tryd.prog 8 1 1 := ⟨_, _, _, Tryd.underlying8, rfl, Tryd.sizeOf3, by decide, rfl⟩
instance : FA Tryd.prog 8 2 2 := ⟨_, _, _, Tryd.underlying8, rfl, Tryd.sizeOf4, by decide, rfl⟩
instance : FA Tryd.prog 8 3 3 := ⟨_, _, _, Tryd.underlying8, rfl, Tryd.sizeOf6, by decide, rfl⟩
instance : BT Tryd.prog 8 [(0, 1), (1, 1), (2, 1), (3, 1)] [.cv (.int .i64 0), .cv (.int .i64 0), .cv (.bool false), .cv (.int .u8 0)] := ⟨_, _, Tryd.underlying8, Tryd.zeroValue8, fun _ => by kernel_rfl, by first | exact ⟨rfl, rfl, rfl, rfl, trivial⟩⟩
instance : TZ Tryd.prog 9 1 := ⟨Tryd.sizeOf9⟩
instance : TA Tryd.prog 9 false := ⟨Tryd.isAgg9⟩
instance : TStr Tryd.prog 9 := ⟨Tryd.underlying9⟩
instance : ZC Tryd.prog 9 [.cv (.string ⟨#[]⟩)] := ⟨_, Tryd.zeroValue9, by first | exact ⟨rfl, trivial⟩⟩
instance : TZ Tryd.prog 10 1 := ⟨Tryd.sizeOf10⟩
instance : TA Tryd.prog 10 false := ⟨Tryd.isAgg10⟩
instance : TStr Tryd.prog 10 := ⟨Tryd.underlying10⟩
instance : ZC Tryd.prog 10 [.cv (.string ⟨#[]⟩)] := ⟨_, Tryd.zeroValue10, by first | exact ⟨rfl, trivial⟩⟩
instance : TZ Tryd.prog 11 1 := ⟨Tryd.sizeOf11⟩
instance : TA Tryd.prog 11 false := ⟨Tryd.isAgg11⟩
instance : TStr Tryd.prog 11 := ⟨Tryd.underlying11⟩
instance : ZC Tryd.prog 11 [.cv (.string ⟨#[]⟩)] := ⟨_, Tryd.zeroValue11, by first | exact ⟨rfl, trivial⟩⟩
instance : TZ Tryd.prog 12 1 := ⟨Tryd.sizeOf12⟩
instance : TA Tryd.prog 12 false := ⟨Tryd.isAgg12⟩
instance : TI Tryd.prog 12 .u64 := ⟨Tryd.underlying12⟩
instance : TD Tryd.prog 12 := ⟨_, Tryd.underlying12⟩
instance : ZC Tryd.prog 12 [.cv (.int .u64 0)] := ⟨_, Tryd.zeroValue12, by first | exact ⟨rfl, trivial⟩⟩
instance : TZ Tryd.prog 14 2 := ⟨Tryd.sizeOf14⟩
instance : TA Tryd.prog 14 true := ⟨Tryd.isAgg14⟩
instance : ZC Tryd.prog 14 [.cv (.string ⟨#[]⟩), .cv (.int .u64 0)] := ⟨_, Tryd.zeroValue14, by first | exact ⟨rfl, rfl, trivial⟩⟩
instance : FA Tryd.prog 14 0 0 := ⟨_, _, _, Tryd.underlying14, rfl, Tryd.sizeOf9, by decide, rfl⟩
instance : FA Tryd.prog 14 1 1 := ⟨_, _, _, Tryd.underlying14, rfl, Tryd.sizeOf12, by decide, rfl⟩
instance : BT Tryd.prog 14 [(0, 1), (1, 1)] [.cv (.string ⟨#[]⟩), .cv (.int .u64 0)] := ⟨_, _, Tryd.underlying14, Tryd.zeroValue14, fun _ => by kernel_rfl, by first | exact ⟨rfl, rfl, trivial⟩⟩
instance : TZ Tryd.prog 15 1 := ⟨Tryd.sizeOf15⟩
instance : TA Tryd.prog 15 false := ⟨Tryd.isAgg15⟩
instance : ZC Tryd.prog 15 [.cv (.pointer none)] := ⟨_, Tryd.zeroValue15, by first | exact ⟨rfl, trivial⟩⟩
instance : TZ Tryd.prog 16 1 := ⟨Tryd.sizeOf16⟩
instance : TA Tryd.prog 16 false := ⟨Tryd.isAgg16⟩
instance : ZC Tryd.prog 16 [.cv (.pointer none)] := ⟨_, Tryd.zeroValue16, by first | exact ⟨rfl, trivial⟩⟩
instance : TZ Tryd.prog 17 1 := ⟨Tryd.sizeOf17⟩
instance : TA Tryd.prog 17 false := ⟨Tryd.isAgg17⟩
instance : ZC Tryd.prog 17 [.cv (.pointer none)] := ⟨_, Tryd.zeroValue17, by first | exact ⟨rfl, trivial⟩⟩
instance : TZ Tryd.prog 19 1 := ⟨Tryd.sizeOf19⟩
instance : TA Tryd.prog 19 true := ⟨Tryd.isAgg19⟩
instance : ZC Tryd.prog 19 [.cv (.pointer none)] := ⟨_, Tryd.zeroValue19, by first | exact ⟨rfl, trivial⟩⟩
instance : FA Tryd.prog 19 0 0 := ⟨_, _, _, Tryd.underlying19, rfl, Tryd.sizeOf17, by decide, rfl⟩
instance : BT Tryd.prog 19 [(0, 1)] [.cv (.pointer none)] := ⟨_, _, Tryd.underlying19, Tryd.zeroValue19, fun _ => by kernel_rfl, by first | exact ⟨rfl, trivial⟩⟩
instance : TZ Tryd.prog 22 1 := ⟨Tryd.sizeOf22⟩
instance : TA Tryd.prog 22 false := ⟨Tryd.isAgg22⟩
instance : TS Tryd.prog 22 3 := ⟨Tryd.underlying22⟩
instance : ZC Tryd.prog 22 [.cv (.slice none 0 0)] := ⟨_, Tryd.zeroValue22, by first | exact ⟨rfl, trivial⟩⟩
instance : TZ Tryd.prog 24 2 := ⟨Tryd.sizeOf24⟩
instance : TA Tryd.prog 24 true := ⟨Tryd.isAgg24⟩
instance : ZC Tryd.prog 24 [.cv (.int .i64 0), .cv (.slice none 0 0)] := ⟨_, Tryd.zeroValue24, by first | exact ⟨rfl, rfl, trivial⟩⟩
instance : FA Tryd.prog 24 0 0 := ⟨_, _, _, Tryd.underlying24, rfl, Tryd.sizeOf3, by decide, rfl⟩
instance : FA Tryd.prog 24 1 1 := ⟨_, _, _, Tryd.underlying24, rfl, Tryd.sizeOf22, by decide, rfl⟩
instance : BT Tryd.prog 24 [(0, 1), (1, 1)] [.cv (.int .i64 0), .cv (.slice none 0 0)] := ⟨_, _, Tryd.underlying24, Tryd.zeroValue24, fun _ => by kernel_rfl, by first | exact ⟨rfl, rfl, trivial⟩⟩
instance : TZ Tryd.prog 25 1 := ⟨Tryd.sizeOf25⟩
instance : TA Tryd.prog 25 false := ⟨Tryd.isAgg25⟩
instance : TI Tryd.prog 25 .i64 := ⟨Tryd.underlying25⟩
instance : TD Tryd.prog 25 := ⟨_, Tryd.underlying25⟩
instance : ZC Tryd.prog 25 [.cv (.int .i64 0)] := ⟨_, Tryd.zeroValue25, by first | exact ⟨rfl, trivial⟩⟩
instance : TZ Tryd.prog 27 10 := ⟨Tryd.sizeOf27⟩
instance : TA Tryd.prog 27 true := ⟨Tryd.isAgg27⟩
instance : ZC Tryd.prog 27 [.cv (.int .i64 0), .cv (.int .i64 0), .cv (.int .i64 0), .cv (.int .i64 0), .cv (.int .i64 0), .cv (.int .i64 0), .cv (.slice none 0 0), .cv (.int .i64 0), .cv (.bool false), .cv (.bool false)] := ⟨_, Tryd.zeroValue27, by first | exact ⟨rfl, rfl, rfl, rfl, rfl, rfl, rfl, rfl, rfl, rfl, trivial⟩⟩
instance : FA Tryd.prog 27 0 0 := ⟨_, _, _, Tryd.underlying27, rfl, Tryd.sizeOf3, by decide, rfl⟩
instance : FA Tryd.prog 27 1 1 := ⟨_, _, _, Tryd.underlying27, rfl, Tryd.sizeOf3, by decide, rfl⟩
instance : FA Tryd.prog 27 2 2 := ⟨_, _, _, Tryd.underlying27, rfl, Tryd.sizeOf3, by decide, rfl⟩
instance : FA Tryd.prog 27 3 3 := ⟨_, _, _, Tryd.underlying27, rfl, Tryd.sizeOf3, by decide, rfl⟩
instance : FA Tryd.prog 27 4 4 := ⟨_, _, _, Tryd.underlying27, rfl, Tryd.sizeOf25, by decide, rfl⟩
instance : FA Tryd.prog 27 5 5 := ⟨_, _, _, Tryd.underlying27, rfl, Tryd.sizeOf3, by decide, rfl⟩
instance : FA Tryd.prog 27 6 6 := ⟨_, _, _, Tryd.underlying27, rfl, Tryd.sizeOf22, by decide, rfl⟩
instance : FA Tryd.prog 27 7 7 := ⟨_, _, _, Tryd.underlying27, rfl, Tryd.sizeOf3, by decide, rfl⟩
instance : FA Tryd.prog 27 8 8 := ⟨_, _, _, Tryd.underlying27, rfl, Tryd.sizeOf4, by decide, rfl⟩
instance : FA Tryd.prog 27 9 9 := ⟨_, _, _, Tryd.underlying27, rfl, Tryd.sizeOf4, by decide, rfl⟩
instance : BT Tryd.prog 27 [(0, 1), (1, 1), (2, 1), (3, 1), (4, 1), (5, 1), (6, 1), (7, 1), (8, 1), (9, 1)] [.cv (.int .i64 0), .cv (.int .i64 0), .cv (.int .i64 0), .cv (.int .i64 0), .cv (.int .i64 0), .cv (.int .i64 0), .cv (.slice none 0 0), .cv (.int .i64 0), .cv (.bool false), .cv (.bool false)] := ⟨_, _, Tryd.underlying27, Tryd.zeroValue27, fun _ => by kernel_rfl, by first | exact ⟨rfl, rfl, rfl, rfl, rfl, rfl, rfl, rfl, rfl, rfl, trivial⟩⟩
instance : TZ Tryd.prog 28 1 := ⟨Tryd.sizeOf28⟩
instance : TA Tryd.prog 28 false := ⟨Tryd.isAgg28⟩
instance : TS Tryd.prog 28 22 := ⟨Tryd.underlying28⟩
instance : ZC Tryd.prog 28 [.cv (.slice none 0 0)] := ⟨_, Tryd.zeroValue28, by first | exact ⟨rfl, trivial⟩⟩
instance : TZ Tryd.prog 33 1 := ⟨Tryd.sizeOf33⟩
instance : TA Tryd.prog 33 false := ⟨Tryd.isAgg33⟩
instance : TI Tryd.prog 33 .i64 := ⟨Tryd.underlying33⟩
instance : TD Tryd.prog 33 := ⟨_, Tryd.underlying33⟩
instance : ZC Tryd.prog 33 [.cv (.int .i64 0)] := ⟨_, Tryd.zeroValue33, by first | exact ⟨rfl, trivial⟩⟩
instance : TZ Tryd.prog 39 2 := ⟨Tryd.sizeOf39⟩
instance : TA Tryd.prog 39 true := ⟨Tryd.isAgg39⟩
instance : ZC Tryd.prog 39 [.cv (.int .i64 0), .cv (.int .i64 0)] := ⟨_, Tryd.zeroValue39, by first | exact ⟨rfl, rfl, trivial⟩⟩
instance : FA Tryd.prog 39 0 0 := ⟨_, _, _, Tryd.underlying39, rfl, Tryd.sizeOf3, by decide, rfl⟩
instance : FA Tryd.prog 39 1 1 := ⟨_, _, _, Tryd.underlying39, rfl, Tryd.sizeOf3, by decide, rfl⟩
instance : BT Tryd.prog 39 [(0, 1), (1, 1)] [.cv (.int .i64 0), .cv (.int .i64 0)] := ⟨_, _, Tryd.underlying39, Tryd.zeroValue39, fun _ => by kernel_rfl, by first | exact ⟨rfl, rfl, trivial⟩⟩
instance : TZ Tryd.prog 45 7 := ⟨Tryd.sizeOf45⟩
instance : TA Tryd.prog 45 true := ⟨Tryd.isAgg45⟩
instance : ZC Tryd.prog 45 [.cv (.int .i64 0), .cv (.int .i64 0), .cv (.int .i64 0), .cv (.int .i64 0), .cv (.int .i64 0), .cv (.int .i64 0), .cv (.int .i64 0)] := ⟨_, Tryd.zeroValue45, by first | exact ⟨rfl, rfl, rfl, rfl, rfl, rfl, rfl, trivial⟩⟩
instance : FA Tryd.prog 45 0 0 := ⟨_, _, _, Tryd.underlying45, rfl, Tryd.sizeOf3, by decide, rfl⟩
instance : FA Tryd.prog 45 1 1 := ⟨_, _, _, Tryd.underlying45, rfl, Tryd.sizeOf3, by decide, rfl⟩
instance : FA Tryd.prog 45 2 2 := ⟨_, _, _, Tryd.underlying45, rfl, Tryd.sizeOf3, by decide, rfl⟩
instance : FA Tryd.prog 45 3 3 := ⟨_, _, _, Tryd.underlying45, rfl, Tryd.sizeOf3, by decide, rfl⟩
instance : FA Tryd.prog 45 4 4 := ⟨_, _, _, Tryd.underlying45, rfl, Tryd.sizeOf3, by decide, rfl⟩
instance : FA Tryd.prog 45 5 5 := ⟨_, _, _, Tryd.underlying45, rfl, Tryd.sizeOf3, by decide, rfl⟩
instance : FA Tryd.prog 45 6 6 := ⟨_, _, _, Tryd.underlying45, rfl, Tryd.sizeOf3, by decide, rfl⟩
instance : BT Tryd.prog 45 [(0, 1), (1, 1), (2, 1), (3, 1), (4, 1), (5, 1), (6, 1)] [.cv (.int .i64 0), .cv (.int .i64 0), .cv (.int .i64 0), .cv (.int .i64 0), .cv (.int .i64 0), .cv (.int .i64 0), .cv (.int .i64 0)] := ⟨_, _, Tryd.underlying45, Tryd.zeroValue45, fun _ => by kernel_rfl, by first | exact ⟨rfl, rfl, rfl, rfl, rfl, rfl, rfl, trivial⟩⟩
instance : TZ Tryd.prog 46 1 := ⟨Tryd.sizeOf46⟩
instance : TA Tryd.prog 46 false := ⟨Tryd.isAgg46⟩
instance : TS Tryd.prog 46 5 := ⟨Tryd.underlying46⟩
instance : ZC Tryd.prog 46 [.cv (.slice none 0 0)] := ⟨_, Tryd.zeroValue46, by first | exact ⟨rfl, trivial⟩⟩
instance : TZ Tryd.prog 50 1 := ⟨Tryd.sizeOf50⟩
instance : TA Tryd.prog 50 false := ⟨Tryd.isAgg50⟩
instance : TS Tryd.prog 50 39 := ⟨Tryd.underlying50⟩
instance : ZC Tryd.prog 50 [.cv (.slice none 0 0)] := ⟨_, Tryd.zeroValue50, by first | exact ⟨rfl, trivial⟩⟩
instance : TZ Tryd.prog 58 1 := ⟨Tryd.sizeOf58⟩
instance : TA Tryd.prog 58 false := ⟨Tryd.isAgg58⟩
instance : ZC Tryd.prog 58 [.cv .nilFunc] := ⟨_, Tryd.zeroValue58, by first | exact ⟨rfl, trivial⟩⟩
instance : TZ Tryd.prog 67 1 := ⟨Tryd.sizeOf67⟩
instance : TA Tryd.prog 67 false := ⟨Tryd.isAgg67⟩
instance : ZC Tryd.prog 67 [.cv (.pointer none)] := ⟨_, Tryd.zeroValue67, by first | exact ⟨rfl, trivial⟩⟩
instance : TZ Tryd.prog 69 10 := ⟨Tryd.sizeOf69⟩
instance : TA Tryd.prog 69 true := ⟨Tryd.isAgg69⟩
instance : ZC Tryd.prog 69 [.cv (.int .i64 0), .cv (.int .i64 0), .cv (.int .i64 0), .cv (.int .i64 0), .cv (.int .i64 0), .cv (.int .i64 0), .cv (.slice none 0 0), .cv (.int .i64 0), .cv (.bool false), .cv (.bool false)] := ⟨_, Tryd.zeroValue69, by first | exact ⟨rfl, rfl, rfl, rfl, rfl, rfl, rfl, rfl, rfl, rfl, trivial⟩⟩
instance : FA Tryd.prog 69 0 0 := ⟨_, _, _, Tryd.underlying69, rfl, Tryd.sizeOf27, by decide, rfl⟩
instance : BT Tryd.prog 69 [(0, 10)] [.cv (.int .i64 0), .cv (.int .i64 0), .cv (.int .i64 0), .cv (.int .i64 0), .cv (.int .i64 0), .cv (.int .i64 0), .cv (.slice none 0 0), .cv (.int .i64 0), .cv (.bool false), .cv (.bool false)] := ⟨_, _, Tryd.underlying69, Tryd.zeroValue69, fun _ => by kernel_rfl, by first | exact ⟨rfl, rfl, rfl, rfl, rfl, rfl, rfl, rfl, rfl, rfl, trivial⟩⟩
instance : TZ Tryd.prog 71 1 := ⟨Tryd.sizeOf71⟩
instance : TA Tryd.prog 71 false := ⟨Tryd.isAgg71⟩
instance : ZC Tryd.prog 71 [.cv .nilFunc] := ⟨_, Tryd.zeroValue71, by first | exact ⟨rfl, trivial⟩⟩
instance : TZ Tryd.prog 72 1 := ⟨Tryd.sizeOf72⟩
instance : TA Tryd.prog 72 false := ⟨Tryd.isAgg72⟩
instance : TS Tryd.prog 72 71 := ⟨Tryd.underlying72⟩
instance : ZC Tryd.prog 72 [.cv (.slice none 0 0)] := ⟨_, Tryd.zeroValue72, by first | exact ⟨rfl, trivial⟩⟩
instance : TZ Tryd.prog 77 1 := ⟨Tryd.sizeOf77⟩
instance : TA Tryd.prog 77 false := ⟨Tryd.isAgg77⟩
instance : TI Tryd.prog 77 .u32 := ⟨Tryd.underlying77⟩
instance : TD Tryd.prog 77 := ⟨_, Tryd.underlying77⟩
instance : ZC Tryd.prog 77 [.cv (.int .u32 0)] := ⟨_, Tryd.zeroValue77, by first | exact ⟨rfl, trivial⟩⟩
instance : TZ Tryd.prog 78 1 := ⟨Tryd.sizeOf78⟩
instance : TA Tryd.prog 78 false := ⟨Tryd.isAgg78⟩
instance : TI Tryd.prog 78 .u64 := ⟨Tryd.underlying78⟩
instance : TD Tryd.prog 78 := ⟨_, Tryd.underlying78⟩
instance : ZC Tryd.prog 78 [.cv (.int .u64 0)] := ⟨_, Tryd.zeroValue78, by first | exact ⟨rfl, trivial⟩⟩
instance : TZ Tryd.prog 81 1 := ⟨Tryd.sizeOf81⟩
instance : TA Tryd.prog 81 false := ⟨Tryd.isAgg81⟩
instance : ZC Tryd.prog 81 [.cv (.pointer none)] := ⟨_, Tryd.zeroValue81, by first | exact ⟨rfl, trivial⟩⟩
instance : TZ Tryd.prog 86 1 := ⟨Tryd.sizeOf86⟩
instance : TA Tryd.prog 86 false := ⟨Tryd.isAgg86⟩
instance : ZC Tryd.prog 86 [.cv .nilFunc] := ⟨_, Tryd.zeroValue86, by first | exact ⟨rfl, trivial⟩⟩
instance : TZ Tryd.prog 90 1 := ⟨Tryd.sizeOf90⟩
instance : TA Tryd.prog 90 false := ⟨Tryd.isAgg90⟩
instance : ZC Tryd.prog 90 [.cv .nilFunc] := ⟨_, Tryd.zeroValue90, by first | exact ⟨rfl, trivial⟩⟩
instance : TZ Tryd.prog 95 1 := ⟨Tryd.sizeOf95⟩
instance : TA Tryd.prog 95 false := ⟨Tryd.isAgg95⟩
instance : ZC Tryd.prog 95 [.cv .nilFunc] := ⟨_, Tryd.zeroValue95, by first | exact ⟨rfl, trivial⟩⟩
instance : TZ Tryd.prog 99 15 := ⟨Tryd.sizeOf99⟩
instance : TA Tryd.prog 99 true := ⟨Tryd.isAgg99⟩
instance : ZC Tryd.prog 99 [.cv (.int .i64 0), .cv (.int .i64 0), .cv (.int .i64 0), .cv (.int .i64 0), .cv (.int .i64 0), .cv (.int .i64 0), .cv (.int .i64 0), .cv (.bool false), .cv (.int .i64 0), .cv (.slice none 0 0), .cv (.int .i64 0), .cv (.int .i64 0), .cv (.int .i64 0), .cv (.int .i64 0), .cv (.int .i64 0)] := ⟨_, Tryd.zeroValue99, by first | exact ⟨rfl, rfl, rfl, rfl, rfl, rfl, rfl, rfl, rfl, rfl, rfl, rfl, rfl, rfl, rfl, trivial⟩⟩
instance : FA Tryd.prog 99 0 0 := ⟨_, _, _, Tryd.underlying99, rfl, Tryd.sizeOf45, by decide, rfl⟩
instance : FA Tryd.prog 99 1 7 := ⟨_, _, _, Tryd.underlying99, rfl, Tryd.sizeOf4, by decide, rfl⟩
instance : FA Tryd.prog 99 2 8 := ⟨_, _, _, Tryd.underlying99, rfl, Tryd.sizeOf3, by decide, rfl⟩
instance : FA Tryd.prog 99 3 9 := ⟨_, _, _, Tryd.underlying99, rfl, Tryd.sizeOf22, by decide, rfl⟩
instance : FA Tryd.prog 99 4 10 := ⟨_, _, _, Tryd.underlying99, rfl, Tryd.sizeOf3, by decide, rfl⟩
instance : FA Tryd.prog 99 5 11 := ⟨_, _, _, Tryd.underlying99, rfl, Tryd.sizeOf3, by decide, rfl⟩
instance : FA Tryd.prog 99 6 12 := ⟨_, _, _, Tryd.underlying99, rfl, Tryd.sizeOf3, by decide, rfl⟩
instance : FA Tryd.prog 99 7 13 := ⟨_, _, _, Tryd.underlying99, rfl, Tryd.sizeOf3, by decide, rfl⟩
instance : FA Tryd.prog 99 8 14 := ⟨_, _, _, Tryd.underlying99, rfl, Tryd.sizeOf3, by decide, rfl⟩
instance : BT Tryd.prog 99 [(0, 7), (7, 1), (8, 1), (9, 1), (10, 1), (11, 1), (12, 1), (13, 1), (14, 1)] [.cv (.int .i64 0), .cv (.int .i64 0), .cv (.int .i64 0), .cv (.int .i64 0), .cv (.int .i64 0), .cv (.int .i64 0), .cv (.int .i64 0), .cv (.bool false), .cv (.int .i64 0), .cv (.slice none 0 0), .cv (.int .i64 0), .cv (.int .i64 0), .cv (.int .i64 0), .cv (.int .i64 0), .cv (.int .i64 0)] := ⟨_, _, Tryd.underlying99, Tryd.zeroValue99, fun _ => by kernel_rfl, by first | exact ⟨rfl, rfl, rfl, rfl, rfl, rfl, rfl, rfl, rfl, rfl, rfl, rfl, rfl, rfl, rfl, trivial⟩⟩
instance : TZ Tryd.prog 103 1 := ⟨Tryd.sizeOf103⟩
instance : TA Tryd.prog 103 false := ⟨Tryd.isAgg103⟩
instance : TS Tryd.prog 103 77 := ⟨Tryd.underlying103⟩
instance : ZC Tryd.prog 103 [.cv (.slice none 0 0)] := ⟨_, Tryd.zeroValue103, by first | exact ⟨rfl, trivial⟩⟩
instance : TZ Tryd.prog 113 1 := ⟨Tryd.sizeOf113⟩
instance : TA Tryd.prog 113 false := ⟨Tryd.isAgg113⟩
instance : TI Tryd.prog 113 .u64 := ⟨Tryd.underlying113⟩
instance : TD Tryd.prog 113 := ⟨_, Tryd.underlying113⟩
instance : ZC Tryd.prog 113 [.cv (.int .u64 0)] := ⟨_, Tryd.zeroValue113, by first | exact ⟨rfl, trivial⟩⟩
instance : TZ Tryd.prog 114 1 := ⟨Tryd.sizeOf114⟩
instance : TA Tryd.prog 114 false := ⟨Tryd.isAgg114⟩
instance : TS Tryd.prog 114 118 := ⟨Tryd.underlying114⟩
instance : ZC Tryd.prog 114 [.cv (.slice none 0 0)] := ⟨_, Tryd.zeroValue114, by first | exact ⟨rfl, trivial⟩⟩
instance : TZ Tryd.prog 118 2 := ⟨Tryd.sizeOf118⟩
instance : TA Tryd.prog 118 true := ⟨Tryd.isAgg118⟩
instance : ZC Tryd.prog 118 [.cv (.int .i64 0), .cv .nilFunc] := ⟨_, Tryd.zeroValue118, by first | exact ⟨rfl, rfl, trivial⟩⟩
instance : FA Tryd.prog 118 0 0 := ⟨_, _, _, Tryd.underlying118, rfl, Tryd.sizeOf25, by decide, rfl⟩
instance : FA Tryd.prog 118 1 1 := ⟨_, _, _, Tryd.underlying118, rfl, Tryd.sizeOf86, by decide, rfl⟩
instance : BT Tryd.prog 118 [(0, 1), (1, 1)] [.cv (.int .i64 0), .cv .nilFunc] := ⟨_, _, Tryd.underlying118, Tryd.zeroValue118, fun _ => by kernel_rfl, by first | exact ⟨rfl, rfl, trivial⟩⟩
instance : TZ Tryd.prog 119 1 := ⟨Tryd.sizeOf119⟩
instance : TA Tryd.prog 119 false := ⟨Tryd.isAgg119⟩
instance : ZC Tryd.prog 119 [.cv .nilFunc] := ⟨_, Tryd.zeroValue119, by first | exact ⟨rfl, trivial⟩⟩
instance : TZ Tryd.prog 120 65 := ⟨Tryd.sizeOf120⟩
instance : TA Tryd.prog 120 true := ⟨Tryd.isAgg120⟩
instance : TZ Tryd.prog 129 1 := ⟨Tryd.sizeOf129⟩
instance : TA Tryd.prog 129 false := ⟨Tryd.isAgg129⟩
instance : TI Tryd.prog 129 .u8 := ⟨Tryd.underlying129⟩
instance : TD Tryd.prog 129 := ⟨_, Tryd.underlying129⟩
instance : ZC Tryd.prog 129 [.cv (.int .u8 0)] := ⟨_, Tryd.zeroValue129, by first | exact ⟨rfl, trivial⟩⟩
instance : RT Tryd.prog 77 Nat rU 4 0 := ⟨Tryd.sizeOf77, _, _, ⟨Tryd.type77, rfl, rfl, rfl, rfl⟩, fun _ => ⟨rfl, trivial⟩⟩
instance : RT Tryd.prog 3 Int rI 8 0 := ⟨Tryd.sizeOf3, _, _, ⟨Tryd.type3, rfl, rfl, rfl, rfl⟩, fun _ => ⟨rfl, trivial⟩⟩
instance : RT Tryd.prog 4 Bool rB 1 false := ⟨Tryd.sizeOf4, _, _, ⟨Tryd.type4, rfl, rfl, rfl, rfl⟩, fun _ => ⟨rfl, trivial⟩⟩
instance : RT Tryd.prog 22 (List Int) (rL rI) 24 [] := ⟨Tryd.sizeOf22, _, _, ⟨Tryd.type22, rfl, rfl, rfl, rfl⟩, fun _ => ⟨nil_lv rfl, trivial⟩⟩
instance : MR Tryd.prog 22 24 := ⟨_, ⟨Tryd.type22, rfl, rfl, rfl, rfl⟩⟩
end Go.E3
set_option linter.unusedVariables false
namespace Go.Ear
def negF (f : Fr) : Bool := decide (f.rat < 0)
def idxP {α : Type} (p : α → Bool) (l : List α) : Int := if l.any p = true then (l.findIdx p : Int) else -1
theorem idx_found {α : Type} {p : α → Bool} {l : List α} {k : Nat} (d : α) (hk : k < l.length) (hn : (l.take k).any p = false) (hp : p (l.getD k d) = true) : idxP p l = k := by
  have h1 : l.any p = true := by
    rw [List.any_eq_true]
    refine ⟨l.getD k d, ?_, hp⟩
    rw [List.getD_eq_getElem?_getD, List.getElem?_eq_getElem hk]; exact List.getElem_mem hk
  unfold idxP
  rw [if_pos h1]
  congr 1
  rw [List.findIdx_eq hk]
  refine ⟨?_, ?_⟩
  · rwa [List.getD_eq_getElem?_getD, List.getElem?_eq_getElem hk] at hp
  · intro j hj
    have := List.any_eq_false.1 hn (l[j]) (by rw [List.mem_take_iff_getElem]; exact ⟨j, by omega, rfl⟩)
    simpa using this
theorem idx_none {α : Type} {p : α → Bool} {l : List α} {k : Nat} (hk : l.length ≤ k) (hn : (l.take k).any p = false) : idxP p l = -1 := by
  rw [List.take_of_length_le hk] at hn
  unfold idxP; rw [hn]; rfl
theorem any_take_succ {α : Type} {p : α → Bool} {l : List α} {k : Nat} (d : α) (hk : k < l.length) (hn : (l.take k).any p = false) (hp : p (l.getD k d) = false) : (l.take (k + 1)).any p = false := by
  rw [take_snoc d hk, List.any_append, hn, List.any_cons, hp]; rfl
theorem idx_any {α : Type} {p : α → Bool} {l : List α} : decide (0 ≤ idxP p l) = l.any p := by
  unfold idxP
  cases h : l.any p
  · rfl
  · rw [if_pos rfl]; simp
def bestAt (l : List Fr) : Nat → Int
  | 0 => -1
  | k + 1 => if bestAt l k < 0 ∨ (l.getD (bestAt l k).toNat fr0).rat < (l.getD k fr0).rat then (k : Int) else bestAt l k
def distF (l : List Fr) : Bool := !l.any negF && decide (sumF l = 1)
def normF (l : List Fr) : List Rat := if l.any negF = true ∨ sumF l = 0 then [] else l.map fun f => f.rat * (sumF l)⁻¹
def normE (l : List Fr) : Int := if l.any negF = true then 2 else if sumF l = 0 then 3 else 0
end Go.Ear
namespace Go.Ear
attribute [irreducible] bestAt
end Go.Ear
namespace Go.Ear
section divs
variable {a b k : Nat} (hk : 0 < k) (hb : b ≠ 0)
include hk hb
end divs
end Go.Ear
namespace Go.Ear
def lowF (f : Fr) : Nat := if val f.d = 0 then 1 else val f.d
def sameF (f g : Fr) : Bool := decide (f.neg = g.neg) && (decide (f.n = g.n) && decide (f.d = g.d))
section
variable {a b : Fr}
end
def powB (q : Rat) (n : Int) : Rat := if n < 0 then q⁻¹ else q
def powR (q : Rat) (n : Int) : Rat := powB q n ^ n.natAbs
end Go.Ear
namespace Go.Ear
section ops
variable  {n : Nat}    {d : Tmp}  {pos : String} {af : Array Edge} {g : Option (Nat × Bool)}
end ops
end Go.Ear
set_option linter.unusedVariables false
set_option maxRecDepth 20000
set_option maxHeartbeats 4000000
set_option synthInstance.maxSize 1000
namespace Go.Ear
section
variable {α : Type}
def rowAt (row : List α) (d : α) (s i : Nat) : List α := row.take i ++ List.replicate (s - i) d
theorem rowAt_len {row : List α} {d : α} {s i : Nat} (hl : row.length = s) (hi : i ≤ s) : (rowAt row d s i).length = s := by unfold rowAt; simp; omega
theorem rowAt_end {row : List α} {d : α} {s i : Nat} (hl : row.length = s) (hi : s ≤ i) : rowAt row d s i = row := by
  unfold rowAt; rw [List.take_of_length_le (by omega), Nat.sub_eq_zero_of_le hi]; simp
theorem rowAt_set {row : List α} {d q : α} {s i : Nat} (hl : row.length = s) (hi : i < s) (hq : q = row.getD i d) : (rowAt row d s i).set i q = rowAt row d s (i + 1) := by
  subst hq
  unfold rowAt
  apply List.ext_getElem?
  intro j
  have hmin : min i row.length = i := Nat.min_eq_left (by omega)
  rw [List.getElem?_set]
  by_cases hj : i = j
  · subst hj
    rw [if_pos rfl, if_pos (by simp; omega), List.getElem?_append_left (by simp; omega), List.getElem?_take, if_pos (by omega), List.getD_eq_getElem?_getD, List.getElem?_eq_getElem (by omega)]; rfl
  · rw [if_neg hj]
    by_cases hlt : j < i
    · rw [List.getElem?_append_left (by simp; omega), List.getElem?_append_left (by simp; omega), List.getElem?_take, List.getElem?_take, if_pos hlt, if_pos (by omega)]
    · rw [List.getElem?_append_right (by simp; omega), List.getElem?_append_right (by simp; omega)]
      simp only [List.length_take, hmin, Nat.min_eq_left (show i + 1 ≤ row.length by omega), List.getElem?_replicate]
      by_cases hs : j < s
      · rw [if_pos (by omega), if_pos (by omega)]
      · rw [if_neg (by omega), if_neg (by omega)]
end
end Go.Ear
namespace Go.E3
open Go Go.Ear Go.Proofs
theorem cB1 {α : Type} {v : α → SV} {x : α} {P : Program} {f : FuncId} {sd : Prop} {S R : SV} {l : List SV} {B : List Res} (i : Vw v S x) (c : CtB P f (v x :: l) B sd R) : CtB P f (S :: l) B sd R := ⟨c.fn, fun a w0 h w vs s o u => by
  match vs, u with
  | _ :: _, u => exact c.h a s o ⟨i.h u.1, u.2⟩⟩
theorem getD_in {α : Type} {l : List α} {k : Nat} (d : α) (h : k < l.length) : l.getD k d ∈ l := by rw [List.getD_eq_getElem?_getD, List.getElem?_eq_getElem h]; exact List.getElem_mem h
theorem getD_mem' {α : Type} (l : List α) (d : α) {i : Nat} (hi : i < l.length) : l.getD i d ∈ l := by
  rw [List.getD_eq_getElem?_getD, List.getElem?_eq_getElem hi]; exact List.getElem_mem hi
section
variable {l : List Int} {S F : SV} {B : List Res} {sd : Int → Prop} {p : Int → Bool}
instance uIdx_c [j : Vw (lv rI) S l] [fv : ∀ (m : Int), Fv Tryd.prog F [iv m] B (sd m) (bv (p m))] : CtB Tryd.prog 81 [S, F] B (l.length ≤ 1099511627776 ∧ ∀ m ∈ l, sd m) (iv (idxP p l)) := by
  refine cB1 j (ctB Tryd.call81 Tryd.func81 Tryd.ntmps81 rfl Tryd.results81 rfl [] fun h0 w0 ⟨hb, hs⟩ => ?_)
  repeat first | refine nx ?_ | intro _
  refine gLp (fun k : Nat => [(8, iv k)]) (fun _ => []) (fun k => k ≤ l.length ∧ (l.take k).any p = false) (fun k => l.length - k) 0 ⟨Nat.zero_le _, rfl⟩ fun k ⟨hk, hn⟩ => ?_
  repeat first | refine nx ?_ | intro _
  refine gIf (fun c => ?_) fun c => ?_
  · have hsd := hs _ (getD_in 0 c)
    repeat first | refine nx ?_ | intro _
    refine gIf (fun c2 => ?_) fun c2 => ?_ <;> repeat first | refine nx ?_ | intro _
    · exact (idx_found 0 c hn c2).symm
    · exact gBk (k + 1) ⟨by omega, any_take_succ 0 c hn (Bool.eq_false_iff.2 c2)⟩ (by omega)
  · repeat first | refine nx ?_ | intro _
    exact (idx_none (by omega) hn).symm
instance uCnt_c [j : Vw (lv rI) S l] [fv : ∀ (m : Int), Fv Tryd.prog F [iv m] B (sd m) (bv (p m))] : CtB Tryd.prog 64 [S, F] B (l.length ≤ 1099511627776 ∧ ∀ m ∈ l, sd m) (bv (l.any p)) := by
  refine cB1 j (ctB Tryd.call64 Tryd.func64 Tryd.ntmps64 rfl Tryd.results64 rfl [] fun h0 w0 ⟨hb, hs⟩ => ?_)
  repeat first | refine nx ?_ | intro _
  exact idx_any
end
def outI (lo hi v : Int) : Bool := decide (v < lo) || decide (hi < v)
instance uVal1_c {v : Int} : Ct Tryd.prog 65 [iv v] True (bv (outI (-2147483647) 2147483647 v)) := by
  refine (ctI Tryd.call65 Tryd.func65 Tryd.ntmps65 rfl Tryd.results65 rfl [] fun h0 w0 _ => ?_)
  repeat first | refine nx ?_ | intro _
  rfl
instance uSam1_c {v : Int} : Ct Tryd.prog 76 [iv v] True (bv (outI (-32768) 32767 v)) := by
  refine (ctI Tryd.call76 Tryd.func76 Tryd.ntmps76 rfl Tryd.results76 rfl [] fun h0 w0 _ => ?_)
  repeat first | refine nx ?_ | intro _
  rfl
instance uWith1_c {v b : Int} : Ct Tryd.prog 87 [iv v, .pk [iv b] 0] (-9223372036854775807 ≤ b ∧ b ≤ 9223372036854775807) (bv (outI (-b) b v)) := by
  refine (ctI Tryd.call87 Tryd.func87 Tryd.ntmps87 rfl Tryd.results87 rfl [] fun h0 w0 _ => ?_)
  repeat first | refine nx ?_ | intro _
  rfl
section
variable {l : List Int} {S : SV}
instance uSamples_c [j : Vw (lv rI) S l] : Ct Tryd.prog 58 [S] (l.length ≤ 1099511627776) (bv (!l.any (outI (-32768) 32767))) := by
  refine ct1 j (ctI Tryd.call58 Tryd.func58 Tryd.ntmps58 rfl Tryd.results58 rfl [] fun h0 w0 h1 => ?_)
  repeat first | refine nx ?_ | intro _
  trivial
instance uWithin_c {b : Int} [j : Vw (lv rI) S l] : Ct Tryd.prog 77 [S, iv b] (l.length ≤ 1099511627776 ∧ (-9223372036854775807 ≤ b ∧ b ≤ 9223372036854775807)) (bv (!l.any (outI (-b) b))) := by
  refine ct1 j (ctI Tryd.call77 Tryd.func77 Tryd.ntmps77 rfl Tryd.results77 rfl [] fun h0 w0 ⟨h1, h2⟩ => ?_)
  repeat first | refine nx ?_ | intro _
  trivial
def valE (l : List Int) : Int := if 200000 < l.length then 5 else if l.any (outI (-2147483647) 2147483647) = true then 2 else 0
instance uValues_c [j : Vw (lv rI) S l] : Ct Tryd.prog 46 [S] (l.length ≤ 1099511627776) (iv (valE l)) := by
  refine ct1 j (ctI Tryd.call46 Tryd.func46 Tryd.ntmps46 rfl Tryd.results46 rfl [] fun h0 w0 h1 => ?_)
  unfold valE
  repeat first | refine nx ?_ | intro _
  refine gIf (fun c => ?_) fun c => ?_
  · rw [if_pos c]; repeat first | refine nx ?_ | intro _
    trivial
  rw [if_neg c]
  repeat first | refine nx ?_ | intro _
  refine gIf (fun c2 => ?_) fun c2 => ?_
  · rw [if_pos c2]; repeat first | refine nx ?_ | intro _
    trivial
  · rw [if_neg c2]; repeat first | refine nx ?_ | intro _
    trivial
def recE (rate : Int) (l : List Int) : Int := if 200000 < l.length then 5 else if rate < 1 ∨ 192000 < rate ∨ l.any (outI (-32768) 32767) = true then 2 else 0
@[reducible] def rcv (rate : Int) (l : List Int) : SV := .ag [iv rate, lv rI l]
instance uCheck_c {rate : Int} : Ct Tryd.prog 33 [rcv rate l] (l.length ≤ 1099511627776) (iv (recE rate l)) := by
  refine (ctI Tryd.call33 Tryd.func33 Tryd.ntmps33 rfl Tryd.results33 rfl [] fun h0 w0 h1 => ?_)
  unfold recE
  repeat first | refine nx ?_ | intro _
  refine gIf (fun c => ?_) fun c => ?_
  · rw [if_pos c]; repeat first | refine nx ?_ | intro _
    trivial
  rw [if_neg c]
  repeat first | refine nx ?_ | intro _
  refine gIf (fun c2 => ?_) fun c2 => ?_
  · rw [if_pos (by rcases c2 with (h | h) | h; exact .inl h; exact .inr (.inl h); exact .inr (.inr (by simpa using h)))]
    repeat first | refine nx ?_ | intro _
    trivial
  · rw [if_neg (fun e => c2 (by rcases e with h | h | h; exact .inl (.inl h); exact .inl (.inr h); exact .inr (by simpa using h)))]
    repeat first | refine nx ?_ | intro _
    trivial
instance uValid_c {rate : Int} : Ct Tryd.prog 27 [rcv rate l] (l.length ≤ 1099511627776) (bv (decide (recE rate l = 0))) := by
  refine (ctI Tryd.call27 Tryd.func27 Tryd.ntmps27 rfl Tryd.results27 rfl [] fun h0 w0 h1 => ?_)
  repeat first | refine nx ?_ | intro _
  trivial
end
end Go.E3
set_option linter.unusedVariables false
set_option maxRecDepth 20000
set_option maxHeartbeats 4000000
set_option synthInstance.maxSize 1000
namespace Go.E3
open Go Go.Ear Go.Proofs
def rnd (a b : Int) : Int := if a < 0 then -((2 * (-a) + b) / (2 * b)) else (2 * a + b) / (2 * b)
theorem rnd_nn {a b : Int} (h : ¬ a < 0) : rnd a b = (2 * a + b) / (2 * b) := if_neg h
theorem rnd_neg {a b : Int} (h : a < 0) : rnd a b = -rnd (-a) b := by
  unfold rnd; rw [if_pos h, if_neg (by omega)]
theorem rnd_pos {a b B : Int} (hb : 0 < b) (h : 0 ≤ a) (hB : a ≤ B * b) : 0 ≤ rnd a b ∧ rnd a b ≤ B := by
  rw [rnd_nn (by omega)]
  have h1 : 0 ≤ 2 * a + b := by omega
  refine ⟨Int.ediv_nonneg h1 (by omega), ?_⟩
  have h2 : (2 * a + b) / (2 * b) < B + 1 := by
    refine Int.ediv_lt_of_lt_mul (by omega) ?_
    have : (B + 1) * (2 * b) = 2 * (B * b) + 2 * b := by rw [Int.add_mul, Int.one_mul, ← Int.mul_assoc, Int.mul_comm B 2, Int.mul_assoc]
    omega
  omega
theorem rnd_bd {a b B : Int} (hb : 0 < b) (h1 : -(B * b) ≤ a) (h2 : a ≤ B * b) : -B ≤ rnd a b ∧ rnd a b ≤ B := by
  by_cases h : a < 0
  · rw [rnd_neg h]; have := rnd_pos (B := B) hb (show 0 ≤ -a by omega) (by omega); omega
  · have := rnd_pos (B := B) hb (show 0 ≤ a by omega) h2; omega
abbrev rndS (a b : Int) : Prop := 0 < b ∧ b ≤ 1000000000000000000 ∧ -1000000000000000000 ≤ a ∧ a ≤ 1000000000000000000
theorem rnd_big {a b : Int} (h : rndS a b) : -2000000000000000000 ≤ rnd a b ∧ rnd a b ≤ 2000000000000000000 := by
  have h1 : (1 : Int) ≤ b := by have := h.1; omega
  have h2 : (1000000000000000000 : Int) ≤ 1000000000000000000 * b := by have := h.1; omega
  have := rnd_bd (a := a) (b := b) (B := 1000000000000000000) h.1 (by have := h.2.2.1; omega) (by have := h.2.2.2; omega)
  omega
section
variable {a b : Int}
theorem rnd45_p : Ct Tryd.prog 45 [iv a, iv b] (rndS a b ∧ 0 ≤ a) (iv (rnd a b)) := by
  refine (ctI Tryd.call45 Tryd.func45 Tryd.ntmps45 rfl Tryd.results45 rfl [] fun h0 w0 ⟨⟨h1, h2, h3, h4⟩, h5⟩ => ?_)
  rw [rnd_nn (by omega)]
  repeat first | refine nx ?_ | intro _
  refine gIf (fun c => by omega) fun c => ?_
  repeat first | refine nx ?_ | intro _
  trivial
theorem rnd71_p : Ct Tryd.prog 71 [iv a, iv b] (rndS a b ∧ 0 ≤ a) (iv (rnd a b)) := by
  refine (ctI Tryd.call71 Tryd.func71 Tryd.ntmps71 rfl Tryd.results71 rfl [] fun h0 w0 ⟨⟨h1, h2, h3, h4⟩, h5⟩ => ?_)
  rw [rnd_nn (by omega)]
  repeat first | refine nx ?_ | intro _
  refine gIf (fun c => by omega) fun c => ?_
  repeat first | refine nx ?_ | intro _
  trivial
theorem rnd43_p : Ct Tryd.prog 43 [iv a, iv b] (rndS a b ∧ 0 ≤ a) (iv (rnd a b)) := by
  refine (ctI Tryd.call43 Tryd.func43 Tryd.ntmps43 rfl Tryd.results43 rfl [] fun h0 w0 ⟨⟨h1, h2, h3, h4⟩, h5⟩ => ?_)
  rw [rnd_nn (by omega)]
  repeat first | refine nx ?_ | intro _
  refine gIf (fun c => by omega) fun c => ?_
  repeat first | refine nx ?_ | intro _
  trivial
theorem rnd45_n : Ct Tryd.prog 45 [iv a, iv b] (rndS a b ∧ a < 0) (iv (rnd a b)) := by
  refine (ctI Tryd.call45 Tryd.func45 Tryd.ntmps45 rfl Tryd.results45 rfl [] fun h0 w0 ⟨⟨h1, h2, h3, h4⟩, h5⟩ => ?_)
  have hb := rnd_big (a := -a) (b := b) ⟨h1, h2, by omega, by omega⟩
  rw [rnd_neg h5]
  haveI : ∀ {x y : Int}, Ct Tryd.prog 45 [iv x, iv y] (rndS x y ∧ 0 ≤ x) (iv (rnd x y)) := rnd45_p
  repeat first | refine nx ?_ | intro _
  refine gIf (fun c => ?_) fun c => absurd h5 c
  repeat first | refine nx ?_ | intro _
  trivial
theorem rnd71_n : Ct Tryd.prog 71 [iv a, iv b] (rndS a b ∧ a < 0) (iv (rnd a b)) := by
  refine (ctI Tryd.call71 Tryd.func71 Tryd.ntmps71 rfl Tryd.results71 rfl [] fun h0 w0 ⟨⟨h1, h2, h3, h4⟩, h5⟩ => ?_)
  have hb := rnd_big (a := -a) (b := b) ⟨h1, h2, by omega, by omega⟩
  rw [rnd_neg h5]
  haveI : ∀ {x y : Int}, Ct Tryd.prog 71 [iv x, iv y] (rndS x y ∧ 0 ≤ x) (iv (rnd x y)) := rnd71_p
  repeat first | refine nx ?_ | intro _
  refine gIf (fun c => ?_) fun c => absurd h5 c
  repeat first | refine nx ?_ | intro _
  trivial
theorem rnd43_n : Ct Tryd.prog 43 [iv a, iv b] (rndS a b ∧ a < 0) (iv (rnd a b)) := by
  refine (ctI Tryd.call43 Tryd.func43 Tryd.ntmps43 rfl Tryd.results43 rfl [] fun h0 w0 ⟨⟨h1, h2, h3, h4⟩, h5⟩ => ?_)
  have hb := rnd_big (a := -a) (b := b) ⟨h1, h2, by omega, by omega⟩
  rw [rnd_neg h5]
  haveI : ∀ {x y : Int}, Ct Tryd.prog 43 [iv x, iv y] (rndS x y ∧ 0 ≤ x) (iv (rnd x y)) := rnd43_p
  repeat first | refine nx ?_ | intro _
  refine gIf (fun c => ?_) fun c => absurd h5 c
  repeat first | refine nx ?_ | intro _
  trivial
theorem Ct.two {P : Program} {f : FuncId} {args : List SV} {s p q : Prop} {S : SV} (h : p ∨ q) (c1 : Ct P f args (s ∧ p) S) (c2 : Ct P f args (s ∧ q) S) : Ct P f args s S := ⟨c1.fn, fun hs => h.elim (fun hp => c1.h ⟨hs, hp⟩) fun hq => c2.h ⟨hs, hq⟩⟩
instance rnd45_c : Ct Tryd.prog 45 [iv a, iv b] (rndS a b) (iv (rnd a b)) := Ct.two (by omega) rnd45_p rnd45_n
instance rnd71_c : Ct Tryd.prog 71 [iv a, iv b] (rndS a b) (iv (rnd a b)) := Ct.two (by omega) rnd71_p rnd71_n
instance rnd43_c : Ct Tryd.prog 43 [iv a, iv b] (rndS a b) (iv (rnd a b)) := Ct.two (by omega) rnd43_p rnd43_n
end
theorem ext_gU {a b : List Int} (h : a.length = b.length) (g : ∀ i, i < a.length → a.getD i 0 = b.getD i 0) : a = b := by
  refine List.ext_getElem h fun i h1 h2 => ?_
  have := g i h1
  rwa [List.getD_eq_getElem?_getD, List.getD_eq_getElem?_getD, List.getElem?_eq_getElem h1, List.getElem?_eq_getElem h2] at this
section
variable {l : List Int} {S T : SV}
instance rAll_c {lo hi : Int} [j : Vw (lv rI) S l] : Ct Tryd.prog 18 [S, iv lo, iv hi] (l.length ≤ 1099511627776) (bv (!l.any (outI lo hi))) := by
  refine ct1 j (ctI Tryd.call18 Tryd.func18 Tryd.ntmps18 rfl Tryd.results18 rfl [] fun h0 w0 h1 => ?_)
  repeat first | refine nx ?_ | intro _
  refine gLp (fun k : Nat => [(7, iv k)]) (fun _ => []) (fun k => k ≤ l.length ∧ (l.take k).any (outI lo hi) = false) (fun k => l.length - k) 0 ⟨Nat.zero_le _, rfl⟩ fun k ⟨hk, hn⟩ => ?_
  repeat first | refine nx ?_ | intro _
  refine gIf (fun c => ?_) fun c => ?_
  · repeat first | refine nx ?_ | intro _
    refine gIf (fun c2 => ?_) fun c2 => ?_ <;> repeat first | refine nx ?_ | intro _
    · have : l.any (outI lo hi) = true := List.any_eq_true.2 ⟨_, getD_mem' l 0 c, by unfold outI; simp only [Bool.or_eq_true, decide_eq_true_eq]; exact c2⟩
      rw [this]; rfl
    · exact gBk (k + 1) ⟨by omega, any_take_succ 0 c hn (by unfold outI; simp only [not_or] at c2; rw [decide_eq_false c2.1, decide_eq_false c2.2]; rfl)⟩ (by omega)
  · repeat first | refine nx ?_ | intro _
    rw [List.take_of_length_le (by omega)] at hn
    rw [hn]; rfl
instance rValid5_c {rate : Int} : Ct Tryd.prog 5 [rcv rate l] (l.length ≤ 1099511627776) (bv (decide (recE rate l = 0))) := by
  refine (ctI Tryd.call5 Tryd.func5 Tryd.ntmps5 rfl Tryd.results5 rfl [] fun h0 w0 h1 => ?_)
  repeat first | refine nx ?_ | intro _
  unfold recE
  by_cases c : 200000 < l.length
  · have : ¬ l.length ≤ 200000 := by omega
    rw [if_pos c]; simp [this]
  · rw [if_neg c]
    by_cases c2 : rate < 1 ∨ 192000 < rate ∨ l.any (outI (-32768) 32767) = true
    · rw [if_pos c2]
      rcases c2 with h | h | h
      · have : ¬ 1 ≤ rate := by omega
        simp [this]
      · have : ¬ rate ≤ 192000 := by omega
        simp [this]
      · simp [h]
    · rw [if_neg c2]
      simp only [not_or, Int.not_lt] at c2
      have h3 : l.any (outI (-32768) 32767) = false := by simpa using c2.2.2
      have h4 : l.length ≤ 200000 := by omega
      simp [c2.1, c2.2.1, h3, h4]
instance uSame_c {l2 : List Int} [j : Vw (lv rI) S l] [k : Vw (lv rI) T l2] : Ct Tryd.prog 12 [S, T] (l.length ≤ 1099511627776 ∧ l2.length ≤ 1099511627776) (bv (decide (l = l2))) := by
  refine ct2 j k (ctI Tryd.call12 Tryd.func12 Tryd.ntmps12 rfl Tryd.results12 rfl [] fun h0 w0 ⟨h1, h2⟩ => ?_)
  repeat first | refine nx ?_ | intro _
  refine gIf (fun c => ?_) fun c => ?_
  · repeat first | refine nx ?_ | intro _
    rw [decide_eq_false (fun e => c (by rw [e]))]
  have hl : l.length = l2.length := Classical.not_not.1 c
  repeat first | refine nx ?_ | intro _
  refine gLp (fun k : Nat => [(5, iv k)]) (fun _ => []) (fun k => k ≤ l.length ∧ ∀ i, i < k → l.getD i 0 = l2.getD i 0) (fun k => l.length - k) 0 ⟨Nat.zero_le _, fun i hi => by omega⟩ fun k ⟨hk, hn⟩ => ?_
  repeat first | refine nx ?_ | intro _
  refine gIf (fun c1 => ?_) fun c1 => ?_
  · repeat first | refine nx ?_ | intro _
    refine gIf (fun c2 => ?_) fun c2 => ?_ <;> repeat first | refine nx ?_ | intro _
    · rw [decide_eq_false (fun e => c2 (by rw [e]))]
    · exact gBk (k + 1) ⟨by omega, fun i hi => by
        by_cases e : i = k
        · rw [e]; exact Classical.not_not.1 c2
        · exact hn i (by omega)⟩ (by omega)
  · repeat first | refine nx ?_ | intro _
    rw [decide_eq_true (ext_gU hl fun i hi => hn i (by omega))]
end
instance rShape_c {num den : Int} : Ct Tryd.prog 19 [iv num, iv den] True (bv (decide (0 < den ∧ den ≤ 1024 ∧ 0 ≤ num ∧ num ≤ den))) := by
  refine (ctI Tryd.call19 Tryd.func19 Tryd.ntmps19 rfl Tryd.results19 rfl [] fun h0 w0 _ => ?_)
  repeat first | refine nx ?_ | intro _
  rw [Bool.eq_iff_iff]; simp [and_assoc]
def isLen (n : Int) : Bool := decide (n = 1 ∨ n = 2 ∨ n = 4 ∨ n = 8 ∨ n = 16 ∨ n = 32 ∨ n = 64)
instance rLength_c {n : Int} : Ct Tryd.prog 20 [iv n] True (bv (isLen n)) := by
  refine (ctI Tryd.call20 Tryd.func20 Tryd.ntmps20 rfl Tryd.results20 rfl [] fun h0 w0 _ => ?_)
  repeat first | refine nx ?_ | intro _
  unfold isLen
  rw [Bool.eq_iff_iff]; simp [or_assoc]
end Go.E3
