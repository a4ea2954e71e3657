/- A46: a part of the proofs about what is clipped and stored: how the program's functions run, and what they compute, for every input. -/
import Derived.Test.YthlpenhbcmbgoaaGreatDoorA45
import Derived.Test.YthlpenhbcmbgoaaGreatDoorA38
import Derived.Test.YthlpenhbcmbgoaaGreatDoorK10
set_option linter.all false
set_option linter.unusedVariables false
set_option maxRecDepth 20000
set_option maxHeartbeats 4000000
set_option synthInstance.maxSize 1000
namespace Go.E3
open Go Go.Ear Go.Proofs
structure NdO where
  phone : Int
  parent : Int
  v : Value
  f : Fr
def ndo0 : NdO := ⟨0, 0, vnil, fr0⟩
@[reducible] def ndoS (e : NdO) : List SV := [iv e.phone, iv e.parent, ov e.v, bv e.f.neg, lv rU e.f.n, lv rU e.f.d]
def rNO : Rp NdO := mkRp 6 ndoS (fun _ => rfl) (fun _ => rfl)
instance : RpC rNO ndoS := ⟨Iff.rfl⟩
instance : Rk rNO 6 := ⟨rfl⟩
instance : D0 NdO ndo0 := ⟨trivial⟩
theorem rtNO : RT Tryz.prog 80 NdO rNO 96 ndo0 := ⟨Tryz.sizeOf80, _, _, ⟨Tryz.type80, rfl, rfl, rfl, rfl⟩, fun _ => ⟨rfl, rfl, ⟨rfl, rfl⟩, rfl, nil_lv rfl, nil_lv rfl, trivial⟩⟩
instance {a b : Int} {T U V : SV} {f : Fr} [j : Vw fv (.ag [T, U, V]) f] : Rd rNO (.ag [iv a, iv b, .cv (.slice none 0 0), T, U, V]) ⟨a, b, vnil, f⟩ := ⟨fun {h v} u => by
  obtain ⟨vs, e, u⟩ := u
  subst e
  match vs, u with
  | [x1, x2, x3, x4, x5, x6], ⟨u1, u2, u3, u4, u5, u6, _⟩ =>
    have hp := fr_parts j u4 u5 u6
    exact ⟨u1, u2, ⟨u3, rfl⟩, hp⟩⟩
instance {z : Value} : RdC rNO 2 (ov z) (fun x => ⟨x.phone, x.parent, z, x.f⟩) := ⟨fun {h cs x v} u d => ⟨by decide, (by rw [d.1]; exact d.2), by
  match cs, u with
  | [x1, x2, x3, x4, x5, x6], ⟨u1, u2, u3, u4, u5, u6, _⟩ => exact ⟨u1, u2, d, u4, u5, u6, trivial⟩⟩⟩
def zipN : List NdO → List (List Int) → List Nd
  | o :: os, e :: ls => ⟨o.phone, o.parent, e, o.f⟩ :: zipN os ls
  | _, _ => []
theorem rows_zipN {h : PH} : ∀ {css : List (List Value)} {os : List NdO} {ls : List (List Int)}, Go.Ear.Rows rNO h css os → os.length = ls.length → (∀ t, LR rI h ((os.map NdO.v).getD t vnil) (ls.getD t [])) → Go.Ear.Rows rN h css (zipN os ls)
  | [], [], [], _, _, _ => trivial
  | cs :: css, o :: os, e :: ls, u, hl, z => ⟨by
    have z0 : LR rI h o.v e := z 0
    match cs, u.1 with
    | [x1, x2, x3, x4, x5, x6], ⟨u1, u2, u3, u4, u5, u6, _⟩ =>
      refine ⟨u1, u2, ?_, u4, u5, u6, trivial⟩
      show LR rI h x3 e
      rw [show x3 = _ from u3.1]; exact z0, rows_zipN u.2 (by simpa using hl) fun t => z (t + 1)⟩
theorem LR.zipN {h : PH} {v : Value} {os : List NdO} {ls : List (List Int)} (u : LR rNO h v os) (hl : os.length = ls.length) (z : ∀ t, LR rI h ((os.map NdO.v).getD t vnil) (ls.getD t [])) : LR rN h v (zipN os ls) := by
  obtain ⟨css, a, b⟩ := u
  exact ⟨css, a, rows_zipN b hl z⟩
section
variable {P : Program} {n : Nat} {X : Fix} {ms : List Nat} {loc env env' : EL} {B B1 B2 B3 : List Res} {k : Kt} {c : Code} {e : Exit}
theorem gFzN (v : Value) {os : List NdO} {vs : List Value} {ls : List (List Int)} {ew e2 : TypeId} {loc' : EL} [p1 : PA B v NdO rNO ew os B1] [p2 : PZ B1 vs Int rI e2 ls B2] (hv : os.map NdO.v = vs) [sl : SbE v (lv rN (zipN os ls)) loc loc'] [se : SbE v (lv rN (zipN os ls)) env env'] [sb : SbB v (lv rN (zipN os ls)) B2 B3] (g : GW P n X ms loc' env' B3 c k) : GW P n X ms loc env B c k := ⟨fun ρ h w s => by
  have s' := s.sb (p1.h.trans (p2.h.cons _))
  obtain ⟨h1, g1, le1, z1, o1⟩ := OwnB.freeze (j := 0) s'.gr s'.ow rfl
  obtain ⟨h2, g2, le2, z2, o2⟩ := OwnB.freeze (j := 0) g1 o1 rfl
  have z1' : LR rNO h2 v os := (show LR rNO h1 v os from z1).mono le2
  have z2' : vs.length = ls.length ∧ ∀ t, LR rI h2 (vs.getD t vnil) (ls.getD t []) := z2
  have zz := LR.zipN z1' (by rw [← z2'.1, ← hv, List.length_map]) (by rw [hv]; exact z2'.2)
  have key : ∀ x, x = v → den h2 (lv rN (zipN os ls)) x := fun x e => by subst e; exact zz
  exact g.p ρ h2 w ⟨g2, sl.h key (s.lo.mono (le1.trans le2)), se.h key (s.en.mono (le1.trans le2)), (sb.h (fun h3 l3 x e => by subst e; exact zz.mono l3) o2).1⟩⟩
theorem gPz (x : Value) (vs : List Value) (a : Nat) {α : Type} {r : Rp α} {q : List α} {ls : List (List α)} {e2 : TypeId} [p1 : PA B x α r e2 q B1] [p2 : PZ B1 (vs.set a vnil) α r e2 (ls.set a []) B2] (ha : a < vs.length) (g : GW P n X ms loc env (rZ r e2 (vs.set a x) (ls.set a q) :: B2) c k) : GW P n X ms loc env B c k := gSb ((p1.h.trans (p2.h.cons _)).trans (by
  have := Sb.zset (r := r) (e := e2) (x := x) (q := q) (us := vs.set a vnil) (ls := ls.set a []) (B := B2) (a := a) (by rw [List.length_set]; exact ha)
  rwa [List.set_set, List.set_set] at this)) g
theorem Sb.znil {α : Type} (r : Rp α) (e : TypeId) (m : Nat) : Sb B (rZ r e (List.replicate m vnil) (List.replicate m []) :: B) := by
  have hg : ∀ t, (List.replicate m vnil).getD t vnil = vnil := fun t => by
    rw [List.getD_eq_getElem?_getD, List.getElem?_replicate]
    split <;> rfl
  have hl : ∀ t, (List.replicate m ([] : List α)).getD t [] = [] := fun t => by
    rw [List.getD_eq_getElem?_getD, List.getElem?_replicate]
    split <;> rfl
  refine ⟨fun {w0 h w} o => ⟨⟨by simp, fun t => ?_, fun t u b hb => ?_⟩, fun i ⟨t, ht⟩ => ?_, fun r' hr' i ⟨t, ht⟩ => ?_, o⟩, fun r' hr' i hi => ?_⟩
  · rw [hg, hl]; exact OwnL.nil r 0 h w e
  · rw [hg, blk_nil] at hb; cases hb
  · rw [hg, blk_nil] at ht; cases ht
  · rw [hg, blk_nil] at ht; cases ht
  · rcases List.mem_cons.1 hr' with rfl | hr'
    · obtain ⟨t, ht⟩ := hi
      rw [hg, blk_nil] at ht; cases ht
    · exact ⟨r', hr', hi⟩
theorem gZnil {α : Type} (r : Rp α) (e : TypeId) (m : Nat) (g : GW P n X ms loc env (rZ r e (List.replicate m vnil) (List.replicate m []) :: B) c k) : GW P n X ms loc env B c k := gSb (.znil r e m) g
end
section
variable {P : Program} {n : Nat} {X : Fix} {ms : List Nat} {env : EL} {ol : List Oper} {B : List Res} {k : Kt} {p m : Nat}
variable {L loc : EL} {i d : Nat} {t : TypeId} {ty : TypeId} {pos : String} {af : Array Edge} {rest : List Oper} {x o2 : Operand}
instance (priority := high) {ms : List Nat} {X : Fix} {B2 : List Res} {op : Op} {sd sd2 : Prop} {S S2 : SV} [e1 : RflE (Nat.beq i p) false] [st : St P n true L env B ms d op sd S] [st2 : St P n true L env B2 ms d op sd2 S2] [e2 : RflE S2 S] : Nx (GWst P n X ms env ol B k p m B2 L i (⟨some d, op, ty, pos, af, none⟩ :: rest)) (sd ∧ sd2) (GWst P n X ms env ol B k p m B2 ((d, S) :: L) (i + 1) rest) := ⟨fun hs g => .pure (d, S) ⟨neZ e1.h, rfl, triQ (st := st) hs.1, by have h := e2.h; subst h; exact triQ (st := st2) hs.2⟩ g⟩
theorem gWst1 {T S : SV} {v : Value} {o : Nat} {l l' : List SV} {e : TypeId} {B' : List Res} {o1 : Operand} [lx : Lu n true L env o1 T] [pl : Pl T B v o] [pv : PV B v l e B'] [ly : Lu n true L env o2 S] [oc : O1 S] [sp : Spl l o [S] l'] [tz : TZ P t 1] (hp : i = p) (g : GWst P n X ms env ol B k p m (rV v l' e :: B') L (i + 1) rest) : GWst P n X ms env ol B k p m (rV v l' e :: B') L i (⟨none, .store t o1 o2, ty, pos, af, none⟩ :: rest) := .ev ⟨hp, rfl, fun ρ h w s => by
  have hx := lx.h rfl ((s.sub (os' := [o1]) (fun x hx => by simp [looks, Op.operands] at hx ⊢; exact .inl hx) (fun _ h => h)).fx o1 (by simp))
  have hy := ly.h rfl ((s.sub (os' := [o2]) (fun x hx => by simp [looks, Op.operands] at hx ⊢; exact .inr hx) (fun _ h => h)).fx o2 (by simp))
  have ow := pv.h.own s.ow
  obtain ⟨b, arr, ev_, hb, ud⟩ := (ow.at 0 rfl).1
  have hsz := ud.length
  simp only [Array.length_toList] at hsz
  have hfit := sp.h.2
  simp only [List.length_cons, List.length_nil] at hfit
  have hfb := (ow.at 0 rfl).2 b ev_
  obtain ⟨y, hy2, hyf⟩ := pv.h.fp _ (List.mem_cons_self ..) b ev_
  have sy : Sy X.h0 X.w0 [] [] (rV v l e :: B') ρ h w := ⟨s.gr, trivial, trivial, ow⟩
  refine OpG.plain (OpW.store1 tz.h (pl.h hx ev_) rfl (hy.one oc.h) hb (by omega) fun w' p => ?_)
  have hd : denL h l' (arr.setIfInBounds o (ev n ρ o2)).toList := splice_den (cs := [S]) (vs := [ev n ρ o2]) ud ⟨hy, trivial⟩ sp.h.1 sp.h.2
  obtain ⟨h', e1, e2, e3, e4, e5, e6⟩ := triM_put (B2 := rV v l' e :: B') s p hfb.1 (hfb.2.1 rfl) ⟨y, hy2, hyf⟩ (own_put (r' := rV v l' e) rfl sy p ⟨b, _, ev_, p.at_, hd⟩ ev_ fun i hi => hi).ow
  exact ⟨undef, h', ⟨rfl, rfl⟩, e2, e3, fun _ => e4 rfl, fun _ => e5 rfl, e6⟩⟩ g
end
theorem put_putIn {arr : Array Value} {p m o : Nat} {vs : List Value} (hf : p + m ≤ arr.size) (ho : o + vs.length ≤ m) : putIn arr (p + o) vs = putIn arr p ((cut arr p m).take o ++ vs ++ (cut arr p m).drop (o + vs.length)) := by
  have hl : (cut arr p m).length = m := by unfold cut; rw [List.length_take, List.length_drop, Array.length_toList]; omega
  have hl2 : arr.toList.length = arr.size := Array.length_toList
  have hn : ((cut arr p m).take o ++ vs ++ (cut arr p m).drop (o + vs.length)).length = m := by
    rw [List.length_append, List.length_append, List.length_take, List.length_drop, hl]; omega
  apply Array.toList_inj.1
  rw [putIn_toList _ _ _ (by omega), putIn_toList _ _ _ (by rw [hn]; exact hf), hn]
  unfold cut
  have e1 : arr.toList.take (p + o) = arr.toList.take p ++ ((arr.toList.drop p).take m).take o := by
    rw [List.take_take, Nat.min_eq_left (by omega), List.take_add]
  have e2 : arr.toList.drop (p + o + vs.length) = ((arr.toList.drop p).take m).drop (o + vs.length) ++ arr.toList.drop (p + m) := by
    rw [List.drop_take, List.drop_drop, show p + (o + vs.length) = p + o + vs.length by omega]
    have h := List.take_append_drop (m - (o + vs.length)) (arr.toList.drop (p + o + vs.length))
    rw [List.drop_drop, show p + o + vs.length + (m - (o + vs.length)) = p + m by omega] at h
    exact h.symm
  rw [e1, e2]
  simp only [List.append_assoc]
class RdM {α : Type} (r : Rp α) (o : Nat) (S : SV) (m : outParam Nat) (f : outParam (α → α)) : Prop where
  h : ∀ {h cs x v}, r.R h cs x → den h S v → ∃ ys, v = .agg ys.toArray ∧ o + m ≤ r.k ∧ ys.length = m ∧ (∀ c ∈ ys, c.oneCell' = true) ∧ r.R h (cs.take o ++ ys ++ cs.drop (o + m)) (f x)
theorem frl_one (g : Fr) : (frl g).all SV.one = true := rfl
instance {T U V : SV} {g : Fr} [j : Vw fv (.ag [T, U, V]) g] : RdM rNO 3 (.ag [T, U, V]) 3 (fun x => ⟨x.phone, x.parent, x.v, g⟩) := ⟨fun {h cs x v} u d => by
  obtain ⟨vs, e, d⟩ := d
  subst e
  match cs, u, vs, d with
  | [x1, x2, x3, x4, x5, x6], ⟨u1, u2, u3, u4, u5, u6, _⟩, [y1, y2, y3], ⟨d1, d2, d3, _⟩ =>
    have hp := fr_parts j d1 d2 d3
    exact ⟨[y1, y2, y3], rfl, by decide, rfl, fun c hc => denL.one (l := frl g) hp (frl_one g) c hc, ⟨u1, u2, u3, hp⟩⟩⟩
section
variable {P : Program} {n : Nat} {X : Fix} {ms : List Nat} {loc env : EL} {B : List Res} {k : Kt} {ol rest : List Oper} {a m o sz : Nat} {ty : TypeId} {pos : String} {af : Array Edge} {t e : TypeId} {α : Type} {v : Value} {r : Rp α} {q : List α} {S : SV} {o1 o2 : Operand} {f : α → α} {d0 : α}
instance (priority := low) {mk : List α → List Res} [D0 α d0] [lx : Lu n true loc env o1 (pa v m a o)] [ua : UA B v α r e q mk] [rk : Rk r m] [ly : Lu n true loc env o2 S] [rd : RdM r o S sz f] [tz : TZ P t sz] : Nx (GO P n X ms loc env B ol (⟨none, .store t o1 o2, ty, pos, af, none⟩ :: rest) k) (a < q.length) (GO P n X ms loc env (mk (q.set a (f (q.getD a d0)))) ol rest k) := ⟨fun hj g => ⟨fun ok ρ h w s => by
  have hx := lx.h rfl ((s.x [o1]).fx o1 (by simp))
  have hy := ly.h rfl ((s.x [o2]).fx o2 (by simp))
  obtain ⟨b, cap, arr, ev_, _, hnb, hb, hle, ur⟩ := OwnL.block (ua.own s.ow).1 (by intro e; rw [e] at hj; cases hj)
  obtain ⟨b', l', c', e1, e2⟩ := hx
  rw [ev_] at e1; cases e1
  obtain ⟨cs, hc, hs, hr⟩ := ur.at d0 hj
  obtain ⟨ys, h0, h1, h2, h3, h4⟩ := rd.h hr hy
  have hk := rk.h
  rw [hk] at hc hs h1
  refine Ops.cons (OpW.storeA tz.h h2 e2 h0 h3 hb (by omega) fun w' p => g.p (okR_none rfl ok) _ _ _ (own_elem ua s hj hk h4 ev_ hb ?_))
  rw [put_putIn hs (by rw [h2]; exact h1), hc, h2] at p; exact p⟩⟩
end
end Go.E3
