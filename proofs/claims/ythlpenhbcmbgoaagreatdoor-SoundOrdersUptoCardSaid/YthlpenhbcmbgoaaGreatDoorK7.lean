/- K7: a part of the proofs about what is clipped and stored: how the program's functions run, and what they compute, for every input. -/
import Derived.Lib.Bytealg
import Derived.Test.YthlpenhbcmbgoaaGreatDoorK6
import Derived.Test.YthlpenhbcmbgoaaGreatDoorK2
import Derived.Test.YthlpenhbcmbgoaaGreatDoorK3
import Derived.Test.YthlpenhbcmbgoaaGreatDoorK5
set_option linter.all false
set_option linter.unusedVariables false
set_option maxHeartbeats 4000000
namespace Go.E3
open Go Go.Ear
section
variable {P : Program} {n : Nat} {X : Fix} {ms : List Nat} {c : Bool} {loc env : EL} {B B1 : List Res} {k : Kt} {ol rest : List Oper} {d : Nat} {ty : TypeId} {pos : String} {af : Array Edge} {α : Type} {f : α → SV} {x0 a : α} {v p : Value} {l vis : List (ByteArray × α)} {t u : TypeId} {x y z : Operand} {s : ByteArray} {S : SV}
instance [mt : MpT P t α f x0] : Nx (GO P n X ms loc env B ol (⟨some d, .makeMap t none, ty, pos, af, none⟩ :: rest) k) True (∀ v, GO P n X ms ((d, ov v) :: loc) env (rM' f v [] :: B) ol rest k) := ⟨fun _ g => ⟨fun ok ρ h w s => by
  obtain ⟨h1, h2, h3⟩ := okR_some rfl ok
  refine Ops.cons (OpW.makeM ?_)
  have gr : Gr h w h (newW w (.map #[] 0)) := Gr.new s.gr.sat _
  have sv := s.put (v := .map (some w.heap.size)) (S := ov (.map (some w.heap.size))) gr ⟨rfl, rfl⟩ h1 (h2 rfl)
  refine (g _).p h3 _ _ _ ⟨sv.gr, sv.lo, sv.en, s.ow.new gr s.gr.ext.size ⟨_, rfl, #[], 0, newW_at w _, trivial, by simp, fun e he => by simp at he⟩ fun i hi => ?_⟩
  cases hi
  exact ⟨Nat.le_refl _, blk_lt (newW_at w _), s.gr.sat.fresh⟩⟩⟩
def lkS (f : α → SV) (x0 : α) (l : List (ByteArray × α)) (s : ByteArray) (ok : Bool) : SV := bif ok then .tp [f ((mget l s).getD x0), .cv (.bool (mget l s).isSome)] else f ((mget l s).getD x0)
theorem lookup_st {ok : Bool} [mt : MpT P t α f x0] [lx : Lu n c loc env x (ov v)] [hm : HM B v α f l] [ly : Lu n c loc env y (.cv (.string s))] : St P n c loc env B ms d (.lookup t x y ok) True (lkS f x0 l s ok) := .p fun q _ _ _ _ _ _ sx _ _ _ _ _ kk => by
  obtain ⟨kt, et, zv, h1, h2, h3, h4⟩ := mt.h
  obtain ⟨b, hv, es, clock, hb, rows, hn, hc⟩ := hm.h sx.ow
  have hx := (lx.h q (sx.f x)).1
  refine OpW.lookupM h1 h2 h3 (hx.trans hv) (cvE (ly.h q (sx.f y))) hb rows (fun v' a hg hd => kk _ ?_) (fun hg => kk _ ?_)
  · unfold lkS; rw [hg]
    cases ok with
    | true => exact ⟨[v', .bool true], rfl, hd, rfl, trivial⟩
    | false => exact hd
  · unfold lkS; rw [hg]
    cases ok with
    | true => exact ⟨[zv, .bool false], rfl, h4 _, rfl, trivial⟩
    | false => exact h4 _
instance [mt : MpT P t α f x0] [lx : Lu n c loc env x (ov v)] [hm : HM B v α f l] [ly : Lu n c loc env y (.cv (.string s))] : St P n c loc env B ms d (.lookup t x y true) True (.tp [f ((mget l s).getD x0), .cv (.bool (mget l s).isSome)]) := lookup_st (ok := true)
instance [mt : MpT P t α f x0] [lx : Lu n c loc env x (ov v)] [hm : HM B v α f l] [ly : Lu n c loc env y (.cv (.string s))] : St P n c loc env B ms d (.lookup t x y false) True (f ((mget l s).getD x0)) := lookup_st (ok := false)
instance [mt : MpT P t α f x0] [lx : Lu n c loc env x (ov v)] [hm : HM B v α f l] : St P n c loc env B ms d (.call ⟨.builtin .len, [x].toArray, [t].toArray⟩) True (.cv (.int .i64 (l.length : Int))) := .p fun q _ _ _ _ _ w sx _ _ _ _ _ kk => by
  obtain ⟨kt, et, zv, h1, _, _, _⟩ := mt.h
  obtain ⟨b, hv, es, clock, hb, rows, hn, hc⟩ := hm.h sx.ow
  have hx := (lx.h q (sx.f x)).1.trans hv
  have hl := rows.length
  have hg : (getObj b).run P w = .ok (.map es clock) w := by simp [getObj, Sem.run, hb]
  refine OpW.valD (v := .int .i64 (l.length : Int)) (w' := w) ?_ (kk _ rfl)
  simp only [execOp, resolve, invoke, builtin, Sem.run_bind, Sem.run_pure, Result.andThen, List.map_toArray, List.map_cons, List.map_nil, hx, Builtin.len_, List.getElem?_toArray, List.getElem?_cons_zero, h1.run w, hg]
  rw [← hl]; rfl
instance [mt : MpT P t α f x0] [lx : Lu n true loc env x (ov v)] [ly : Lu n true loc env y (.cv (.string s))] [lz : Lu n true loc env z S] [pm : PM B v α f l B1] [vw : Vw f S a] : Nx (GO P n X ms loc env B ol (⟨none, .mapUpdate t x y z, ty, pos, af, none⟩ :: rest) k) True (GO P n X ms loc env (rM' f v (mset l s a) :: B1) ol rest k) := ⟨fun _ g => ⟨fun ok ρ h w sy => by
  obtain ⟨kt, et, zv, h1, h2, h3, h4⟩ := mt.h
  have s' := sy.sb pm.h
  obtain ⟨b, hv, hok⟩ := s'.ow.1
  have hx := (lx.h rfl ((sy.x [x]).fx x (by simp))).1
  have hy := cvE (ly.h rfl ((sy.x [y]).fx y (by simp)))
  have hz := vw.h (lz.h rfl ((sy.x [z]).fx z (by simp)))
  refine Ops.cons (OpW.setM (a := a) (f := f) (h := h) (l := l) h1 h2 (hx.trans hv) hy rfl hz hok fun w' o p hok' => ?_)
  have s2 := own_put (r' := rM' f v (mset l s a)) rfl s' p ⟨b, hv, hok'⟩ hv fun i hi => hi
  exact g.p (okR_none rfl ok) _ _ _ s2⟩⟩
instance [mt : MpT P t α f x0] [lx : Lu n true loc env x (ov v)] [pm : PM B v α f l B1] : Nx (GO P n X ms loc env B ol (⟨some d, .range t x, ty, pos, af, none⟩ :: rest) k) True (∀ p, GO P n X ms ((d, ov p) :: loc) env (rMI f p v l [] :: B1) ol rest k) := ⟨fun _ g => ⟨fun ok ρ h w sy => by
  obtain ⟨h1, h2, h3⟩ := okR_some rfl ok
  obtain ⟨kt, et, zv, t1, t2, t3, t4⟩ := mt.h
  have s' := sy.sb pm.h
  obtain ⟨b, hv, es, clock, hb, rows, hn, hc⟩ := s'.ow.1
  have hx := (lx.h rfl ((sy.x [x]).fx x (by simp))).1
  refine Ops.cons (OpW.rangeM t1 (hx.trans hv) hb ?_)
  have gr : Gr h w h (newW w (.mapIter (some b) clock #[] clock)) := Gr.new sy.gr.sat _
  have sv := s'.put (v := .pointer (some ⟨w.heap.size, 0, none⟩)) (S := ov (.pointer (some ⟨w.heap.size, 0, none⟩))) gr ⟨rfl, rfl⟩ h1 (h2 rfl)
  have ow := sv.ow
  have hft := s'.ow.foot (rM' f v l) (List.mem_cons_self ..) b hv
  have hbl : b < w.heap.size := hft.2.2
  refine (g _).p h3 _ _ _ ⟨sv.gr, sv.lo, sv.en, ⟨w.heap.size, b, rfl, hv, es, clock, #[], [], es.toList.zip l, ?_, newW_at w _, rows, hn, hc, by simp, by simp, rfl⟩, fun i hi => ?_, fun r' hr' i hi => ?_, ow.2.2.2⟩
  · have := ow.1
    obtain ⟨b', hv', es', clock', hb', _⟩ := this
    rw [hv] at hv'; cases hv'
    unfold newW
    show (w.heap.push _)[b]? = _
    rw [Array.getElem?_push, if_neg (by omega)]; exact hb
  · rcases hi with hi | hi
    · cases hi
      exact ⟨sy.gr.sat.fresh, fun _ => sy.gr.ext.size, blk_lt (newW_at w _)⟩
    · exact ow.2.1 i hi
  · rcases hi with hi | hi
    · cases hi
      intro hr
      have := (s'.ow.2.2.2.foot r' hr' _ hr).2.2
      omega
    · exact ow.2.2.1 r' hr' i hi⟩⟩
end
end Go.E3
set_option linter.unusedVariables false
set_option maxHeartbeats 4000000
namespace Go.E3
open Go Go.Ear
class PMI (B : List Res) (p : Value) (α : outParam Type) (f : outParam (α → SV)) (v : outParam Value) (l vis : outParam (List (ByteArray × α))) (B' : outParam (List Res)) : Prop where h : Sb B (rMI f p v l vis :: B')
class HI (B : List Res) (p : Value) (α : outParam Type) (f : outParam (α → SV)) (v : outParam Value) (l vis : outParam (List (ByteArray × α))) : Prop where h : ∀ {w0 h w}, OwnB w0 B h w → ∃ it b, p = .pointer (some ⟨it, 0, none⟩) ∧ v = .map (some b) ∧ MIOk f h w it b l vis
section
variable {α : Type} {f : α → SV} {p v : Value} {l vis : List (ByteArray × α)} {B B' : List Res}
instance : PMI (rMI f p v l vis :: B) p α f v l vis B := ⟨.refl _⟩
instance (priority := 50) {x : Res} [i : PMI B p α f v l vis B'] : PMI (x :: B) p α f v l vis (x :: B') := ⟨(i.h.cons x).trans (.perm (List.Perm.swap ..))⟩
instance : HI (rMI f p v l vis :: B) p α f v l vis := ⟨fun o => o.1⟩
end
section
variable {P : Program} {n : Nat} {X : Fix} {ms : List Nat} {c : Bool} {loc env : EL} {B B1 : List Res} {k : Kt} {ol rest : List Oper} {d : Nat} {ty : TypeId} {pos : String} {af : Array Edge} {α : Type} {f : α → SV} {a : α} {v p : Value} {l vis : List (ByteArray × α)} {x : Operand} {s : ByteArray}
theorem gNxt [lx : Lu n true loc env x (ov p)] [pm : PMI B p α f v l vis B1] (done : vis.Perm l → GO P n X ms ((d, .tp [.cv (.bool false)]) :: loc) env (rM' f v l :: B1) ol rest k)
    (more : ∀ s a, (∃ r, (vis ++ (s, a) :: r).Perm l) → GO P n X ms ((d, .tp [.cv (.bool true), .cv (.string s), f a]) :: loc) env (rMI f p v l (vis ++ [(s, a)]) :: B1) ol rest k) : GO P n X ms loc env B ol (⟨some d, .next x false, ty, pos, af, none⟩ :: rest) k := ⟨fun ok ρ h w sy => by
  obtain ⟨h1, h2, h3⟩ := okR_some rfl ok
  have s' := sy.sb pm.h
  obtain ⟨it, b, hp, hv, es, clock, seen, zv, zr, hb, hi, rows, hn, hc, pz, hs, hvs⟩ := s'.ow.1
  have hx := (lx.h rfl ((sy.x [x]).fx x (by simp))).1.trans hp
  obtain ⟨n1, n2⟩ := mi_next rows hn pz hs hvs
  refine Ops.cons (OpW.nextM hx hb hi hc (fun h0 => ?_) fun e he w' pw => ?_)
  · have hft := fun i hi => s'.ow.2.1 i hi
    refine (done (n1 h0)).p h3 _ _ _ ⟨s'.gr, ⟨by rw [upd_at]; exact ⟨[.bool false], rfl, rfl, trivial⟩, s'.lo.upd (nIn_of h1)⟩, s'.en.upd (nIn_of (h2 rfl)), ⟨b, hv, es, clock, hb, rows, hn, hc⟩, fun i hi => s'.ow.2.1 i (.inr hi), fun r' hr' i hi => s'.ow.2.2.1 r' hr' i (.inr hi), s'.ow.2.2.2⟩
  · obtain ⟨s, a, zr', hk, hd, hpz, hr⟩ := n2 e he
    have hne : b ≠ it := fun e => by subst e; rw [hb] at hi; cases hi
    have s2 := own_put (r' := rMI f p v l (vis ++ [(s, a)])) rfl s' pw ⟨it, b, hp, hv, es, clock, seen.push e.born, zv ++ [(e, s, a)], zr', by rw [pw.other b hne]; exact hb, pw.at_, rows, hn, hc, hpz, by rw [List.map_append, hs, Array.toList_push]; rfl, by rw [List.map_append, hvs]; rfl⟩ (.inl hp) fun i hi => hi
    refine (more s a hr).p h3 _ _ _ ⟨s2.gr, ⟨?_, s2.lo.upd (nIn_of h1)⟩, s2.en.upd (nIn_of (h2 rfl)), s2.ow⟩
    rw [upd_at]
    exact ⟨[.bool true, e.key, e.val], rfl, rfl, hk, hd, trivial⟩⟩
theorem OpW.entryM {ρ : Env} {w : World} {K : Env → World → Prop} {it b : Nat} {es : Array MapEntry} {clock : Nat} {seen : Array Nat} {e : MapEntry} {g : Option (Nat × Bool)} (hx : ev n ρ x = .pointer (some ⟨it, 0, none⟩)) (hb : w.heap[b]? = some (.map es clock)) (hi : w.heap[it]? = some (.mapIter (some b) clock seen clock)) (hl : seen.back? = some e.born) (he : e ∈ es.toList) (hn : (es.toList.map (·.born)).Nodup)
    (hk : K (upd ρ d (.tuple #[e.key, e.val])) w) : OpW P n ⟨some d, .entry x, ty, pos, af, g⟩ ρ w K := by
  have hgi : (getObj it).run P w = .ok (.mapIter (some b) clock seen clock) w := by simp [getObj, Sem.run, hi]
  have hgb : (getObj b).run P w = .ok (.map es clock) w := by simp [getObj, Sem.run, hb]
  have hf : es.find? (·.born == e.born) = some e := by rw [← Array.find?_toList]; exact find_born e es.toList hn he
  refine OpW.valD ?_ hk
  simp only [execOp, hx, Instr.entry, Sem.run_bind, hgi, hgb, hl, hf, Result.andThen, bne_self_eq_false, Bool.false_eq_true, if_false]
  rfl
instance [lx : Lu n c loc env x (ov p)] [hi : HI B p α f v l (vis ++ [(s, a)])] : St P n c loc env B ms d (.entry x) True (.tp [.cv (.string s), f a]) := .p fun q _ _ _ _ _ _ sx _ _ _ _ _ kk => by
  obtain ⟨it, b, hp, hv, es, clock, seen, zv, zr, hb, hit, rows, hn, hc, pz, hs, hvs⟩ := hi.h sx.ow
  have hx := (lx.h q (sx.f x)).1.trans hp
  have hz : zv ≠ [] := fun e => by rw [e] at hvs; simp at hvs
  obtain ⟨zi, zl, rfl⟩ : ∃ zi zl, zv = zi ++ [zl] := ⟨zv.dropLast, zv.getLast hz, (List.dropLast_concat_getLast hz).symm⟩
  rw [List.map_append] at hvs hs
  have e1 : zl.2 = (s, a) := by
    have := congrArg List.getLast? hvs
    simpa using this
  have e2 : seen.back? = some zl.1.born := by
    rw [← Array.getLast?_toList, ← hs]; simp
  have hm : zl ∈ es.toList.zip l := pz.mem_iff.1 (by simp)
  have he : zl.1 ∈ es.toList := (List.of_mem_zip (show (zl.1, zl.2) ∈ es.toList.zip l from hm)).1
  have hk := rows.zip zl hm
  rw [e1] at hk
  exact OpW.entryM hx hb hit e2 he hn (kk _ ⟨[zl.1.key, zl.1.val], rfl, hk.1, hk.2, trivial⟩)
end
end Go.E3
set_option linter.unusedVariables false
set_option maxRecDepth 20000
namespace Go.E3
open Go Go.Ear Go.Proofs
def rQ : Rp ByteArray := mkRp 1 (fun x => [.cv (.string x)]) (fun _ => rfl) (fun _ => rfl)
instance : RpC rQ (fun x => [.cv (.string x)]) := ⟨Iff.rfl⟩
instance : Rk rQ 1 := ⟨rfl⟩
instance {x : ByteArray} : Rd rQ (.cv (.string x)) x := ⟨fun u => one_cells u rfl⟩
instance : D0 ByteArray ByteArray.empty := ⟨trivial⟩
instance : RT Tryz.prog 9 ByteArray rQ 16 ByteArray.empty := ⟨Tryz.sizeOf9, _, _, ⟨Tryz.type9, rfl, rfl, rfl, rfl⟩, fun _ => ⟨rfl, trivial⟩⟩
@[reducible] def frl (f : Fr) : List SV := [bv f.neg, lv rU f.n, lv rU f.d]
structure En where
  w : ByteArray
  ph : List Int
  f : Fr
def en0 : En := ⟨ByteArray.empty, [], fr0⟩
@[reducible] def enV (e : En) : SV := .ag [.cv (.string e.w), lv rI e.ph, bv e.f.neg, lv rU e.f.n, lv rU e.f.d]
def rE : Rp En := mkRp 5 (fun e => [.cv (.string e.w), lv rI e.ph, bv e.f.neg, lv rU e.f.n, lv rU e.f.d]) (fun _ => rfl) (fun _ => rfl)
instance : RpC rE (fun e => [.cv (.string e.w), lv rI e.ph, bv e.f.neg, lv rU e.f.n, lv rU e.f.d]) := ⟨Iff.rfl⟩
instance : Rk rE 5 := ⟨rfl⟩
instance : D0 En en0 := ⟨trivial⟩
instance : RT Tryz.prog 87 En rE 96 en0 := ⟨Tryz.sizeOf87, _, _, ⟨Tryz.type87, rfl, rfl, rfl, rfl⟩, fun _ => ⟨rfl, nil_lv rfl, rfl, nil_lv rfl, nil_lv rfl, trivial⟩⟩
@[reducible] def lxv (l : List En) : SV := .ag [lv rE l]
structure Fo where
  ph : List Int
  f : Fr
def fo0 : Fo := ⟨[], fr0⟩
@[reducible] def fov (e : Fo) : SV := .ag [lv rI e.ph, bv e.f.neg, lv rU e.f.n, lv rU e.f.d]
def rO' : Rp Fo := mkRp 4 (fun e => [lv rI e.ph, bv e.f.neg, lv rU e.f.n, lv rU e.f.d]) (fun _ => rfl) (fun _ => rfl)
instance : RpC rO' (fun e => [lv rI e.ph, bv e.f.neg, lv rU e.f.n, lv rU e.f.d]) := ⟨Iff.rfl⟩
instance : Rk rO' 4 := ⟨rfl⟩
instance : D0 Fo fo0 := ⟨trivial⟩
instance : RT Tryz.prog 50 Fo rO' 80 fo0 := ⟨Tryz.sizeOf50, _, _, ⟨Tryz.type50, rfl, rfl, rfl, rfl⟩, fun _ => ⟨nil_lv rfl, rfl, nil_lv rfl, nil_lv rfl, trivial⟩⟩
structure Rw where
  from_ : List Int
  to : List Int
  left : List Int
  right : List Int
  f : Fr
def rw0 : Rw := ⟨[], [], [], [], fr0⟩
@[reducible] def rwv (e : Rw) : SV := .ag [lv rI e.from_, lv rI e.to, lv rI e.left, lv rI e.right, bv e.f.neg, lv rU e.f.n, lv rU e.f.d]
def rR : Rp Rw := mkRp 7 (fun e => [lv rI e.from_, lv rI e.to, lv rI e.left, lv rI e.right, bv e.f.neg, lv rU e.f.n, lv rU e.f.d]) (fun _ => rfl) (fun _ => rfl)
instance : RpC rR (fun e => [lv rI e.from_, lv rI e.to, lv rI e.left, lv rI e.right, bv e.f.neg, lv rU e.f.n, lv rU e.f.d]) := ⟨Iff.rfl⟩
instance : Rk rR 7 := ⟨rfl⟩
instance : RT Tryz.prog 59 Rw rR 152 rw0 := ⟨Tryz.sizeOf59, _, _, ⟨Tryz.type59, rfl, rfl, rfl, rfl⟩, fun _ => ⟨nil_lv rfl, nil_lv rfl, nil_lv rfl, nil_lv rfl, rfl, nil_lv rfl, nil_lv rfl, trivial⟩⟩
structure Rg where
  ws : List ByteArray
  f : Fr
def rg0 : Rg := ⟨[], fr0⟩
@[reducible] def rgv (e : Rg) : SV := .ag [lv rQ e.ws, bv e.f.neg, lv rU e.f.n, lv rU e.f.d]
def rRg : Rp Rg := mkRp 4 (fun e => [lv rQ e.ws, bv e.f.neg, lv rU e.f.n, lv rU e.f.d]) (fun _ => rfl) (fun _ => rfl)
instance : RpC rRg (fun e => [lv rQ e.ws, bv e.f.neg, lv rU e.f.n, lv rU e.f.d]) := ⟨Iff.rfl⟩
instance : Rk rRg 4 := ⟨rfl⟩
instance : D0 Rg rg0 := ⟨trivial⟩
instance : RT Tryz.prog 52 Rg rRg 80 rg0 := ⟨Tryz.sizeOf52, _, _, ⟨Tryz.type52, rfl, rfl, rfl, rfl⟩, fun _ => ⟨nil_lv rfl, rfl, nil_lv rfl, nil_lv rfl, trivial⟩⟩
structure Op' where
  wr : List Int
  pass : Int
  f : Fr
def op0 : Op' := ⟨[], 0, fr0⟩
@[reducible] def opv (e : Op') : SV := .ag [lv rI e.wr, iv e.pass, bv e.f.neg, lv rU e.f.n, lv rU e.f.d]
def rOp : Rp Op' := mkRp 5 (fun e => [lv rI e.wr, iv e.pass, bv e.f.neg, lv rU e.f.n, lv rU e.f.d]) (fun _ => rfl) (fun _ => rfl)
instance : RpC rOp (fun e => [lv rI e.wr, iv e.pass, bv e.f.neg, lv rU e.f.n, lv rU e.f.d]) := ⟨Iff.rfl⟩
instance : Rk rOp 5 := ⟨rfl⟩
instance : RT Tryz.prog 170 Op' rOp 88 op0 := ⟨Tryz.sizeOf170, _, _, ⟨Tryz.type170, rfl, rfl, rfl, rfl⟩, fun _ => ⟨nil_lv rfl, rfl, rfl, nil_lv rfl, nil_lv rfl, trivial⟩⟩
structure Nd where
  phone : Int
  parent : Int
  ends_ : List Int
  f : Fr
def nd0 : Nd := ⟨0, 0, [], fr0⟩
@[reducible] def ndv (e : Nd) : SV := .ag [iv e.phone, iv e.parent, lv rI e.ends_, bv e.f.neg, lv rU e.f.n, lv rU e.f.d]
def rN : Rp Nd := mkRp 6 (fun e => [iv e.phone, iv e.parent, lv rI e.ends_, bv e.f.neg, lv rU e.f.n, lv rU e.f.d]) (fun _ => rfl) (fun _ => rfl)
instance : MpT Tryz.prog 121 Fo fov fo0 := ⟨9, 50, _, Tryz.underlying121, Tryz.underlying9, Tryz.zeroValue50, fun _ => ⟨[_, _, _, _], rfl, nil_lv rfl, rfl, nil_lv rfl, nil_lv rfl, trivial⟩⟩
instance : MpT Tryz.prog 128 Rg rgv rg0 := ⟨9, 52, _, Tryz.underlying128, Tryz.underlying9, Tryz.zeroValue52, fun _ => ⟨[_, _, _, _], rfl, nil_lv rfl, rfl, nil_lv rfl, nil_lv rfl, trivial⟩⟩
instance : MpT Tryz.prog 156 Fr fv fr0 := ⟨9, 32, _, Tryz.underlying156, Tryz.underlying9, Tryz.zeroValue32, fun _ => ⟨[_, _, _], rfl, rfl, nil_lv rfl, nil_lv rfl, trivial⟩⟩
theorem fr_parts {h : PH} {T U V : SV} {f : Fr} {a b c : Value} (j : Vw fv (.ag [T, U, V]) f) (x : den h T a) (y : den h U b) (z : den h V c) : denL h (frl f) [a, b, c] := by
  obtain ⟨vs, e, d⟩ := j.h (h := h) (u := .agg #[a, b, c]) ⟨[a, b, c], rfl, x, y, z, trivial⟩
  have : vs = [a, b, c] := by
    injection e with e
    have := congrArg Array.toList e
    simpa using this.symm
  subst this; exact d
instance (priority := high) {e : En} : Vw enV (.ag [.cv (.string e.w), lv rI e.ph, bv e.f.neg, lv rU e.f.n, lv rU e.f.d]) e := ⟨fun u => u⟩
instance {w : ByteArray} {ph : List Int} {S_ph : SV} [i_ph : Vw (lv rI) S_ph ph] {T U V : SV} {f : Fr} [j : Vw fv (.ag [T, U, V]) f] : Vw enV (.ag [.cv (.string w), S_ph, T, U, V]) ⟨w, ph, f⟩ := ⟨fun ⟨vs, e, u⟩ => ⟨vs, e, by
  match vs, u with
  | [_, _, _, _, _], ⟨w_, ph_, x, y, z, t⟩ => exact ⟨w_, i_ph.h ph_, fr_parts j x y z⟩⟩⟩
instance {S : SV} {e : En} [i : Vw enV S e] : Rd rE S e := ⟨fun u => by
  obtain ⟨vs, e, d⟩ := i.h u
  subst e; exact d⟩
instance (priority := high) {e : Fo} : Vw fov (.ag [lv rI e.ph, bv e.f.neg, lv rU e.f.n, lv rU e.f.d]) e := ⟨fun u => u⟩
instance {ph : List Int} {S_ph : SV} [i_ph : Vw (lv rI) S_ph ph] {T U V : SV} {f : Fr} [j : Vw fv (.ag [T, U, V]) f] : Vw fov (.ag [S_ph, T, U, V]) ⟨ph, f⟩ := ⟨fun ⟨vs, e, u⟩ => ⟨vs, e, by
  match vs, u with
  | [_, _, _, _], ⟨ph_, x, y, z, t⟩ => exact ⟨i_ph.h ph_, fr_parts j x y z⟩⟩⟩
instance {S : SV} {e : Fo} [i : Vw fov S e] : Rd rO' S e := ⟨fun u => by
  obtain ⟨vs, e, d⟩ := i.h u
  subst e; exact d⟩
instance {fr : List Int} {S_fr : SV} [i_fr : Vw (lv rI) S_fr fr] {to : List Int} {S_to : SV} [i_to : Vw (lv rI) S_to to] {le : List Int} {S_le : SV} [i_le : Vw (lv rI) S_le le] {ri : List Int} {S_ri : SV} [i_ri : Vw (lv rI) S_ri ri] {T U V : SV} {f : Fr} [j : Vw fv (.ag [T, U, V]) f] : Vw rwv (.ag [S_fr, S_to, S_le, S_ri, T, U, V]) ⟨fr, to, le, ri, f⟩ := ⟨fun ⟨vs, e, u⟩ => ⟨vs, e, by
  match vs, u with
  | [_, _, _, _, _, _, _], ⟨fr_, to_, le_, ri_, x, y, z, t⟩ => exact ⟨i_fr.h fr_, i_to.h to_, i_le.h le_, i_ri.h ri_, fr_parts j x y z⟩⟩⟩
instance {S : SV} {e : Rw} [i : Vw rwv S e] : Rd rR S e := ⟨fun u => by
  obtain ⟨vs, e, d⟩ := i.h u
  subst e; exact d⟩
instance (priority := high) {e : Rg} : Vw rgv (.ag [lv rQ e.ws, bv e.f.neg, lv rU e.f.n, lv rU e.f.d]) e := ⟨fun u => u⟩
instance {ws : List ByteArray} {S_ws : SV} [i_ws : Vw (lv rQ) S_ws ws] {T U V : SV} {f : Fr} [j : Vw fv (.ag [T, U, V]) f] : Vw rgv (.ag [S_ws, T, U, V]) ⟨ws, f⟩ := ⟨fun ⟨vs, e, u⟩ => ⟨vs, e, by
  match vs, u with
  | [_, _, _, _], ⟨ws_, x, y, z, t⟩ => exact ⟨i_ws.h ws_, fr_parts j x y z⟩⟩⟩
instance {S : SV} {e : Rg} [i : Vw rgv S e] : Rd rRg S e := ⟨fun u => by
  obtain ⟨vs, e, d⟩ := i.h u
  subst e; exact d⟩
instance {wr : List Int} {S_wr : SV} [i_wr : Vw (lv rI) S_wr wr] {ps : Int} {T U V : SV} {f : Fr} [j : Vw fv (.ag [T, U, V]) f] : Vw opv (.ag [S_wr, iv ps, T, U, V]) ⟨wr, ps, f⟩ := ⟨fun ⟨vs, e, u⟩ => ⟨vs, e, by
  match vs, u with
  | [_, _, _, _, _], ⟨wr_, ps_, x, y, z, t⟩ => exact ⟨i_wr.h wr_, ps_, fr_parts j x y z⟩⟩⟩
instance {S : SV} {e : Op'} [i : Vw opv S e] : Rd rOp S e := ⟨fun u => by
  obtain ⟨vs, e, d⟩ := i.h u
  subst e; exact d⟩
end Go.E3
set_option linter.unusedVariables false
set_option maxRecDepth 20000
namespace Go.E3
open Go Go.Ear Go.Proofs
instance clone_c {l : List Nat} {S : SV} [i : Vw (lv rU) S l] : Ct Tryz.prog 169 [S] (l.length ≤ 1000000000000) (lv rU l) := by
  refine ct1 i (ctI Tryz.call169 Tryz.func169 Tryz.ntmps169 rfl Tryz.results169 rfl [5] fun h0 w0 hl => ?_)
  repeat first | refine nx ?_ | intro _
  rename_i b hb
  refine gIf (fun c => ?_) fun c => ?_ <;> repeat first | refine nx ?_ | intro _
  · exact hb c
  · rfl
instance clone2_c {l : List Nat} {S : SV} [i : Vw (lv rU) S l] : Ct Tryz.prog 122 [S] (l.length ≤ 1000000000000) (lv rU l) := by
  refine ct1 i (ctI Tryz.call122 Tryz.func122 Tryz.ntmps122 rfl Tryz.results122 rfl [5] fun h0 w0 hl => ?_)
  repeat first | refine nx ?_ | intro _
  rename_i b hb
  refine gIf (fun c => ?_) fun c => ?_ <;> repeat first | refine nx ?_ | intro _
  · exact hb c
  · rfl
instance clone2O_c {l : List Nat} {S : SV} [i : Vw (lv rU) S l] : CtO Tryz.prog 122 [S] (l.length ≤ 1000000000000) (fun g => [rA rU 171 g.v l]) := by
  refine cO1 i (ctO Tryz.call122 Tryz.func122 Tryz.ntmps122 rfl Tryz.results122 rfl [5] fun h0 w0 hl => ?_)
  repeat first | refine nx ?_ | intro _
  rename_i b hb
  refine gIf (fun c => ?_) fun c => ?_ <;> repeat first | refine nx ?_ | intro _
  · exact hb c
  · rfl
instance trimmed_c {l : List Nat} {S : SV} [i : Vw (lv rU) S l] [f : FtL l] : Ct Tryz.prog 126 [S] (l.length ≤ 1000000000000) (nv (val l)) := by
  refine ct1 i (ctI Tryz.call126 Tryz.func126 Tryz.ntmps126 rfl Tryz.results126 rfl [] fun h0 w0 hl => ?_)
  repeat refine nx ?_
  refine gLp (fun k : Nat => [(3, iv k)]) (fun _ => []) (fun k => k ≤ l.length ∧ trim (l.take k) = trim l) (fun k => k) l.length ⟨Nat.le_refl _, by rw [List.take_length]⟩ fun k ⟨h1, h2⟩ => ?_
  repeat refine nx ?_
  refine gIf (fun c => ?_) fun c => ?_ <;> repeat refine nx ?_
  · exact gBk (k - 1) ⟨by omega, by rw [← h2, ← trim_take_zero (k := k - 1) (by omega) c.2, show k - 1 + 1 = k by omega]⟩ (by omega)
  · rw [digs_val f.h, ← h2, trim_take h1 c]
instance : FtL [] := ⟨fun _ h => by cases h⟩
instance {a : Nat} {l : List Nat} [i : FtL l] : FtL (a % 4294967296 :: l) := ⟨fun x hx => by
  rcases List.mem_cons.1 hx with rfl | hx
  · exact Nat.mod_lt _ (by decide)
  · exact i.h x hx⟩
instance small_c {i : Int} {n : Nat} [x : IN i n] : Ct Tryz.prog 121 [.cv (.int .u64 i)] (n < 18446744073709551616) (nv n) := by
  obtain rfl := x.e
  refine ctI Tryz.call121 Tryz.func121 Tryz.ntmps121 rfl Tryz.results121 rfl [] fun h0 w0 hl => ?_
  repeat refine nx ?_
  rw [Nat.mod_eq_of_lt (show n / 2 ^ 32 < 4294967296 by omega), small_val hl]
instance compare_c {a b A B : Nat} {S T : SV} [i : Vw nv S a] [j : Vw nv T b] [p : Sz a A] [q : Sz b B] : Ct Tryz.prog 123 [S, T] (A ≤ 1073741824 ∧ B ≤ 1073741824) (iv (cmpN a b)) := by
  refine ct2 i j (ctI Tryz.call123 Tryz.func123 Tryz.ntmps123 rfl Tryz.results123 rfl [] fun h0 w0 hl => ?_)
  have hp0 := p.h
  have hp1 := q.h
  unfold sz at hp0 hp1
  repeat refine nx ?_
  refine gIf (fun c => ?_) fun c => ?_ <;> repeat refine nx ?_
  · refine gIf (fun c => ?_) fun c => ?_ <;> repeat refine nx ?_
    · exact (cmpN_lt (sz_lt (by unfold sz; omega))).symm
    · exact (cmpN_gt (sz_lt (by unfold sz; omega))).symm
  · have hlen : (digs a).length = (digs b).length := by omega
    refine gLp (fun k : Nat => [(5, iv ((k : Int) - 1))]) (fun _ => []) (fun k => k ≤ (digs a).length ∧ (digs a).drop k = (digs b).drop k) (fun k => k) (digs a).length ⟨Nat.le_refl _, by rw [List.drop_length, hlen, List.drop_length]⟩ fun k ⟨hk, hd⟩ => ?_
    repeat refine nx ?_
    refine gIf (fun c => ?_) fun c => ?_ <;> repeat first | refine nx ?_ | intro _
    · refine gIf (fun c => ?_) fun c => ?_ <;> repeat first | refine nx ?_ | intro _
      · refine gIf (fun c => ?_) fun c => ?_ <;> repeat refine nx ?_
        · exact (cmpN_lt (cmp_at hlen (by omega) (by omega) hd (by omega))).symm
        · exact (cmpN_gt (cmp_at hlen.symm (by omega) (by omega) hd.symm (by omega))).symm
      · exact gBk (k - 1) ⟨by omega, drop_eq_succ (by omega) (by omega) (by rw [show k - 1 + 1 = k by omega]; exact hd) (by omega)⟩ (by omega)
    · exact (cmp_end hd (by omega)).symm
end Go.E3
set_option linter.unusedVariables false
set_option maxRecDepth 20000
namespace Go.E3
open Go Go.Ear Go.Proofs
instance digit_c {a A : Nat} {i : Int} {S : SV} [s : Vw nv S a] [p : Sz a A] {j : Nat} {sd : Prop} [tn : TN i j sd] : Ct Tryz.prog 200 [S, iv i] (sd ∧ A ≤ 1073741824) (.cv (.int .u64 (((digs a).getD j 0 : Nat) : Int))) := by
  refine ct1 s (ctI Tryz.call200 Tryz.func200 Tryz.ntmps200 rfl Tryz.results200 rfl [] fun h0 w0 hs => ?_)
  have hp := p.h
  unfold sz at hp
  have hf := (digs_fit a).getD j
  rw [tn.e hs.1]
  repeat refine nx ?_
  refine gIf (fun c => ?_) fun c => ?_ <;> repeat refine nx ?_
  · rw [getD_ge (by omega)]; rfl
  · trivial
instance add_c {a b A B : Nat} {S T : SV} [i : Vw nv S a] [j : Vw nv T b] [p : Sz a A] [q : Sz b B] : Ct Tryz.prog 129 [S, T] (A ≤ 1073741824 ∧ B ≤ 1073741824) (nv (a + b)) := by
  refine ct2 i j (ctI Tryz.call129 Tryz.func129 Tryz.ntmps129 rfl Tryz.results129 rfl [] fun h0 w0 hl => ?_)
  have hp0 := p.h
  have hp1 := q.h
  unfold sz at hp0 hp1
  repeat first | refine nx ?_ | intro _
  rename_i v
  generalize hN : max (digs a).length (digs b).length + 1 = N
  simp only [List.length_replicate]
  refine gLp (fun s : Nat × Nat × List Nat => [(17, iv s.1), (6, .cv (.int .u64 (s.2.1 : Int)))]) (fun s => [rA rU 171 v s.2.2]) (fun s => s.1 ≤ N ∧ s.2.2.length = N ∧ Fit s.2.2 ∧ s.2.1 ≤ 1 ∧ val (s.2.2.take s.1) + s.2.1 * B32 ^ s.1 = val ((digs a).take s.1) + val ((digs b).take s.1)) (fun s => N - s.1) (0, 0, List.replicate N 0) ⟨Nat.zero_le _, List.length_replicate, Fit.replicate _, Nat.zero_le _, by simp [val]⟩ fun ⟨k, c, out⟩ ⟨hk, hl, hf, hc, hv⟩ => ?_
  have bda := (digs_fit a).getD k
  have bdb := (digs_fit b).getD k
  dsimp only at *
  haveI : FtL out := ⟨hf⟩
  repeat first | refine nx ?_ | intro _
  refine gIf (fun c1 => ?_) fun c1 => ?_ <;> repeat first | refine nx ?_ | intro _
  · refine gJ [(6, .cv (.int .u64 ((c + (digs a).getD k 0 : Nat) : Int)))] (fun c2 => ?_) (fun c2 => ?_) ?_ <;> repeat first | refine nx ?_ | intro _
    · exact gM
    · exact gM (by rw [getD_ge (by omega)]; exact ⟨rfl, by trivial⟩)
    · refine gJ [(6, .cv (.int .u64 ((c + (digs a).getD k 0 + (digs b).getD k 0 : Nat) : Int)))] (fun c3 => ?_) (fun c3 => ?_) ?_ <;> repeat first | refine nx ?_ | intro _
      · exact gM
      · exact gM (by rw [getD_ge (l := digs b) (by omega)]; exact ⟨rfl, by trivial⟩)
      · exact gBk (k + 1, (c + (digs a).getD k 0 + (digs b).getD k 0) / 2 ^ 32, out.set k ((c + (digs a).getD k 0 + (digs b).getD k 0) % 4294967296)) ⟨by omega, by rw [List.length_set]; exact hl, hf.set _ _ (Nat.mod_lt _ (by decide)), by have : (2:Nat)^32 = 4294967296 := rfl; dsimp only; omega, add_step (by omega) hv⟩ (by dsimp only; omega)
  · rw [add_close (by omega) (by rw [hl, hN]) hv]
end Go.E3
set_option linter.unusedVariables false
set_option maxRecDepth 20000
set_option synthInstance.maxSize 1000
namespace Go.E3
open Go Go.Ear Go.Proofs
instance sub_c {a b A B : Nat} {S T : SV} [i : Vw nv S a] [j : Vw nv T b] [p : Sz a A] [q : Sz b B] : Ct Tryz.prog 130 [S, T] (A ≤ 1073741824 ∧ B ≤ 1073741824 ∧ b ≤ a) (nv (a - b)) := by
  refine ct2 i j (ctI Tryz.call130 Tryz.func130 Tryz.ntmps130 rfl Tryz.results130 rfl [11] fun h0 w0 hl => ?_)
  have hp0 := p.h
  have hp1 := q.h
  have hsz := sz_mono hl.2.2
  unfold sz at hp0 hp1 hsz
  repeat first | refine nx ?_ | intro _
  rename_i v
  obtain ⟨v, _⟩ := v
  dsimp only
  refine gLp (fun s : Nat × Nat × List Nat => [(14, iv s.1), (6, .cv (.int .u64 (s.2.1 : Int)))]) (fun s => [rA rU 171 v s.2.2]) (fun s => s.1 ≤ (digs a).length ∧ s.2.2.length = (digs a).length ∧ Fit s.2.2 ∧ s.2.1 ≤ 1 ∧ s.2.2.drop s.1 = (digs a).drop s.1 ∧ val (s.2.2.take s.1) + val ((digs b).take s.1) = val ((digs a).take s.1) + s.2.1 * B32 ^ s.1) (fun s => (digs a).length - s.1) (0, 0, digs a) ⟨Nat.zero_le _, rfl, digs_fit a, Nat.zero_le _, rfl, by simp [val]⟩ fun ⟨k, br, out⟩ ⟨hk, hll, hf, hb, hd, hv⟩ => ?_
  have bdb := (digs_fit b).getD k
  have bdo := hf.getD k
  dsimp only at *
  haveI : FtL out := ⟨hf⟩
  repeat first | refine nx ?_ | intro _
  refine gIf (fun c1 => ?_) fun c1 => ?_ <;> repeat first | refine nx ?_ | intro _
  · refine gJ [(9, .cv (.int .u64 ((br + (digs b).getD k 0 : Nat) : Int)))] (fun c3 => ?_) (fun c3 => ?_) ?_ <;> repeat first | refine nx ?_ | intro _
    · exact gM
    · exact gM (by rw [getD_ge (l := digs b) (by omega)]; exact ⟨rfl, by trivial⟩)
    · refine gIf (fun c2 => ?_) fun c2 => ?_ <;> repeat first | refine nx ?_ | intro _
      · refine gBk (k + 1, 1, out.set k ((out.getD k 0 + 4294967296 - (br + (digs b).getD k 0)) % 4294967296)) ⟨by omega, by rw [List.length_set]; exact hll, ?_, Nat.le_refl _, drop_set_succ (by omega) hd, ?_⟩ (by dsimp only; omega)
        · exact hf.set _ _ (Nat.mod_lt _ (by decide))
        · dsimp only; rw [Nat.mod_eq_of_lt (by omega)]; exact sub_step1 (by omega) (by omega) (by omega) hd hv
      · refine gBk (k + 1, 0, out.set k ((out.getD k 0 - (br + (digs b).getD k 0)) % 4294967296)) ⟨by omega, by rw [List.length_set]; exact hll, ?_, Nat.zero_le _, drop_set_succ (by omega) hd, ?_⟩ (by dsimp only; omega)
        · exact hf.set _ _ (Nat.mod_lt _ (by decide))
        · dsimp only; rw [Nat.mod_eq_of_lt (by omega)]; exact sub_step2 (by omega) (by omega) (by omega) hd hv
  · rw [sub_close (by omega) hll hf (by omega) hl.2.2 hv]
instance mul_c {a b A B : Nat} {S T : SV} [i : Vw nv S a] [j : Vw nv T b] [p : Sz a A] [q : Sz b B] : Ct Tryz.prog 128 [S, T] (A ≤ 1073741824 ∧ B ≤ 1073741824) (nv (a * b)) := by
  refine ct2 i j (ctI Tryz.call128 Tryz.func128 Tryz.ntmps128 rfl Tryz.results128 rfl [] fun h0 w0 hl => ?_)
  have hp0 := p.h
  have hp1 := q.h
  unfold sz at hp0 hp1
  repeat first | refine nx ?_ | intro _
  rename_i v
  generalize hLA : (digs a).length = LA at *
  generalize hLB : (digs b).length = LB at *
  refine gLp (fun s : Nat × List Nat => [(19, iv s.1)]) (fun s => [rA rU 171 v s.2]) (fun s => s.1 ≤ LA ∧ s.2.length = LA + LB ∧ Fit s.2 ∧ (∀ t, s.1 + LB ≤ t → s.2.getD t 0 = 0) ∧ val s.2 = val ((digs a).take s.1) * b) (fun s => LA - s.1) (0, List.replicate (LA + LB) 0) ⟨Nat.zero_le _, List.length_replicate, Fit.replicate _, fun t _ => getD_replicate _ t, by simp [val, val_replicate]⟩ fun ⟨x, out⟩ ⟨hi, hll, hf, hz, hv⟩ => ?_
  have bdx := (digs_fit a).getD x
  dsimp only at *
  haveI : FtL out := ⟨hf⟩
  repeat first | refine nx ?_ | intro _
  refine gIf (fun c1 => ?_) fun c1 => ?_ <;> repeat first | refine nx ?_ | intro _
  · refine gLp (fun s : Nat × Nat × List Nat => [(26, iv s.1), (8, .cv (.int .u64 (s.2.1 : Int)))]) (fun s => [rA rU 171 v s.2.2]) (fun s => s.1 ≤ LB ∧ s.2.2.length = LA + LB ∧ Fit s.2.2 ∧ s.2.1 < 4294967296 ∧ (∀ t, x + LB ≤ t → s.2.2.getD t 0 = 0) ∧ val s.2.2 + s.2.1 * B32 ^ (x + s.1) = val ((digs a).take x) * b + (digs a).getD x 0 * val ((digs b).take s.1) * B32 ^ x) (fun s => LB - s.1) (0, 0, out) ⟨Nat.zero_le _, hll, hf, Nat.lt_of_lt_of_le (Nat.zero_lt_one) (by decide), hz, by rw [hv]; simp [val]⟩ fun ⟨y, c, o⟩ ⟨hj, hl2, hf2, hc, hz2, hv2⟩ => ?_
    have bdy := (digs_fit b).getD y
    have bdo := hf2.getD (x + y)
    have bxy := mul_bd bdx bdy
    dsimp only at *
    repeat first | refine nx ?_ | intro _
    refine gIf (fun c2 => ?_) fun c2 => ?_ <;> repeat first | refine nx ?_ | intro _
    · exact gBk (y + 1, (c + ((digs a).getD x 0 * (digs b).getD y 0 + o.getD (x + y) 0)) / 2 ^ 32, o.set (x + y) ((c + ((digs a).getD x 0 * (digs b).getD y 0 + o.getD (x + y) 0)) % 4294967296)) ⟨by omega, by rw [List.length_set]; exact hl2, hf2.set _ _ (Nat.mod_lt _ (by decide)), by dsimp only; have : (2:Nat)^32 = 4294967296 := rfl; omega, fun t ht => by rw [getD_set_ne (by omega)]; exact hz2 t ht, mul_inner (by omega) hv2⟩ (by dsimp only; omega)
    · exact gBk (x + 1, o.set (x + (digs b).length) (c % 4294967296)) ⟨by omega, by rw [List.length_set]; exact hl2, hf2.set _ _ (Nat.mod_lt _ (by decide)), fun t ht => by rw [getD_set_ne (by omega)]; exact hz2 t (by omega), by
        rw [Nat.mod_eq_of_lt hc]
        exact mul_outer (by omega) (by omega) (hz2 _ (by omega)) hv2⟩ (by dsimp only; omega)
  · rw [hv, val_take_all (by omega), val_digs]
end Go.E3
set_option linter.unusedVariables false
set_option maxRecDepth 20000
set_option synthInstance.maxSize 1000
namespace Go.E3
open Go Go.Ear Go.Proofs
instance len32_c {n : Nat} : Ct Tryz.prog 180 [.cv (.int .u32 (n : Int))] (n < 4294967296) (iv (bitlen n)) := by
  refine ctI Tryz.call180 Tryz.func180 Tryz.ntmps180 rfl Tryz.results180 rfl [] fun h0 w0 hl => ?_
  have l16 := lo16_le n
  have l8 := lo8_le (hi16 n)
  have hb := hi_lt hl
  have hbl := bitlen_le hb
  repeat refine nx ?_
  refine gJ [(0, .cv (.int .u32 (hi16 n : Int))), (2, iv (lo16 n))] (fun c => ?_) (fun c => ?_) ?_ <;> repeat refine nx ?_
  · exact gM (by rw [hi16, lo16, if_pos c, if_pos c]; exact ⟨rfl, rfl, by trivial⟩)
  · exact gM (by rw [hi16, lo16, if_neg c, if_neg c]; exact ⟨rfl, rfl, by trivial⟩)
  refine gJ [(0, .cv (.int .u32 (hi8 (hi16 n) : Int))), (2, iv ((lo16 n + lo8 (hi16 n) : Nat) : Int))] (fun c => ?_) (fun c => ?_) ?_ <;> repeat refine nx ?_
  · exact gM (by rw [hi8, lo8, if_pos c, if_pos c]; exact ⟨rfl, rfl, by trivial⟩)
  · exact gM (by rw [hi8, lo8, if_neg c, if_neg c]; exact ⟨rfl, rfl, by trivial⟩)
  refine gTab (s := len8) (len8_at hb) ?_
  repeat refine nx ?_
  rw [len32_eq hl]
instance lz32_c {n : Nat} : Ct Tryz.prog 198 [.cv (.int .u32 (n : Int))] (n < 4294967296) (iv ((32 - bitlen n : Nat) : Int)) := by
  refine ctI Tryz.call198 Tryz.func198 Tryz.ntmps198 rfl Tryz.results198 rfl [] fun h0 w0 hl => ?_
  have hb := bitlen_lt (s := 32) hl
  repeat refine nx ?_
  omega
instance shift_c {a A m : Nat} {S : SV} [i : Vw nv S a] [p : Sz a A] : Ct Tryz.prog 199 [S, iv (m : Int)] (A ≤ 1073741824 ∧ m ≤ 32) (nv (a * 2 ^ m)) := by
  refine ct1 i (ctI Tryz.call199 Tryz.func199 Tryz.ntmps199 rfl Tryz.results199 rfl [] fun h0 w0 ⟨hl, hm⟩ => ?_)
  have hp0 := p.h
  unfold sz at hp0
  have hpw := pow_le32 hm
  repeat first | refine nx ?_ | intro _
  rename_i v
  refine gLp (fun s : Nat × List Nat => [(14, iv s.1)]) (fun s => [rA rU 171 v s.2]) (fun s => s.1 ≤ (digs a).length ∧ s.2.length = (digs a).length + 1 ∧ Fit s.2 ∧ s.2.getD s.1 0 < 2 ^ m ∧ (∀ t, s.1 < t → s.2.getD t 0 = 0) ∧ val s.2 = val ((digs a).take s.1) * 2 ^ m) (fun s => (digs a).length - s.1) (0, List.replicate ((digs a).length + 1) 0) ⟨Nat.zero_le _, List.length_replicate, Fit.replicate _, by rw [getD_replicate]; exact Nat.pow_pos (by decide), fun t _ => getD_replicate _ t, by simp [val, val_replicate]⟩ fun ⟨j, out⟩ ⟨hi, hll, hf, h0, hz, hv⟩ => ?_
  have bdx := (digs_fit a).getD j
  have bdo := hf.getD j
  have ho := or_shl_lt (x := (digs a).getD j 0) hm h0
  dsimp only at *
  haveI : FtL out := ⟨hf⟩
  repeat first | refine nx ?_ | intro _
  refine gIf (fun c1 => ?_) fun c1 => ?_ <;> repeat first | refine nx ?_ | intro _
  · exact gBk (j + 1, (out.set j (out.getD j 0 ||| (digs a).getD j 0 * 2 ^ m % 4294967296)).set (j + 1) ((digs a).getD j 0 / 2 ^ (32 - m) % 4294967296)) ⟨by omega, by rw [List.length_set, List.length_set]; exact hll, (hf.set _ _ ho).set _ _ (Nat.mod_lt _ (by decide)), by
      dsimp only
      rw [getD_set_self (by rw [List.length_set]; omega), Nat.mod_eq_of_lt (Nat.lt_of_le_of_lt (Nat.div_le_self ..) bdx)]; exact hi_lt32 hm bdx, fun t ht => by
      rw [getD_set_ne (by omega), getD_set_ne (by omega)]; exact hz t (by omega), by
      dsimp only
      rw [Nat.mod_eq_of_lt (Nat.lt_of_le_of_lt (Nat.div_le_self ..) bdx)]
      exact shift_step (by omega) hm h0 (hz _ (by omega)) rfl hv⟩ (by dsimp only; omega)
  · rw [shift_close (by omega) hv]
instance over_c {a d A : Nat} {S : SV} [i : Vw nv S a] [p : Sz a A] : Ct Tryz.prog 197 [S, .cv (.int .u32 (d : Int))] (A ≤ 1073741824 ∧ d ≠ 0 ∧ d < 4294967296) (.tp [nv (a / d), .cv (.int .u32 ((a % d : Nat) : Int))]) := by
  refine ct1 i (ctI Tryz.call197 Tryz.func197 Tryz.ntmps197 rfl Tryz.results197 rfl [] fun h0 w0 ⟨hl, hd, hd2⟩ => ?_)
  have hp0 := p.h
  unfold sz at hp0
  repeat first | refine nx ?_ | intro _
  rename_i v
  refine gLp (fun s : Nat × Nat × List Nat => [(8, iv ((s.1 : Int) - 1)), (7, .cv (.int .u64 (s.2.1 : Int)))]) (fun s => [rA rU 171 v s.2.2]) (fun s => s.1 ≤ (digs a).length ∧ s.2.1 < d ∧ s.2.2.length = (digs a).length ∧ Fit s.2.2 ∧ val (s.2.2.drop s.1) * d + s.2.1 = val ((digs a).drop s.1)) (fun s => s.1) ((digs a).length, 0, List.replicate (digs a).length 0) ⟨Nat.le_refl _, by dsimp only; omega, List.length_replicate, Fit.replicate _, by dsimp only; rw [List.drop_of_length_le (by simp), List.drop_of_length_le (Nat.le_refl _)]; simp [val]⟩ fun ⟨k, r, out⟩ ⟨hk, hr, hll, hf, hv⟩ => ?_
  dsimp only at *
  have bd := (digs_fit a).getD (k - 1)
  have eo := or_shift r ((digs a).getD (k - 1) 0) bd
  have rb : r * 2 ^ 32 + (digs a).getD (k - 1) 0 < d * 4294967296 := over_bd hr bd
  have rs := sh_bd hr hd2
  have ro := sh_bd2 hr hd2 bd
  haveI : FtL out := ⟨hf⟩
  repeat first | refine nx ?_ | intro _
  refine gIf (fun c1 => ?_) fun c1 => ?_ <;> repeat first | refine nx ?_ | intro _
  · exact gBk (k - 1, (r * 2 ^ 32 ||| (digs a).getD (k - 1) 0) % d, out.set (k - 1) ((r * 2 ^ 32 ||| (digs a).getD (k - 1) 0) / d % 4294967296)) ⟨by dsimp only; omega, Nat.mod_lt _ (by omega), by rw [List.length_set]; exact hll, hf.set _ _ (Nat.mod_lt _ (by decide)), by
      dsimp only
      rw [Nat.mod_eq_of_lt (by rw [eo]; exact Nat.div_lt_of_lt_mul rb), eo]; exact over_step (by omega) (by omega) (by omega) hv⟩ (by dsimp only; omega)
  · exact ⟨by rw [over_q (by omega) hr hv], by rw [Nat.mod_eq_of_lt (by omega), over_r (by omega) hr hv]⟩
instance down_c {a A m : Nat} {S : SV} [i : Vw nv S a] [p : Sz a A] : Ct Tryz.prog 202 [S, iv (m : Int)] (A ≤ 1073741824 ∧ m ≤ 32) (nv (a / 2 ^ m)) := by
  refine ct1 i (ctI Tryz.call202 Tryz.func202 Tryz.ntmps202 rfl Tryz.results202 rfl [] fun h0 w0 ⟨hl, hm⟩ => ?_)
  have hp0 := p.h
  unfold sz at hp0
  have hpw := pow_le32 hm
  repeat first | refine nx ?_ | intro _
  rename_i v
  refine gLp (fun s : Nat × List Nat => [(12, iv s.1)]) (fun s => [rA rU 171 v s.2]) (fun s => s.1 ≤ (digs a).length ∧ s.2.length = (digs a).length ∧ Fit s.2 ∧ val (s.2.take s.1) = a / 2 ^ m % B32 ^ s.1) (fun s => (digs a).length - s.1) (0, List.replicate (digs a).length 0) ⟨Nat.zero_le _, List.length_replicate, Fit.replicate _, by simp [val, Nat.mod_one]⟩ fun ⟨j, out⟩ ⟨hi, hll, hf, hv⟩ => ?_
  have bdx := (digs_fit a).getD j
  have bdy := (digs_fit a).getD (j + 1)
  have h32 : (2:Nat)^32 = 4294967296 := rfl
  have bdd := down_bd (a := a) (i := j) (by_ := m)
  dsimp only at *
  haveI : FtL out := ⟨hf⟩
  repeat first | refine nx ?_ | intro _
  refine gIf (fun c1 => ?_) fun c1 => ?_ <;> repeat first | refine nx ?_ | intro _
  · exact gBk (j + 1, out.set j (((digs a).getD j 0 ||| (digs a).getD (j + 1) 0 * 2 ^ 32) / 2 ^ m % 4294967296)) ⟨by omega, by rw [List.length_set]; exact hll, hf.set _ _ (Nat.mod_lt _ (by decide)), down_step (by omega) hm hv⟩ (by dsimp only; omega)
  · rw [down_close (by omega) hll hv]
instance shifted_c {a A m : Nat} {S : SV} {x : Int} {sd : Prop} [i : Vw nv S a] [p : Sz a A] [tn : TN x m sd] : Ct Tryz.prog 201 [S, iv x] (sd ∧ A ≤ 1073741824 ∧ m ≤ 1073741824) (nv (a * B32 ^ m)) := by
  refine ct1 i (ctI Tryz.call201 Tryz.func201 Tryz.ntmps201 rfl Tryz.results201 rfl [] fun h0 w0 ⟨hs, hl, hm⟩ => ?_)
  rw [tn.e hs]
  have hp0 := p.h
  have hz := sz_eq_zero (n := a)
  unfold sz at hp0 hz
  repeat first | refine nx ?_ | intro _
  refine gIf (fun c1 => ?_) fun c1 => ?_ <;> repeat first | refine nx ?_ | intro _
  · rw [hz.1 c1, Nat.zero_mul, digs_zero]
  · exact (digs_shift fun e => c1 (hz.2 e)).symm
end Go.E3
set_option linter.unusedVariables false
set_option maxRecDepth 20000
set_option maxHeartbeats 2000000
set_option synthInstance.maxSize 1000
namespace Go.E3
open Go Go.Ear Go.Proofs
instance div_c {a b A B : Nat} {S T : SV} [i : Vw nv S a] [j : Vw nv T b] [p : Sz a A] [q : Sz b B] : Ct Tryz.prog 170 [S, T] (A ≤ 536870912 ∧ B ≤ 536870912 ∧ b ≠ 0) (.tp [nv (a / b), nv (a % b)]) := by
  refine ct2 i j (ctI Tryz.call170 Tryz.func170 Tryz.ntmps170 rfl Tryz.results170 rfl [] fun h0 w0 ⟨hA, hB, hb0⟩ => ?_)
  have hsa := p.h
  have hsb := q.h
  have hpos := sz_pos hb0
  have hpa := p.h
  have hpb := q.h
  unfold sz at hsa hsb hpos
  repeat first | refine nx ?_ | intro _
  refine gIf (fun c1 => ?_) fun c1 => ?_ <;> repeat first | refine nx ?_ | intro _
  · have h := cmpN_neg.1 c1
    exact ⟨by rw [Nat.div_eq_of_lt h, digs_zero], by rw [Nat.mod_eq_of_lt h]⟩
  have hba : b ≤ a := by have := cmpN_neg (a := a) (b := b); omega
  have bdt := (digs_fit b).getD ((digs b).length - 1)
  have bd0 := (digs_fit b).getD 0
  by_cases c0 : (digs b).length = 1
  · have hd0 := digs_one c0
    have hml := Nat.mod_lt a (show 0 < (digs b).getD 0 0 by omega)
    refine gIf (fun c2 => ?_) fun c2 => absurd c0 c2
    repeat first | refine nx ?_ | intro _
    rw [hd0]; exact ⟨rfl, rfl⟩
  refine gIf (fun c2 => absurd c2 c0) fun c2 => ?_
  generalize hbl : bitlen ((digs b).getD ((digs b).length - 1) 0) = bl
  generalize hBY : 32 - bl = m
  have hm : m ≤ 32 := by omega
  have hv0 : b * 2 ^ m ≠ 0 := Nat.mul_ne_zero hb0 (Nat.pos_iff_ne_zero.1 (Nat.pow_pos (by decide)))
  have hsv : sz (b * 2 ^ m) ≤ B + 2 := Nat.le_trans (sz_shift hm) (by omega)
  have hsu : sz (a * 2 ^ m) ≤ A + 2 := Nat.le_trans (sz_shift hm) (by omega)
  have hvu : sz (b * 2 ^ m) ≤ sz (a * 2 ^ m) := sz_mono (Nat.mul_le_mul_right _ hba)
  have hini := div_lt0 hv0 hvu
  have hvp := sz_pos hv0
  have hvt := digs_top hv0
  generalize hVV : b * 2 ^ m = V at *
  generalize hUU : a * 2 ^ m = U at *
  have eV : (digs V).length = sz V := rfl
  have eU : (digs U).length = sz U := rfl
  generalize hVL : sz V = VL at *
  generalize hUL : sz U = UL at *
  haveI szU : Sz U (A + 2) := ⟨by omega⟩
  haveI szV : Sz V (B + 2) := ⟨by omega⟩
  repeat first | refine nx ?_ | intro _
  simp only [hbl, hBY, hVV, hUU, eV, eU]
  repeat first | refine nx ?_ | intro _
  rw [show ((UL : Int) - VL + 1) = ((UL - VL + 1 : Nat) : Int) by omega]
  repeat first | refine nx ?_ | intro _
  rename_i v
  refine gKp [14, 13, 12, 11, 10, 8, 5, 4] ?_
  refine gLp (fun s : Nat × Nat × List Nat => [(14, iv ((s.1 : Int) - 1)), (13, nv s.2.1)]) (fun s => [rA rU 171 v s.2.2]) (fun s => s.1 ≤ UL - VL + 1 ∧ s.2.2.length = UL - VL + 1 ∧ Fit s.2.2 ∧ (∀ t, t < s.1 → s.2.2.getD t 0 = 0) ∧ s.2.1 < V * B32 ^ s.1 ∧ U = val s.2.2 * V + s.2.1) (fun s => s.1) (UL - VL + 1, U, List.replicate (UL - VL + 1) 0) ⟨Nat.le_refl _, List.length_replicate, Fit.replicate _, fun t _ => getD_replicate _ t, hini, by dsimp only; rw [val_replicate]; simp⟩ fun ⟨k, r, q⟩ ⟨hk, hl, hf, hz, hr, hu⟩ => ?_
  dsimp only at *
  have hru : r ≤ U := by rw [hu]; exact Nat.le_add_left ..
  have hsr := sz_mono hru
  have bdT := Fit.getD (digs_fit r) (k - 1 + VL)
  have bdW := Fit.getD (digs_fit r) (k - 1 + VL - 1)
  have bdV := Fit.getD (digs_fit V) (VL - 1)
  have htl := top_lt bdT bdW
  have h32 : (2:Nat)^32 = 4294967296 := rfl
  haveI : Sz r (A + 2) := ⟨by omega⟩
  haveI : FtL q := ⟨hf⟩
  repeat first | refine nx ?_ | intro _
  refine gIf (fun c3 => ?_) fun c3 => ?_ <;> repeat first | refine nx ?_ | intro _
  · refine gKp [16, 14, 13, 12, 11, 10, 8, 5, 4] ?_
    refine gLp (fun g : Nat => [(16, .cv (.int .u64 (g : Int)))]) (fun _ => []) (fun g => g ≤ 4294967295 ∧ r < (g + 1) * (V * B32 ^ (k - 1))) (fun g => g) (min (((digs r).getD (k - 1 + VL) 0 * 2 ^ 32 ||| (digs r).getD (k - 1 + VL - 1) 0) / (digs V).getD (VL - 1) 0) 4294967295) ⟨Nat.min_le_right .., by have := div_guess (r := r) (j := k - 1) hv0 (by rw [show k - 1 + 1 = k by omega]; exact hr); rwa [hVL] at this⟩ fun g ⟨hg1, hg2⟩ => ?_
    have hsg := sz_small (n := g) (by omega)
    have hsp := sz_mul V g
    have hsq := sz_shifted (a := V * g) (k := k - 1)
    haveI : Sz g 2 := ⟨hsg⟩
    haveI : Sz (V * g) (B + 4) := ⟨by omega⟩
    haveI : Sz (V * g * B32 ^ (k - 1)) (A + 8) := ⟨by omega⟩
    repeat first | refine nx ?_ | intro _
    refine gIf (fun c4 => ?_) fun c4 => ?_ <;> repeat first | refine nx ?_ | intro _
    · refine gIf (fun c5 => ?_) fun c5 => ?_ <;> repeat first | refine nx ?_ | intro _
      · exact gBk (g - 1) ⟨by omega, div_dec (by omega) (cmpN_pos.1 c5)⟩ (by omega)
      · have hle : V * g * B32 ^ (k - 1) ≤ r := by have := cmpN_pos (a := V * g * B32 ^ (k - 1)) (b := r); omega
        repeat first | refine nx ?_ | intro _
        exact gBk (k - 1, r - V * g * B32 ^ (k - 1), q.set (k - 1) (g % 4294967296)) ⟨by dsimp only; omega, by rw [List.length_set]; exact hl, hf.set _ _ (Nat.mod_lt _ (by decide)), fun t ht => by dsimp only at ht ⊢; rw [getD_set_ne (by omega)]; exact hz t (by omega), div_next hg2 hle, by
          dsimp only
          rw [Nat.mod_eq_of_lt (by omega)]
          exact div_set (by omega) (hz _ (by omega)) hu hle⟩ (by dsimp only; omega)
    · have hg0 : g = 0 := by omega
      exact gBk (k - 1, r, q) ⟨by dsimp only; omega, hl, hf, fun t ht => hz t (by dsimp only at ht; omega), by rw [hg0, Nat.zero_add, Nat.one_mul] at hg2; exact hg2, hu⟩ (by dsimp only; omega)
  · have hk0 : k = 0 := by omega
    have hrv : r < V := by rw [hk0, Nat.pow_zero, Nat.mul_one] at hr; exact hr
    subst hVV hUU
    have hq := div_q hb0 hu hrv
    rw [hq.1, hq.2]; exact ⟨rfl, rfl⟩
end Go.E3
set_option linter.unusedVariables false
set_option maxRecDepth 20000
set_option maxHeartbeats 2000000
set_option synthInstance.maxSize 1000
namespace Go.E3
open Go Go.Ear Go.Proofs
instance gcd_c {a b A B : Nat} {S T : SV} [i : Vw nv S a] [j : Vw nv T b] [p : Sz a A] [q : Sz b B] : Ct Tryz.prog 142 [S, T] (A ≤ 536870912 ∧ B ≤ 536870912) (nv (Nat.gcd a b)) := by
  refine ct2 i j (ctI Tryz.call142 Tryz.func142 Tryz.ntmps142 rfl Tryz.results142 rfl [] fun h0 w0 ⟨hA, hB⟩ => ?_)
  have hsa := p.h
  have hsb := q.h
  repeat first | refine nx ?_ | intro _
  refine gLp (fun s : Nat × Nat => [(0, nv s.1), (1, nv s.2)]) (fun _ => []) (fun s => sz s.1 ≤ 536870912 ∧ sz s.2 ≤ 536870912 ∧ Nat.gcd s.1 s.2 = Nat.gcd a b) (fun s => s.2) (a, b) ⟨by dsimp only; omega, by dsimp only; omega, rfl⟩ fun ⟨x, y⟩ ⟨hx, hy, hg⟩ => ?_
  dsimp only at *
  have hyz := sz_eq_zero (n := y)
  unfold sz at hyz
  haveI : Sz x 536870912 := ⟨hx⟩
  haveI : Sz y 536870912 := ⟨hy⟩
  repeat first | refine nx ?_ | intro _
  refine gIf (fun c => ?_) fun c => ?_
  · have hy0 : y ≠ 0 := by omega
    have hml := Nat.mod_lt x (Nat.pos_of_ne_zero hy0)
    repeat first | refine nx ?_ | intro _
    exact gBk (y, x % y) ⟨hy, Nat.le_trans (sz_mono (Nat.le_of_lt hml)) hy, by rw [Nat.gcd_comm, ← Nat.gcd_rec, Nat.gcd_comm]; exact hg⟩ hml
  · repeat first | refine nx ?_ | intro _
    rw [← hg, hyz.1 (by omega), Nat.gcd_zero_right]
instance reduced_c {s : Bool} {n d A B : Nat} {S T : SV} [i : Vw nv S n] [j : Vw nv T d] [p : Sz n A] [q : Sz d B] : Ct Tryz.prog 127 [.cv (.bool s), S, T] (A ≤ 536870912 ∧ B ≤ 536870912 ∧ d ≠ 0) (qv (ratOf s n d)) := by
  refine ct3 (v := bv) ⟨fun u => u⟩ i j (ctI Tryz.call127 Tryz.func127 Tryz.ntmps127 rfl Tryz.results127 rfl [] fun h0 w0 ⟨hA, hB, hd⟩ => ?_)
  have hsa := p.h
  have hsb := q.h
  have hgp := gcd_pos' (n := n) hd
  have hgs := sz_mono (Nat.gcd_le_right n (Nat.pos_of_ne_zero hd))
  haveI : Sz (Nat.gcd n d) B := ⟨Nat.le_trans hgs hsb⟩
  repeat first | refine nx ?_ | intro _
  exact ⟨by rw [digs_len_pos]; exact ratOf_neg hd, by rw [ratOf_abs hd], by rw [ratOf_den hd]⟩
instance (priority := low) {a b A B : Nat} [i : Sz a A] [j : Sz b B] : Sz (a * b) (A + B) := ⟨Nat.le_trans (sz_mul a b) (Nat.add_le_add i.h j.h)⟩
instance (priority := low) {a b A B : Nat} [i : Sz a A] [j : Sz b B] : Sz (a + b) (max A B + 1) := ⟨by have := sz_add a b; have := i.h; have := j.h; omega⟩
instance (priority := low) {a b A : Nat} [i : Sz a A] : Sz (a - b) A := ⟨Nat.le_trans (sz_mono (Nat.sub_le ..)) i.h⟩
instance (priority := low) {a b A : Nat} [i : Sz a A] : Sz (a / b) A := ⟨Nat.le_trans (sz_mono (Nat.div_le_self ..)) i.h⟩
instance : Sz 1 1 := ⟨by rw [sz_one]; exact Nat.le_refl _⟩
instance {q : Rat} : Sz q.num.natAbs (bq q) := ⟨bq_num q⟩
instance {q : Rat} : Sz q.den (bq q) := ⟨bq_den q⟩
instance take_c {f : Fr} {q : Rat} {b : Nat} {S : SV} [i : VF S f q b] : Ct Tryz.prog 65 [S] (b ≤ 536870912) (qv q) := by
  have v := i.v
  have t := i.t
  obtain rfl := i.r
  obtain rfl := i.b
  refine ct1 v (ctI Tryz.call65 Tryz.func65 Tryz.ntmps65 rfl Tryz.results65 rfl [] fun h0 w0 h1 => ?_)
  have hbn := bf_n f
  have hbd := bf_d f
  haveI : Sz (val f.n) f.n.length := ⟨sz_len t.h.1⟩
  haveI : Sz (val f.d) f.d.length := ⟨sz_len t.h.2⟩
  have hlz := len_zero (n := val f.d)
  repeat first | refine nx ?_ | intro _
  refine gIf (fun c => ?_) fun c => ?_
  · haveI : Sz 1 1 := ⟨by rw [sz_one]; exact Nat.le_refl _⟩
    repeat first | refine nx ?_ | intro _
    rw [Fr.rat_z c]; exact ⟨rfl, rfl, rfl⟩
  · have hd0 : val f.d ≠ 0 := fun e => c (hlz.2 e)
    repeat first | refine nx ?_ | intro _
    rw [Fr.rat_nz c]; exact ⟨rfl, rfl, rfl⟩
instance zero_c {q : Rat} {S : SV} [i : Vw qv S q] : Ct Tryz.prog 131 [S] True (bv (decide (q = 0))) := by
  refine ct1 i (ctI Tryz.call131 Tryz.func131 Tryz.ntmps131 rfl Tryz.results131 rfl [] fun h0 w0 _ => ?_)
  repeat first | refine nx ?_ | intro _
  exact decide_eq_decide.2 num_zero
instance sign_c {q : Rat} {S : SV} [i : Vw qv S q] : Ct Tryz.prog 68 [S] True (iv (sgQ q)) := by
  refine ct1 i (ctI Tryz.call68 Tryz.func68 Tryz.ntmps68 rfl Tryz.results68 rfl [] fun h0 w0 _ => ?_)
  repeat first | refine nx ?_ | intro _
  refine gIf (fun c => ?_) fun c => ?_ <;> repeat first | refine nx ?_ | intro _
  · simp [sgQ, c]
  refine gIf (fun d => ?_) fun d => ?_ <;> repeat first | refine nx ?_ | intro _ 
  · rw [sgQ, if_neg c, if_pos d]
  · rw [sgQ, if_neg c, if_neg d]
instance minus_c {q : Rat} {S : SV} [i : Vw qv S q] : Ct Tryz.prog 67 [S] True (qv (-q)) := by
  refine ct1 i (ctI Tryz.call67 Tryz.func67 Tryz.ntmps67 rfl Tryz.results67 rfl [] fun h0 w0 _ => ?_)
  repeat first | refine nx ?_ | intro _
  exact ⟨neg_mk, by rw [← neg_abs], by rw [Rat.neg_den]⟩
instance inverse_c {q : Rat} {S : SV} [i : Vw qv S q] : Ct Tryz.prog 157 [S] (q ≠ 0) (qv q⁻¹) := by
  refine ct1 i (ctI Tryz.call157 Tryz.func157 Tryz.ntmps157 rfl Tryz.results157 rfl [] fun h0 w0 hq => ?_)
  repeat first | refine nx ?_ | intro _
  exact ⟨inv_sign, by rw [inv_abs hq], by rw [inv_den hq]⟩
instance nmul_c {a b : Rat} {S T : SV} [i : Vw qv S a] [j : Vw qv T b] : Ct Tryz.prog 125 [S, T] (bq a ≤ 134217728 ∧ bq b ≤ 134217728) (qv (a * b)) := by
  refine ct2 i j (ctI Tryz.call125 Tryz.func125 Tryz.ntmps125 rfl Tryz.results125 rfl [] fun h0 w0 ⟨h1, h2⟩ => ?_)
  have hdab := Nat.mul_ne_zero a.den_nz b.den_nz
  repeat first | refine nx ?_ | intro _
  rw [mul_mk]; exact ⟨rfl, rfl, rfl⟩
instance nadd_c {a b : Rat} {S T : SV} [i : Vw qv S a] [j : Vw qv T b] : Ct Tryz.prog 66 [S, T] (bq a ≤ 134217728 ∧ bq b ≤ 134217728) (qv (a + b)) := by
  refine ct2 i j (ctI Tryz.call66 Tryz.func66 Tryz.ntmps66 rfl Tryz.results66 rfl [] fun h0 w0 ⟨h1, h2⟩ => ?_)
  have hdab := Nat.mul_ne_zero a.den_nz b.den_nz
  repeat first | refine nx ?_ | intro _
  refine gIf (fun c => ?_) fun c => ?_
  · repeat first | refine nx ?_ | intro _
    rw [add_same (by simpa using c)]; exact ⟨rfl, rfl, rfl⟩
  repeat first | refine nx ?_ | intro _
  refine gIf (fun d => ?_) fun d => ?_
  · have hlt := Nat.le_of_lt (cmpN_neg.1 d)
    repeat first | refine nx ?_ | intro _
    rw [add_lt (by simpa using c) hlt]; exact ⟨rfl, rfl, rfl⟩
  · have hge := Nat.le_of_not_lt (fun e => absurd (cmpN_neg.2 e) d)
    repeat first | refine nx ?_ | intro _
    rw [add_ge (by simpa using c) hge]; exact ⟨rfl, rfl, rfl⟩
instance give_c {q : Rat} {S : SV} [i : Vw qv S q] : Ct Tryz.prog 62 [S] (bq q ≤ 1073741824) (kk q) := by
  refine ct1 i (ctI Tryz.call62 Tryz.func62 Tryz.ntmps62 rfl Tryz.results62 rfl [] fun h0 w0 h1 => ?_)
  have hq1 := bq_num q
  have hq2 := bq_den q
  unfold sz at hq1 hq2
  repeat first | refine nx ?_ | intro _
  refine gIf (fun c => ?_) fun c => ?_
  · repeat first | refine nx ?_ | intro _
    exact ⟨rfl, rfl, (if_neg fun e => c (cmpN_one.2 e)).symm⟩
  · repeat first | refine nx ?_ | intro _
    exact ⟨rfl, rfl, if_pos (cmpN_one.1 (by omega))⟩
instance whole_c {n : Int} : Ct Tryz.prog 61 [iv n] (-9223372036854775808 ≤ n ∧ n ≤ 9223372036854775807) (qv (n : Rat)) := by
  refine ctI Tryz.call61 Tryz.func61 Tryz.ntmps61 rfl Tryz.results61 rfl [] fun h0 w0 ⟨h1, h2⟩ => ?_
  repeat first | refine nx ?_ | intro _
  refine gIf (fun c => ?_) fun c => ?_
  · repeat first | refine nx ?_ | intro _
    rw [Rat.num_intCast, Rat.den_intCast, show (-(n + 1)).toNat + 1 = n.natAbs by omega]; exact ⟨(decide_eq_true c).symm, rfl, rfl⟩
  · repeat first | refine nx ?_ | intro _
    rw [Rat.num_intCast, Rat.den_intCast, show n.toNat = n.natAbs by omega]; exact ⟨(decide_eq_false c).symm, rfl, rfl⟩
end Go.E3
set_option linter.unusedVariables false
set_option maxRecDepth 20000
set_option maxHeartbeats 2000000
set_option synthInstance.maxSize 1000
namespace Go.E3
open Go Go.Ear Go.Proofs
instance foldA_c {q : Rat} {l : List Fr} {S T : SV} [i : Vw qv S q] [j : VL T l] : Ct Tryz.prog 124 [S, .cv (.func (.func 66) #[] #[]), T] (bq q + wts l ≤ 134217728) (qv (foldA q l)) := by
  haveI := j.t
  refine ct3 i (v2 := fun _ : Unit => .cv (.func (.func 66) #[] #[])) ⟨fun u => u⟩ j.v (ctI Tryz.call124 Tryz.func124 Tryz.ntmps124 rfl Tryz.results124 rfl [3] fun h0 w0 hb => ?_) (y := ())
  repeat first | refine nx ?_ | intro _
  rename_i v v2
  refine gLp (fun k : Nat => [(11, iv k)]) (fun k => [rV v [.cv (.bool (decide ((foldA q (l.take k)).num < 0))), lv rU (digs (foldA q (l.take k)).num.natAbs), lv rU (digs (foldA q (l.take k)).den)] 112]) (fun k => k ≤ l.length) (fun k => l.length - k) 0 (Nat.zero_le _) fun k hk => ?_
  have hb1 := Nat.le_trans (bq_foldA (l.take k) q fun x hx => j.t.bq x (List.mem_of_mem_take hx)) (Nat.add_le_add_left (wts_take l k) _)
  have hb2 := bf_getD l k
  have hb3 := j.t.bqg k
  have hb6 := bq_pos q
  have hb7 := len_wts l
  repeat first | refine nx ?_ | intro _
  refine gIf (fun c => ?_) fun c => ?_ <;> repeat first | refine nx ?_ | intro _
  · rw [← foldA_succ c]; exact gBk (k + 1) (by omega) (by omega)
  · rw [List.take_of_length_le (by omega)]; exact ⟨rfl, rfl, rfl⟩
instance foldM_c {q : Rat} {l : List Fr} {S T : SV} [i : Vw qv S q] [j : VL T l] : Ct Tryz.prog 124 [S, .cv (.func (.func 125) #[] #[]), T] (bq q + wts l ≤ 134217728) (qv (foldM q l)) := by
  haveI := j.t
  refine ct3 i (v2 := fun _ : Unit => .cv (.func (.func 125) #[] #[])) ⟨fun u => u⟩ j.v (ctI Tryz.call124 Tryz.func124 Tryz.ntmps124 rfl Tryz.results124 rfl [3] fun h0 w0 hb => ?_) (y := ())
  repeat first | refine nx ?_ | intro _
  rename_i v v2
  refine gLp (fun k : Nat => [(11, iv k)]) (fun k => [rV v [.cv (.bool (decide ((foldM q (l.take k)).num < 0))), lv rU (digs (foldM q (l.take k)).num.natAbs), lv rU (digs (foldM q (l.take k)).den)] 112]) (fun k => k ≤ l.length) (fun k => l.length - k) 0 (Nat.zero_le _) fun k hk => ?_
  have hb1 := Nat.le_trans (bq_foldM (l.take k) q fun x hx => j.t.bq x (List.mem_of_mem_take hx)) (Nat.add_le_add_left (wts_take l k) _)
  have hb2 := bf_getD l k
  have hb3 := j.t.bqg k
  have hb6 := bq_pos q
  have hb7 := len_wts l
  repeat first | refine nx ?_ | intro _
  refine gIf (fun c => ?_) fun c => ?_ <;> repeat first | refine nx ?_ | intro _
  · rw [← foldM_succ c]; exact gBk (k + 1) (by omega) (by omega)
  · rw [List.take_of_length_le (by omega)]; exact ⟨rfl, rfl, rfl⟩
instance sum_c {l : List Fr} {S : SV} [j : VL S l] : Ct Tryz.prog 63 [S] (wts l ≤ 134217724) (kk (sumF l)) := by
  haveI := j.t
  refine ct1 j.v (ctI Tryz.call63 Tryz.func63 Tryz.ntmps63 rfl Tryz.results63 rfl [] fun h0 w0 hb => ?_)
  have hbs := bq_foldA l (((0 : Int) : Int) : Rat) j.t.bq
  have hz : bq (((0 : Int) : Int) : Rat) ≤ 2 := bq_intc (by decide) (by decide)
  repeat first | refine nx ?_ | intro _
  exact ⟨rfl, rfl, rfl⟩
instance prod_c {l : List Fr} {S : SV} [j : VL S l] : Ct Tryz.prog 64 [S] (wts l ≤ 134217724) (kk (prodF l)) := by
  haveI := j.t
  refine ct1 j.v (ctI Tryz.call64 Tryz.func64 Tryz.ntmps64 rfl Tryz.results64 rfl [] fun h0 w0 hb => ?_)
  have hbs := bq_foldM l (((1 : Int) : Int) : Rat) j.t.bq
  have hz : bq (((1 : Int) : Int) : Rat) ≤ 2 := bq_intc (by decide) (by decide)
  repeat first | refine nx ?_ | intro _
  exact ⟨rfl, rfl, rfl⟩
instance Add_c {a b : Fr} {x y : Rat} {A B : Nat} {S T : SV} [i : VF S a x A] [j : VF T b y B] : Ct Tryz.prog 21 [S, T] (A + B ≤ 134217000) (kk (x + y)) := by
  haveI := i.t
  haveI := j.t
  refine ct2 i.v j.v (ctI Tryz.call21 Tryz.func21 Tryz.ntmps21 rfl Tryz.results21 rfl [] fun h0 w0 hb => ?_)
  obtain rfl := i.r
  obtain rfl := j.r
  obtain rfl := i.b
  obtain rfl := j.b
  have hw := wts2 a b
  repeat first | refine nx ?_ | intro _
  rw [sumF2]; exact ⟨rfl, rfl, rfl⟩
instance Mul_c {a b : Fr} {x y : Rat} {A B : Nat} {S T : SV} [i : VF S a x A] [j : VF T b y B] : Ct Tryz.prog 22 [S, T] (A + B ≤ 134217000) (kk (x * y)) := by
  haveI := i.t
  haveI := j.t
  refine ct2 i.v j.v (ctI Tryz.call22 Tryz.func22 Tryz.ntmps22 rfl Tryz.results22 rfl [] fun h0 w0 hb => ?_)
  obtain rfl := i.r
  obtain rfl := j.r
  obtain rfl := i.b
  obtain rfl := j.b
  have hw := wts2 a b
  repeat first | refine nx ?_ | intro _
  rw [prodF2]; exact ⟨rfl, rfl, rfl⟩
instance Sub_c {a b : Fr} {x y : Rat} {A B : Nat} {S T : SV} [i : VF S a x A] [j : VF T b y B] : Ct Tryz.prog 168 [S, T] (A + B ≤ 134217000) (kk (x - y)) := by
  refine ct2 i.v j.v (ctI Tryz.call168 Tryz.func168 Tryz.ntmps168 rfl Tryz.results168 rfl [] fun h0 w0 hb => ?_)
  have h1 := i.le
  have h2 := j.le
  obtain ⟨_, _, rfl, rfl⟩ := i
  obtain ⟨_, _, rfl, rfl⟩ := j
  have hn := bq_neg b.rat
  have hsb := bq_sub a.rat b.rat
  rw [Rat.sub_eq_add_neg] at hsb
  repeat first | refine nx ?_ | intro _
  rw [Rat.sub_eq_add_neg]; exact ⟨rfl, rfl, rfl⟩
instance Cmp_c {a b : Fr} {x y : Rat} {A B : Nat} {S T : SV} [i : VF S a x A] [j : VF T b y B] : Ct Tryz.prog 23 [S, T] (A + B ≤ 134217000) (iv (sgQ (x - y))) := by
  refine ct2 i.v j.v (ctI Tryz.call23 Tryz.func23 Tryz.ntmps23 rfl Tryz.results23 rfl [] fun h0 w0 hb => ?_)
  have h1 := i.le
  have h2 := j.le
  obtain ⟨_, _, rfl, rfl⟩ := i
  obtain ⟨_, _, rfl, rfl⟩ := j
  have hn := bq_neg b.rat
  repeat first | refine nx ?_ | intro _
  rw [Rat.sub_eq_add_neg]
instance Sign_c {a : Fr} {x : Rat} {A : Nat} {S : SV} [i : VF S a x A] : Ct Tryz.prog 32 [S] (A ≤ 134217000) (iv (sgQ x)) := by
  refine ct1 i.v (ctI Tryz.call32 Tryz.func32 Tryz.ntmps32 rfl Tryz.results32 rfl [] fun h0 w0 hb => ?_)
  obtain ⟨_, _, rfl, rfl⟩ := i
  repeat first | refine nx ?_ | intro _
  trivial
end Go.E3
set_option linter.unusedVariables false
set_option maxRecDepth 20000
set_option maxHeartbeats 2000000
set_option synthInstance.maxSize 1000
namespace Go.E3
open Go Go.Ear Go.Proofs
instance Of_c {n : Int} : Ct Tryz.prog 20 [iv n] (-9223372036854775808 ≤ n ∧ n ≤ 9223372036854775807) (kk (n : Rat)) := by
  refine (ctI Tryz.call20 Tryz.func20 Tryz.ntmps20 rfl Tryz.results20 rfl [] fun h0 w0 ⟨h1, h2⟩ => ?_)
  have hsb := bq_intc h1 h2
  repeat first | refine nx ?_ | intro _
  exact ⟨trivial, trivial, trivial⟩
instance Div_c {a b : Fr} {x y : Rat} {A B : Nat} {S T : SV} [i : VF S a x A] [j : VF T b y B] : Ct Tryz.prog 107 [S, T] (A + B ≤ 134217000) (.tp [kk (x / y), iv (errDiv y)]) := by
  refine ct2 i.v j.v (ctI Tryz.call107 Tryz.func107 Tryz.ntmps107 rfl Tryz.results107 rfl [] fun h0 w0 hb => ?_)
  have h1 := i.le
  have h2 := j.le
  obtain ⟨_, _, rfl, rfl⟩ := i
  obtain ⟨_, _, rfl, rfl⟩ := j
  have hsb := bq_div a.rat b.rat
  rw [Rat.div_def] at hsb
  have hiv := bq_inv' b.rat
  repeat first | refine nx ?_ | intro _
  refine gIf (fun c => ?_) fun c => ?_ <;> repeat first | refine nx ?_ | intro _
  · rw [c, div_zero', frK_zero]; exact ⟨⟨rfl, rfl, rfl⟩, (if_pos rfl).symm⟩
  · rw [Rat.div_def]; exact ⟨⟨rfl, rfl, rfl⟩, (if_neg c).symm⟩
end Go.E3
set_option linter.unusedVariables false
set_option maxRecDepth 20000
set_option maxHeartbeats 4000000
set_option synthInstance.maxSize 1000
namespace Go.E3
open Go Go.Ear Go.Proofs
theorem getD_in {α : Type} {l : List α} {k : Nat} (d : α) (h : k < l.length) : l.getD k d ∈ l := by rw [List.getD_eq_getElem?_getD, List.getElem?_eq_getElem h]; exact List.getElem_mem h
theorem cB1 {α : Type} {v : α → SV} {x : α} {P : Program} {f : FuncId} {sd : Prop} {S R : SV} {l : List SV} {B : List Res} (i : Vw v S x) (c : CtB P f (v x :: l) B sd R) : CtB P f (S :: l) B sd R := ⟨c.fn, fun a w0 h w vs s o u => by
  match vs, u with
  | _ :: _, u => exact c.h a s o ⟨i.h u.1, u.2⟩⟩
def cmpI (a b : Int) : Int := if a < b then -1 else if b < a then 1 else 0
def ordI : List Int → List Int → Int
  | [], [] => 0
  | [], _ :: _ => -1
  | _ :: _, [] => 1
  | a :: x, b :: y => if cmpI a b = 0 then ordI x y else cmpI a b
theorem ordI_drop : ∀ {k : Nat} {a b : List Int}, (∀ i, i < k → a.getD i 0 = b.getD i 0) → k ≤ a.length → k ≤ b.length → ordI a b = ordI (a.drop k) (b.drop k)
  | 0, a, b, _, _, _ => rfl
  | k + 1, [], _, _, h, _ => by simp at h
  | k + 1, _ :: _, [], _, _, h => by simp at h
  | k + 1, x :: a, y :: b, h, h1, h2 => by
    have h0 : x = y := h 0 (by omega)
    subst h0
    rw [List.drop_succ_cons, List.drop_succ_cons, ← ordI_drop (k := k) (fun i hi => h (i + 1) (by omega)) (by simpa using h1) (by simpa using h2)]
    have : cmpI x x = 0 := by unfold cmpI; rw [if_neg (by omega), if_neg (by omega)]
    show (if cmpI x x = 0 then ordI a b else cmpI x x) = _
    rw [if_pos this]
theorem ordI_at {a b : List Int} {k : Nat} (h : ∀ i, i < k → a.getD i 0 = b.getD i 0) (h1 : k < a.length) (h2 : k < b.length) (hn : cmpI (a.getD k 0) (b.getD k 0) ≠ 0) : ordI a b = cmpI (a.getD k 0) (b.getD k 0) := by
  rw [ordI_drop h (by omega) (by omega), List.drop_eq_getElem_cons h1, List.drop_eq_getElem_cons h2]
  rw [List.getD_eq_getElem?_getD, List.getElem?_eq_getElem h1, List.getD_eq_getElem?_getD, List.getElem?_eq_getElem h2] at *
  show (if cmpI a[k] b[k] = 0 then _ else cmpI a[k] b[k]) = _
  rw [if_neg (by simpa using hn)]; rfl
theorem ordI_end {a b : List Int} {k : Nat} (h : ∀ i, i < k → a.getD i 0 = b.getD i 0) (hk : k = min a.length b.length) : ordI a b = cmpI (a.length : Int) (b.length : Int) := by
  rw [ordI_drop h (by omega) (by omega)]
  unfold cmpI
  rcases Nat.lt_trichotomy a.length b.length with x | x | x
  · rw [List.drop_eq_nil_of_le (by omega : a.length ≤ k), List.drop_eq_getElem_cons (by omega : k < b.length), if_pos (by omega)]; rfl
  · rw [List.drop_eq_nil_of_le (by omega : a.length ≤ k), List.drop_eq_nil_of_le (by omega : b.length ≤ k), if_neg (by omega), if_neg (by omega)]; rfl
  · rw [List.drop_eq_nil_of_le (by omega : b.length ≤ k), List.drop_eq_getElem_cons (by omega : k < a.length), if_neg (by omega), if_pos (by omega)]; rfl
instance nan_c {a : Int} : Ct Tryz.prog 183 [iv a] True (bv false) := by
  refine (ctI Tryz.call183 Tryz.func183 Tryz.ntmps183 rfl Tryz.results183 rfl [] fun h0 w0 _ => ?_)
  repeat first | refine nx ?_ | intro _
  simp
instance cmpI_c {a b : Int} : Ct Tryz.prog 137 [iv a, iv b] True (iv (cmpI a b)) := by
  refine (ctI Tryz.call137 Tryz.func137 Tryz.ntmps137 rfl Tryz.results137 rfl [] fun h0 w0 _ => ?_)
  unfold cmpI
  repeat first | refine nx ?_ | intro _
  refine gIf (fun c => ?_) fun c => ?_ <;> repeat first | refine nx ?_ | intro _
  · rw [if_pos c]
  · rw [if_neg c]
    refine gIf (fun c => ?_) fun c => ?_ <;> repeat first | refine nx ?_ | intro _
    · rw [if_pos c]
    · rw [if_neg c]
instance sgn_c {a : Int} : Ct Tryz.prog 77 [iv a] True (iv (cmpI a 0)) := by
  refine (ctI Tryz.call77 Tryz.func77 Tryz.ntmps77 rfl Tryz.results77 rfl [] fun h0 w0 _ => ?_)
  unfold cmpI
  repeat first | refine nx ?_ | intro _
  refine gIf (fun c => ?_) fun c => ?_ <;> repeat first | refine nx ?_ | intro _
  · rw [if_pos c]
  · rw [if_neg c]
    refine gIf (fun c => ?_) fun c => ?_ <;> repeat first | refine nx ?_ | intro _
    · rw [if_pos c]
    · rw [if_neg c]
instance compI_c {a b : List Int} {S T : SV} [j : Vw (lv rI) S a] [k : Vw (lv rI) T b] : Ct Tryz.prog 105 [S, T] (a.length ≤ 1099511627776 ∧ b.length ≤ 1099511627776) (iv (ordI a b)) := by
  refine ct2 j k (ctI Tryz.call105 Tryz.func105 Tryz.ntmps105 rfl Tryz.results105 rfl [] fun h0 w0 ⟨h1, h2⟩ => ?_)
  repeat first | refine nx ?_ | intro _
  refine gLp (fun k : Nat => [(12, iv k)]) (fun _ => []) (fun k => k ≤ min a.length b.length ∧ ∀ i, i < k → a.getD i 0 = b.getD i 0) (fun k => min a.length b.length - k) 0 ⟨Nat.zero_le _, fun i hi => by omega⟩ fun k ⟨hk, hn⟩ => ?_
  repeat first | refine nx ?_ | intro _
  refine gIf (fun c1 => ?_) fun c1 => ?_
  · repeat first | refine gDs 10 9 (by rfl) (by kernel_rfl) ?_ | refine nx ?_ | intro _
    refine gIf (fun c2 => ?_) fun c2 => ?_ <;> repeat first | refine nx ?_ | intro _
    · rw [ordI_at hn (by omega) (by omega) c2]
    · refine gBk (k + 1) ⟨by omega, fun i hi => ?_⟩ (by omega)
      by_cases e : i = k
      · subst e
        have c2 := Classical.not_not.1 c2
        unfold cmpI at c2
        split at c2
        · cases c2
        · split at c2
          · cases c2
          · omega
      · exact hn i (by omega)
  · repeat first | refine nx ?_ | intro _
    rw [ordI_end hn (by omega)]
instance ordI_c {a b : List Int} {S T : SV} [j : Vw (lv rI) S a] [k : Vw (lv rI) T b] : Ct Tryz.prog 29 [S, T] (a.length ≤ 1099511627776 ∧ b.length ≤ 1099511627776) (iv (ordI a b)) := by
  refine ct2 j k (ctI Tryz.call29 Tryz.func29 Tryz.ntmps29 rfl Tryz.results29 rfl [] fun h0 w0 ⟨h1, h2⟩ => ?_)
  repeat first | refine nx ?_ | intro _
  refine gLp (fun k : Nat => [(5, iv k)]) (fun _ => []) (fun k => k ≤ min a.length b.length ∧ ∀ i, i < k → a.getD i 0 = b.getD i 0) (fun k => min a.length b.length - k) 0 ⟨Nat.zero_le _, fun i hi => by omega⟩ fun k ⟨hk, hn⟩ => ?_
  repeat first | refine nx ?_ | intro _
  refine gIf (fun c1 => ?_) fun c1 => ?_
  · repeat first | refine nx ?_ | intro _
    refine gIf (fun c2 => ?_) fun c2 => ?_ <;> repeat first | refine nx ?_ | intro _
    · have e : cmpI (a.getD k 0) (b.getD k 0) = -1 := if_pos c2
      rw [ordI_at hn (by omega) (by omega) (by rw [e]; decide), e]
    · refine gIf (fun c3 => ?_) fun c3 => ?_ <;> repeat first | refine nx ?_ | intro _
      · have e : cmpI (a.getD k 0) (b.getD k 0) = 1 := by unfold cmpI; rw [if_neg c2, if_pos c3]
        rw [ordI_at hn (by omega) (by omega) (by rw [e]; decide), e]
      · refine gBk (k + 1) ⟨by omega, fun i hi => ?_⟩ (by omega)
        by_cases e : i = k
        · subst e; omega
        · exact hn i (by omega)
  · repeat first | refine nx ?_ | intro _
    rw [ordI_end hn (by omega)]
    unfold cmpI
    repeat' split
    all_goals omega
end Go.E3
set_option linter.unusedVariables false
set_option maxRecDepth 20000
set_option maxHeartbeats 4000000
set_option synthInstance.maxSize 1000
namespace Go.E3
open Go Go.Ear Go.Proofs
def cmpL : List UInt8 → List UInt8 → Int
  | [], [] => 0
  | [], _ :: _ => -1
  | _ :: _, [] => 1
  | a :: x, b :: y => if a = b then cmpL x y else if a < b then -1 else 1
def cmpS (a b : ByteArray) : Int := cmpL a.data.toList b.data.toList
theorem less_cmp : ∀ x y : List UInt8, Op.bytesLess x y = decide (cmpL x y < 0)
  | [], [] => rfl
  | [], _ :: _ => rfl
  | _ :: _, [] => rfl
  | a :: x, b :: y => by
    unfold Op.bytesLess cmpL
    rw [less_cmp x y]
    by_cases h : a = b
    · subst h
      have : ¬ a < a := by simp [UInt8.lt_iff_toNat_lt]
      simp [this]
    · rw [if_neg h]
      by_cases h2 : a < b
      · simp [h2]
      · simp [h, h2]
theorem cmpL_eq : ∀ x y : List UInt8, cmpL x y = 0 ↔ x = y
  | [], [] => by simp [cmpL]
  | [], _ :: _ => by simp [cmpL]
  | _ :: _, [] => by simp [cmpL]
  | a :: x, b :: y => by
    unfold cmpL
    by_cases h : a = b
    · rw [if_pos h, cmpL_eq x y, h]; simp
    · rw [if_neg h]
      by_cases h2 : a < b <;> simp [h, h2]
theorem cmpL_rng : ∀ x y : List UInt8, cmpL x y = -1 ∨ cmpL x y = 0 ∨ cmpL x y = 1
  | [], [] => by simp [cmpL]
  | [], _ :: _ => by simp [cmpL]
  | _ :: _, [] => by simp [cmpL]
  | a :: x, b :: y => by
    unfold cmpL
    by_cases h : a = b
    · rw [if_pos h]; exact cmpL_rng x y
    · rw [if_neg h]
      by_cases h2 : a < b <;> simp [h2]
theorem cmpS_eq {a b : ByteArray} : cmpS a b = 0 ↔ a = b := by
  unfold cmpS
  rw [cmpL_eq]
  refine ⟨fun h => ?_, fun h => by rw [h]⟩
  cases a; cases b
  simpa using h
theorem find_list : ∀ x y : List UInt8, (match (List.range (min x.length y.length)).find? (fun i => x.getD i 0 != y.getD i 0) with | some i => if x.getD i 0 < y.getD i 0 then (-1 : Int) else 1 | none => if x.length < y.length then -1 else if x.length > y.length then 1 else 0) = cmpL x y
  | [], [] => rfl
  | [], _ :: _ => by simp [cmpL]
  | _ :: _, [] => by simp [cmpL]
  | a :: x, b :: y => by
    rw [List.length_cons, List.length_cons, show min (x.length + 1) (y.length + 1) = min x.length y.length + 1 by omega, Lib.find_range_succ]
    have ih := find_list x y
    unfold cmpL
    by_cases h : a = b
    · subst h
      simp only [List.getD_cons_zero, bne_self_eq_false, Bool.false_eq_true, if_false, List.getD_cons_succ, if_true]
      rw [← ih]
      cases List.find? (fun i => x.getD i 0 != y.getD i 0) (List.range (min x.length y.length)) with
      | none => simp
      | some i => simp
    · rw [if_neg h]
      have hb : (a != b) = true := by simpa using h
      simp [hb]
theorem cmp_str (a b : ByteArray) : Extern.BytealgCompare.cmp a b = cmpS a b := by
  obtain ⟨⟨x⟩⟩ := a
  obtain ⟨⟨y⟩⟩ := b
  unfold cmpS
  rw [← find_list]
  unfold Extern.BytealgCompare.cmp
  have g : ∀ (l : List UInt8) (i : Nat), i < l.length → (ByteArray.mk l.toArray)[i]! = l.getD i 0 := fun l i hi => by
    rw [show (ByteArray.mk l.toArray)[i]! = l[i] from getElem!_pos (ByteArray.mk l.toArray) i hi]; simp [List.getD, List.getElem?_eq_getElem hi]
  have e : (List.range (min (ByteArray.mk x.toArray).size (ByteArray.mk y.toArray).size)).find? (fun i => (ByteArray.mk x.toArray)[i]! != (ByteArray.mk y.toArray)[i]!) = (List.range (min x.length y.length)).find? (fun i => x.getD i 0 != y.getD i 0) := by
    apply Lib.find_congr
    intro i hi
    have hi' := List.mem_range.1 hi
    have h1 : i < min x.length y.length := hi'
    rw [g x i (by omega), g y i (by omega)]
  rw [e]
  show _ = match (List.range (min x.length y.length)).find? (fun i => x.getD i 0 != y.getD i 0) with | some i => _ | none => _
  cases hf : (List.range (min x.length y.length)).find? (fun i => x.getD i 0 != y.getD i 0) with
  | none => rfl
  | some i =>
    have hi := List.mem_range.1 (List.mem_of_find?_eq_some hf)
    show (if (ByteArray.mk x.toArray)[i]! < (ByteArray.mk y.toArray)[i]! then (-1 : Int) else 1) = _
    rw [g x i (by omega), g y i (by omega)]
theorem call209 (args : Array Value) (w : World) : (callFunc 209 args).run Tryz.prog w = ((Extern.BytealgCompare.compare args).run Tryz.prog w).andThen fun v w' => .ok (.value v) w' :=
  run_callFunc_extern Tryz.func209 (by kernel_rfl) (by kernel_rfl) (by kernel_rfl) (by kernel_rfl) args w
section
variable {P : Program} {n : Nat} {c : Bool} {loc env : EL} {B : List Res} {ms : List Nat} {d : Nat} {x y : Operand} {t u : TypeId} {s1 s2 : ByteArray} {k : IntKind} {i : Int} {a : Nat}
theorem OpW.cmpStr {bo : BinOp} {r : Bool} {ρ : Env} {w : World} {K : Env → World → Prop} {ty : TypeId} {pos : String} {af : Array Edge} {g : Option (Nat × Bool)} (hx : ev n ρ x = .string s1) (hy : ev n ρ y = .string s2) (h : (Op.stringOp bo s1 s2).run P w = .ok (.bool r) w) (hb : (binOp bo t (.string s1) (.string s2)) = Op.stringOp bo s1 s2)
    (hk : K (upd ρ d (.bool r)) w) : OpW P n ⟨some d, .binOp bo t x y u, ty, pos, af, g⟩ ρ w K := by
  refine OpW.valD ?_ hk
  have he : (eqGuard bo t x y (.string s1) (.string s2)).run P w = .ok () w := by unfold eqGuard; split <;> rfl
  simp only [execOp, hx, hy, Sem.run_bind, he, Result.andThen, hb, h]; rfl
instance [lx : Lu n c loc env x (.cv (.string s1))] [ly : Lu n c loc env y (.cv (.string s2))] : St P n c loc env B ms d (.binOp .lss t x y u) True (bv (decide (cmpS s1 s2 < 0))) := .p fun q _ _ _ _ _ w s _ _ _ _ _ kk => OpW.cmpStr (cvE (lx.h q (s.f x))) (cvE (ly.h q (s.f y))) (r := decide (cmpS s1 s2 < 0)) (by
  simp only [Op.stringOp, ByteArray.toList_eq, less_cmp]; rfl) rfl (kk _ rfl)
instance [lx : Lu n c loc env x (.cv (.string s1))] [ly : Lu n c loc env y (.cv (.string s2))] : St P n c loc env B ms d (.binOp .gtr t x y u) True (bv (decide (0 < cmpS s1 s2))) := .p fun q _ _ _ _ _ w s _ _ _ _ _ kk => OpW.cmpStr (cvE (lx.h q (s.f x))) (cvE (ly.h q (s.f y))) (r := decide (0 < cmpS s1 s2)) (by
  simp only [Op.stringOp, ByteArray.toList_eq, less_cmp]
  have e : (!(decide (cmpL s1.data.toList s2.data.toList < 0) || s1.data.toList == s2.data.toList)) = decide (0 < cmpS s1 s2) := by
    unfold cmpS
    generalize s1.data.toList = l1
    generalize s2.data.toList = l2
    have h1 := cmpL_eq l1 l2
    have h2 : (l1 == l2) = decide (cmpL l1 l2 = 0) := by rw [Bool.eq_iff_iff, beq_iff_eq, decide_eq_true_iff, h1]
    rw [h2]
    rcases cmpL_rng l1 l2 with h | h | h <;> rw [h] <;> rfl
  rw [e]; rfl) rfl (kk _ rfl)
instance [lx : Lu n c loc env x (.cv (.string s1))] [ly : Lu n c loc env y (.cv (.string s2))] : St P n c loc env B ms d (.binOp .eql t x y u) True (bv (decide (s1 = s2))) := .p fun q _ _ _ _ _ w s _ _ _ _ _ kk => OpW.cmpStr (cvE (lx.h q (s.f x))) (cvE (ly.h q (s.f y))) (r := decide (s1 = s2)) (by
  simp only [Op.stringOp]
  have e : (s1.toList == s2.toList) = decide (s1 = s2) := by rw [← beq_toListBytes, bbq]
  rw [e]; rfl) rfl (kk _ rfl)
instance [lx : Lu n c loc env x (.cv (.string s1))] [ly : Lu n c loc env y (.cv (.string s2))] : St P n c loc env B ms d (.binOp .neq t x y u) True (bv (decide (s1 ≠ s2))) := .p fun q _ _ _ _ _ w s _ _ _ _ _ kk => OpW.cmpStr (cvE (lx.h q (s.f x))) (cvE (ly.h q (s.f y))) (r := decide (s1 ≠ s2)) (by
  simp only [Op.stringOp]
  have e : (!(s1.toList == s2.toList)) = decide (s1 ≠ s2) := by rw [← beq_toListBytes, bbq]; simp
  rw [e]; rfl) rfl (kk _ rfl)
def chr (s : ByteArray) (a : Nat) : Nat := ((s[a]?).map UInt8.toNat).getD 0
instance [ts : TStr P t] [lx : Lu n c loc env x (.cv (.string s1))] [ly : Lu n c loc env y (.cv (.int k i))] [a1 : IN i a] : St P n c loc env B ms d (.index t x y) (a < s1.size) (.cv (.int .u8 ((chr s1 a : Nat) : Int))) := .p fun q hs _ _ _ _ w s _ _ _ _ _ kk => by
  have hb : s1[a]? = some (s1[a]'hs) := getElem?_pos s1 a hs
  refine OpW.indexStr ts.h (cvE (lx.h q (s.f x))) ((cvE (ly.h q (s.f y))).trans (by rw [a1.e])) hb (kk _ ?_)
  show _ = _
  unfold chr; rw [hb]; rfl
end
end Go.E3
set_option linter.unusedVariables false
set_option maxRecDepth 20000
set_option maxHeartbeats 4000000
set_option synthInstance.maxSize 1000
namespace Go.E3
open Go Go.Ear Go.Proofs
section
variable {n : Nat} {c : Bool} {loc env : EL} {B : List Res} {ms : List Nat} {d : Nat} {x y : Operand} {s1 s2 : ByteArray} {ts : Array TypeId}
instance [lx : Lu n c loc env x (.cv (.string s1))] [ly : Lu n c loc env y (.cv (.string s2))] : St Tryz.prog n c loc env B ms d (.call ⟨.value (.func 209), [x, y].toArray, ts⟩) True (iv (cmpS s1 s2)) := .p fun q _ _ _ ρ _ w s _ _ _ _ _ kk => by
  have hx := cvE (lx.h q (s.f x))
  have hy := cvE (ly.h q (s.f y))
  refine OpW.valD (v := .int .i64 (cmpS s1 s2)) (w' := w) ?_ (kk _ rfl)
  have hc := call209 #[.string s1, .string s2] w
  have h2 : (Extern.BytealgCompare.compare #[.string s1, .string s2]).run Tryz.prog w = .ok (.int .i64 (cmpS s1 s2)) w := by
    rw [← cmp_str]; rfl
  rw [h2] at hc
  have hm : [x, y].map (ev n ρ) = [.string s1, .string s2] := by rw [List.map_cons, List.map_cons, List.map_nil, hx, hy]
  simp only [execOp, resolve, ev, Deferred.ofValue, Sem.run_bind, Sem.run_pure, Result.andThen, invoke, List.map_toArray, hm]
  simpa using hc
end
instance snan_c {a : ByteArray} : Ct Tryz.prog 182 [.cv (.string a)] True (bv false) := by
  refine (ctI Tryz.call182 Tryz.func182 Tryz.ntmps182 rfl Tryz.results182 rfl [] fun h0 w0 _ => ?_)
  repeat first | refine nx ?_ | intro _
  simp
instance bcmp_c {a b : ByteArray} : Ct Tryz.prog 187 [.cv (.string a), .cv (.string b)] True (iv (cmpS a b)) := by
  refine (ctI Tryz.call187 Tryz.func187 Tryz.ntmps187 rfl Tryz.results187 rfl [] fun h0 w0 _ => ?_)
  repeat first | refine nx ?_ | intro _
  trivial
instance scmp_c {a b : ByteArray} : Ct Tryz.prog 143 [.cv (.string a), .cv (.string b)] True (iv (cmpS a b)) := by
  refine (ctI Tryz.call143 Tryz.func143 Tryz.ntmps143 rfl Tryz.results143 rfl [] fun h0 w0 _ => ?_)
  repeat first | refine nx ?_ | intro _
  trivial
theorem cmpS_rng (a b : ByteArray) : cmpS a b = -1 ∨ cmpS a b = 0 ∨ cmpS a b = 1 := cmpL_rng ..
instance cmpQ_c {a b : ByteArray} : Ct Tryz.prog 136 [.cv (.string a), .cv (.string b)] True (iv (cmpS a b)) := by
  refine (ctI Tryz.call136 Tryz.func136 Tryz.ntmps136 rfl Tryz.results136 rfl [] fun h0 w0 _ => ?_)
  have hr := cmpS_rng a b
  repeat first | refine nx ?_ | intro _
  refine gIf (fun c => ?_) fun c => ?_ <;> repeat first | refine nx ?_ | intro _
  · rw [show cmpS a b = -1 by omega]
  · refine gIf (fun c => ?_) fun c => ?_ <;> repeat first | refine nx ?_ | intro _
    · rw [show cmpS a b = 1 by omega]
    · rw [show cmpS a b = 0 by omega]
def ordS : List ByteArray → List ByteArray → Int
  | [], [] => 0
  | [], _ :: _ => -1
  | _ :: _, [] => 1
  | a :: x, b :: y => if cmpS a b = 0 then ordS x y else cmpS a b
theorem cmpS_self (a : ByteArray) : cmpS a a = 0 := cmpS_eq.2 rfl
theorem ordS_drop : ∀ {k : Nat} {a b : List ByteArray}, (∀ i, i < k → a.getD i ByteArray.empty = b.getD i ByteArray.empty) → k ≤ a.length → k ≤ b.length → ordS a b = ordS (a.drop k) (b.drop k)
  | 0, a, b, _, _, _ => rfl
  | k + 1, [], _, _, h, _ => by simp at h
  | k + 1, _ :: _, [], _, _, h => by simp at h
  | k + 1, x :: a, y :: b, h, h1, h2 => by
    have h0 : x = y := h 0 (by omega)
    subst h0
    rw [List.drop_succ_cons, List.drop_succ_cons, ← ordS_drop (k := k) (fun i hi => h (i + 1) (by omega)) (by simpa using h1) (by simpa using h2)]
    show (if cmpS x x = 0 then ordS a b else cmpS x x) = _
    rw [if_pos (cmpS_self x)]
theorem ordS_at {a b : List ByteArray} {k : Nat} (h : ∀ i, i < k → a.getD i ByteArray.empty = b.getD i ByteArray.empty) (h1 : k < a.length) (h2 : k < b.length) (hn : cmpS (a.getD k ByteArray.empty) (b.getD k ByteArray.empty) ≠ 0) : ordS a b = cmpS (a.getD k ByteArray.empty) (b.getD k ByteArray.empty) := by
  rw [ordS_drop h (by omega) (by omega), List.drop_eq_getElem_cons h1, List.drop_eq_getElem_cons h2]
  rw [List.getD_eq_getElem?_getD, List.getElem?_eq_getElem h1, List.getD_eq_getElem?_getD, List.getElem?_eq_getElem h2] at *
  show (if cmpS a[k] b[k] = 0 then _ else cmpS a[k] b[k]) = _
  rw [if_neg (by simpa using hn)]; rfl
theorem ordS_end {a b : List ByteArray} {k : Nat} (h : ∀ i, i < k → a.getD i ByteArray.empty = b.getD i ByteArray.empty) (hk : k = min a.length b.length) : ordS a b = cmpI (a.length : Int) (b.length : Int) := by
  rw [ordS_drop h (by omega) (by omega)]
  unfold cmpI
  rcases Nat.lt_trichotomy a.length b.length with x | x | x
  · rw [List.drop_eq_nil_of_le (by omega : a.length ≤ k), List.drop_eq_getElem_cons (by omega : k < b.length), if_pos (by omega)]; rfl
  · rw [List.drop_eq_nil_of_le (by omega : a.length ≤ k), List.drop_eq_nil_of_le (by omega : b.length ≤ k), if_neg (by omega), if_neg (by omega)]; rfl
  · rw [List.drop_eq_nil_of_le (by omega : b.length ≤ k), List.drop_eq_getElem_cons (by omega : k < a.length), if_neg (by omega), if_pos (by omega)]; rfl
instance compS_c {a b : List ByteArray} {S T : SV} [j : Vw (lv rQ) S a] [k : Vw (lv rQ) T b] : Ct Tryz.prog 76 [S, T] (a.length ≤ 1099511627776 ∧ b.length ≤ 1099511627776) (iv (ordS a b)) := by
  refine ct2 j k (ctI Tryz.call76 Tryz.func76 Tryz.ntmps76 rfl Tryz.results76 rfl [] fun h0 w0 ⟨h1, h2⟩ => ?_)
  repeat first | refine nx ?_ | intro _
  refine gLp (fun k : Nat => [(12, iv k)]) (fun _ => []) (fun k => k ≤ min a.length b.length ∧ ∀ i, i < k → a.getD i ByteArray.empty = b.getD i ByteArray.empty) (fun k => min a.length b.length - k) 0 ⟨Nat.zero_le _, fun i hi => by omega⟩ fun k ⟨hk, hn⟩ => ?_
  repeat first | refine nx ?_ | intro _
  refine gIf (fun c1 => ?_) fun c1 => ?_
  · repeat first | refine gDs 10 9 (by rfl) (by kernel_rfl) ?_ | refine nx ?_ | intro _
    refine gIf (fun c2 => ?_) fun c2 => ?_ <;> repeat first | refine nx ?_ | intro _
    · rw [ordS_at hn (by omega) (by omega) c2]
    · refine gBk (k + 1) ⟨by omega, fun i hi => ?_⟩ (by omega)
      by_cases e : i = k
      · subst e
        exact cmpS_eq.1 (Classical.not_not.1 c2)
      · exact hn i (by omega)
  · repeat first | refine nx ?_ | intro _
    rw [ordS_end hn (by omega)]
instance texts_c {a b : List ByteArray} {S T : SV} [j : Vw (lv rQ) S a] [k : Vw (lv rQ) T b] : Ct Tryz.prog 27 [S, T] (a.length ≤ 1099511627776 ∧ b.length ≤ 1099511627776) (iv (ordS a b)) := by
  refine ct2 j k (ctI Tryz.call27 Tryz.func27 Tryz.ntmps27 rfl Tryz.results27 rfl [] fun h0 w0 ⟨h1, h2⟩ => ?_)
  repeat first | refine nx ?_ | intro _
  refine gLp (fun k : Nat => [(5, iv k)]) (fun _ => []) (fun k => k ≤ min a.length b.length ∧ ∀ i, i < k → a.getD i ByteArray.empty = b.getD i ByteArray.empty) (fun k => min a.length b.length - k) 0 ⟨Nat.zero_le _, fun i hi => by omega⟩ fun k ⟨hk, hn⟩ => ?_
  repeat first | refine nx ?_ | intro _
  have hr := cmpS_rng (a.getD k ByteArray.empty) (b.getD k ByteArray.empty)
  refine gIf (fun c1 => ?_) fun c1 => ?_
  · repeat first | refine nx ?_ | intro _
    refine gIf (fun c2 => ?_) fun c2 => ?_ <;> repeat first | refine nx ?_ | intro _
    · rw [ordS_at hn (by omega) (by omega) (by omega)]; omega
    · refine gIf (fun c3 => ?_) fun c3 => ?_ <;> repeat first | refine nx ?_ | intro _
      · rw [ordS_at hn (by omega) (by omega) (by omega)]; omega
      · refine gBk (k + 1) ⟨by omega, fun i hi => ?_⟩ (by omega)
        by_cases e : i = k
        · subst e; exact cmpS_eq.1 (by omega)
        · exact hn i (by omega)
  · repeat first | refine nx ?_ | intro _
    rw [ordS_end hn (by omega)]
    unfold cmpI
    repeat' split
    all_goals omega
end Go.E3
set_option linter.unusedVariables false
set_option maxRecDepth 20000
set_option maxHeartbeats 2000000
set_option synthInstance.maxSize 1000
namespace Go.E3
open Go Go.Ear Go.Proofs
class VlE (l : List Nat) (n : outParam Nat) : Prop where h : val l = n
instance {n : Nat} : VlE (digs n) n := ⟨val_digs n⟩
instance (priority := low) {l : List Nat} : VlE l (val l) := ⟨rfl⟩
instance rtrim_c {l : List Nat} {n : Nat} {S : SV} [i : Vw uv S l] [f : FtL l] [e : VlE l n] : Ct Tryz.prog 138 [S] (l.length ≤ 1000000000000) (nv n) := by
  obtain rfl := e.h
  refine ct1 i (ctI Tryz.call138 Tryz.func138 Tryz.ntmps138 rfl Tryz.results138 rfl [] fun h0 w0 hl => ?_)
  repeat refine nx ?_
  refine gLp (fun k : Nat => [(3, iv k)]) (fun _ => []) (fun k => k ≤ l.length ∧ trim (l.take k) = trim l) (fun k => k) l.length ⟨Nat.le_refl _, by rw [List.take_length]⟩ fun k ⟨h1, h2⟩ => ?_
  repeat refine nx ?_
  refine gIf (fun c => ?_) fun c => ?_ <;> repeat refine nx ?_
  · exact gBk (k - 1) ⟨by omega, by rw [← h2, ← trim_take_zero (k := k - 1) (by omega) c.2, show k - 1 + 1 = k by omega]⟩ (by omega)
  · rw [digs_val f.h, ← h2, trim_take h1 c]
instance rorder_c {a b A B : Nat} {S T : SV} [i : Vw nv S a] [j : Vw nv T b] [p : Sz a A] [q : Sz b B] : Ct Tryz.prog 161 [S, T] (A ≤ 1073741824 ∧ B ≤ 1073741824) (iv (cmpN a b)) := by
  refine ct2 i j (ctI Tryz.call161 Tryz.func161 Tryz.ntmps161 rfl Tryz.results161 rfl [] fun h0 w0 hl => ?_)
  have hp0 := p.h
  have hp1 := q.h
  unfold sz at hp0 hp1
  repeat first | refine nx ?_ | intro _
  refine gIf (fun c => ?_) fun c => ?_ <;> repeat first | refine nx ?_ | intro _
  · refine gIf (fun c => ?_) fun c => ?_ <;> repeat first | refine nx ?_ | intro _
    · exact (cmpN_lt (sz_lt (by unfold sz; omega))).symm
    · exact (cmpN_gt (sz_lt (by unfold sz; omega))).symm
  · have hlen : (digs a).length = (digs b).length := by omega
    refine gLp (fun k : Nat => [(5, iv ((k : Int) - 1))]) (fun _ => []) (fun k => k ≤ (digs a).length ∧ (digs a).drop k = (digs b).drop k) (fun k => k) (digs a).length ⟨Nat.le_refl _, by rw [List.drop_length, hlen, List.drop_length]⟩ fun k ⟨hk, hd⟩ => ?_
    repeat first | refine nx ?_ | intro _
    refine gIf (fun c => ?_) fun c => ?_ <;> repeat first | refine nx ?_ | intro _
    · refine gIf (fun d => ?_) fun d => ?_ <;> repeat first | refine nx ?_ | intro _
      · refine gIf (fun e => ?_) fun e => ?_ <;> repeat first | refine nx ?_ | intro _
        · exact (cmpN_lt (cmp_at hlen (by omega) (by omega) hd (by omega))).symm
        · exact (cmpN_gt (cmp_at hlen.symm (by omega) (by omega) hd.symm (by omega))).symm
      · exact gBk (k - 1) ⟨by omega, drop_eq_succ (by omega) (by omega) (by rw [show k - 1 + 1 = k by omega]; exact hd) (by omega)⟩ (by omega)
    · exact (cmp_end hd (by omega)).symm
instance rplus_c {a b A B : Nat} {S T : SV} [i : Vw nv S a] [j : Vw nv T b] [p : Sz a A] [q : Sz b B] : Ct Tryz.prog 160 [S, T] (A ≤ 1073741824 ∧ B ≤ 1073741824) (nv (a + b)) := by
  refine ct2 i j (ctI Tryz.call160 Tryz.func160 Tryz.ntmps160 rfl Tryz.results160 rfl [] fun h0 w0 hl => ?_)
  have hp0 := p.h
  have hp1 := q.h
  unfold sz at hp0 hp1
  repeat first | refine nx ?_ | intro _
  refine gNl rU 171 ?_
  generalize hM : max (digs a).length (digs b).length = M
  refine gLp (fun s : Nat × Nat × List Nat × Value => [(7, iv s.1), (6, .cv (.int .u64 (s.2.1 : Int))), (5, ov s.2.2.2)]) (fun s => [rA rU 171 s.2.2.2 s.2.2.1]) (fun s => s.1 ≤ M + 1 ∧ s.2.2.1.length = s.1 ∧ Fit s.2.2.1 ∧ s.2.1 ≤ 1 ∧ val s.2.2.1 + s.2.1 * B32 ^ s.1 = val ((digs a).take s.1) + val ((digs b).take s.1) ∧ (s.1 ≤ M ∨ s.2.1 = 0)) (fun s => 2 * (M + 1 - s.1) + s.2.1) (0, 0, [], .slice none 0 0) ⟨Nat.zero_le _, rfl, (fun _ hx => by cases hx), Nat.zero_le _, by simp [val], .inl (Nat.zero_le _)⟩ fun ⟨k, c, out, v⟩ ⟨hk, hll, hf, hc, hv, hkc⟩ => ?_
  have bda := (digs_fit a).getD k
  have bdb := (digs_fit b).getD k
  have ga := fun h => getD_ge (l := digs a) (k := k) h
  have gb := fun h => getD_ge (l := digs b) (k := k) h
  have h32 : (2:Nat)^32 = 4294967296 := rfl
  dsimp only at *
  haveI : FtL out := ⟨hf⟩
  repeat first | refine nx ?_ | intro _
  refine gIf (fun c1 => ?_) fun c1 => ?_ <;> repeat first | refine nx ?_ | intro _
  · refine gJ [(6, .cv (.int .u64 ((c + (digs a).getD k 0 : Nat) : Int)))] (fun c2 => ?_) (fun c2 => ?_) ?_ <;> repeat first | refine nx ?_ | intro _
    · exact gM
    · exact gM (by rw [getD_ge (by omega)]; exact ⟨rfl, by trivial⟩)
    · refine gJ [(6, .cv (.int .u64 ((c + (digs a).getD k 0 + (digs b).getD k 0 : Nat) : Int)))] (fun c3 => ?_) (fun c3 => ?_) ?_ <;> repeat first | refine nx ?_ | intro _
      · exact gM
      · exact gM (by rw [getD_ge (l := digs b) (by omega)]; exact ⟨rfl, by trivial⟩)
      · rename_i v'
        exact gBk (k + 1, (c + (digs a).getD k 0 + (digs b).getD k 0) / 2 ^ 32, out ++ [(c + (digs a).getD k 0 + (digs b).getD k 0) % 4294967296], v') ⟨by dsimp only; omega, by dsimp only; rw [List.length_append, hll]; rfl, Fit.snoc hf (Nat.mod_lt _ (by decide)), by dsimp only; omega, plus_step hll hv, by dsimp only; omega⟩ (by dsimp only; omega)
  · have hc0 : c = 0 := by omega
    rw [hc0] at hv
    rw [plus_close (by omega) (by omega) hv]
end Go.E3
set_option linter.unusedVariables false
set_option maxRecDepth 20000
set_option maxHeartbeats 2000000
set_option synthInstance.maxSize 1000
namespace Go.E3
open Go Go.Ear Go.Proofs
instance rminus_c {a b A B : Nat} {S T : SV} [i : Vw nv S a] [j : Vw nv T b] [p : Sz a A] [q : Sz b B] : Ct Tryz.prog 162 [S, T] (A ≤ 1073741824 ∧ B ≤ 1073741824 ∧ b ≤ a) (nv (a - b)) := by
  refine ct2 i j (ctI Tryz.call162 Tryz.func162 Tryz.ntmps162 rfl Tryz.results162 rfl [] fun h0 w0 hl => ?_)
  have hp0 := p.h
  have hp1 := q.h
  have hsz := sz_mono hl.2.2
  unfold sz at hp0 hp1 hsz
  repeat first | refine nx ?_ | intro _
  refine gNl rU 171 ?_
  refine gLp (fun s : Nat × Nat × List Nat × Value => [(7, iv s.1), (6, .cv (.int .u64 (s.2.1 : Int))), (5, ov s.2.2.2)]) (fun s => [rA rU 171 s.2.2.2 s.2.2.1]) (fun s => s.1 ≤ (digs a).length ∧ s.2.2.1.length = s.1 ∧ Fit s.2.2.1 ∧ s.2.1 ≤ 1 ∧ val s.2.2.1 + val ((digs b).take s.1) = val ((digs a).take s.1) + s.2.1 * B32 ^ s.1) (fun s => (digs a).length - s.1) (0, 0, [], .slice none 0 0) ⟨Nat.zero_le _, rfl, (fun _ hx => by cases hx), Nat.zero_le _, by simp [val]⟩ fun ⟨k, br, out, v⟩ ⟨hk, hll, hf, hb, hv⟩ => ?_
  have bda := (digs_fit a).getD k
  have bdb := (digs_fit b).getD k
  dsimp only at *
  haveI : FtL out := ⟨hf⟩
  repeat first | refine nx ?_ | intro _
  refine gIf (fun c1 => ?_) fun c1 => ?_ <;> repeat first | refine nx ?_ | intro _
  · refine gJ [(8, .cv (.int .u64 ((br + (digs b).getD k 0 : Nat) : Int)))] (fun c2 => ?_) (fun c2 => ?_) ?_ <;> repeat first | refine nx ?_ | intro _
    · exact gM
    · exact gM (by rw [getD_ge (l := digs b) (by omega)]; exact ⟨rfl, by trivial⟩)
    · refine gIf (fun c2 => ?_) fun c2 => ?_ <;> repeat first | refine nx ?_ | intro _
      · rename_i v'
        exact gBk (k + 1, 1, out ++ [((digs a).getD k 0 + 4294967295 + 1 - (br + (digs b).getD k 0)) % 4294967296], v') ⟨by omega, by dsimp only; rw [List.length_append, hll]; rfl, Fit.snoc hf (Nat.mod_lt _ (by decide)), Nat.le_refl _, by dsimp only; rw [Nat.mod_eq_of_lt (by omega)]; exact minus_step1 hll (by omega) (by omega) (by omega) hv (by omega)⟩ (by dsimp only; omega)
      · rename_i v'
        exact gBk (k + 1, 0, out ++ [((digs a).getD k 0 - (br + (digs b).getD k 0)) % 4294967296], v') ⟨by omega, by dsimp only; rw [List.length_append, hll]; rfl, Fit.snoc hf (Nat.mod_lt _ (by decide)), Nat.zero_le _, by dsimp only; rw [Nat.mod_eq_of_lt (by omega)]; exact minus_step2 hll (by omega) (by omega) (by omega) hv⟩ (by dsimp only; omega)
  · rw [minus_close (by omega) hll hf (by omega) hl.2.2 hv]
instance rtimes_c {a b A B : Nat} {S T : SV} [i : Vw nv S a] [j : Vw nv T b] [p : Sz a A] [q : Sz b B] : Ct Tryz.prog 158 [S, T] (A ≤ 1073741824 ∧ B ≤ 1073741824) (nv (a * b)) := by
  refine ct2 i j (ctI Tryz.call158 Tryz.func158 Tryz.ntmps158 rfl Tryz.results158 rfl [] fun h0 w0 hl => ?_)
  have hp0 := p.h
  have hp1 := q.h
  unfold sz at hp0 hp1
  repeat first | refine nx ?_ | intro _
  rename_i v
  generalize hLA : (digs a).length = LA at *
  generalize hLB : (digs b).length = LB at *
  refine gLp (fun s : Nat × List Nat => [(6, iv s.1)]) (fun s => [rA rU 171 v s.2]) (fun s => s.1 ≤ LA ∧ s.2.length = LA + LB ∧ Fit s.2 ∧ (∀ t, s.1 + LB ≤ t → s.2.getD t 0 = 0) ∧ val s.2 = val ((digs a).take s.1) * b) (fun s => LA - s.1) (0, List.replicate (LA + LB) 0) ⟨Nat.zero_le _, List.length_replicate, Fit.replicate _, fun t _ => getD_replicate _ t, by simp [val, val_replicate]⟩ fun ⟨x, out⟩ ⟨hi, hll, hf, hz, hv⟩ => ?_
  have bdx := (digs_fit a).getD x
  dsimp only at *
  haveI : FtL out := ⟨hf⟩
  repeat first | refine nx ?_ | intro _
  refine gIf (fun c1 => ?_) fun c1 => ?_ <;> repeat first | refine nx ?_ | intro _
  · refine gLp (fun s : Nat × Nat × List Nat => [(8, iv s.1), (7, .cv (.int .u64 (s.2.1 : Int)))]) (fun s => [rA rU 171 v s.2.2]) (fun s => s.1 ≤ LB ∧ s.2.2.length = LA + LB ∧ Fit s.2.2 ∧ s.2.1 < 4294967296 ∧ (∀ t, x + LB ≤ t → s.2.2.getD t 0 = 0) ∧ val s.2.2 + s.2.1 * B32 ^ (x + s.1) = val ((digs a).take x) * b + (digs a).getD x 0 * val ((digs b).take s.1) * B32 ^ x) (fun s => LB - s.1) (0, 0, out) ⟨Nat.zero_le _, hll, hf, Nat.lt_of_lt_of_le (Nat.zero_lt_one) (by decide), hz, by rw [hv]; simp [val]⟩ fun ⟨y, c, o⟩ ⟨hj, hl2, hf2, hc, hz2, hv2⟩ => ?_
    have bdy := (digs_fit b).getD y
    have bdo := hf2.getD (x + y)
    have bxy := mul_bd bdx bdy
    dsimp only at *
    repeat first | refine nx ?_ | intro _
    refine gIf (fun c2 => ?_) fun c2 => ?_ <;> repeat first | refine nx ?_ | intro _
    · have ecc : c + o.getD (x + y) 0 + (digs a).getD x 0 * (digs b).getD y 0 = c + ((digs a).getD x 0 * (digs b).getD y 0 + o.getD (x + y) 0) := by omega
      rw [ecc]
      exact gBk (y + 1, (c + ((digs a).getD x 0 * (digs b).getD y 0 + o.getD (x + y) 0)) / 2 ^ 32, o.set (x + y) ((c + ((digs a).getD x 0 * (digs b).getD y 0 + o.getD (x + y) 0)) % 4294967296)) ⟨by omega, by rw [List.length_set]; exact hl2, hf2.set _ _ (Nat.mod_lt _ (by decide)), by dsimp only; have : (2:Nat)^32 = 4294967296 := rfl; omega, fun t ht => by rw [getD_set_ne (by omega)]; exact hz2 t ht, mul_inner (by omega) hv2⟩ (by dsimp only; omega)
    · exact gBk (x + 1, o.set (x + (digs b).length) (c % 4294967296)) ⟨by omega, by rw [List.length_set]; exact hl2, hf2.set _ _ (Nat.mod_lt _ (by decide)), fun t ht => by rw [getD_set_ne (by omega)]; exact hz2 t (by omega), by
        rw [Nat.mod_eq_of_lt hc]
        exact mul_outer (by omega) (by omega) (hz2 _ (by omega)) hv2⟩ (by dsimp only; omega)
  · rw [hv, val_take_all (by omega), val_digs]
instance rhalf_c {a A : Nat} {S : SV} [i : Vw nv S a] [p : Sz a A] : Ct Tryz.prog 185 [S] (A ≤ 1073741824) (nv (a / 2)) := by
  refine ct1 i (ctI Tryz.call185 Tryz.func185 Tryz.ntmps185 rfl Tryz.results185 rfl [] fun h0 w0 hl => ?_)
  have hp0 := p.h
  unfold sz at hp0
  repeat first | refine nx ?_ | intro _
  rename_i v
  refine gLp (fun s : Nat × Nat × List Nat => [(5, iv ((s.1 : Int) - 1)), (4, .cv (.int .u32 (s.2.1 : Int)))]) (fun s => [rA rU 171 v s.2.2]) (fun s => s.1 ≤ (digs a).length ∧ s.2.1 < 2 ∧ s.2.2.length = (digs a).length ∧ Fit s.2.2 ∧ val (s.2.2.drop s.1) * 2 + s.2.1 = val ((digs a).drop s.1)) (fun s => s.1) ((digs a).length, 0, List.replicate (digs a).length 0) ⟨Nat.le_refl _, by dsimp only; omega, List.length_replicate, Fit.replicate _, by dsimp only; rw [List.drop_of_length_le (by simp), List.drop_of_length_le (Nat.le_refl _)]; simp [val]⟩ fun ⟨k, c, out⟩ ⟨hk, hc, hll, hf, hv⟩ => ?_
  have bd := (digs_fit a).getD (k - 1)
  have h31 : (2:Nat)^31 = 2147483648 := rfl
  have h21 : (2:Nat)^1 = 2 := rfl
  dsimp only at *
  have hlt := half_lt (x := (digs a).getD (k - 1) 0) (c := c) bd hc
  have hand := and1_lt ((digs a).getD (k - 1) 0)
  haveI : FtL out := ⟨hf⟩
  repeat first | refine nx ?_ | intro _
  refine gIf (fun c1 => ?_) fun c1 => ?_ <;> repeat first | refine nx ?_ | intro _
  · rw [Nat.mod_eq_of_lt (show c * 2 ^ 31 < 4294967296 by omega)]
    exact gBk (k - 1, (digs a).getD (k - 1) 0 &&& 1, out.set (k - 1) ((digs a).getD (k - 1) 0 / 2 ^ 1 ||| c * 2 ^ 31)) ⟨by dsimp only; omega, hand, by rw [List.length_set]; exact hll, hf.set _ _ hlt, half_step (by omega) (by omega) (by omega) hc bd hv⟩ (by dsimp only; omega)
  · rw [over_q (by omega) hc hv]
instance rbits_c {a A : Nat} {S : SV} [i : Vw nv S a] [p : Sz a A] : Ct Tryz.prog 186 [S] (A ≤ 1073741824) (iv (bitlen a)) := by
  refine ct1 i (ctI Tryz.call186 Tryz.func186 Tryz.ntmps186 rfl Tryz.results186 rfl [] fun h0 w0 hl => ?_)
  have hp0 := p.h
  unfold sz at hp0
  have hz := sz_eq_zero (n := a)
  unfold sz at hz
  repeat first | refine nx ?_ | intro _
  refine gIf (fun c1 => ?_) fun c1 => ?_ <;> repeat first | refine nx ?_ | intro _
  · rw [hz.1 c1, bitlen_zero]; rfl
  rw [show ((digs a).length : Int) - 1 = (((digs a).length - 1 : Nat) : Int) by omega]
  repeat first | refine nx ?_ | intro _
  have hd := (digs_fit a).getD ((digs a).length - 1)
  refine gLp (fun s : Nat × Nat => [(3, iv s.1), (4, .cv (.int .u32 (s.2 : Int)))]) (fun _ => []) (fun s => s.1 + bitlen s.2 = bitlen a ∧ s.2 < 4294967296) (fun s => s.2) (32 * ((digs a).length - 1), (digs a).getD ((digs a).length - 1) 0) ⟨(bitlen_digs (by omega)).symm, hd⟩ fun ⟨m, x⟩ ⟨hm, hx⟩ => ?_
  dsimp only at *
  have hbs := fun h => bits_step (x := x) h
  have hbz := bitlen_sz a
  unfold sz at hbz
  have h21 : (2:Nat)^1 = 2 := rfl
  by_cases c : 0 < x
  · have hb1 := hbs c
    repeat first | refine nx ?_ | intro _
    refine gIf (fun _ => ?_) fun d => absurd c d
    repeat first | refine nx ?_ | intro _
    exact gBk (m + 1, x / 2 ^ 1) ⟨by dsimp only; omega, by dsimp only; omega⟩ (by dsimp only; omega)
  · repeat first | refine nx ?_ | intro _
    refine gIf (fun d => absurd d c) fun _ => ?_
    repeat first | refine nx ?_ | intro _
    rw [bits_end hm (by omega)]
instance reven_c {a A : Nat} {S : SV} [i : Vw nv S a] [p : Sz a A] : Ct Tryz.prog 184 [S] (A ≤ 1073741824) (bv (decide (a % 2 = 0))) := by
  refine ct1 i (ctI Tryz.call184 Tryz.func184 Tryz.ntmps184 rfl Tryz.results184 rfl [] fun h0 w0 hl => ?_)
  have hp0 := p.h
  unfold sz at hp0
  have hz := sz_eq_zero (n := a)
  unfold sz at hz
  have hde := digs_even (a := a)
  repeat first | refine nx ?_ | intro _
  rw [Bool.eq_iff_iff]; simp only [Bool.or_eq_true, decide_eq_true_eq]; constructor <;> intro hh <;> omega
instance rone_c {a A : Nat} {S : SV} [i : Vw nv S a] [p : Sz a A] : Ct Tryz.prog 139 [S] (A ≤ 1073741824) (bv (decide (a = 1))) := by
  refine ct1 i (ctI Tryz.call139 Tryz.func139 Tryz.ntmps139 rfl Tryz.results139 rfl [] fun h0 w0 hl => ?_)
  have hp0 := p.h
  unfold sz at hp0
  repeat first | refine nx ?_ | intro _
  exact one_eq
end Go.E3
set_option linter.unusedVariables false
set_option maxRecDepth 20000
set_option maxHeartbeats 2000000
set_option synthInstance.maxSize 1000
namespace Go.E3
open Go Go.Ear Go.Proofs
instance : Vw nv (lv rU [1]) 1 := ⟨fun u => by unfold nv; rw [digs_lit1]; exact u⟩
instance rdivide_c {a b A B : Nat} {S T : SV} [i : Vw nv S a] [j : Vw nv T b] [p : Sz a A] [q : Sz b B] : Ct Tryz.prog 141 [S, T] (A ≤ 536870912 ∧ B ≤ 536870912 ∧ b ≠ 0) (.tp [nv (a / b), nv (a % b)]) := by
  refine ct2 i j (ctI Tryz.call141 Tryz.func141 Tryz.ntmps141 rfl Tryz.results141 rfl [] fun h0 w0 ⟨hA, hB, hb0⟩ => ?_)
  have hsa := p.h
  have hsb := q.h
  have hpos := sz_pos hb0
  have hbz := bitlen_sz a
  unfold sz at hsa hsb hpos hbz
  repeat first | refine nx ?_ | intro _
  rename_i v
  by_cases c0 : (digs b).length = 1
  · have hd0 := digs_one c0
    have hdl := (digs_fit b).getD 0
    refine gIf (fun c2 => ?_) fun c2 => absurd c0 c2
    repeat first | refine nx ?_ | intro _
    refine gLp (fun s : Nat × Nat × List Nat => [(8, iv ((s.1 : Int) - 1)), (7, .cv (.int .u64 (s.2.1 : Int)))]) (fun s => [rA rU 171 v s.2.2]) (fun s => s.1 ≤ (digs a).length ∧ s.2.1 < (digs b).getD 0 0 ∧ s.2.2.length = (digs a).length ∧ Fit s.2.2 ∧ val (s.2.2.drop s.1) * (digs b).getD 0 0 + s.2.1 = val ((digs a).drop s.1)) (fun s => s.1) ((digs a).length, 0, List.replicate (digs a).length 0) ⟨Nat.le_refl _, by dsimp only; omega, List.length_replicate, Fit.replicate _, by dsimp only; rw [List.drop_of_length_le (by simp), List.drop_of_length_le (Nat.le_refl _)]; simp [val]⟩ fun ⟨k, r, out⟩ ⟨hk, hr, hll, hf, hv⟩ => ?_
    dsimp only at *
    have bd := (digs_fit a).getD (k - 1)
    have eo := or_shift r ((digs a).getD (k - 1) 0) bd
    have rb : r * 2 ^ 32 + (digs a).getD (k - 1) 0 < (digs b).getD 0 0 * 4294967296 := over_bd hr bd
    have rs := sh_bd hr hdl
    have ro := sh_bd2 hr hdl bd
    haveI : FtL out := ⟨hf⟩
    repeat first | refine nx ?_ | intro _
    refine gIf (fun c1 => ?_) fun c1 => ?_ <;> repeat first | refine nx ?_ | intro _
    · exact gBk (k - 1, (r * 2 ^ 32 ||| (digs a).getD (k - 1) 0) % (digs b).getD 0 0, out.set (k - 1) ((r * 2 ^ 32 ||| (digs a).getD (k - 1) 0) / (digs b).getD 0 0 % 4294967296)) ⟨by dsimp only; omega, Nat.mod_lt _ (by omega), by rw [List.length_set]; exact hll, hf.set _ _ (Nat.mod_lt _ (by decide)), by
        dsimp only
        rw [Nat.mod_eq_of_lt (by rw [eo]; exact Nat.div_lt_of_lt_mul rb), eo]; exact over_step (by omega) (by omega) (by omega) hv⟩ (by dsimp only; omega)
    · exact ⟨by rw [over_q (by omega) hr hv]; exact congrArg (fun x => digs (a / x)) hd0, by rw [Nat.mod_eq_of_lt (by omega), val_one, over_r (by omega) hr hv]; exact congrArg (fun x => digs (a % x)) hd0⟩
  refine gIf (fun c2 => absurd c2 c0) fun c2 => ?_
  repeat first | refine nx ?_ | intro _
  have dz : (digs 0) = [] := digs_zero
  refine gLp (fun s : Nat × List Nat => [(10, iv ((s.1 : Int) - 1)), (9, nv (a / 2 ^ s.1 % b))]) (fun s => [rA rU 171 v s.2]) (fun s => s.1 ≤ bitlen a ∧ s.2.length = (digs a).length ∧ Fit s.2 ∧ val s.2 = 2 ^ s.1 * (a / 2 ^ s.1 / b)) (fun s => s.1) (bitlen a, List.replicate (digs a).length 0) (h1 := ⟨trivial, by dsimp only; rw [Nat.div_eq_of_lt (lt_bitlen a), Nat.zero_mod, dz], trivial⟩) ⟨Nat.le_refl _, List.length_replicate, Fit.replicate _, by dsimp only; rw [val_replicate, Nat.div_eq_of_lt (lt_bitlen a)]; simp⟩ fun ⟨k, out⟩ ⟨hk, hl, hf, hv⟩ => ?_
  dsimp only at *
  have hml := Nat.mod_lt (a / 2 ^ k) (Nat.pos_of_ne_zero hb0)
  have hs1 := Nat.le_trans (sz_mono (Nat.le_of_lt hml)) q.h
  have hbd := (digs_fit a).getD ((k - 1) / 32)
  have bdo := hf.getD ((k - 1) / 32)
  have hsh := one_shl_lt (k - 1)
  have hbit := bit_at a (k - 1)
  have hlt2 : (digs a).getD ((k - 1) / 32) 0 / 2 ^ ((k - 1) % 32) < 4294967296 := Nat.lt_of_le_of_lt (Nat.div_le_self ..) hbd
  haveI : Sz (a / 2 ^ k % b) B := ⟨hs1⟩
  haveI : FtL out := ⟨hf⟩
  repeat first | refine nx ?_ | intro _
  refine gIf (fun c1 => ?_) fun c1 => ?_
  · repeat first | refine nx ?_ | intro _
    refine gJ [(9, nv (a / 2 ^ k % b + a / 2 ^ k % b + a / 2 ^ (k - 1) % 2))] (fun c3 => ?_) (fun c3 => ?_) ?_ <;> repeat first | refine nx ?_ | intro _
    · exact gM (by rw [← hbit, c3]; exact ⟨rfl, by trivial⟩)
    · exact gM (by rw [show a / 2 ^ (k - 1) % 2 = 0 by rw [← hbit]; omega]; exact ⟨rfl, by trivial⟩)
    · have hdh := div_halves (a := a) (k := k) (by omega)
      have hsx : sz (a / 2 ^ k % b + a / 2 ^ k % b + a / 2 ^ (k - 1) % 2) ≤ B + 2 := by
        have h1 := sz_add (a / 2 ^ k % b + a / 2 ^ k % b) (a / 2 ^ (k - 1) % 2)
        have h2 := sz_add (a / 2 ^ k % b) (a / 2 ^ k % b)
        have h3 := sz_small (n := a / 2 ^ (k - 1) % 2) (by omega)
        omega
      haveI : Sz (a / 2 ^ k % b + a / 2 ^ k % b + a / 2 ^ (k - 1) % 2) (B + 2) := ⟨hsx⟩
      have hdk := cmpN_neg (a := a / 2 ^ k % b + a / 2 ^ k % b + a / 2 ^ (k - 1) % 2) (b := b)
      repeat first | refine nx ?_ | intro _
      refine gIf (fun c4 => ?_) fun c4 => ?_ <;> repeat first | refine nx ?_ | intro _
      · have hor : (out.getD ((k - 1) / 32) 0 ||| 1 * 2 ^ ((k - 1) % 32)) < 4294967296 := Nat.or_lt_two_pow (n := 32) bdo hsh
        rw [Nat.mod_eq_of_lt hsh]
        rcases Nat.mod_two_eq_zero_or_one (a / 2 ^ (k - 1)) with ht | ht
        · have hge : b ≤ a / 2 ^ k % b + a / 2 ^ k % b := by omega
          exact gBk (k - 1, out.set ((k - 1) / 32) (out.getD ((k - 1) / 32) 0 ||| 1 * 2 ^ ((k - 1) % 32))) ⟨by dsimp only; omega, by rw [List.length_set]; exact hl, hf.set _ _ hor, divv_t0 (by omega) hb0 ht hge hl hf (by omega) hv⟩ (by dsimp only; omega) (h1 := ⟨by dsimp only; omega, by dsimp only; rw [← div_t0 (by omega) hb0 ht hge, ht, Nat.add_zero], by trivial⟩)
        · have hge : b ≤ a / 2 ^ k % b + a / 2 ^ k % b + 1 := by omega
          exact gBk (k - 1, out.set ((k - 1) / 32) (out.getD ((k - 1) / 32) 0 ||| 1 * 2 ^ ((k - 1) % 32))) ⟨by dsimp only; omega, by rw [List.length_set]; exact hl, hf.set _ _ hor, divv_t1 (by omega) hb0 ht hge hl hf (by omega) hv⟩ (by dsimp only; omega) (h1 := ⟨by dsimp only; omega, by dsimp only; rw [← div_t1 (by omega) hb0 ht hge, ht], by trivial⟩)
      · rcases Nat.mod_two_eq_zero_or_one (a / 2 ^ (k - 1)) with ht | ht
        · have hge : a / 2 ^ k % b + a / 2 ^ k % b < b := by omega
          exact gBk (k - 1, out) ⟨by dsimp only; omega, hl, hf, divv_f0 (by omega) hb0 ht hge hv⟩ (by dsimp only; omega) (h1 := ⟨by dsimp only; omega, by dsimp only; rw [← div_f0 (by omega) hb0 ht hge, ht, Nat.add_zero], by trivial⟩)
        · have hge : a / 2 ^ k % b + a / 2 ^ k % b + 1 < b := by omega
          exact gBk (k - 1, out) ⟨by dsimp only; omega, hl, hf, divv_f1 (by omega) hb0 ht hge hv⟩ (by dsimp only; omega) (h1 := ⟨by dsimp only; omega, by dsimp only; rw [← div_f1 (by omega) hb0 ht hge, ht], by trivial⟩)
  · repeat first | refine nx ?_ | intro _
    have hk0 : k = 0 := by omega
    subst hk0
    exact ⟨by rw [hv]; simp, by simp⟩
instance rgcd_c {a b A B : Nat} {S T : SV} [i : Vw nv S a] [j : Vw nv T b] [p : Sz a A] [q : Sz b B] : Ct Tryz.prog 140 [S, T] (A ≤ 536870912 ∧ B ≤ 536870912 ∧ a ≠ 0 ∧ b ≠ 0) (nv (Nat.gcd a b)) := by
  refine ct2 i j (ctI Tryz.call140 Tryz.func140 Tryz.ntmps140 rfl Tryz.results140 rfl [] fun h0 w0 ⟨hA, hB, ha0, hb0⟩ => ?_)
  have hsa := p.h
  have hsb := q.h
  have hsab := sz_add a b
  repeat first | refine nx ?_ | intro _
  refine gLp (fun s : Nat × Nat × Nat => [(5, iv s.1), (0, nv s.2.1), (1, nv s.2.2)]) (fun _ => []) (fun s => s.2.1 ≠ 0 ∧ s.2.2 ≠ 0 ∧ s.2.1 ≤ a ∧ s.2.2 ≤ b ∧ 2 ^ s.1 * Nat.gcd s.2.1 s.2.2 = Nat.gcd a b) (fun s => s.2.1) (0, a, b) ⟨ha0, hb0, Nat.le_refl _, Nat.le_refl _, by simp⟩ fun ⟨t, x, y⟩ ⟨hx, hy, hxa, hyb, hg⟩ => ?_
  dsimp only at *
  have hsx := sz_mono hxa
  have hsy := sz_mono hyb
  have hta := pow_bound ha0 hg
  haveI : Sz x A := ⟨by omega⟩
  haveI : Sz y B := ⟨by omega⟩
  repeat first | refine nx ?_ | intro _
  refine gIf (fun c => ?_) fun c => ?_ <;> repeat first | refine nx ?_ | intro _
  · exact gBk (t + 1, x / 2, y / 2) ⟨by dsimp only; omega, by dsimp only; omega, by dsimp only; omega, by dsimp only; omega, gcd_both c.1 c.2 hg⟩ (by dsimp only; omega)
  have hod : Nat.gcd x y % 2 = 1 := gcd_odd hy c
  refine gLp (fun s : Nat × Nat => [(0, nv s.1), (1, nv s.2)]) (fun _ => []) (fun s => s.1 ≠ 0 ∧ s.1 ≤ a + b ∧ s.2 ≤ a + b ∧ Nat.gcd s.1 s.2 = Nat.gcd x y) (fun s => s.1 + s.2) (x, y) ⟨hx, by dsimp only; omega, by dsimp only; omega, rfl⟩ fun ⟨x2, y2⟩ ⟨hx2, hxa2, hyb2, hg2⟩ => ?_
  dsimp only at *
  have hsx2 := sz_mono hxa2
  have hsy2 := sz_mono hyb2
  have hyz := sz_eq_zero (n := y2)
  unfold sz at hyz
  have hml : max (sz a) (sz b) + 1 ≤ 536870913 := by omega
  haveI : Sz x2 536870913 := ⟨by omega⟩
  haveI : Sz y2 536870913 := ⟨by omega⟩
  repeat first | refine nx ?_ | intro _
  refine gIf (fun c2 => ?_) fun c2 => ?_ <;> repeat first | refine nx ?_ | intro _
  · have hy20 : y2 ≠ 0 := by omega
    refine gLp (fun x3 : Nat => [(0, nv x3)]) (fun _ => []) (fun x3 => x3 ≠ 0 ∧ x3 ≤ x2 ∧ Nat.gcd x3 y2 = Nat.gcd x y) (fun x3 => x3) x2 ⟨hx2, Nat.le_refl _, hg2⟩ fun x3 ⟨hx3, hx32, hg3⟩ => ?_
    have hsx3 := sz_mono hx32
    haveI : Sz x3 536870913 := ⟨by omega⟩
    repeat first | refine nx ?_ | intro _
    refine gIf (fun c3 => ?_) fun c3 => ?_ <;> repeat first | refine nx ?_ | intro _
    · exact gBk (x3 / 2) ⟨by omega, by omega, gcd_half_l hod c3 hg3⟩ (by omega)
    refine gLp (fun y3 : Nat => [(1, nv y3)]) (fun _ => []) (fun y3 => y3 ≠ 0 ∧ y3 ≤ y2 ∧ Nat.gcd x3 y3 = Nat.gcd x y) (fun y3 => y3) y2 ⟨hy20, Nat.le_refl _, hg3⟩ fun y3 ⟨hy3, hy32, hg4⟩ => ?_
    have hsy3 := sz_mono hy32
    haveI : Sz y3 536870913 := ⟨by omega⟩
    repeat first | refine nx ?_ | intro _
    refine gIf (fun c4 => ?_) fun c4 => ?_ <;> repeat first | refine nx ?_ | intro _
    · exact gBk (y3 / 2) ⟨by omega, by omega, gcd_half_r hod c4 hg4⟩ (by omega)
    refine gIf (fun c5 => ?_) fun c5 => ?_
    · have hgt := cmpN_pos.1 c5
      have hle := Nat.le_of_lt hgt
      repeat first | refine nx ?_ | intro _
      exact gBk (y3, x3 - y3) ⟨hy3, by dsimp only; omega, by dsimp only; omega, gcd_swap_sub hgt hg4⟩ (by dsimp only; omega)
    · have hle := not_gt_of c5
      repeat first | refine nx ?_ | intro _
      exact gBk (x3, y3 - x3) ⟨hx3, by dsimp only; omega, by dsimp only; omega, gcd_sub hle hg4⟩ (by dsimp only; omega)
  · have hy0 : y2 = 0 := by omega
    have hg5 : x2 = Nat.gcd x y := by rw [← hg2, hy0, Nat.gcd_zero_right]
    refine gLp (fun i : Nat => [(6, iv i), (0, nv (x2 * 2 ^ i))]) (fun _ => []) (fun i => i ≤ t) (fun i => t - i) 0 (Nat.zero_le _) (fun i hi => ?_) (h1 := ⟨trivial, by simp, trivial⟩)
    have hle : x2 * 2 ^ i ≤ a := by
      have h1 : x2 * 2 ^ i ≤ x2 * 2 ^ t := Nat.mul_le_mul_left _ (Nat.pow_le_pow_right (by decide) hi)
      have h2 := Nat.gcd_le_left b (Nat.pos_of_ne_zero ha0)
      rw [← hg, Nat.mul_comm, ← hg5] at h2
      omega
    have hsl := sz_mono hle
    haveI : Sz (x2 * 2 ^ i) A := ⟨by omega⟩
    repeat first | refine nx ?_ | intro _
    refine gIf (fun c3 => ?_) fun c3 => ?_ <;> repeat first | refine nx ?_ | intro _
    · rw [dbl_pow]; exact gBk (i + 1) (by omega) (by omega)
    · rw [← hg, ← hg5, show i = t by omega, Nat.mul_comm]
end Go.E3
