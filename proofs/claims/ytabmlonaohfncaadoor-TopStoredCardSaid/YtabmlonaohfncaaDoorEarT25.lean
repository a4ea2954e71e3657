/- EarT25: a part of the proofs about what is clipped and stored: how the program's functions run, and what they compute, for every input. -/
import Derived.Lib.SlBytesConst
import Derived.Test.YtabmlonaohfncaaDoorEarT24
set_option linter.all false
set_option linter.unusedVariables false
namespace Go.Ear
open Go
section
variable {P : Program} {w : World}
theorem run_appendF {lo : Nat} {h : PH} {t ty e : TypeId} {i : TypeInfo} {z : Value} {x : Value} {len m : Nat} {xs ys : List Value} {base0 : Option Addr}
    (ht : P.underlying t = some (.slice e)) (hi : P.info? e = some i) (hz : i.zero = some z) (hzs : z.cells.size = i.size)
    (hs : Sat h w) (hlo : lo ≤ w.heap.size) (r0 : Reads w (.slice base0 len len) len i.size xs) (r : Reads w x m i.size ys) (hm : 1 ≤ m)
    (h63 : len + m ≤ 9223372036854775807) (hb : (len + m) * i.bytes ≤ 140737488355328) :
    ∃ v' w', (Builtin.append_ #[t, t] ty #[.slice base0 len len, x]).run P w = .ok v' w' ∧ Own lo h w' e i.size v' (len + m) (xs ++ ys) ∧ Ow w w' none ∧
      (∀ b, Value.blk v' = some b → w.heap.size ≤ b) := by
  have hrl := r.1
  have hr0 := r0.1
  obtain ⟨base, c, rfl, hrx⟩ := r.2
  have hlen : (xs ++ ys).length = (len + m) * i.size := by rw [List.length_append, hr0, hrl, Nat.add_mul]
  have hold : (Builtin.firstCells i.size len (.slice base0 len len)).run P w.drew = .ok xs.toArray w.drew := run_firstCells (P := P) (r0.drew _)
  have hgt : len + m > len := by omega
  have hn : ¬ (len + m ≤ len) := by omega
  have h63' : ¬ (9223372036854775807 < ((len : Int) + (m : Int))) := by omega
  have hfit := growslice_fits (need := len + m) (old := len) (bytes := i.bytes) hgt hb
  have h48 : ¬ (281474976710656 < Builtin.nextslicecap (len + m) len * i.bytes) := by omega
  have hfc' : (Builtin.firstCells i.size m (.slice base m c)).run P w.drew = .ok ys.toArray w.drew := run_firstCells (P := P) (r.drew _)
  have hge := grownCap_ge w (len + m) len e
  refine ⟨.slice (some ⟨w.heap.size, 0, none⟩) (len + m) (grownCap w (len + m) len e), w.drew.alloc (.cells (xs.toArray ++ ys.toArray ++ Builtin.zeroCells z.cells (grownCap w (len + m) len e - (len + m))) e), ?_, ⟨hlen, .inr ⟨w.heap.size, _, _, rfl, hlo, hs.fresh, heap_alloc_new w.drew _, hge, ?_, ?_⟩⟩, ⟨rfl, rfl, rfl, by simp, fun k hk _ => heap_alloc_old w.drew _ hk⟩, fun b hb' => by simp [Value.blk] at hb'; omega⟩
  · simp [Builtin.append_, run_underlying ht, sizeOf, typeInfo, zeroValue, hi, hz, Builtin.lenOf, hn, h63', h48, Question.forced, newRow, grownCap, hold, hfc', Array.append_assoc]
    try (rw [← List.append_toArray, Array.append_assoc])
  · simp only [Array.size_append, List.size_toArray, size_zeroCells, hzs, hr0, hrl, ← Nat.add_mul]
    congr 1; omega
  · simp only [Array.toList_append]
    rw [← hlen]
    exact List.take_left
end
end Go.Ear
namespace Go.E3
open Go Go.Ear
def flv {α : Type} (r : Rp α) (l : List α) : SV := .kv ⟨fun h v => LR r h v l ∧ ∃ a, v = .slice a l.length l.length, fun {h v} u => by obtain ⟨b, c, rfl, _⟩ := u.1.shape; rfl, fun e u => ⟨u.1.mono e, u.2⟩⟩
section
variable {P : Program} {n : Nat} {X : Fix} {ms : List Nat} {loc env : EL} {B : List Res} {k : Kt} {ol rest : List Oper} {d d1 d2 : Nat} {ty ty1 ty2 : TypeId} {pos pos1 pos2 : String} {af af1 af2 : Array Edge} {α : Type} {r : Rp α} {bb : Nat} {d0 : α} {q q' : List α} {t e : TypeId} {o1 o2 : Operand}
instance : O1 (flv r q) := ⟨rfl⟩
instance [ts : TS P t e] [rt : RT P e α r bb d0] [lx : Lu n true loc env o1 (flv r q)] [ly : Lu n true loc env o2 (lv r q')] : Nx (GO P n X ms loc env B ol (⟨some d, .call ⟨.builtin .append, [o1, o2].toArray, [t, t].toArray⟩, ty, pos, af, none⟩ :: rest) k) (1 ≤ q'.length ∧ q.length + q'.length ≤ 9223372036854775807 ∧ (q.length + q'.length) * bb ≤ 140737488355328) (∀ v', GO P n X ms ((d, ov v') :: loc) env (rA r e v' (q ++ q') :: B) ol rest k) := ⟨fun hs f => ⟨fun ok ρ h w s => by
  obtain ⟨h1, h2, h3⟩ := okR_some rfl ok
  obtain ⟨z, ti, el, hz⟩ := rt.e
  obtain ⟨hx, a, hxa⟩ := lx.h rfl ((s.x [o1]).fx o1 (by simp))
  have hy := ly.h rfl ((s.x [o2]).fx o2 (by simp))
  obtain ⟨css, s1, rr1⟩ := hx
  obtain ⟨css2, s2, rr2⟩ := hy
  rw [← el.hk] at s1 s2
  have rd1 := s1.reads s.gr.sat
  have rd2 := s2.reads s.gr.sat
  rw [rr1.length] at rd1
  rw [rr2.length] at rd2
  rw [hxa] at rd1
  obtain ⟨v', w', hr, o, ow, hbl⟩ := run_appendF (P := P) (ty := ty) (lo := 0) ts.h el.hi el.hz el.hc s.gr.sat (Nat.zero_le _) rd1 rd2 hs.1 hs.2.1 (by rw [el.hb]; exact hs.2.2)
  refine Ops.cons (OpW.valD (v := v') (w' := w') ?_ ?_)
  · simp only [execOp, resolve, invoke, builtin, Sem.run_bind, Sem.run_pure, Result.andThen, List.map_toArray, List.map_cons, List.map_nil, hxa, hr]
  · have own : OwnL r 0 h w' e v' (q ++ q') := ⟨css ++ css2, by rw [List.flatten_append, List.length_append, ← el.hk]; exact o, rr1.append rr2⟩
    have s' : Sy X.h0 X.w0 loc env (rA r e (.slice none 0 0) [] :: B) ρ h w := ⟨s.gr, s.lo, s.en, OwnL.nil r 0 h w e, (fun i hi => by cases hi), (fun r' hr' i hi => by cases hi), s.ow⟩
    exact (f v').p h3 _ _ _ ((own_app s' own ow fun b hb => .inr (hbl b hb)).set ⟨rfl, own_one own⟩ h1 (h2 rfl))⟩⟩
theorem gBsC {len : Nat} {xs : List (Nat × Operand)} {ps : List (Nat × SV)} [bl : RflE (Nat.ble n d1) false] [lx : Lup n true loc env xs ps] [ts : TS P t e] (he : P.underlying e = some (.int .u8)) [rt : RT P e α r bb d0] [f : Els r 0 ps q] (sd : q.length = len ∧ Nat.ble (len * r.k) 16777216 = true)
    (g : GO P n X ms ((d2, flv r q) :: (d1, flv r q) :: loc) env B ol rest k) : GO P n X ms loc env B ol (⟨some d1, .buildSlice t len xs.toArray, ty1, pos1, af1, none⟩ :: ⟨some d2, .convert t t (.tmp d1), ty2, pos2, af2, none⟩ :: rest) k := ⟨fun ok ρ h w s => by
  obtain ⟨h1, h2, h3⟩ := okR_some rfl ok
  obtain ⟨h4, h5, h6⟩ := okR_some rfl h3
  obtain ⟨e1, e2⟩ := lx.h rfl
  obtain ⟨z, i, el, hz⟩ := rt.e
  have hzk : z.cells.size = r.k := el.hc.trans el.hk
  have sx := s.x (xs.map (·.2))
  obtain ⟨rr, hf⟩ := f.h (xs := xs.map fun p => (p.1, ev n ρ p.2)) (by rw [List.map_map]; exact e1.symm) (by rw [List.map_map]; exact e2 fun p hp => sx.fx p.2 (List.mem_map.2 ⟨p, hp, rfl⟩))
  obtain ⟨arr, g1, g2⟩ := hf (sz := z.cells.size) (arr := ((List.replicate len z.cells.toList).flatten).toArray) hzk (by simp [sd.1])
  have hgr : Gr h w (h.put w.heap.size (.cells arr e (arr.size, arr.size + 1))) (newW w (.cells arr e (arr.size, arr.size + 1))) := (Gr.new s.gr.sat _).freeze (newW_at w _) s.gr.sat.fresh (Nat.le_refl _)
  have hden : den (h.put w.heap.size (.cells arr e (arr.size, arr.size + 1))) (flv r q) (.slice (some ⟨w.heap.size, 0, none⟩) len len) := by
    refine ⟨LR.own' (PH.put_at ..) (css := xs.map fun p => (ev n ρ p.2).cells.toList) ?_ ?_ sd.1 (Nat.le_refl _), ⟨some ⟨w.heap.size, 0, none⟩, by rw [sd.1]⟩⟩
    · apply Array.toList_inj.1
      rw [g2, Nat.zero_mul, Nat.zero_add, sd.1, List.drop_eq_nil_of_le (by simp)]
      simp only [List.take_zero, List.nil_append, List.append_nil, List.map_map]
      rfl
    · have := rr.mono hgr.le
      rwa [List.map_map] at this
  refine Ops.cons (OpW.buildSlice (arr := arr) (e := e) (fun w => by rw [List.map_toArray]; exact run_buildSlice ts.h (by rw [hzk]; exact rt.k) (isZero_of el) (by rw [hzk]; exact sd.2) (by simpa using g1) w) ?_)
  refine Ops.cons (OpW.valD (v := .slice (some ⟨w.heap.size, 0, none⟩) len len) (w' := newW w (.cells arr e (arr.size, arr.size + 1))) ?_ ?_)
  · have hev : ev n (upd ρ d1 (.slice (some ⟨w.heap.size, 0, none⟩) len len)) (.tmp d1) = .slice (some ⟨w.heap.size, 0, none⟩) len len := by
      show (bif Nat.blt d1 n then upd ρ d1 _ d1 else undef) = _
      rw [blt_of bl.h, upd_at]; rfl
    have hc := Lib.run_convert_bytes_const (P := P) w t e arr len len ts.h he
    have hc2 : (convert t t (.slice (some ⟨w.heap.size, 0, none⟩) len len)).run P (newW w (.cells arr e (0, 0))) = .ok (.slice (some ⟨w.heap.size, 0, none⟩) len len) (newW w (.cells arr e (arr.size, arr.size + 1))) := hc
    simp only [execOp, hev, Sem.run_bind, hc2, Result.andThen]; rfl
  · exact g.p h6 _ _ _ ((s.put hgr hden h1 (h2 rfl)).set hden h4 (h5 rfl))⟩
theorem gL1 {σ : Type} {x : Code} (E : σ → EL) (Bs : σ → List Res) (I : σ → Prop) (μ : σ → Nat) (st : σ) (first : GW P n X ms loc env B x (.cut (Bk X.c n X.h0 X.w0 E Bs I μ st) k)) (round : ∀ s, I s → GW P n X ms [] (E s) (Bs s) x (.cut (Bk X.c n X.h0 X.w0 E Bs I μ s) k)) : GW P n X ms loc env B (.loop x) k := ⟨fun ρ h w s => by
  refine WT.loop (σ := Option σ) (fun o ρ w => match o with | none => ∃ h, Sy X.h0 X.w0 loc env B ρ h w | some s => I s ∧ ∃ h, Sy X.h0 X.w0 [] (E s) (Bs s) ρ h w) (fun o => match o with | none => μ st | some s => μ s) none ⟨h, s⟩ ?_
  rintro (_ | s') ρ' w' hs
  · obtain ⟨h', sy⟩ := hs
    refine (first.p ρ' h' w' sy).mono fun e a2 w2 hq => ?_
    cases e with
    | normal =>
      obtain ⟨ρ2, rfl, s2, a1, a2, a3⟩ := Bk.p hq
      exact ⟨ρ2, rfl, some s2, ⟨a1, a3⟩, a2⟩
    | _ => exact hq
  · obtain ⟨hi, h', sy⟩ := hs
    refine ((round s' hi).p ρ' h' w' sy).mono fun e a2 w2 hq => ?_
    cases e with
    | normal =>
      obtain ⟨ρ2, rfl, s2, a1, a2, a3⟩ := Bk.p hq
      exact ⟨ρ2, rfl, some s2, ⟨a1, a3⟩, a2⟩
    | _ => exact hq⟩
end
end Go.E3
