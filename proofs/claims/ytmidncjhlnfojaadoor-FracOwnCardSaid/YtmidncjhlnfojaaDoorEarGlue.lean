/- About package frac: EarGlue. -/
import Derived.Test.YtmidncjhlnfojaaDoorCards
import Derived.Test.YtmidncjhlnfojaaDoorTie
import Derived.ProofKit
import Derived.OpenShut
import Derived.Deep.DeepHandedRow
import Derived.Deep.Slices
import Derived.Lib.LaidTab
import Derived.Lib.SmallJoins
import Derived.Carry
import Derived.Test.YtmidncjhlnfojaaDoorEarFn
import Derived.Test.YtmidncjhlnfojaaDoorEarStr
import Derived.Test.YtmidncjhlnfojaaDoorNumRep
set_option linter.all false
set_option linter.unusedSimpArgs false
namespace Go.Ear
open Go.ChangeShapes Go.RowKit Go.Joins Go.Deep Go.ChangeAt
def PHof (w : World) : PH := fun b => w.heap[b]?
theorem PHof.sat (w : World) : Sat (PHof w) w := fun _ _ e => e
theorem sameAt_of {w w' : World} (g : Ext w w') {p : MemPlace} (hp : p.block < w.heap.size) : w.sameAt w' p := by
  cases p with
  | cell b off => show w'.cell? _ = w.cell? _; unfold World.cell?; rw [g.block b hp]
  | map b => exact g.block b hp
theorem keptBut_of {w w' : World} (g : Ext w w') (may : MemPlace → Prop) : w.keptBut w' may := by
  refine ⟨g.os, g.output, fun i hi => ?_⟩
  rw [g.block i hi]
  cases h : w.heap[i]? with
  | none => trivial
  | some o => cases o <;> simp
theorem frozen_of {w w' : World} (g : Ext w w') {b off : Nat} (hb : b < w.heap.size) : w'.frozen? ⟨b, off, none⟩ = w.frozen? ⟨b, off, none⟩ := by
  unfold World.frozen?; show (match w'.heap[b]? with | some (.cells _ _ (lo, hi)) => _ | _ => _) = _; rw [g.block b hb]; rfl
section
variable {H : Type} {enc : TypeId × Value → H} {P : Program}
theorem trodAll_stays (hl : laidOutB P = true) {W W' : World} {sp : Nat → Bool} : ∀ {ts : List TypeId} {vs : List Value} {ds : List (DataW H)} {ps : List MemPlace},
    (∀ t ∈ ts, P.readableRec t = true ∧ t < P.types.size) → DataW.TrodAll enc P W 0 (fun _ => true) true ts vs ds ps → (∀ p ∈ ps, W.sameAt W' p) → (∀ p ∈ ps, sp p.block = true) →
    DataW.TrodAll enc P W' 0 sp true ts vs ds ps
  | [], vs, ds, ps, _, h, _, _ => by obtain ⟨rfl, rfl, rfl⟩ := trodAll_nil h; exact trodAll_mk0
  | t :: ts, vs, ds, ps, ht, h, hs, hp => by
    obtain ⟨v, vs', d, ds', p, q, rfl, rfl, rfl, h0, h1⟩ := trodAll_cons h
    exact trodAll_cons_mk (WideElems.Trod_stays hl (ht t (by simp)).1 (ht t (by simp)).2 h0 (fun x hx => hs x (by simp [hx])) (fun x hx => hp x (by simp [hx])))
      (trodAll_stays hl (fun t' h' => ht t' (by simp [h'])) h1 (fun x hx => hs x (by simp [hx])) (fun x hx => hp x (by simp [hx])))
theorem law_post (hl : laidOutB P = true) {tb : TypeId} (hb : P.underlying tb = some .bool) {f : Func} {s : ChangeSpec} {apart fresh handsOn again : Bool} {W W' : World} {args : Array Value} {ds : List (DataW H)} {before : List MemPlace}
    (hts : ∀ t ∈ f.params.toList, P.readableRec t = true ∧ t < P.types.size) (hrt : f.resultTypes = #[tb]) (hv : s.vars = [])
    (hr : (s.fn H (ds ++ [])).results = [.lit (.bool true)]) (ha : (s.fn H (ds ++ [])).args = ds) (hvs : (s.fn H (ds ++ [])).vars = [])
    (hW : DataW.Whole enc P f.params.toList s.vars apart W args.toList ds [] before) (g : Ext W W') : s.post enc P f apart fresh handsOn again W args (.bool true) W' := by
  have hlt : ∀ x ∈ before, x.block < W.heap.size := fun x hx => by simpa using hW.lt x hx
  have hW' := hW
  obtain ⟨p, q, hA, hV, hpq, hz, hn⟩ := hW
  rw [hv] at hV
  obtain ⟨_, rfl⟩ := trodVars_none hV
  rw [List.append_nil] at hpq
  subst hpq
  have hres : ∀ (b : Nat) (sp : Nat → Bool) (hd : Bool), DataW.TrodAll enc P W' b sp hd f.resultTypes.toList ((Value.bool true).resultList f.resultTypes.size) (s.fn H (ds ++ [])).results [] := fun b sp hd => by
    rw [hrt, hr]; exact trodAll_mk1 (shut_bool hb true)
  have hargs : ∀ sp : Nat → Bool, (∀ p ∈ before, sp p.block = true) → DataW.TrodAll enc P W' 0 sp true f.params.toList args.toList (s.fn H (ds ++ [])).args before := fun sp h => by
    rw [ha]; exact trodAll_stays hl hts hA (fun x hx => sameAt_of g (hlt x hx)) h
  have hvars : ∀ sp : Nat → Bool, DataW.TrodVars enc P W' sp s.vars (s.fn H (ds ++ [])).vars [] := fun sp => by rw [hv, hvs]; rfl
  refine ⟨ds, [], before, [], before, [], hW', hres _ _ _, hargs _ (fun x hx => by simpa using hlt x hx), hvars _, keptBut_of g _, fun _ => ?_⟩
  refine ⟨ok_one hrt rfl (okWide_bool_mk hb true), _, _, ([] ++ before) ++ [], ⟨[] ++ before, [], trodAll_append (hargs _ (fun _ _ => rfl)) (hres _ _ _), hvars _, rfl, ?_, ?_⟩, ?_⟩
  · intro b off hp
    have hp' : MemPlace.cell b off ∈ before := by simpa using hp
    rw [frozen_of g (show b < W.heap.size from hlt _ hp')]
    exact hz b off hp'
  · intro h; simpa using hn h
  · intro x hx _; simpa using hx
theorem openU {t e : TypeId} {fuel : Nat} {v : Value} {x : DataW H × List MemPlace} {W : World} (ht : P.underlying t = some (.slice e)) (he : P.underlying e = some (.int .u32)) (hc : P.cellsOf e = 1)
    (h : DataW.trod enc P W 0 (fun _ => true) true fuel t [v] = some x) : ∃ l, U (PHof W) v l := by
  rcases open_ints ht he hc h with ⟨hcs, _⟩ | ⟨a, len, cap, zs, hcs, _, hlc, _, hz, _, hcell, hwf⟩
  · cases hcs
    exact ⟨[], fun x hx => by simp at hx, none, 0, rfl, Nat.le_refl _, fun cs h => by simp [cellsU] at h, .inl rfl⟩
  · cases hcs
    simp only [if_true] at hz
    have hwn : ∀ i, i < zs.length → 0 ≤ zs.getD i 0 ∧ zs.getD i 0 < 4294967296 := fun i hi => by
      have h1 := hwf (zs.getD i 0) (by rw [List.getD_eq_getElem?_getD, List.getElem?_eq_getElem hi]; exact List.getElem_mem hi)
      unfold Lit.wf at h1
      rw [Bool.and_eq_true, decide_eq_true_iff, decide_eq_true_iff] at h1
      have e1 : IntKind.min .u32 = 0 := rfl
      have e2 : IntKind.max .u32 = 4294967295 := rfl
      omega
    have hlen : ((zs.take len).map Int.toNat).length = len := by simp; omega
    refine ⟨(zs.take len).map Int.toNat, ?_, some a, cap, ?_, ?_, ?_, ?_⟩
    · intro x hx
      obtain ⟨z, hz1, rfl⟩ := List.mem_map.1 hx
      obtain ⟨i, hi, rfl⟩ := List.getElem_of_mem (List.mem_of_mem_take hz1)
      have := hwn i hi
      rw [List.getD_eq_getElem?_getD, List.getElem?_eq_getElem hi] at this
      simp at this; omega
    · rw [cellsU_length, hlen]
    · rw [cellsU_length, hlen]; exact hlc
    · intro cs h
      obtain ⟨_, _, rfl⟩ := List.mem_map.1 h; rfl
    · by_cases h0 : len = 0
      · left; subst h0; simp [cellsU]
      · right
        have c0 := hcell 0 (by omega)
        obtain ⟨b, off, sp⟩ := a
        have hbk : ∃ arr e fz, W.heap[b]? = some (.cells arr e fz) := by
          unfold World.cell? at c0
          rw [show ((⟨b, off, sp⟩ : Addr).add 0).block = b by unfold Addr.add; split <;> rfl] at c0
          cases hb : W.heap[b]? with
          | none => rw [hb] at c0; cases c0
          | some o =>
            cases o with
            | cells arr e fz => exact ⟨_, _, _, rfl⟩
            | _ => rw [hb] at c0; cases c0
        obtain ⟨arr, e', fz, hb⟩ := hbk
        have hsp : sp = none := by
          cases sp with
          | none => rfl
          | some y =>
            exfalso
            have h9 : W.cell? ⟨b, off, some y⟩ = some (Value.int .u32 (zs.getD 0 0)) := c0
            unfold World.cell? at h9
            rw [show (⟨b, off, some y⟩ : Addr).block = b from rfl, hb] at h9
            exact absurd h9 (by simp)
        subst hsp
        have hcl : ∀ i, i < zs.length → arr[off + i]? = some (.int .u32 (zs.getD i 0)) := fun i hi => by
          have h9 := hcell i hi
          rw [addr_add] at h9
          unfold World.cell? at h9
          rw [show (⟨b, off + i, none⟩ : Addr).block = b from rfl, hb] at h9
          simpa using h9
        refine ⟨b, off, arr, e', fz, rfl, hb, ?_, ?_⟩
        · rw [cellsU_length, hlen]
          have := hcl (len - 1) (by omega)
          have := (Array.getElem?_eq_some_iff.1 this).1
          omega
        · intro i cs hcs
          simp only [cellsU, List.map_map, List.getElem?_map, Option.map_eq_some_iff] at hcs
          obtain ⟨z, hz1, rfl⟩ := hcs
          have hi : i < len := by have := (List.getElem?_eq_some_iff.1 hz1).1; simp at this; omega
          rw [List.getElem?_take_of_lt hi] at hz1
          have h2 := hcl i (by omega)
          have h3 := hwn i (by omega)
          rw [List.getD_eq_getElem?_getD, hz1] at h2 h3
          simp only [Option.getD_some] at h2 h3
          rw [Nat.mul_one]
          have hlt := (Array.getElem?_eq_some_iff.1 h2).1
          have he := (Array.getElem?_eq_some_iff.1 h2).2
          unfold cut
          rw [List.drop_eq_getElem_cons (by simpa using hlt)]
          simp only [List.take_succ_cons, List.take_zero, Function.comp]
          rw [Array.getElem_toList, he, Int.toNat_of_nonneg h3.1]
theorem openF {t ts e tb : TypeId} {f0 f1 f2 : Field} {r : Reach} {b0 : Nat} {v : Value} {d : DataW H} {p : List MemPlace} {W : World} (hs : P.underlying t = some (.struct #[f0, f1, f2])) (hone : oneCellFields P #[f0, f1, f2] = true) (hC : P.cellsOf t = 3)
    (h0 : f0.type = tb) (h1 : f1.type = ts) (h2 : f2.type = ts) (hb : P.underlying tb = some .bool) (ht : P.underlying ts = some (.slice e)) (he : P.underlying e = some (.int .u32)) (hc : P.cellsOf e = 1)
    (hv : Value.okWide P W r b0 t v) (h : DataW.Trod enc P W 0 (fun _ => true) true t v d p) : ∃ f, F (PHof W) v f := by
  obtain ⟨v0, v1, v2, y0, y1, y2, n, rfl, rfl, rfl, g0, g1, g2⟩ := open_agg3 hs hone hC hv h
  rw [h0] at g0; rw [h1] at g1; rw [h2] at g2
  obtain ⟨s, e0, _⟩ := DataW.trod_bool hb g0
  cases e0
  obtain ⟨l1, u1⟩ := openU ht he hc g1
  obtain ⟨l2, u2⟩ := openU ht he hc g2
  exact ⟨⟨s, l1, l2⟩, v1, v2, rfl, u1, u2⟩
end
end Go.Ear
