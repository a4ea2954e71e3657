/- GS1: a part of the proofs about what is clipped and stored: how the program's functions run, and what they compute, for every input. -/
import Derived.Test.YthlpenhbcmbgoaaGreatDoorRows
import Derived.ProofKit
import Derived.OpenShut
import Derived.JoinedCond
import Derived.Deep.Slices
import Derived.Lib.SmallJoins
import Derived.Carry
import Derived.Test.YthlpenhbcmbgoaaGreatDoorA30
set_option linter.all false
set_option linter.unusedSimpArgs false
namespace Go.E3
open Go.Ear
open Go.ChangeShapes Go.RowKit Go.Joins Go.Deep Go.ChangeAt
section
open Go.Proofs.YthlpenhbcmbgoaaGreatDoor
abbrev bulk {H : Type} (d : DataW H) : Nat := Rows.uptoBulk d
theorem bulk_one {H : Type} (d : DataW H) : 1 ≤ bulk d := by
  unfold bulk
  cases d with
  | lit l => cases l <;> simp [Rows.uptoBulk]
  | _ => simp [Rows.uptoBulk]
theorem bulk_agg {H : Type} (l : List (DataW H)) : bulk (.agg l) = Rows.uptoBulkAll l + 1 := by unfold bulk; simp only [Rows.uptoBulk]
end
def PHof (w : World) : PH := fun b => w.heap[b]?
theorem PHof.sat (w : World) : Sat (PHof w) w := fun _ _ e => e
theorem sameAt_of {w w' : World} (g : Ext w w') {p : MemPlace} (hp : p.block < w.heap.size) : w.sameAt w' p := by
  cases p with
  | cell b off => show w'.cell? _ = w.cell? _; unfold World.cell?; rw [g.block b hp]
  | map b => exact g.block b hp
theorem keptBut_of {w w' : World} (g : Ext w w') (may : MemPlace → Prop) : w.keptBut w' may := by
  refine ⟨g.os, g.output, fun i hi => ?_⟩
  rw [g.block i hi]
  cases h : w.heap[i]? with
  | none => trivial
  | some o => cases o <;> simp
theorem frozen_of {w w' : World} (g : Ext w w') {b off : Nat} (hb : b < w.heap.size) : w'.frozen? ⟨b, off, none⟩ = w.frozen? ⟨b, off, none⟩ := by
  unfold World.frozen?; show (match w'.heap[b]? with | some (.cells _ _ (lo, hi)) => _ | _ => _) = _; rw [g.block b hb]; rfl
open Go.Proofs.YthlpenhbcmbgoaaGreatDoor
section
variable {H : Type} {enc : TypeId × Value → H} {P : Program}
theorem trodAll_stays (hl : laidOutB P = true) {W W' : World} {sp : Nat → Bool} : ∀ {ts : List TypeId} {vs : List Value} {ds : List (DataW H)} {ps : List MemPlace},
    (∀ t ∈ ts, P.readableRec t = true ∧ t < P.types.size) → DataW.TrodAll enc P W 0 (fun _ => true) true ts vs ds ps → (∀ p ∈ ps, W.sameAt W' p) → (∀ p ∈ ps, sp p.block = true) →
    DataW.TrodAll enc P W' 0 sp true ts vs ds ps
  | [], vs, ds, ps, _, h, _, _ => by obtain ⟨rfl, rfl, rfl⟩ := trodAll_nil h; exact trodAll_mk0
  | t :: ts, vs, ds, ps, ht, h, hs, hp => by
    obtain ⟨v, vs', d, ds', p, q, rfl, rfl, rfl, h0, h1⟩ := trodAll_cons h
    exact trodAll_cons_mk (WideElems.Trod_stays hl (ht t (by simp)).1 (ht t (by simp)).2 h0 (fun x hx => hs x (by simp [hx])) (fun x hx => hp x (by simp [hx])))
      (trodAll_stays hl (fun t' h' => ht t' (by simp [h'])) h1 (fun x hx => hs x (by simp [hx])) (fun x hx => hp x (by simp [hx])))
theorem law_post (hl : laidOutB P = true) {tb : TypeId} (hb : P.underlying tb = some .bool) {f : Func} {s : ChangeSpec} {apart fresh handsOn again : Bool} {W W' : World} {args : Array Value} {ds : List (DataW H)} {before : List MemPlace}
    (hts : ∀ t ∈ f.params.toList, P.readableRec t = true ∧ t < P.types.size) (hrt : f.resultTypes = #[tb]) (hv : s.vars = [])
    (hr : (s.fn H (ds ++ [])).results = [.lit (.bool true)]) (ha : (s.fn H (ds ++ [])).args = ds) (hvs : (s.fn H (ds ++ [])).vars = [])
    (hW : DataW.Whole enc P f.params.toList s.vars apart W args.toList ds [] before) (g : Ext W W') : s.post enc P f apart fresh handsOn again W args (.bool true) W' := by
  have hlt : ∀ x ∈ before, x.block < W.heap.size := fun x hx => by simpa using hW.lt x hx
  have hW' := hW
  obtain ⟨p, q, hA, hV, hpq, hz, hn⟩ := hW
  rw [hv] at hV
  obtain ⟨_, rfl⟩ := trodVars_none hV
  rw [List.append_nil] at hpq
  subst hpq
  have hres : ∀ (b : Nat) (sp : Nat → Bool) (hd : Bool), DataW.TrodAll enc P W' b sp hd f.resultTypes.toList ((Value.bool true).resultList f.resultTypes.size) (s.fn H (ds ++ [])).results [] := fun b sp hd => by
    rw [hrt, hr]; exact trodAll_mk1 (shut_bool hb true)
  have hargs : ∀ sp : Nat → Bool, (∀ p ∈ before, sp p.block = true) → DataW.TrodAll enc P W' 0 sp true f.params.toList args.toList (s.fn H (ds ++ [])).args before := fun sp h => by
    rw [ha]; exact trodAll_stays hl hts hA (fun x hx => sameAt_of g (hlt x hx)) h
  have hvars : ∀ sp : Nat → Bool, DataW.TrodVars enc P W' sp s.vars (s.fn H (ds ++ [])).vars [] := fun sp => by rw [hv, hvs]; rfl
  refine ⟨ds, [], before, [], before, [], hW', hres _ _ _, hargs _ (fun x hx => by simpa using hlt x hx), hvars _, keptBut_of g _, fun _ => ?_⟩
  refine ⟨ok_one hrt rfl (okWide_bool_mk hb true), _, _, ([] ++ before) ++ [], ⟨[] ++ before, [], trodAll_append (hargs _ (fun _ _ => rfl)) (hres _ _ _), hvars _, rfl, ?_, ?_⟩, ?_⟩
  · intro b off hp
    have hp' : MemPlace.cell b off ∈ before := by simpa using hp
    rw [frozen_of g (show b < W.heap.size from hlt _ hp')]
    exact hz b off hp'
  · intro h; simpa using hn h
  · intro x hx _; simpa using hx
theorem openLR {α : Type} {r : Rp α} {Q : α → Prop} (μ : α → Nat) (d0 : α) (hk0 : 0 < r.k) {t t1 : TypeId} {W : World} {fuel : Nat} {cs0 : List Value} {x : DataW H × List MemPlace} (htl : P.underlying t = some (.slice t1)) (hC : P.cellsOf t1 = r.k)
    (hel : ∀ (n : Nat) (cs : List Value) (y : DataW H × List MemPlace), DataW.trod enc P W 0 (fun _ => true) true n t1 cs = some y → ∃ a, cs.length = r.k ∧ r.R (PHof W) cs a ∧ μ a ≤ bulk y.1 ∧ Q a)
    (h : DataW.trod enc P W 0 (fun _ => true) true fuel t cs0 = some x) : ∃ v l, cs0 = [v] ∧ LR r (PHof W) v l ∧ (l.map μ).sum + 1 ≤ bulk x.1 ∧ ∀ a ∈ l, Q a := by
  rcases open_slice htl h with ⟨hcs, hxx⟩ | ⟨a, len, cap, m, n, D, Pl, hcs, _, hlc, _, hm, hxx, hx⟩
  · exact ⟨_, [], hcs, LR.nil r _ _ _, by rw [hxx]; simp [bulk, Rows.uptoBulk], fun a ha => by cases ha⟩
  · simp only [if_true] at hm
    subst hm
    rw [hC] at hx
    have hx' : ∀ i, ∃ (cs : List Value) (f : α), i < len → W.cells? 0 (a.add (i * r.k)) r.k = some cs ∧ cs.length = r.k ∧ r.R (PHof W) cs f ∧ μ f ≤ bulk (D i) ∧ Q f := fun i => by
      by_cases hi : i < len
      · obtain ⟨cs, g1, g2⟩ := hx i (by omega)
        obtain ⟨f, g3, g4, g5, g6⟩ := hel _ _ _ g2
        exact ⟨cs, f, fun _ => ⟨g1, g3, g4, g5, g6⟩⟩
      · exact ⟨[], d0, fun h => absurd h hi⟩
    obtain ⟨css, hx2⟩ := Classical.axiomOfChoice hx'
    obtain ⟨fs, hx3⟩ := Classical.axiomOfChoice hx2
    have hrows : ∀ (is : List Nat), (∀ i ∈ is, i < len) → Go.Ear.Rows r (PHof W) (is.map css) (is.map fs) := by
      intro is
      induction is with
      | nil => intro _; trivial
      | cons i is ih => intro hi; exact ⟨(hx3 i (hi i (by simp))).2.2.1, ih fun j hj => hi j (by simp [hj])⟩
    have hmu : ∀ (is : List Nat), (∀ i ∈ is, i < len) → ((is.map fs).map μ).sum ≤ Rows.uptoBulkAll (is.map D) := by
      intro is
      induction is with
      | nil => intro _; simp [Rows.uptoBulkAll]
      | cons i is ih => intro hi; have h1 := (hx3 i (hi i (by simp))).2.2.2.1; have h2 := ih fun j hj => hi j (by simp [hj]); simp only [List.map_cons, List.sum_cons, Rows.uptoBulkAll]; unfold bulk at h1; omega
    refine ⟨_, (List.range len).map fs, hcs, ⟨(List.range len).map css, ?_, hrows _ fun i hi => by simpa using hi⟩, ?_, fun a ha => by
      obtain ⟨i, hi, rfl⟩ := List.mem_map.1 ha
      exact (hx3 i (by simpa using hi)).2.2.2.2⟩
    rotate_left
    · have h1 := hmu (List.range len) fun i hi => by simpa using hi
      rw [hxx]
      show _ ≤ bulk (.slice ((List.range len).map D) _)
      unfold bulk
      simp only [Rows.uptoBulk]
      omega
    have hlen : ((List.range len).map css).length = len := by simp
    refine ⟨some a, m, by rw [hlen], by rw [hlen]; exact hlc, ?_, ?_⟩
    · intro cs hcs
      obtain ⟨i, hi, rfl⟩ := List.mem_map.1 hcs
      exact (hx3 i (by simpa using hi)).2.1
    · by_cases hz : len = 0
      · left; subst hz; rfl
      · right
        have c0 := (World.cells?_some (hx3 0 (by omega)).1).2.2
        obtain ⟨b, off, sp⟩ := a
        have l0 := (hx3 0 (by omega)).2.1
        have c00 := c0 0 (by omega)
        rw [show 0 * r.k = 0 from Nat.zero_mul _, show ((⟨b, off, sp⟩ : Addr).add 0).add 0 = ⟨b, off, sp⟩ from rfl] at c00
        rw [List.getElem?_eq_getElem (show 0 < (css 0).length by omega)] at c00
        have hbk : ∃ arr e fz, W.heap[b]? = some (.cells arr e fz) := by
          unfold World.cell? at c00
          rw [show (⟨b, off, sp⟩ : Addr).block = b from rfl] at c00
          cases hb : W.heap[b]? with
          | none => rw [hb] at c00; cases c00
          | some o =>
            cases o with
            | cells arr e fz => exact ⟨_, _, _, rfl⟩
            | _ => rw [hb] at c00; cases c00
        obtain ⟨arr, e', fz, hb⟩ := hbk
        have hsp : sp = none := by
          cases sp with
          | none => rfl
          | some y =>
            exfalso
            unfold World.cell? at c00
            rw [show (⟨b, off, some y⟩ : Addr).block = b from rfl, hb] at c00
            exact absurd c00 (by simp)
        subst hsp
        have hcl : ∀ i j, i < len → j < r.k → arr[off + i * r.k + j]? = (css i)[j]? := fun i j hi hj => by
          have h9 := (World.cells?_some (hx3 i hi).1).2.2 j hj
          rw [addr_add, addr_add] at h9
          unfold World.cell? at h9
          rw [show (⟨b, off + i * r.k + j, none⟩ : Addr).block = b from rfl, hb] at h9
          simpa using h9
        refine ⟨b, off, arr, e', fz, rfl, hb, ?_, ?_⟩
        · rw [hlen]
          have h9 := hcl (len - 1) (r.k - 1) (by omega) (by omega)
          have h8 := (hx3 (len - 1) (by omega)).2.1
          rw [List.getElem?_eq_getElem (show r.k - 1 < (css (len - 1)).length by omega)] at h9
          have := (Array.getElem?_eq_some_iff.1 h9).1
          have e1 : len * r.k = (len - 1) * r.k + r.k := by rw [← Nat.succ_mul]; congr 1; omega
          omega
        · intro i cs hcs
          have hi : i < len := by have := (List.getElem?_eq_some_iff.1 hcs).1; simpa using this
          have hcs' : css i = cs := by
            rw [List.getElem?_map, List.getElem?_eq_getElem (by simpa using hi)] at hcs
            simpa using hcs
          subst hcs'
          have h8 := (hx3 i hi).2.1
          show cut arr (off + i * r.k) r.k = css i
          apply List.ext_getElem?
          intro j
          unfold cut
          rw [List.getElem?_take]
          split
          · rename_i hj
            rw [List.getElem?_drop, ← hcl i j hi hj]; simp
          · rw [List.getElem?_eq_none (by omega)]
end
end Go.E3
