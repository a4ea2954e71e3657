/- A43: a part of the proofs about what is clipped and stored: how the program's functions run, and what they compute, for every input. -/
import Derived.Test.YthlpenhbcmbgoaaGreatDoorA40
set_option linter.all false
set_option linter.unusedVariables false
set_option maxRecDepth 20000
set_option maxHeartbeats 4000000
set_option synthInstance.maxSize 1000
namespace Go.E3
open Go Go.Ear Go.Proofs
def vaB (l : List En) (w : ByteArray) : Bag (List Int) := (ownE l w).map fun e => (e.ph, e.f.rat)
def vaF (l : List En) (w : ByteArray) : List Fo := (ownE l w).map fun e => ⟨e.ph, frK e.f.rat⟩
def vaR (l : List En) (w : ByteArray) : List Fo := (ownE l w).map fun e => ⟨e.ph, e.f⟩
theorem srt_pair {l : List En} (s : Srt l) : l.Pairwise fun a b => befE a b < 0 := by
  rw [List.pairwise_iff_getElem]
  intro i j hi hj hij
  have h := s.lt hij hj
  rw [List.getD_eq_getElem?_getD, List.getElem?_eq_getElem hi, List.getD_eq_getElem?_getD, List.getElem?_eq_getElem hj] at h
  exact h
theorem own_pair {l : List En} (s : Srt l) (w : ByteArray) : (ownE l w).Pairwise fun a b => ordI a.ph b.ph < 0 := by
  have h := (srt_pair s).filter (fun e => decide (e.w = w))
  refine List.Pairwise.imp_of_mem (fun {a b} ha hb h => ?_) h
  have e1 : a.w = w := by simpa using (List.mem_filter.1 ha).2
  have e2 : b.w = w := by simpa using (List.mem_filter.1 hb).2
  unfold befE at h
  rw [if_neg (by rw [e1, e2, cmpS_self]; simp)] at h
  exact h
theorem va_keys {l : List En} (s : Srt l) (w : ByteArray) : ((vaB l w).map (·.1)).Pairwise fun a b => ordI a b < 0 := by
  have e : (vaB l w).map (·.1) = (ownE l w).map En.ph := by unfold vaB; rw [List.map_map]; rfl
  rw [e, List.pairwise_map]
  exact own_pair s w
theorem ordI_nodup {a : List (List Int)} (h : a.Pairwise fun a b => ordI a b < 0) : a.Nodup := h.imp fun {x y} h e => by
  subst e
  have := ordI_to.self x
  omega
theorem tot_ndb {α : Type} [DecidableEq α] : ∀ {b : Bag α} {p : α} {w : Rat}, (b.map (·.1)).Nodup → (p, w) ∈ b → tot b p = w
  | x :: b, p, w, nd, h => by
    rw [List.map_cons, List.nodup_cons] at nd
    rw [tot_cons]
    rcases List.mem_cons.1 h with h | h
    · subst h
      rw [if_pos rfl, tot_none, Rat.add_zero]
      rintro ⟨v, hv⟩
      exact nd.1 (List.mem_map.2 ⟨_, hv, rfl⟩)
    · rw [if_neg, Rat.zero_add]
      · exact tot_ndb nd.2 h
      · intro e
        exact nd.1 (List.mem_map.2 ⟨_, h, e.symm⟩)
theorem va_mem {l : List En} (s : Srt l) {w : ByteArray} {x : Fo} : x ∈ fosB (vaB l w) ↔ x ∈ vaF l w := by
  have nd := ordI_nodup (va_keys s w)
  rw [mem_fosB]
  unfold vaF
  rw [List.mem_map]
  constructor
  · rintro ⟨p, ⟨v, hv⟩, rfl⟩
    obtain ⟨e, he, e2⟩ := List.mem_map.1 hv
    rw [Prod.mk.injEq] at e2
    refine ⟨e, he, ?_⟩
    rw [tot_ndb nd hv, ← e2.1, ← e2.2]
  · rintro ⟨e, he, rfl⟩
    have hm : (e.ph, e.f.rat) ∈ vaB l w := List.mem_map.2 ⟨e, he, rfl⟩
    exact ⟨e.ph, ⟨_, hm⟩, by rw [tot_ndb nd hm]⟩
theorem va_perm {l : List En} (s : Srt l) (w : ByteArray) : (vaF l w).Perm (fosB (vaB l w)) := by
  refine nd_perm (nodup_of_map (f := Fo.ph) ?_) (fosB_nodup _) fun x => (va_mem s).symm
  have e : (vaF l w).map Fo.ph = (vaB l w).map (·.1) := by unfold vaF vaB; rw [List.map_map, List.map_map]; rfl
  rw [e]; exact ordI_nodup (va_keys s w)
theorem va_srt {l : List En} (s : Srt l) {w : ByteArray} {f : List Fo} (h : f.Perm (vaF l w)) (h2 : f.Pairwise fun a b => ¬ cmpFo b a < 0) : f = srtF (vaB l w) := srt_one cmpFo_swo (fosB_anti _) (h.trans (va_perm s w)) h2
theorem va_pos {l : List En} (h : valB l = true) (w : ByteArray) : PosB (vaB l w) := fun x hx => by
  obtain ⟨e, he, rfl⟩ := List.mem_map.1 hx
  exact ((val_ent h).2 e (ownE_sub he).1).2.1
theorem va_one {l : List En} (h : valB l = true) {w : ByteArray} (hne : ownE l w ≠ []) : lin (fun _ => 1) (vaB l w) = 1 := by
  obtain ⟨e, he⟩ := List.exists_mem_of_ne_nil _ hne
  obtain ⟨h1, h2⟩ := ownE_sub he
  unfold valB at h
  rw [Bool.and_eq_true, Bool.and_eq_true] at h
  have h3 := List.all_eq_true.1 h.2.2 e h1
  have h3 : totW l e.w = 1 := by simpa using h3
  rw [h2] at h3
  refine Eq.trans ?_ h3
  unfold lin vaB totW ownE
  rw [List.map_map]
  exact sQ_congr fun x _ => Rat.one_mul x.f.rat
def insW (out : List Fo) (x : Fo) : List Fo := out.takeWhile (fun y => decide (0 ≤ sgQ (y.f.rat - x.f.rat))) ++ [x] ++ out.dropWhile (fun y => decide (0 ≤ sgQ (y.f.rat - x.f.rat)))
def canF (e : Fo) : Fo := ⟨e.ph, frK e.f.rat⟩
def srtW (l : List Fo) : List Fo := (l.map canF).foldl insW []
theorem insW_cons (y : Fo) (ys : List Fo) (x : Fo) : insW (y :: ys) x = if 0 ≤ sgQ (y.f.rat - x.f.rat) then y :: insW ys x else x :: y :: ys := by
  unfold insW
  rw [List.takeWhile_cons, List.dropWhile_cons]
  by_cases h : 0 ≤ sgQ (y.f.rat - x.f.rat)
  · rw [if_pos h, if_pos (decide_eq_true h), if_pos (decide_eq_true h)]; rfl
  · rw [if_neg h, if_neg (by simpa using h), if_neg (by simpa using h)]; rfl
theorem insW_perm (x : Fo) : ∀ out : List Fo, (insW out x).Perm (x :: out)
  | [] => .refl _
  | y :: ys => by
    rw [insW_cons]
    split
    · exact ((insW_perm x ys).cons y).trans (.swap ..)
    · exact .refl _
theorem cmpFo_tr {a b d : Fo} (h1 : cmpFo a b < 0) (h2 : cmpFo b d < 0) : cmpFo a d < 0 := (cmpR_to.pair ordI_to).tr (a.f.rat, a.ph) (b.f.rat, b.ph) (d.f.rat, d.ph) h1 h2
theorem cmpFo_neg (a b : Fo) : cmpFo b a = - cmpFo a b := (cmpR_to.pair ordI_to).neg (a.f.rat, a.ph) (b.f.rat, b.ph)
theorem insW_srt {x : Fo} : ∀ {out : List Fo}, (out.Pairwise fun a b => cmpFo a b < 0) → (∀ y ∈ out, ordI y.ph x.ph < 0) → (insW out x).Pairwise fun a b => cmpFo a b < 0
  | [], _, _ => List.pairwise_singleton _ _
  | y :: ys, h, hp => by
    obtain ⟨h1, h2⟩ := List.pairwise_cons.1 h
    rw [insW_cons]
    split
    · rename_i c
      refine List.pairwise_cons.2 ⟨fun z hz => ?_, insW_srt h2 fun z hz => hp z (List.mem_cons_of_mem _ hz)⟩
      rcases List.mem_cons.1 ((insW_perm x ys).mem_iff.1 hz) with rfl | hz
      · have hy := hp y (List.mem_cons_self ..)
        have e : cmpR z.f.rat y.f.rat = sgQ (y.f.rat - z.f.rat) := rfl
        have n := cmpR_to.neg z.f.rat y.f.rat
        unfold cmpFo
        split
        · omega
        · exact hy
      · exact h1 z hz
    · rename_i c
      have e : cmpR x.f.rat y.f.rat = sgQ (y.f.rat - x.f.rat) := rfl
      have h0 : cmpFo x y < 0 := by
        unfold cmpFo
        rw [if_pos (by omega)]; omega
      refine List.pairwise_cons.2 ⟨fun z hz => ?_, h⟩
      rcases List.mem_cons.1 hz with rfl | hz
      · exact h0
      · exact cmpFo_tr h0 (h1 z hz)
theorem foldW {l : List Fo} : ∀ {s : List Fo}, (s.Pairwise fun a b => cmpFo a b < 0) → (l.Pairwise fun a b => ordI a.ph b.ph < 0) → (∀ y ∈ s, ∀ x ∈ l, ordI y.ph x.ph < 0) → (l.foldl insW s).Perm (s ++ l) ∧ (l.foldl insW s).Pairwise fun a b => cmpFo a b < 0 := by
  induction l with
  | nil => exact fun h _ _ => ⟨by rw [List.append_nil]; exact .refl _, h⟩
  | cons x l ih =>
    intro s h hl hs
    obtain ⟨l1, l2⟩ := List.pairwise_cons.1 hl
    obtain ⟨p, q⟩ := ih (s := insW s x) (insW_srt h fun y hy => hs y hy x (List.mem_cons_self ..)) l2 fun y hy z hz => by
      rcases List.mem_cons.1 ((insW_perm x s).mem_iff.1 hy) with rfl | hy
      · exact l1 z hz
      · exact hs y hy z (List.mem_cons_of_mem _ hz)
    refine ⟨?_, q⟩
    rw [List.foldl_cons]
    refine p.trans (((insW_perm x s).append_right l).trans ?_)
    exact List.perm_middle.symm
theorem va_ref {l : List En} (s : Srt l) (w : ByteArray) : srtW (vaR l w) = srtF (vaB l w) := by
  have e : (vaR l w).map canF = vaF l w := by unfold vaR vaF; rw [List.map_map]; rfl
  obtain ⟨p, q⟩ := foldW (l := vaF l w) (s := []) .nil (by unfold vaF; rw [List.pairwise_map]; exact own_pair s w) fun y hy => (List.not_mem_nil hy).elim
  refine va_srt s (by unfold srtW; rw [e]; simpa using p) ?_
  unfold srtW
  rw [e]
  exact q.imp fun {a b} h => by
    have := cmpFo_neg a b
    omega
end Go.E3
