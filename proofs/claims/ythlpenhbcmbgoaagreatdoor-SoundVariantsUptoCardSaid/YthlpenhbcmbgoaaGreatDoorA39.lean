/- A39: a part of the proofs about what is clipped and stored: how the program's functions run, and what they compute, for every input. -/
import Derived.Test.YthlpenhbcmbgoaaGreatDoorA33
import Derived.Test.YthlpenhbcmbgoaaGreatDoorA34
set_option linter.all false
set_option linter.unusedVariables false
set_option maxRecDepth 20000
set_option maxHeartbeats 4000000
set_option synthInstance.maxSize 1000
namespace Go.E3
open Go Go.Ear Go.Proofs
theorem tot_nilR {l : List Int} (h : phB l 400 = true) (hn : l.length ≤ 25) (q : List Int) : tot (atF [] l) q = if l = q then 1 else 0 := by
  have ap : ApOk [] l := ⟨by decide, h, hn, fun x hx => (List.not_mem_nil hx).elim⟩
  rw [show atF [] l = ats [] l l.length l.length from rfl, (ats_res ap.op).t, res_nil ap.op l.length 0 (by omega) (Nat.zero_le _), List.drop_zero, tot_cons, tot_nil, Rat.add_zero]
theorem chs_app : ∀ A B : List (List En), chs (A ++ B) = (chs A).flatMap fun c => (chs B).map (c ++ ·)
  | [], B => by
    show chs B = (chs B).map (fun x => [] ++ x) ++ []
    simp
  | o :: A, B => by
    show (o.flatMap fun e => (chs (A ++ B)).map (e :: ·)) = (o.flatMap fun e => (chs A).map (e :: ·)).flatMap _
    rw [List.flatMap_assoc]
    congr 1
    funext e
    rw [chs_app A B, List.map_flatMap, List.flatMap_map]
    congr 1
    funext c
    rw [List.map_map]; rfl
theorem wJ_app : ∀ a b : List En, wJ (a ++ b) = wJ a * wJ b
  | [], b => by
    rw [List.nil_append]
    show wJ b = 1 * wJ b
    rw [Rat.one_mul]
  | e :: a, b => by rw [List.cons_append, wJ_cons, wJ_app a b, wJ_cons, Rat.mul_assoc]
theorem phJ_app (a b : List En) : phJ (a ++ b) = phJ a ++ phJ b := by
  unfold phJ
  rw [List.flatMap_append]
def jw (C : List (List En)) (q : List Int) : Rat := sQ (C.map fun c => wJ c * if phJ c = q then 1 else 0)
theorem wgS_jw {C : List (List En)} {q : List Int} (h : ∀ c ∈ C, phB (phJ c) 400 = true ∧ (phJ c).length ≤ 25) : wgS [] C q = jw C q := by
  unfold wgS jw
  exact sQ_congr fun c hc => by rw [tot_nilR (h c hc).1 (h c hc).2]
theorem split_one (p1 p2 q : List Int) : (if p1 ++ p2 = q then (1 : Rat) else 0) = sQ ((List.range (q.length + 1)).map fun k => (if p1 = q.take k then (1 : Rat) else 0) * if p2 = q.drop k then 1 else 0) := by
  by_cases h : p1 ++ p2 = q
  · subst h
    rw [if_pos rfl]
    have e : ∀ k ∈ List.range ((p1 ++ p2).length + 1), ((if p1 = (p1 ++ p2).take k then (1 : Rat) else 0) * if p2 = (p1 ++ p2).drop k then 1 else 0) = if p1.length = k then 1 else 0 := fun k hk => by
      have hk := List.mem_range.1 hk
      by_cases e : p1.length = k
      · subst e
        rw [if_pos (by simp), if_pos (by simp), if_pos rfl, Rat.mul_one]
      · rw [if_neg e]
        rw [if_neg (c := p1 = _), Rat.zero_mul]
        intro h
        have := congrArg List.length h
        rw [List.length_take] at this
        rw [List.length_append] at hk this
        omega
    rw [sQ_congr e, sQ_at (g := fun _ => (1 : Rat)) List.nodup_range (List.mem_range.2 (by rw [List.length_append]; omega))]
  · rw [if_neg h]
    refine (sQ_zero fun k hk => ?_).symm
    by_cases e1 : p1 = q.take k
    · rw [if_neg (c := p2 = _), Rat.mul_zero]
      intro e2
      rw [e1, e2, List.take_append_drop] at h
      exact h rfl
    · rw [if_neg e1, Rat.zero_mul]
theorem jw_app (A B : List (List En)) (q : List Int) : jw (chs (A ++ B)) q = sQ ((List.range (q.length + 1)).map fun k => jw (chs A) (q.take k) * jw (chs B) (q.drop k)) := by
  unfold jw
  rw [chs_app, sQ_fm]
  have e1 : ∀ k, sQ ((chs A).map fun c => wJ c * if phJ c = q.take k then 1 else 0) * sQ ((chs B).map fun c => wJ c * if phJ c = q.drop k then 1 else 0) = sQ ((chs A).map fun c => sQ ((chs B).map fun d => (wJ c * if phJ c = q.take k then 1 else 0) * (wJ d * if phJ d = q.drop k then 1 else 0))) := fun k => by
    rw [← sQ_mulr]
    refine sQ_congr fun c _ => ?_
    rw [← sQ_mul, List.map_map]; rfl
  rw [sQ_congr fun k _ => e1 k, sQ_swap]
  refine sQ_congr fun c _ => ?_
  rw [sQ_swap, List.map_map]
  refine sQ_congr fun d _ => ?_
  show wJ (c ++ d) * (if phJ (c ++ d) = q then 1 else 0) = _
  rw [wJ_app, phJ_app, split_one, ← sQ_mul, List.map_map]
  refine sQ_congr fun k _ => ?_
  show wJ c * wJ d * (_ * _) = _
  grind
end Go.E3
