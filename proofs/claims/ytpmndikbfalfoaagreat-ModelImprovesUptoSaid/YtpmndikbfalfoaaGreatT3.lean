/- T3: a part of the proofs about package model: how the program's functions run, and what they compute, for every input. -/
import Derived.Test.YtpmndikbfalfoaaGreatT2
set_option linter.all false
set_option linter.unusedVariables false
set_option maxRecDepth 20000
set_option maxHeartbeats 8000000
set_option synthInstance.maxSize 1000
namespace Go.E3
open Go Go.Ear Go.Proofs
theorem normF_len {a : List Fr} (h : normE a = 0) : (normF a).length = a.length := by
  unfold normE at h; unfold normF
  split at h
  · cases h
  · split at h
    · cases h
    · rename_i h1 h2; rw [if_neg (fun x => x.elim h1 h2), List.length_map]
theorem shrQ_len {a b : List Fr} {n : Nat} (h1 : a.length = n) (h2 : b.length = n) : (shrQ a b).length = n := by
  unfold shrQ
  split
  · rename_i h; rw [normF_len h, h1]
  · unfold ratsL; rw [List.length_map, h2]
@[reducible] def lvM (m : Md) (i : Nat) : List Fr := m.move.getD i [] ++ [m.fin.getD i fr0]
@[reducible] def lvC (c : CtF) (i : Nat) : List Fr := c.move.getD i [] ++ [c.fin.getD i fr0]
@[reducible] def canM (m : Md) : Md := chM m.start.length (shrQ m.start m.start) (fun i => shrQ (lvM m i) (lvM m i)) (fun i => shrQ (m.say.getD i []) (m.say.getD i []))
@[reducible] def reeM (m : Md) (c : CtF) : Md := chM m.start.length (shrQ c.start m.start) (fun i => shrQ (lvC c i) (lvM m i)) (fun i => shrQ (c.say.getD i []) (m.say.getD i []))
@[reducible] def coaM (m : Md) (d : Int) : Md := chM m.start.length (coaQ m.start d) (fun i => coaQ (lvM m i) d) (fun i => coaQ (m.say.getD i []) d)
structure RwM (K : Nat) (m : Md) : Prop where
  n : 1 ≤ m.start.length ∧ m.start.length ≤ 40
  l : m.move.length = m.start.length ∧ m.fin.length = m.start.length ∧ m.say.length = m.start.length
  s : wts m.start ≤ K
  f : wts m.fin ≤ K
  mv : ∀ i, i < m.start.length → (m.move.getD i []).length = m.start.length ∧ wts (m.move.getD i []) ≤ K
  y : ∀ i, i < m.start.length → 1 ≤ (m.say.getD i []).length ∧ wts (m.say.getD i []) ≤ K
structure RwC (K : Nat) (m : Md) (c : CtF) : Prop where
  l : c.start.length = m.start.length ∧ c.move.length = m.start.length ∧ c.fin.length = m.start.length ∧ c.say.length = m.start.length
  s : wts c.start ≤ K
  f : wts c.fin ≤ K
  mv : ∀ i, i < m.start.length → (c.move.getD i []).length = m.start.length ∧ wts (c.move.getD i []) ≤ K
  y : ∀ i, i < m.start.length → (c.say.getD i []).length = (m.say.getD i []).length ∧ wts (c.say.getD i []) ≤ K
theorem RwM.lv {K : Nat} {m : Md} (r : RwM K m) {i : Nat} (hi : i < m.start.length) : (lvM m i).length = m.start.length + 1 ∧ wts (lvM m i) ≤ 2 * K + 2 := by
  have h1 := r.mv i hi
  have h2 := bf_getD m.fin i
  have h3 := r.f
  unfold lvM
  rw [List.length_append, wts_append, wts_cons, wts_nil, h1.1]
  exact ⟨rfl, by omega⟩
theorem RwC.lv {K : Nat} {m : Md} {c : CtF} (r : RwC K m c) {i : Nat} (hi : i < m.start.length) : (lvC c i).length = m.start.length + 1 ∧ wts (lvC c i) ≤ 2 * K + 2 ∧ bf (c.fin.getD i fr0) ≤ K + 1 := by
  have h1 := r.mv i hi
  have h2 := bf_getD c.fin i
  have h3 := r.f
  unfold lvC
  rw [List.length_append, wts_append, wts_cons, wts_nil, h1.1]
  exact ⟨rfl, by omega, by omega⟩
section
variable {m : Md} {c : CtF} {d : Int} {S T : SV}
instance canonical_c [i : VM S m] : Ct Tryz.prog 130 [S] (RwM 2600000 m) (mv (canM m)) := by
  haveI := i.t
  refine ct1 i.v (ctI Tryz.call130 Tryz.func130 Tryz.ntmps130 rfl Tryz.results130 rfl [] fun h0 w0 r => ?_)
  have hn := r.n
  have hl := r.l
  have hs := r.s
  have h5 : ∀ i, i < m.start.length → (shrQ (lvM m i) (lvM m i)).length = m.start.length + 1 ∧ wts (m.move.getD i []) ≤ 100000000 ∧ wts (lvM m i) ≤ 60000000 ∧ wts (m.say.getD i []) ≤ 60000000 := fun i hi => by
    have h1 := r.lv hi; have h2 := r.mv i hi; have h3 := r.y i hi
    exact ⟨shrQ_len h1.1 h1.1, by omega, by omega, by omega⟩
  repeat first | refine nx ?_ | intro _
  (repeat' (first | refine And.intro ?_ ?_ | trivial | rfl | omega))
instance reestimated_c [i : VM S m] [j : VC T c] : Ct Tryz.prog 131 [S, T] (RwM 2600000 m ∧ RwC 2600000 m c) (mv (reeM m c)) := by
  haveI := i.t
  haveI := j.t
  refine ct2 i.v j.v (ctI Tryz.call131 Tryz.func131 Tryz.ntmps131 rfl Tryz.results131 rfl [] fun h0 w0 ⟨r, q⟩ => ?_)
  have hn := r.n
  have hl := r.l
  have hs := r.s
  have ql := q.l
  have qs := q.s
  have h5 : ∀ i, i < m.start.length → (shrQ (lvC c i) (lvM m i)).length = m.start.length + 1 ∧ wts (m.move.getD i []) ≤ 100000000 ∧ (wts (c.move.getD i []) ≤ 30000000 ∧ bf (c.fin.getD i fr0) ≤ 20000000 ∧ i < c.move.length ∧ i < c.fin.length ∧ wts (lvM m i) ≤ 60000000) ∧ (wts (c.say.getD i []) ≤ 60000000 ∧ i < c.say.length ∧ wts (m.say.getD i []) ≤ 60000000) := fun i hi => by
    have h1 := r.lv hi; have h2 := r.mv i hi; have h3 := r.y i hi; have q1 := q.lv hi; have q2 := q.mv i hi; have q3 := q.y i hi
    exact ⟨shrQ_len q1.1 h1.1, by omega, ⟨by omega, by omega, by omega, by omega, by omega⟩, by omega, by omega, by omega⟩
  repeat first | refine nx ?_ | intro _
  (repeat' (first | refine And.intro ?_ ?_ | trivial | rfl | omega))
instance coarsened_c [i : VM S m] : Ct Tryz.prog 132 [S, iv d] (RwM 2600000 m ∧ -9223372036854775808 ≤ d ∧ d ≤ 9223372036854775807) (mv (coaM m d)) := by
  haveI := i.t
  refine ct1 i.v (ctI Tryz.call132 Tryz.func132 Tryz.ntmps132 rfl Tryz.results132 rfl [] fun h0 w0 ⟨r, d1, d2⟩ => ?_)
  have hn := r.n
  have hl := r.l
  have hs := r.s
  have h5 : ∀ i, i < m.start.length → (coaQ (lvM m i) d).length = m.start.length + 1 ∧ wts (m.move.getD i []) ≤ 100000000 ∧ (0 < (lvM m i).length ∧ wts (lvM m i) ≤ 5400000 ∧ -9223372036854775808 ≤ d ∧ d ≤ 9223372036854775807) ∧ (0 < (m.say.getD i []).length ∧ wts (m.say.getD i []) ≤ 5400000 ∧ -9223372036854775808 ≤ d ∧ d ≤ 9223372036854775807) := fun i hi => by
    have h1 := r.lv hi; have h2 := r.mv i hi; have h3 := r.y i hi
    exact ⟨by unfold coaQ flrQ; rw [List.length_set, List.length_map]; exact h1.1, by omega, ⟨by omega, by omega, d1, d2⟩, by omega, by omega, d1, d2⟩
  repeat first | refine nx ?_ | intro _
  (repeat' (first | refine And.intro ?_ ?_ | trivial | rfl | omega))
end
section
variable {l : List Fr} {S : SV}
instance neg1_c {a : Fr} {x : Rat} {A : Nat} [i : VF S a x A] : Ct Tryz.prog 212 [S] (A ≤ 134217000) (bv (decide (x < 0))) := by
  refine ct1 i.v (ctI Tryz.call212 Tryz.func212 Tryz.ntmps212 rfl Tryz.results212 rfl [] fun h0 w0 hb => ?_)
  obtain ⟨_, _, rfl, rfl⟩ := i
  repeat first | refine nx ?_ | intro _
  exact decide_eq_decide.2 sgQ_neg
instance idxW_c [j : VL S l] : Ct Tryz.prog 171 [S, .cv (.func (.func 212) #[] #[])] (wts l ≤ 134000000) (iv (idxP negF l)) := by
  haveI := j.t
  refine ct2 j.v (v2 := fun _ : Unit => .cv (.func (.func 212) #[] #[])) ⟨fun u => u⟩ (ctI Tryz.call171 Tryz.func171 Tryz.ntmps171 rfl Tryz.results171 rfl [] fun h0 w0 hb => ?_) (y := ())
  have hb7 := len_wts l
  repeat first | refine nx ?_ | intro _
  refine gLp (fun k : Nat => [(8, iv k)]) (fun _ => []) (fun k => k ≤ l.length ∧ (l.take k).any negF = false) (fun k => l.length - k) 0 ⟨Nat.zero_le _, rfl⟩ fun k ⟨hk, hn⟩ => ?_
  have hb2 := bf_getD l k
  repeat first | refine nx ?_ | intro _
  refine gIf (fun c => ?_) fun c => ?_ <;> repeat first | refine nx ?_ | intro _
  · refine gIf (fun d => ?_) fun d => ?_ <;> repeat first | refine nx ?_ | intro _
    · exact (idx_found fr0 c hn (decide_eq_true d)).symm
    · exact gBk (k + 1) ⟨by omega, any_take_succ fr0 c hn (decide_eq_false d)⟩ (by omega)
  · exact (idx_none (by omega) hn).symm
instance cntW_c [j : VL S l] : Ct Tryz.prog 116 [S, .cv (.func (.func 212) #[] #[])] (wts l ≤ 134000000) (bv (l.any negF)) := by
  haveI := j.t
  refine ct2 j.v (v2 := fun _ : Unit => .cv (.func (.func 212) #[] #[])) ⟨fun u => u⟩ (ctI Tryz.call116 Tryz.func116 Tryz.ntmps116 rfl Tryz.results116 rfl [] fun h0 w0 hb => ?_) (y := ())
  repeat first | refine nx ?_ | intro _
  exact idx_any
instance negative_c [j : VL S l] : Ct Tryz.prog 185 [S] (wts l ≤ 134000000) (bv (l.any negF)) := by
  haveI := j.t
  refine ct1 j.v (ctI Tryz.call185 Tryz.func185 Tryz.ntmps185 rfl Tryz.results185 rfl [] fun h0 w0 hb => ?_)
  repeat first | refine nx ?_ | intro _
  trivial
end
def fitR (m : Md) (c : CtF) (i : Nat) : Prop := ¬ ((c.move.getD i []).length ≠ m.start.length ∨ (c.say.getD i []).length ≠ (m.say.getD 0 []).length ∨ (c.move.getD i []).any negF = true ∨ (c.say.getD i []).any negF = true)
def fitS (m : Md) (c : CtF) : Prop := ¬ (c.start.length ≠ m.start.length ∨ c.fin.length ≠ m.start.length ∨ c.move.length ≠ m.start.length ∨ c.say.length ≠ m.start.length ∨ c.start.any negF = true ∨ c.fin.any negF = true)
def fitP (m : Md) (c : CtF) : Prop := fitS m c ∧ ∀ i, i < m.start.length → fitR m c i
noncomputable instance fitP_dec {m : Md} {c : CtF} : Decidable (fitP m c) := Classical.propDecidable _
noncomputable def fitB (m : Md) (c : CtF) : Bool := decide (fitP m c)
section
variable {m : Md} {c : CtF} {S T : SV}
instance fits_c [i : VM S m] [j : VC T c] : Ct Tryz.prog 133 [S, T] (0 < m.say.length ∧ m.start.length ≤ 1048576 ∧ wts c.start ≤ 134000000 ∧ wts c.fin ≤ 134000000 ∧ (∀ i, wts (c.move.getD i []) ≤ 134000000) ∧ ∀ i, wts (c.say.getD i []) ≤ 134000000) (bv (fitB m c)) := by
  haveI := i.t
  haveI := j.t
  refine ct2 i.v j.v (ctI Tryz.call133 Tryz.func133 Tryz.ntmps133 rfl Tryz.results133 rfl [] fun h0 w0 ⟨h1, h2, h3, h4, h5, h6⟩ => ?_)
  repeat first | refine gDs 10 10 (by rfl) (by kernel_rfl) ?_ | refine nx ?_ | intro _
  refine gIf (fun c1 => ?_) fun c1 => ?_
  · have e : fitB m c = false := decide_eq_false fun h => h.1 (by simpa only [or_assoc] using c1)
    rw [e]
    repeat first | refine nx ?_ | intro _
    trivial
  have hS : fitS m c := fun e => c1 (by simpa only [or_assoc] using e)
  have hS2 := hS
  unfold fitS at hS2
  simp only [not_or, Classical.not_not, ne_eq] at hS2
  obtain ⟨_, _, s3, s4, _, _⟩ := hS2
  repeat first | refine nx ?_ | intro _
  refine gLp (fun k : Nat => [(53, iv k)]) (fun _ => []) (fun k => k ≤ m.start.length ∧ ∀ i, i < k → fitR m c i) (fun k => m.start.length - k) 0 ⟨Nat.zero_le _, fun i hi => absurd hi (Nat.not_lt_zero _)⟩ fun k ⟨hk, hR⟩ => ?_
  have g1 := h5 k
  have g2 := h6 k
  repeat first | refine nx ?_ | intro _
  refine gIf (fun ck => ?_) fun ck => ?_
  · repeat first | refine nx ?_ | intro _
    refine gIf (fun c2 => ?_) fun c2 => ?_
    · have e : fitB m c = false := decide_eq_false fun h => h.2 k ck (by simpa only [or_assoc] using c2)
      rw [e]
      repeat first | refine nx ?_ | intro _
      trivial
    · repeat first | refine nx ?_ | intro _
      refine gBk (k + 1) ⟨by omega, fun i hi => ?_⟩ (by omega)
      rcases Nat.lt_or_ge i k with a | a
      · exact hR i a
      · have : i = k := by omega
        subst this
        exact fun e => c2 (by simpa only [or_assoc] using e)
  · have e : fitB m c = true := decide_eq_true ⟨hS, fun i hi => hR i (by omega)⟩
    rw [e]
    repeat first | refine nx ?_ | intro _
    trivial
noncomputable def rsM (m : Md) (c : CtF) : Md := bif fitB m c then reeM m c else md0
noncomputable def rsE (m : Md) (c : CtF) : Int := bif fitB m c then 0 else 2
noncomputable instance rsM_ft : FtM (rsM m c) := by
  unfold rsM
  cases fitB m c
  · exact inferInstanceAs (FtM md0)
  · exact inferInstanceAs (FtM (reeM m c))
instance Reestimate_c [i : VM S m] [j : VC T c] : Ct Tryz.prog 69 [S, T] ((MdB 10000000 m ∧ checkE [m] [] = 0) ∧ (0 < m.say.length ∧ m.start.length ≤ 1048576 ∧ wts c.start ≤ 134000000 ∧ wts c.fin ≤ 134000000 ∧ (∀ i, wts (c.move.getD i []) ≤ 134000000) ∧ ∀ i, wts (c.say.getD i []) ≤ 134000000) ∧ (fitP m c → RwM 2600000 m ∧ RwC 2600000 m c)) (.tp [mv (rsM m c), iv (rsE m c)]) := by
  haveI := i.t
  haveI := j.t
  refine ct2 i.v j.v (ctI Tryz.call69 Tryz.func69 Tryz.ntmps69 rfl Tryz.results69 rfl [] fun h0 w0 ⟨⟨h1, h2⟩, h3, h4⟩ => ?_)
  repeat first | refine nx ?_ | intro _
  rw [h2]
  refine gIf (fun c1 => ?_) fun c1 => ?_
  · exact absurd rfl c1
  repeat first | refine nx ?_ | intro _
  by_cases hf : fitP m c
  · have e : fitB m c = true := decide_eq_true hf
    have ⟨r1, r2⟩ := h4 hf
    have e1 : rsM m c = reeM m c := by unfold rsM; rw [e]; rfl
    have e2 : rsE m c = 0 := by unfold rsE; rw [e]; rfl
    rw [e, e1, e2]
    refine gIf (fun c2 => ?_) fun c2 => ?_
    · exact absurd trivial c2
    repeat first | refine nx ?_ | intro _
    (repeat' (first | refine And.intro ?_ ?_ | trivial | rfl | omega))
  · have e : fitB m c = false := decide_eq_false hf
    have e1 : rsM m c = md0 := by unfold rsM; rw [e]; rfl
    have e2 : rsE m c = 2 := by unfold rsE; rw [e]; rfl
    rw [e, e1, e2]
    refine gIf (fun c2 => ?_) fun c2 => ?_
    · repeat first | refine nx ?_ | intro _
      (repeat' (first | refine And.intro ?_ ?_ | trivial | rfl | omega))
    · exact absurd (fun h => by cases h) c2
def coE (d : Int) : Int := if d < 1 then 2 else 0
def coR (m : Md) (d : Int) : Md := if d < 1 then md0 else coaM m d
instance coR_ft {d : Int} : FtM (coR m d) := by
  unfold coR; split
  · exact inferInstanceAs (FtM md0)
  · exact inferInstanceAs (FtM (coaM m d))
instance Coarsen_c {d : Int} [i : VM S m] : Ct Tryz.prog 72 [S, iv d] ((MdB 10000000 m ∧ checkE [m] [] = 0) ∧ RwM 2600000 m ∧ -9223372036854775808 ≤ d ∧ d ≤ 9223372036854775807) (.tp [mv (coR m d), iv (coE d)]) := by
  haveI := i.t
  refine ct1 i.v (ctI Tryz.call72 Tryz.func72 Tryz.ntmps72 rfl Tryz.results72 rfl [] fun h0 w0 ⟨⟨h1, h2⟩, h3⟩ => ?_)
  repeat first | refine nx ?_ | intro _
  rw [h2]
  refine gIf (fun c1 => ?_) fun c1 => ?_
  · exact absurd rfl c1
  repeat first | refine nx ?_ | intro _
  refine gIf (fun c2 => ?_) fun c2 => ?_
  · have e1 : coR m d = md0 := if_pos c2
    have e2 : coE d = 2 := if_pos c2
    rw [e1, e2]
    repeat first | refine nx ?_ | intro _
    (repeat' (first | refine And.intro ?_ ?_ | trivial | rfl | omega))
  · have e1 : coR m d = coaM m d := if_neg c2
    have e2 : coE d = 0 := if_neg c2
    rw [e1, e2]
    repeat first | refine nx ?_ | intro _
    (repeat' (first | refine And.intro ?_ ?_ | trivial | rfl | omega))
end
end Go.E3
