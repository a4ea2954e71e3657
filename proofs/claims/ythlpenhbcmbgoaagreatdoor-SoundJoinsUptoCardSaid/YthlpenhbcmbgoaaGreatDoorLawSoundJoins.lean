/- LawSoundJoins: a part of the proofs about what is clipped and stored: how the program's functions run, and what they compute, for every input. -/
import Derived.Test.YthlpenhbcmbgoaaGreatDoorA40
import Derived.Test.YthlpenhbcmbgoaaGreatDoorEarM18
import Derived.Test.YthlpenhbcmbgoaaGreatDoorLawSoundPrecise
set_option linter.all false
set_option linter.unusedVariables false
set_option maxRecDepth 20000
set_option maxHeartbeats 4000000
set_option synthInstance.maxSize 1000
namespace Go.E3
open Go Go.Ear Go.Proofs
theorem wgE_ok {l : List En} {r : List Rw} {ws : List ByteArray} {q : List Int} (h : wgE l r ws q = 0) : valB l = true ∧ rulB r = true ∧ ws.length ≤ 40 ∧ phB q 400 = true ∧ choE l ws = 0 := by
  unfold wgE at h
  split at h
  · rename_i c
    exact ⟨c.1, c.2.1, c.2.2.1, c.2.2.2, h⟩
  · exact absurd h (by decide)
theorem wgT_ne {l : List En} {r : List Rw} {ws : List ByteArray} {q : List Int} (h : wgE l r ws q ≠ 0) : wgT l r ws q = 0 := by
  refine if_neg fun ⟨a, b, c, d, e⟩ => h ?_
  unfold wgE
  rw [if_pos ⟨a, b, c, d⟩, e]
theorem wgT_bq4 {l : List En} {ws : List ByteArray} {q : List Int} (s : PnS l [] ws) (h : wgE l [] ws q = 0) (hl : l.length ≤ 12) (hw : ws.length ≤ 4) (he : ∀ e ∈ l, (Fit e.f.n ∧ Fit e.f.d) ∧ bf e.f ≤ 4) : bq (wgT l [] ws q) ≤ 6000 := by
  obtain ⟨c1, c2, c3, c8, c4⟩ := wgE_ok h
  obtain ⟨d1, d2, d3⟩ := choE_ok c4
  have ok := pn_ok s c1 c2 c3 d1 d2
  rw [(wg_ok c1 c2 c3 c4 c8).2]
  exact prB_bq4 ok (fun x hx => (List.not_mem_nil hx).elim) hl hw he q
theorem small_jn {n : Nat} (h : n ≤ 13) : n * (20000 + 1) + 1 ≤ 1000000 := by omega
theorem soundJoins_c {l : List En} {a b : List ByteArray} {q : List Int} {B : List Res} [hg : HG B] (u : UpE l) (ua : a.length ≤ 1048576) (ub : b.length ≤ 1048576) (hq : q.length ≤ 1048576 ∧ ∀ z ∈ q, -9223372036854775808 ≤ z ∧ z ≤ 9223372036854775807) : CtB Tryz.prog 3 [lxv l, lv rQ a, lv rQ b, lv rI q] B True (bv true) := by
  refine (ctB Tryz.call3 Tryz.func3 Tryz.ntmps3 rfl Tryz.results3 rfl [43, 45] fun h0 w0 _ => ?_)
  have hlen := u.1
  repeat first | refine nx ?_ | intro _
  refine gIf (fun c => ?_) fun c => ?_
  · repeat first | refine nx ?_ | intro _
    trivial
  · have c1 : fitB l 12 = true := Classical.byContradiction fun h => c (.inl (.inl (.inl (.inl h))))
    have c2 : saidB a 2 = true := Classical.byContradiction fun h => c (.inl (.inl (.inl (.inr h))))
    have c3 : saidB b 2 = true := Classical.byContradiction fun h => c (.inl (.inl (.inr h)))
    have c4 : ¬ 12 < q.length := fun h => c (.inl (.inr h))
    have c5 : ¬ longB l 5 = true := fun h => c (.inr h)
    obtain ⟨hlx, hb⟩ := fit_lx c1 u
    have hwa : a.length ≤ 2 := by
      unfold saidB at c2
      rw [Bool.and_eq_true, decide_eq_true_iff] at c2
      exact c2.2
    have hwb : b.length ≤ 2 := by
      unfold saidB at c3
      rw [Bool.and_eq_true, decide_eq_true_iff] at c3
      exact c3.2
    have hlg : ∀ e ∈ l, e.ph.length ≤ 6 := fun e he => by
      rcases Nat.lt_or_ge 6 e.ph.length with h | h
      · exact absurd (List.any_eq_true.2 ⟨e, he, decide_eq_true (by omega)⟩) c5
      · exact h
    have he4 : ∀ e ∈ l, (Fit e.f.n ∧ Fit e.f.d) ∧ bf e.f ≤ 4 := fun e he => ⟨u.2 e he, by
      obtain ⟨_, h1, h2⟩ := hb e he
      show max (max e.f.n.length e.f.d.length) 1 ≤ 4
      omega⟩
    have hab : (a ++ b).length ≤ 4 := by rw [List.length_append]; omega
    have pn : ∀ w : List ByteArray, w.length ≤ 4 → PnS l [] w := fun w hw => ⟨hlx, ⟨Nat.zero_le _, fun x hx => (List.not_mem_nil hx).elim⟩, .inl hw, by omega, hlg⟩
    have s1 : PnS l [] (a ++ b) ∧ q.length ≤ 1000000 := ⟨pn _ hab, by omega⟩
    repeat first | refine gKs 13 2 4 10 11 12 ⟨43, fun v => rA rQ 9 v a⟩ ⟨9, fun γ => ov γ.v, fun γ => rV γ.v [.cv (.bool false), .cv (.slice none 0 0), .cv (.slice none 0 0)] 32, fun γ => rV γ.v [bv (frK (wgT l [] (a ++ b) q)).neg, lv rU (frK (wgT l [] (a ++ b) q)).n, lv rU (frK (wgT l [] (a ++ b) q)).d] 32⟩ (by rfl) (by kernel_rfl) ?_ | refine nx ?_ | intro _
    refine gKn rfl (by omega) ?_
    repeat first | refine nx ?_ | intro _
    refine gKb rfl ⟨by omega, by omega⟩ ?_
    repeat first | refine nx ?_ | intro _
    rename_i v9
    refine gIf (fun c6 => ?_) fun c6 => ?_
    · rw [wgT_ne c6]
      haveI : FtF (⟨false, [], []⟩ : Fr) := (inferInstance : FtF fr0)
      have s2 : bq (0 : Rat) ≤ 1000000000 ∧ bf (⟨false, [], []⟩ : Fr) ≤ 1000000000 := ⟨by rw [bq_zero]; omega, by decide⟩
      repeat first | refine nx ?_ | intro _
      rw [frK_zero]; rfl
    · have c6 : wgE l [] (a ++ b) q = 0 := Classical.not_not.1 c6
      have hl12 : l.length ≤ 12 := by
        obtain ⟨hv, _⟩ := wgE_ok c6
        have := (val_ent hv).1
        rcases fit_len c1 with h | h <;> omega
      have hj := joins s1.1 hab c6
      have hpart := wgE_part c6
      have hbx : bq (wgT l [] (a ++ b) q) ≤ 6000 := wgT_bq4 s1.1 c6 hl12 hab he4
      have hba := fun k => wgT_bq4 (pn a (by omega)) (hpart k).1 hl12 (by omega) he4
      have hbb := fun k => wgT_bq4 (pn b (by omega)) (hpart k).2 hl12 (by omega) he4
      have hbj : ∀ n, n ≤ 13 → bq (jnS l a b q n) ≤ 1000000 := fun n hn => by
        unfold jnS
        refine Nat.le_trans (bq_sQ (b := 20000) fun x hx => ?_) ?_
        · obtain ⟨k, _, rfl⟩ := List.mem_map.1 hx
          have h1 := bq_mul (wgT l [] a (q.take k)) (wgT l [] b (q.drop k))
          have h2 := hba k
          have h3 := hbb k
          omega
        · rw [List.length_map, List.length_range]
          exact small_jn hn
      repeat first | refine nx ?_ | intro _
      rename_i v11
      have hz : ((0 : Int) : Rat) = jnS l a b q 0 := rfl
      refine gLp (fun k : Nat => [(12, iv k)]) (fun k => [rV v11 [bv (frK (jnS l a b q k)).neg, lv rU (frK (jnS l a b q k)).n, lv rU (frK (jnS l a b q k)).d] 32]) (fun k => k ≤ q.length + 1) (fun k => q.length + 1 - k) 0 (Nat.zero_le _) (fun k hk => ?_)
      have hjk := hbj k (by omega)
      repeat first | refine nx ?_ | intro _
      refine gIf (fun c7 => ?_) fun c7 => ?_
      · have s3 : PnS l [] a ∧ (q.take k).length ≤ 1000000 := ⟨pn a (by omega), by rw [List.length_take]; omega⟩
        have s4 : PnS l [] b ∧ (q.drop k).length ≤ 1000000 := ⟨pn b (by omega), by rw [List.length_drop]; omega⟩
        have hak := hba k
        have hbk := hbb k
        have hmk := bq_mul (wgT l [] a (q.take k)) (wgT l [] b (q.drop k))
        obtain ⟨p1, p2⟩ := hpart k
        repeat first | refine gDsL 12 (fun j => Nat.beq j 8) 11 (by rfl) (by kernel_rfl) ?_ | refine gDs 6 5 (by rfl) (by kernel_rfl) ?_ | refine nx ?_ | intro _
        refine gIf (fun c8 => ?_) fun c8 => ?_
        · rcases c8 with h | h
          · exact absurd p1 h
          · exact absurd p2 h
        · repeat first | refine gDs 6 5 (by rfl) (by kernel_rfl) ?_ | refine nx ?_ | intro _
          rw [← jnS_succ]
          exact gBk (k + 1) (by omega) (by omega)
      · obtain rfl : k = q.length + 1 := by omega
        rw [← hj]
        repeat first | refine nx ?_ | intro _
        rw [Rat.sub_self]; rfl
end Go.E3
