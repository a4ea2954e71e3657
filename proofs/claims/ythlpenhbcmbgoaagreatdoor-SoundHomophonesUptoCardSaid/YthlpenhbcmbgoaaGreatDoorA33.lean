/- A33: a part of the proofs about what is clipped and stored: how the program's functions run, and what they compute, for every input. -/
import Derived.Test.YthlpenhbcmbgoaaGreatDoorA32
set_option linter.all false
set_option linter.unusedVariables false
set_option maxRecDepth 20000
set_option maxHeartbeats 4000000
set_option synthInstance.maxSize 1000
namespace Go.E3
open Go Go.Ear Go.Proofs
def saidB (ws : List ByteArray) (most : Nat) : Bool := ((List.range (min ws.length (most + 1))).all fun i => decide ((ws.getD i ByteArray.empty).size ≤ 60)) && decide (ws.length ≤ most)
def longB (l : List En) (most : Int) : Bool := l.any fun e => decide (most < e.ph.length)
instance long_c {l : List En} {most : Int} {S : SV} [i : Vw lxv S l] : Ct Tryz.prog 16 [S, iv most] (l.length ≤ 1099511627776) (bv (longB l most)) := by
  refine ct1 i (ctI Tryz.call16 Tryz.func16 Tryz.ntmps16 rfl Tryz.results16 rfl [] fun h0 w0 hl => ?_)
  repeat first | refine nx ?_ | intro _
  refine gLp (fun k : Nat => [(5, iv k)]) (fun _ => []) (fun k => k ≤ l.length ∧ ∀ j, j < k → ¬ most < ((l.getD j en0).ph.length : Int)) (fun k => l.length - k) 0 ⟨Nat.zero_le _, fun j h => absurd h (Nat.not_lt_zero _)⟩ (fun k ⟨hk, hn⟩ => ?_)
  repeat first | refine nx ?_ | intro _
  refine gIf (fun c => ?_) fun c => ?_
  · repeat first | refine nx ?_ | intro _
    refine gIf (fun c2 => ?_) fun c2 => ?_ <;> repeat first | refine nx ?_ | intro _
    · exact (List.any_eq_true.2 ⟨_, getD_in en0 c, decide_eq_true c2⟩).symm
    · refine gBk (k + 1) ⟨by omega, fun j hj => ?_⟩ (by omega)
      by_cases e : j = k
      · rw [e]; exact c2
      · exact hn j (by omega)
  · repeat first | refine nx ?_ | intro _
    refine (List.any_eq_false.2 fun e he => ?_).symm
    obtain ⟨k, hk, rfl⟩ := getD_mem (d := en0) he
    exact fun h => hn k (by omega) (of_decide_eq_true h)
instance said_c {ws : List ByteArray} {most : Int} {n : Nat} {S : SV} [x : IN most n] [i : Vw (lv rQ) S ws] : Ct Tryz.prog 15 [S, iv most] (ws.length ≤ 1099511627776 ∧ n ≤ 1000) (bv (saidB ws n)) := by
  refine ct1 i (ctI Tryz.call15 Tryz.func15 Tryz.ntmps15 rfl Tryz.results15 rfl [] fun h0 w0 ⟨hl, hn⟩ => ?_)
  rw [x.e]
  repeat first | refine nx ?_ | intro _
  refine gLp (fun k : Nat => [(5, iv k)]) (fun _ => []) (fun k => k ≤ min ws.length (n + 1) ∧ ∀ j, j < k → (ws.getD j ByteArray.empty).size ≤ 60) (fun k => min ws.length (n + 1) - k) 0 ⟨Nat.zero_le _, fun j h => absurd h (Nat.not_lt_zero _)⟩ (fun k ⟨hk, hn2⟩ => ?_)
  repeat first | refine nx ?_ | intro _
  refine gIf (fun c => ?_) fun c => ?_
  · have hkw : k < ws.length := by omega
    repeat first | refine nx ?_ | intro _
    refine gIf (fun c2 => ?_) fun c2 => ?_ <;> repeat first | refine nx ?_ | intro _
    · unfold saidB
      rw [List.all_eq_false.2 ⟨k, List.mem_range.2 (by omega), by simpa using c2⟩, Bool.false_and]
    · refine gBk (k + 1) ⟨by omega, fun j hj => ?_⟩ (by omega)
      by_cases e : j = k
      · rw [e]; omega
      · exact hn2 j (by omega)
  · repeat first | refine nx ?_ | intro _
    have hall : ((List.range (min ws.length (n + 1))).all fun i => decide ((ws.getD i ByteArray.empty).size ≤ 60)) = true := List.all_eq_true.2 fun j hj => decide_eq_true (hn2 j (by have := List.mem_range.1 hj; omega))
    unfold saidB
    rw [hall, Bool.true_and]
theorem sQ_fm {α β : Type} (f : α → List β) (g : β → Rat) : ∀ l : List α, sQ ((l.flatMap f).map g) = sQ (l.map fun a => sQ ((f a).map g))
  | [] => rfl
  | a :: l => by
    rw [List.flatMap_cons, List.map_append, sQ_app, sQ_fm f g l]; rfl
theorem chs_sum : ∀ L : List (List En), (∀ o ∈ L, sQ (o.map fun e => e.f.rat) = 1) → sQ ((chs L).map wJ) = 1
  | [], _ => by
    show (1 : Rat) + 0 = 1
    rw [Rat.add_zero]
  | o :: L, h => by
    show sQ ((o.flatMap fun e => (chs L).map (e :: ·)).map wJ) = 1
    rw [sQ_fm]
    have h1 : ∀ e : En, sQ (((chs L).map (e :: ·)).map wJ) = e.f.rat * 1 := fun e => by
      rw [List.map_map, ← chs_sum L fun x hx => h x (List.mem_cons_of_mem _ hx)]
      have : (wJ ∘ fun x => e :: x) = fun c => wJ c * e.f.rat := by
        funext c
        show wJ (e :: c) = _
        rw [wJ_cons, Rat.mul_comm]
      rw [this, sQ_mulr, Rat.mul_comm]
    rw [sQ_congr fun e _ => h1 e, sQ_congr fun e _ => Rat.mul_one e.f.rat]
    exact h o (List.mem_cons_self ..)
theorem lin_prB {r : List Rw} {C : List (List En)} (h : ∀ c ∈ C, lin (fun _ => 1) (atF r (phJ c)) = 1) : lin (fun _ => 1) (prB r C) = sQ (C.map wJ) := by
  unfold prB
  rw [lin_fm]
  refine sQ_congr fun c hc => ?_
  have e : lin (fun _ => 1) (bm (· ++ []) (wJ c) (atF r (phJ c))) = lin (fun _ => 1) (atF r (phJ c)) * wJ c := by
    unfold lin bm
    rw [List.map_map, ← sQ_mulr]
    refine sQ_congr fun x _ => ?_
    show 1 * (x.2 * wJ c) = 1 * x.2 * wJ c
    rw [Rat.mul_assoc]
  rw [e, h c hc, Rat.one_mul]
theorem own_sum {l : List En} {w : ByteArray} (hv : valB l = true) (h : ownE l w ≠ []) : sQ ((ownE l w).map fun e => e.f.rat) = 1 := by
  unfold valB at hv
  rw [Bool.and_eq_true, Bool.and_eq_true, List.all_eq_true] at hv
  obtain ⟨e, he⟩ := List.exists_mem_of_ne_nil _ h
  obtain ⟨h1, h2⟩ := ownE_sub he
  have h3 := of_decide_eq_true (hv.2.2 e h1)
  rw [h2] at h3
  exact h3
theorem prB_one {l : List En} {r : List Rw} {ws : List ByteArray} {D : Nat} (hv : valB l = true) (he : hasE (owns l ws) = false) (ok : PrOk r (chs (owns l ws)) D) : lin (fun _ => 1) (prB r (chs (owns l ws))) = 1 := by
  rw [lin_prB fun c hc => lin_at (ok.ap hc)]
  refine chs_sum _ fun o ho => ?_
  obtain ⟨w, hw, rfl⟩ := List.mem_map.1 ho
  refine own_sum hv fun h => ?_
  rw [h] at ho
  rw [hasE_iff.2 ho] at he; exact Bool.noConfusion he
theorem prB_pos {r : List Rw} {C : List (List En)} {D : Nat} (ok : PrOk r C D) : PosB (prB r C) := by
  have := (prB_wb ok C.length).pos
  rwa [List.take_length] at this
end Go.E3
