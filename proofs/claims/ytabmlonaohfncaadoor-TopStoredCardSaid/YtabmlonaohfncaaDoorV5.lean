/- V5: a part of the proofs about what is clipped and stored: how the program's functions run, and what they compute, for every input. -/
import Derived.Test.YtabmlonaohfncaaDoorV4
set_option linter.all false
set_option linter.unusedVariables false
set_option maxRecDepth 20000
set_option maxHeartbeats 8000000
set_option synthInstance.maxSize 1000
namespace Go.E3
open Go Go.Ear Go.Proofs
instance (priority := 1) {v : Value} {T : SV} {B : List Res} : SbB v T B B := ⟨fun _ o => ⟨o, fun r h => ⟨r, h, fun _ x => x⟩⟩⟩
theorem gFzX {P : Program} {n : Nat} {X : Fix} {ms : List Nat} {loc env env' : EL} {B : List Res} {e0 : Exit} {k : Kt} {α : Type} {e : TypeId} (v : Value) {r : Rp α} {q : List α} {loc' : EL} {B1 B2 : List Res} [pa : PA B v α r e q B1] [sl : SbE v (lv r q) loc loc'] [se : SbE v (lv r q) env env'] [sb : SbB v (lv r q) B1 B2] (g : GX P n X ms loc' env' B2 e0 k) : GX P n X ms loc env B e0 k := ⟨fun ρ h w s => by
  obtain ⟨h', s'⟩ := s.fz (v := v) (q := q)
  exact g.p ρ h' w s'⟩
theorem CtR.to {P : Program} {f : FuncId} {args : List SV} {B B1 : List Res} {sd : Prop} {σ : Type} {S : σ → SV} {B' : σ → List Res} (c : CtR P f args B1 sd σ S B') (h : Sb B B1) : CtR P f args B sd σ S B' := ⟨c.fn, fun a h0 w0 hh w vs g o u => c.h a g (h.own o) u⟩
section
variable {g : Gt} {s : Ls} {v : Value} {b : List Int} {B B1 : List Res}
instance process_c [pv : PV B v (lsc g s) 99 B1] : CtR Tryd.prog 63 [ov v, lv rI b] B (g.Ok ∧ LsB s ∧ b.length ≤ 4096 ∧ ∀ z ∈ b, ¬ (z < -32768 ∨ 32768 < z)) Unit (fun _ => .tp [.ag [iv (prS g s (engL b)).2.1, iv (prS g s (engL b)).2.2.1], bv (prS g s (engL b)).2.2.2]) (fun _ => rV v (lsc g (prS g s (engL b)).1) 99 :: B1) := process_b.to pv.h
instance close_c [pv : PV B v (lsc g s) 99 B1] : CtR Tryd.prog 42 [ov v] B (g.Ok ∧ LsB s ∧ (s.st = 0 ∨ s.st = 1)) Unit (fun _ => .tp [lv rSg (clS g s), iv 0]) (fun _ => rV v (lsc g { s with st := 2 }) 99 :: B1) := close_b.to pv.h
end
def fdS (g : Gt) (x : List Int) : Nat → Ls × List (Int × Int)
  | 0 => (⟨0, [], 0, x.length, 0, 0, 0⟩, [])
  | k + 1 => ((prS g (fdS g x k).1 (engL ((x.drop (k * g.block.toNat)).take g.block.toNat))).1, if (prS g (fdS g x k).1 (engL ((x.drop (k * g.block.toNat)).take g.block.toNat))).2.2.2 = true then (fdS g x k).2 ++ [((prS g (fdS g x k).1 (engL ((x.drop (k * g.block.toNat)).take g.block.toNat))).2.1, (prS g (fdS g x k).1 (engL ((x.drop (k * g.block.toNat)).take g.block.toNat))).2.2.1)] else (fdS g x k).2)
theorem prS_B {g : Gt} {s : Ls} {n : Int} (gk : g.Ok) (sb : LsB s) (hb : s.blocks ≤ 299) : LsB (prS g s n).1 ∧ (prS g s n).1.blocks = s.blocks + 1 ∧ (prS g s n).1.bl = s.bl ∧ (prS g s n).1.samples = s.samples ∧ ((prS g s n).1.st = 0 ∨ (prS g s n).1.st = 1 ∨ (prS g s n).1.st = s.st) := by
  have k1 := gk.rise
  have k2 := gk.fall
  have k3 := gk.lead
  have b1 := sb.blocks
  have b2 := sb.run
  have b3 := sb.begin
  have b4 := sb.free
  unfold prS
  have r1 : ¬ ((if g.high * g.block ≤ n then s.run + 1 else 0) < 0 ∨ s.blocks + 1 < (if g.high * g.block ≤ n then s.run + 1 else 0)) := by split <;> omega
  have r2 : ¬ ((if n < g.low * g.block then s.run + 1 else 0) < 0 ∨ s.blocks + 1 < (if n < g.low * g.block then s.run + 1 else 0)) := by split <;> omega
  generalize (if g.high * g.block ≤ n then s.run + 1 else 0) = R1 at *
  generalize (if n < g.low * g.block then s.run + 1 else 0) = R2 at *
  by_cases c : s.st = 0
  · rw [if_pos c]
    by_cases c2 : R1 = g.rise
    · rw [if_pos c2]; exact ⟨⟨by dsimp only; omega, by dsimp only; omega, by dsimp only; omega, by dsimp only; omega⟩, rfl, rfl, rfl, .inr (.inl rfl)⟩
    · rw [if_neg c2]; exact ⟨⟨by dsimp only; omega, by dsimp only; omega, by dsimp only; omega, by dsimp only; omega⟩, rfl, rfl, rfl, .inr (.inr rfl)⟩
  · rw [if_neg c]
    by_cases c2 : R2 = g.fall
    · rw [if_pos c2]; exact ⟨⟨by dsimp only; omega, by dsimp only; omega, by dsimp only; omega, by dsimp only; omega⟩, rfl, rfl, rfl, .inl rfl⟩
    · rw [if_neg c2]
      by_cases c3 : s.blocks - s.begin + 1 = g.longest
      · rw [if_pos c3]; exact ⟨⟨by dsimp only; omega, by dsimp only; omega, by dsimp only; omega, by dsimp only; omega⟩, rfl, rfl, rfl, .inl rfl⟩
      · rw [if_neg c3]; exact ⟨⟨by dsimp only; omega, by dsimp only; omega, by dsimp only; omega, by dsimp only; omega⟩, rfl, rfl, rfl, .inr (.inr rfl)⟩
theorem fdS_B {g : Gt} {x : List Int} (gk : g.Ok) : ∀ k, k ≤ 300 → LsB (fdS g x k).1 ∧ (fdS g x k).1.blocks = k ∧ (fdS g x k).1.bl = [] ∧ (fdS g x k).1.samples = x.length ∧ ((fdS g x k).1.st = 0 ∨ (fdS g x k).1.st = 1)
  | 0, _ => ⟨⟨by show ¬ ((0 : Int) < 0 ∨ 300 < (0 : Int)); decide, by show ¬ ((0 : Int) < 0 ∨ (0 : Int) < 0); decide, by show ¬ ((0 : Int) < -5000 ∨ 5000 < (0 : Int)); decide, by show ¬ ((0 : Int) < -5000 ∨ 5000 < (0 : Int)); decide⟩, rfl, rfl, rfl, .inl rfl⟩
  | k + 1, hk => by
    obtain ⟨h1, h2, h3, h4, h5⟩ := fdS_B gk k (by omega)
    obtain ⟨p1, p2, p3, p4, p5⟩ := prS_B (n := engL ((x.drop (k * g.block.toNat)).take g.block.toNat)) gk h1 (by omega)
    refine ⟨p1, ?_, p3.trans h3, p4.trans h4, ?_⟩
    · show (prS _ _ _).1.blocks = _
      rw [p2, h2]; push_cast; rfl
    · show (prS _ _ _).1.st = 0 ∨ (prS _ _ _).1.st = 1
      rcases p5 with e | e | e
      · exact .inl e
      · exact .inr e
      · rw [e]; exact h5
theorem fdS_len {g : Gt} {x : List Int} : ∀ k, (fdS g x k).2.length ≤ k
  | 0 => Nat.le_refl _
  | k + 1 => by
    have := fdS_len (g := g) (x := x) k
    unfold fdS
    dsimp only
    split
    · rw [List.length_append, List.length_singleton]; omega
    · omega
def fdE (g : Gt) (x : List Int) : Ls := { (fdS g x (x.length / g.block.toNat)).1 with bl := x.drop (x.length / g.block.toNat * g.block.toNat) }
theorem feed_b {g : Gt} {v : Value} {x : List Int} {rest : List Res} : CtR Tryd.prog 41 [ov v, lv rI x] (rV v (lsc g ls0) 99 :: rest) (g.Ok ∧ x.length ≤ 300 ∧ x.any (outI (-32768) 32767) = false) Value (fun o => .tp [ov o, iv 0]) (fun o => rA rSg 39 o (fdS g x (x.length / g.block.toNat)).2 :: rV v (lsc g (fdE g x)) 99 :: rest) := by
  refine (ctR Tryd.call41 Tryd.func41 Tryd.ntmps41 rfl Tryd.results41 rfl [43] fun h0 w0 ⟨gk, hl, hz⟩ => ?_)
  obtain ⟨B, hB⟩ : ∃ B : Nat, g.block = (B : Int) := ⟨g.block.toNat, by have := gk.block; omega⟩
  have hB1 : 1 ≤ B ∧ B ≤ 4096 := by have := gk.block; omega
  have hBn : g.block.toNat = B := by omega
  have e0 : ls0.samples = 0 := rfl
  have e1 : ls0.bl.length = 0 := rfl
  repeat first | refine nx ?_ | intro _
  refine gIf (fun c => absurd c (by simp)) fun c => ?_
  repeat first | refine nx ?_ | intro _
  refine gIf (fun c => absurd c (by omega)) fun c => ?_
  repeat first | refine nx ?_ | intro _
  rw [hz]
  refine gIf (fun c => absurd c (by simp)) fun c => ?_
  repeat first | refine nx ?_ | intro _
  refine gIf (fun c => absurd c (by decide)) fun c => ?_
  repeat first | refine nx ?_ | intro _
  refine gIf (fun c => absurd c (by omega)) fun c => ?_
  repeat first | refine nx ?_ | intro _
  rename_i o1 o2
  rw [show ls0.bl ++ x = x from rfl]
  refine gFz o2 ?_
  repeat first | refine nx ?_ | intro _
  refine gNl rSg 39 ?_
  rw [show ls0.samples + (x.length : Int) = x.length by omega]
  refine gLp (fun s : Nat × Value => [(7, lv rI (x.drop (s.1 * g.block.toNat))), (6, ov s.2)]) (fun s => [rA rSg 39 s.2 (fdS g x s.1).2, rV v (lsc g (fdS g x s.1).1) 99]) (fun s => s.1 ≤ x.length / g.block.toNat) (fun s => x.length / g.block.toNat - s.1) (0, .slice none 0 0) (Nat.zero_le _) (fun ⟨k, o⟩ hk => ?_) (h1 := by simp) (h2 := by repeat' (first | refine And.intro ?_ ?_ | rfl | trivial))
  dsimp only at *
  have hN : x.length / g.block.toNat ≤ 300 := Nat.le_trans (Nat.div_le_self _ _) hl
  obtain ⟨q1, q2, q3, q4, q5⟩ := fdS_B (x := x) gk k (by omega)
  have hdl : (x.drop (k * g.block.toNat)).length = x.length - k * g.block.toNat := List.length_drop
  repeat first | refine nx ?_ | intro _
  refine gIf (fun c1 => ?_) fun c1 => ?_
  · repeat first | refine gZw 20 13 17 18 19 ⟨8, fun γ => ov γ.v, fun γ => rV γ.v [iv 0, iv 0] 39, fun γ => rV γ.v [iv (prS g (fdS g x k).1 (engL ((x.drop (k * g.block.toNat)).take g.block.toNat))).2.1, iv (prS g (fdS g x k).1 (engL ((x.drop (k * g.block.toNat)).take g.block.toNat))).2.2.1] 39⟩ ⟨75, fun _ => .tp [.ag [iv (prS g (fdS g x k).1 (engL ((x.drop (k * g.block.toNat)).take g.block.toNat))).2.1, iv (prS g (fdS g x k).1 (engL ((x.drop (k * g.block.toNat)).take g.block.toNat))).2.2.1], bv (prS g (fdS g x k).1 (engL ((x.drop (k * g.block.toNat)).take g.block.toNat))).2.2.2], fun _ => rV v (lsc g (prS g (fdS g x k).1 (engL ((x.drop (k * g.block.toNat)).take g.block.toNat))).1) 99 :: rA rSg 39 o (fdS g x k).2 :: rest⟩ (by rfl) (by kernel_rfl) ?_ | refine nx ?_ | intro _
    have hpre : g.Ok ∧ LsB (fdS g x k).1 ∧ ((x.drop (k * g.block.toNat)).take g.block.toNat).length ≤ 4096 ∧ ∀ z ∈ (x.drop (k * g.block.toNat)).take g.block.toNat, ¬ (z < -32768 ∨ 32768 < z) := ⟨gk, q1, by rw [List.length_take]; omega, fun z hm => by
      have := List.any_eq_false.1 hz z (List.mem_of_mem_drop (List.mem_of_mem_take hm))
      unfold outI at this
      simp at this
      omega⟩
    refine gZc hpre (fun _ => hpre) (.refl _) (fun _ => .perm (List.Perm.swap ..)) ?_
    repeat first | refine nx ?_ | intro _
    have hlen := fdS_len (g := g) (x := x) k
    have e2 : ∀ m, x.drop (k * g.block.toNat + m) = (x.drop (k * g.block.toNat)).drop m := fun m => by rw [List.drop_drop]
    have e3 : x.drop ((k + 1) * g.block.toNat) = (x.drop (k * g.block.toNat)).drop g.block.toNat := by rw [Nat.succ_mul, e2]
    have hk1 : k + 1 ≤ x.length / g.block.toNat := by
      rw [Nat.le_div_iff_mul_le (by omega), Nat.succ_mul]; omega
    refine gIf (fun c2 => ?_) fun c2 => ?_
    · have hs : (fdS g x (k + 1)).2 = (fdS g x k).2 ++ [((prS g (fdS g x k).1 (engL ((x.drop (k * g.block.toNat)).take g.block.toNat))).2.1, (prS g (fdS g x k).1 (engL ((x.drop (k * g.block.toNat)).take g.block.toNat))).2.2.1)] := if_pos c2
      repeat first | refine nx ?_ | intro _
      rename_i o3
      exact gBk (k + 1, o3) hk1 (by dsimp only; omega) (h1 := by rw [e3]; simp) (h2 := by rw [hs]; repeat' (first | refine And.intro ?_ ?_ | rfl | trivial))
    · have hs : (fdS g x (k + 1)).2 = (fdS g x k).2 := if_neg c2
      repeat first | refine nx ?_ | intro _
      exact gBk (k + 1, o) hk1 (by dsimp only; omega) (h1 := by rw [e3]; simp) (h2 := by rw [hs]; repeat' (first | refine And.intro ?_ ?_ | rfl | trivial))
  · have ek : k = x.length / g.block.toNat := by
      refine Nat.le_antisymm hk ?_
      rcases Nat.lt_or_ge k (x.length / g.block.toNat) with h | h
      · have := (Nat.le_div_iff_mul_le (by omega)).1 h
        rw [Nat.succ_mul] at this
        omega
      · exact h
    subst ek
    have e4 : (x.drop (x.length / g.block.toNat * g.block.toNat)).length ≤ 300 := by rw [List.length_drop]; omega
    repeat first | refine nx ?_ | intro _
    rename_i v2
    refine gFzX v2 ?_
    exact gEr o
end Go.E3
