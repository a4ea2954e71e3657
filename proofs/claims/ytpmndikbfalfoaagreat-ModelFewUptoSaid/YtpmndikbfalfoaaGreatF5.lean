/- F5: a part of the proofs about package model: how the program's functions run, and what they compute, for every input. -/
import Derived.Test.YtpmndikbfalfoaaGreatF4
set_option linter.all false
set_option linter.unusedVariables false
set_option maxRecDepth 20000
set_option maxHeartbeats 8000000
set_option synthInstance.maxSize 1000
namespace Go.E3
open Go Go.Ear Go.Proofs
section
variable {P : Program} {n : Nat} {X : Fix} {ms : List Nat} {env : EL} {B : List Res} {ol : List Oper} {k : Kt} {Ls : EL} {lt : Nat → Bool} {d : Nat} {m i : Nat} {L : (Nat → Gh) → EL} {R : List (Nat × (Gh → Res))} {rest : List Oper} {ty : TypeId} {pos : String} {af : Array Edge} {sd : Prop} {S : SV}
instance (priority := high) {bo : BinOp} {t u : TypeId} {x y : Operand} [lf : RflE (lt i) true] [st : ∀ B', St P n true Ls env B' ms d (.binOp bo t x y u) sd S] : Nx (GE P n X ms Ls env B ol (⟨some d, .binOp bo t x y u, ty, pos, af, none⟩ :: rest) k lt (m + 1) i L R) sd (GE P n X ms ((d, S) :: Ls) env B ol rest k lt m (i + 1) (fun ν => (d, S) :: L ν) R) := ⟨fun hs g => ⟨fun q => .st d (fun _ => S) [] rfl (fun _ _ _ => rfl) rfl (fun ν => triP (st := st B) hs (q ν)) (fun _ B' ν => triP (st := st B') hs (q ν)) (g.p (subL q))⟩⟩
end
def swp (l : List Int) (j : Nat) : List Int := (l.set (j + 1) (l.getD j 0)).set j (l.getD (j + 1) 0)
def bub (c : Int → Int → Int) : Nat → List Int → List Int
  | 0, l => l
  | j + 1, l => if c (l.getD (j + 1) 0) (l.getD j 0) < 0 then bub c j (swp l j) else l
def iS (c : Int → Int → Int) (l : List Int) : Nat → List Int
  | 0 => l
  | k + 1 => bub c (k + 1) (iS c l k)
theorem swp_len (l : List Int) (j : Nat) : (swp l j).length = l.length := by simp [swp]
theorem bub_len (c : Int → Int → Int) : ∀ j l, (bub c j l).length = l.length
  | 0, l => rfl
  | j + 1, l => by
    rw [bub]; split
    · rw [bub_len c j, swp_len]
    · rfl
theorem iS_len (c : Int → Int → Int) (l : List Int) : ∀ k, (iS c l k).length = l.length
  | 0 => rfl
  | k + 1 => by rw [iS, bub_len, iS_len c l k]
theorem swp_all {p : Int → Prop} {l : List Int} {j : Nat} (hj : j + 1 < l.length) (h : ∀ x ∈ l, p x) : ∀ x ∈ swp l j, p x := fun x hx => by
  have h1 : p (l.getD j 0) := h _ (getD_mem' l 0 (by omega))
  have h2 : p (l.getD (j + 1) 0) := h _ (getD_mem' l 0 hj)
  unfold swp at hx
  rcases List.mem_or_eq_of_mem_set hx with hx | rfl
  · rcases List.mem_or_eq_of_mem_set hx with hx | rfl
    · exact h x hx
    · exact h1
  · exact h2
theorem bub_all {p : Int → Prop} (c : Int → Int → Int) : ∀ j l, j < l.length → (∀ x ∈ l, p x) → ∀ x ∈ bub c j l, p x
  | 0, l, _, h => h
  | j + 1, l, hj, h => by
    rw [bub]; split
    · exact bub_all c j _ (by rw [swp_len]; omega) (swp_all hj h)
    · exact h
theorem iS_all {p : Int → Prop} (c : Int → Int → Int) {l : List Int} (h : ∀ x ∈ l, p x) : ∀ k, k < l.length → ∀ x ∈ iS c l k, p x
  | 0, _ => h
  | k + 1, hk => bub_all c (k + 1) _ (by rw [iS_len]; exact hk) (iS_all c h k (by omega))
section
variable {F : SV} {rest : List Res} {v : Value} {l : List Int} {sd : Int → Prop} {c : Int → Int → Int}
theorem insort_b [fv : ∀ x y : Int, Fv Tryz.prog F [iv x, iv y] rest (sd x ∧ sd y) (iv (c x y))] : CtR Tryz.prog 219 [ov v, iv 0, iv (l.length : Int), F] (rA rI 3 v l :: rest) (l.length ≤ 1048576 ∧ ∀ x ∈ l, sd x) Unit (fun _ => .tp []) (fun _ => rA rI 3 v (iS c l (l.length - 1)) :: rest) := by
  refine (ctR Tryz.call219 Tryz.func219 Tryz.ntmps219 rfl Tryz.results219 rfl [] fun h0 w0 ⟨h1, h2⟩ => ?_)
  repeat first | refine nx ?_ | intro _
  refine gLp (fun k : Nat => [(8, iv ((k + 1 : Nat) : Int))]) (fun k => [rA rI 3 v (iS c l k)]) (fun k => k ≤ l.length - 1) (fun k => l.length - 1 - k) 0 (Nat.zero_le _) fun k hk => ?_
  repeat first | refine nx ?_ | intro _
  refine gIf (fun c1 => ?_) fun c1 => ?_
  · have hk1 : k + 1 < l.length := by omega
    repeat first | refine nx ?_ | intro _
    refine gLp (fun s : Nat × List Int => [(9, iv s.1)]) (fun s => [rA rI 3 v s.2]) (fun s => s.1 ≤ k + 1 ∧ s.2.length = l.length ∧ (∀ x ∈ s.2, sd x) ∧ bub c s.1 s.2 = iS c l (k + 1)) (fun s => s.1) (k + 1, iS c l k) ⟨Nat.le_refl _, iS_len c l k, iS_all c h2 k (by omega), rfl⟩ fun ⟨j, l2⟩ ⟨hj, hl, ha, he⟩ => ?_
    dsimp only at hj hl ha he ⊢
    have hg1 : 0 < j → sd (l2.getD j 0) ∧ sd (l2.getD (j - 1) 0) := fun h => ⟨ha _ (getD_mem' l2 0 (by omega)), ha _ (getD_mem' l2 0 (by omega))⟩
    have hgl := ge_of hl
    repeat first | refine gDr 17 (by kernel_rfl) ?_ | refine nx ?_ | intro _
    refine gIf (fun c2 => ?_) fun c2 => ?_
    · obtain ⟨j, rfl⟩ : ∃ i, j = i + 1 := ⟨j - 1, by have := c2.1; omega⟩
      have c3 : c (l2.getD (j + 1) 0) (l2.getD j 0) < 0 := c2.2
      rw [bub, if_pos c3] at he
      repeat first | refine gDrL (fun j => Nat.beq (Nat.div (Nat.add j 1) 3) 1) 16 (by kernel_rfl) ?_ | refine nx ?_ | intro _
      exact gBk (j, swp l2 j) ⟨by dsimp only; omega, (swp_len _ _).trans hl, swp_all (by omega) ha, he⟩ (by dsimp only; omega)
    · have e : bub c j l2 = l2 := by
        cases j with
        | zero => rfl
        | succ j => rw [bub, if_neg (show ¬ c (l2.getD (j + 1) 0) (l2.getD j 0) < 0 from fun h => c2 ⟨Nat.succ_pos _, h⟩)]
      rw [e] at he
      repeat first | refine nx ?_ | intro _
      rw [he]
      exact gBk (k + 1) (by omega) (by omega)
  · have e : k = l.length - 1 := by omega
    subst e
    repeat first | refine nx ?_ | intro _
    exact gEr ()
end
section
variable {F : SV} {B B1 : List Res} {v : Value} {l : List Int} {sd : Int → Prop} {c : Int → Int → Int}
instance insort_c [pa : PA B v Int rI 3 l B1] [fv : ∀ x y : Int, Fv Tryz.prog F [iv x, iv y] B1 (sd x ∧ sd y) (iv (c x y))] : CtR Tryz.prog 219 [ov v, iv 0, iv (l.length : Int), F] B (l.length ≤ 1048576 ∧ ∀ x ∈ l, sd x) Unit (fun _ => .tp []) (fun _ => rA rI 3 v (iS c l (l.length - 1)) :: B1) := insort_b.to pa.h
end
section
variable {F : SV} {rest : List Res} {v : Value} {l : List Int} {sd : Int → Prop} {c : Int → Int → Int}
theorem stable_b [fv : ∀ x y : Int, Fv Tryz.prog F [iv x, iv y] rest (sd x ∧ sd y) (iv (c x y))] : CtR Tryz.prog 214 [ov v, iv (l.length : Int), F] (rA rI 3 v l :: rest) (l.length ≤ 19 ∧ ∀ x ∈ l, sd x) Unit (fun _ => .tp []) (fun _ => rA rI 3 v (iS c l (l.length - 1)) :: rest) := by
  refine (ctR Tryz.call214 Tryz.func214 Tryz.ntmps214 rfl Tryz.results214 rfl [] fun h0 w0 ⟨h1, h2⟩ => ?_)
  repeat first | refine nx ?_ | intro _
  refine gLp (fun _ : Unit => []) (fun _ => []) (fun _ => True) (fun _ => 0) () trivial fun _ _ => ?_
  repeat first | refine nx ?_ | intro _
  refine gIf (fun c1 => ?_) fun c1 => ?_
  · omega
  repeat first | refine nx ?_ | intro _
  refine gLp (fun _ : Unit => []) (fun _ => []) (fun _ => True) (fun _ => 0) () trivial fun _ _ => ?_
  repeat first | refine nx ?_ | intro _
  refine gIf (fun c2 => ?_) fun c2 => ?_
  · omega
  repeat first | refine nx ?_ | intro _
  exact gEr ()
end
section
variable {F : SV} {B B1 : List Res} {v : Value} {l : List Int} {sd : Int → Prop} {c : Int → Int → Int}
instance stable_c [pa : PA B v Int rI 3 l B1] [fv : ∀ x y : Int, Fv Tryz.prog F [iv x, iv y] B1 (sd x ∧ sd y) (iv (c x y))] : CtR Tryz.prog 214 [ov v, iv (l.length : Int), F] B (l.length ≤ 19 ∧ ∀ x ∈ l, sd x) Unit (fun _ => .tp []) (fun _ => rA rI 3 v (iS c l (l.length - 1)) :: B1) := stable_b.to pa.h
end
section
variable {F : SV} {rest : List Res} {v : Value} {l : List Int} {sd : Int → Prop} {c : Int → Int → Int}
theorem sort_b [fv : ∀ x y : Int, Fv Tryz.prog F [iv x, iv y] rest (sd x ∧ sd y) (iv (c x y))] : CtR Tryz.prog 188 [ov v, F] (rA rI 3 v l :: rest) (l.length ≤ 19 ∧ ∀ x ∈ l, sd x) Unit (fun _ => .tp []) (fun _ => rA rI 3 v (iS c l (l.length - 1)) :: rest) := by
  refine (ctR Tryz.call188 Tryz.func188 Tryz.ntmps188 rfl Tryz.results188 rfl [] fun h0 w0 ⟨h1, h2⟩ => ?_)
  repeat first | refine nx ?_ | intro _
  exact gEr ()
end
section
variable {F : SV} {B B1 : List Res} {v : Value} {l : List Int} {sd : Int → Prop} {c : Int → Int → Int}
instance sort_c [pa : PA B v Int rI 3 l B1] [fv : ∀ x y : Int, Fv Tryz.prog F [iv x, iv y] B1 (sd x ∧ sd y) (iv (c x y))] : CtR Tryz.prog 188 [ov v, F] B (l.length ≤ 19 ∧ ∀ x ∈ l, sd x) Unit (fun _ => .tp []) (fun _ => rA rI 3 v (iS c l (l.length - 1)) :: B1) := sort_b.to pa.h
end
end Go.E3
