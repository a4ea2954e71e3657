/- K7: a part of the proofs about what is clipped and stored: how the program's functions run, and what they compute, for every input. -/
import Derived.Test.YtabmlonaohfncaaDoorK6
set_option linter.all false
set_option linter.unusedVariables false
set_option maxRecDepth 20000
set_option maxHeartbeats 4000000
set_option synthInstance.maxSize 1000
namespace Go.E3
open Go Go.Ear Go.Proofs
section
variable {l : List Int} {S : SV}
instance uClone_c [i : Vw (lv rI) S l] : Ct Tryd.prog 34 [S] (l.length ≤ 1000000000000) (lv rI l) := by
  refine ct1 i (ctI Tryd.call34 Tryd.func34 Tryd.ntmps34 rfl Tryd.results34 rfl [5] fun h0 w0 hl => ?_)
  repeat first | refine nx ?_ | intro _
  rename_i b hb
  refine gIf (fun c => ?_) fun c => ?_ <;> repeat first | refine nx ?_ | intro _
  · exact hb c
  · rfl
instance uCloneO_c [i : Vw (lv rI) S l] : CtO Tryd.prog 34 [S] (l.length ≤ 1000000000000) (fun g => [rA rI 3 g.v l]) := by
  refine cO1 i (ctO Tryd.call34 Tryd.func34 Tryd.ntmps34 rfl Tryd.results34 rfl [5] fun h0 w0 hl => ?_)
  repeat first | refine nx ?_ | intro _
  rename_i b hb
  refine gIf (fun c => ?_) fun c => ?_ <;> repeat first | refine nx ?_ | intro _
  · exact hb c
  · rfl
abbrev ratS (num den : Int) : Prop := (0 ≤ num ∧ num ≤ den) ∧ 1 ≤ den ∧ den ≤ 1024
instance ratio_c {num den : Int} [i : Vw (lv rI) S l] : Ct Tryd.prog 44 [S, iv num, iv den] (l.length ≤ 1000000000000 ∧ valE l = 0 ∧ ratS num den) (iv 0) := by
  refine ct1 i (ctI Tryd.call44 Tryd.func44 Tryd.ntmps44 rfl Tryd.results44 rfl [] fun h0 w0 ⟨h1, h2, h3⟩ => ?_)
  repeat first | refine nx ?_ | intro _
  refine gIf (fun c => absurd h2 c) fun c => ?_
  repeat first | refine nx ?_ | intro _
  refine gIf (fun c => absurd c (by omega)) fun c => ?_
  repeat first | refine nx ?_ | intro _
  trivial
end
def emI (x : List Int) (num den : Int) (i : Nat) : Int := if i = 0 then x.getD 0 0 else x.getD i 0 - rnd (num * x.getD (i - 1) 0) den
def emL (x : List Int) (num den : Int) : List Int := (List.range x.length).map (emI x num den)
theorem emL_len {x : List Int} {num den : Int} : (emL x num den).length = x.length := by simp [emL]
theorem emL_at {x : List Int} {num den : Int} {i : Nat} (h : i < x.length) : (emL x num den).getD i 0 = emI x num den i := by
  unfold emL; rw [List.getD_eq_getElem?_getD, List.getElem?_map, List.getElem?_range h]; rfl
theorem emR_bd {x : List Int} {num den : Int} (hr : ratS num den) (h : bdL 32768 x) (i : Nat) : rndS (num * x.getD i 0) den ∧ -32768 ≤ rnd (num * x.getD i 0) den ∧ rnd (num * x.getD i 0) den ≤ 32768 := by
  have h1 := mul_bd (h i) (b := num) (B := den) ⟨hr.1.1, hr.1.2⟩
  rw [Int.mul_comm (x.getD i 0)] at h1
  exact ⟨⟨by omega, by omega, by omega, by omega⟩, rnd_bd (by omega) (by omega) (by omega)⟩
theorem emL_bd {x : List Int} {num den : Int} (hr : ratS num den) (h : bdL 32768 x) : bdL 65536 (emL x num den) := fun i => by
  by_cases hi : i < x.length
  · rw [emL_at hi]
    unfold emI
    have h1 := h i
    have h2 := emR_bd hr h (i - 1)
    split
    · next e => subst e; omega
    · omega
  · rw [getD_off (by rw [emL_len]; omega)]; omega
theorem emL_one {x : List Int} {num den : Int} : mixL (emL x num den) x (0 + 1) = x := by
  refine ext_gU (mixL_len emL_len) fun i hi => ?_
  rw [mixL_len emL_len] at hi
  rcases Nat.lt_or_ge i 1 with q | q
  · obtain rfl : i = 0 := by omega
    rw [mixL_at' 0 emL_len q, emL_at hi]; rfl
  · exact mixL_at 0 emL_len q
section
variable {x : List Int} {S : SV} {num den : Int}
instance Emphasize_c [j : Vw (lv rI) S x] : Ct Tryd.prog 25 [S, iv num, iv den] (x.length ≤ 200000 ∧ bdL 32768 x ∧ ratS num den) (.tp [lv rI (emL x num den), iv 0]) := by
  refine ct1 j (ctI Tryd.call25 Tryd.func25 Tryd.ntmps25 rfl Tryd.results25 rfl [19] fun h0 w0 ⟨h1, h2, h3⟩ => ?_)
  have hv : valE x = 0 := valE_ok h1 (by omega) h2
  have hbe := emL_bd h3 h2
  have hve : valE (emL x num den) = 0 := valE_ok (by rw [emL_len]; exact h1) (by omega) hbe
  have hel := emL_len (x := x) (num := num) (den := den)
  repeat first | refine nx ?_ | intro _
  refine gIf (fun c => absurd rfl c) fun c => ?_
  repeat first | refine nx ?_ | intro _
  rename_i g
  generalize g.v = v
  refine gLp (fun k : Nat => [(10, iv ((k + 1 : Nat) : Int))]) (fun k => [rA rI 3 v (mixL (emL x num den) x (k + 1))]) (fun k => True) (fun k => x.length - k) 0 trivial (fun k _ => ?_) (h2 := ⟨by rw [emL_one], trivial⟩)
  have hm : (mixL (emL x num den) x (k + 1)).length = x.length := mixL_len hel
  repeat first | refine nx ?_ | intro _
  refine gIf (fun c => ?_) fun c => ?_
  · have hg : (mixL (emL x num den) x (k + 1)).getD (k + 1) 0 = x.getD (k + 1) 0 := mixL_at 0 hel (Nat.le_refl _)
    have h4 := h2 (k + 1)
    have ⟨h5, h6⟩ := emR_bd h3 h2 k
    repeat first | refine gDr 14 (by kernel_rfl) ?_ | refine nx ?_ | intro _
    rw [Nat.add_sub_cancel, hg]
    repeat first | refine gDr 14 (by kernel_rfl) ?_ | refine nx ?_ | intro _
    have e1 : x.getD (k + 1) 0 - rnd (num * x.getD k 0) den = (emL x num den).getD (k + 1) 0 := by rw [emL_at c]; unfold emI; rw [if_neg (by omega), Nat.add_sub_cancel]
    rw [e1, mixL_set 0 hel (by omega)]
    exact gBk (k + 1) trivial (by omega)
  · repeat first | refine nx ?_ | intro _
    rw [mixL_all hel (by omega)]
    refine gIf (fun c => absurd hve c) fun c => ?_
    repeat first | refine nx ?_ | intro _
    trivial
end
def cmL (g : Int → Int → Int) (a b : List Int) : List Int := (List.range a.length).map fun i => g (a.getD i 0) (b.getD i 0)
theorem cmL_len {g : Int → Int → Int} {a b : List Int} : (cmL g a b).length = a.length := by simp [cmL]
theorem cmL_at {g : Int → Int → Int} {a b : List Int} {i : Nat} (h : i < a.length) : (cmL g a b).getD i 0 = g (a.getD i 0) (b.getD i 0) := by
  unfold cmL; rw [List.getD_eq_getElem?_getD, List.getElem?_map, List.getElem?_range h]; rfl
theorem cmL_bd {g : Int → Int → Int} {a b : List Int} {C : Int} (hC : 0 ≤ C) (h : ∀ i, i < a.length → -C ≤ g (a.getD i 0) (b.getD i 0) ∧ g (a.getD i 0) (b.getD i 0) ≤ C) : bdL C (cmL g a b) := fun i => by
  by_cases hi : i < a.length
  · rw [cmL_at hi]; exact h i hi
  · rw [getD_off (by rw [cmL_len]; omega)]; omega
section
variable {a b : List Int} {F : SV} {sd : Int → Int → Prop} {g : Int → Int → Int}
instance combined_c [fv : ∀ x y, Fv Tryd.prog F [iv x, iv y] [] (sd x y) (iv (g x y))] : Ct Tryd.prog 72 [lv rI a, lv rI b, F] ((a.length ≤ 1000000 ∧ a.length ≤ b.length) ∧ ∀ i, i < a.length → sd (a.getD i 0) (b.getD i 0)) (lv rI (cmL g a b)) := by
  refine (ctI Tryd.call72 Tryd.func72 Tryd.ntmps72 rfl Tryd.results72 rfl [11] fun h0 w0 ⟨⟨h1, h2⟩, h3⟩ => ?_)
  have hrep : (List.replicate a.length (0 : Int)).length = a.length := List.length_replicate
  repeat first | refine nx ?_ | intro _
  rename_i v
  refine gLp (fun k : Nat => [(14, iv k)]) (fun k => [rA rI 3 v (Go.Ear.rowAt (cmL g a b) 0 a.length k)]) (fun k => k ≤ a.length) (fun k => a.length - k) 0 (Nat.zero_le _) fun k hk => ?_
  have hrl : (Go.Ear.rowAt (cmL g a b) 0 a.length k).length = a.length := Go.Ear.rowAt_len cmL_len hk
  repeat first | refine nx ?_ | intro _
  refine gIf (fun c => ?_) fun c => ?_
  · have hs := h3 k c
    repeat first | refine gDr 12 (by kernel_rfl) ?_ | refine nx ?_ | intro _
    rw [Go.Ear.rowAt_set cmL_len c (cmL_at c).symm]
    exact gBk (k + 1) (by omega) (by omega)
  · refine gFz v ?_
    repeat first | refine nx ?_ | intro _
    exact Go.Ear.rowAt_end cmL_len (by omega)
instance combinedO_c [fv : ∀ x y, Fv Tryd.prog F [iv x, iv y] [] (sd x y) (iv (g x y))] : CtO Tryd.prog 72 [lv rI a, lv rI b, F] ((a.length ≤ 1000000 ∧ a.length ≤ b.length) ∧ ∀ i, i < a.length → sd (a.getD i 0) (b.getD i 0)) (fun z => [rA rI 3 z.v (cmL g a b)]) := by
  refine (ctO Tryd.call72 Tryd.func72 Tryd.ntmps72 rfl Tryd.results72 rfl [11] fun h0 w0 ⟨⟨h1, h2⟩, h3⟩ => ?_)
  have hrep : (List.replicate a.length (0 : Int)).length = a.length := List.length_replicate
  repeat first | refine nx ?_ | intro _
  rename_i v
  refine gLp (fun k : Nat => [(14, iv k)]) (fun k => [rA rI 3 v (Go.Ear.rowAt (cmL g a b) 0 a.length k)]) (fun k => k ≤ a.length) (fun k => a.length - k) 0 (Nat.zero_le _) fun k hk => ?_
  have hrl : (Go.Ear.rowAt (cmL g a b) 0 a.length k).length = a.length := Go.Ear.rowAt_len cmL_len hk
  repeat first | refine nx ?_ | intro _
  refine gIf (fun c => ?_) fun c => ?_
  · have hs := h3 k c
    repeat first | refine gDr 12 (by kernel_rfl) ?_ | refine nx ?_ | intro _
    rw [Go.Ear.rowAt_set cmL_len c (cmL_at c).symm]
    exact gBk (k + 1) (by omega) (by omega)
  · repeat first | refine nx ?_ | intro _
    exact Go.Ear.rowAt_end cmL_len (by omega)
end
abbrev smS (x y : Int) : Prop := (-1000000000000 ≤ x ∧ x ≤ 1000000000000) ∧ -1000000000000 ≤ y ∧ y ≤ 1000000000000
section
variable {x y : Int}
instance dif1_c : Ct Tryd.prog 73 [iv x, iv y] (smS x y) (iv (x - y)) := by
  refine (ctI Tryd.call73 Tryd.func73 Tryd.ntmps73 rfl Tryd.results73 rfl [] fun h0 w0 ⟨h1, h2⟩ => ?_)
  repeat first | refine nx ?_ | intro _
  trivial
instance cen1_c : Ct Tryd.prog 75 [iv x, iv y] (smS x y) (iv (x - y)) := by
  refine (ctI Tryd.call75 Tryd.func75 Tryd.ntmps75 rfl Tryd.results75 rfl [] fun h0 w0 ⟨h1, h2⟩ => ?_)
  repeat first | refine nx ?_ | intro _
  trivial
instance mean1_c : Ct Tryd.prog 86 [iv x, iv y] (smS x y) (iv (x + y)) := by
  refine (ctI Tryd.call86 Tryd.func86 Tryd.ntmps86 rfl Tryd.results86 rfl [] fun h0 w0 ⟨h1, h2⟩ => ?_)
  repeat first | refine nx ?_ | intro _
  trivial
end
end Go.E3
set_option linter.unusedVariables false
set_option maxRecDepth 20000
set_option maxHeartbeats 4000000
set_option synthInstance.maxSize 1000
namespace Go.E3
open Go Go.Ear Go.Proofs
structure VsOk (n : Nat) (K : Int) (v : List (List Int)) : Prop where
  l : v.length ≤ 1000
  hn : n ≤ 1000
  hK : 0 ≤ K ∧ K ≤ 1000000
  at_ : ∀ t, t < v.length → (v.getD t []).length = n
  bd : ∀ t, bdL K (v.getD t [])
def msL (n : Nat) (v : List (List Int)) : Nat → List Int
  | 0 => List.replicate n 0
  | k + 1 => cmL (fun x y => x + y) (msL n v k) (v.getD k [])
theorem msL_len {n : Nat} {v : List (List Int)} : ∀ k, (msL n v k).length = n
  | 0 => List.length_replicate
  | k + 1 => by rw [msL, cmL_len, msL_len k]
theorem msL_bd {n : Nat} {K : Int} {v : List (List Int)} (h : VsOk n K v) : ∀ k : Nat, bdL ((k : Int) * K) (msL n v k)
  | 0 => fun i => by
    unfold msL
    rw [List.getD_eq_getElem?_getD, List.getElem?_replicate]
    split <;> simp
  | k + 1 => by
    have e : ((k + 1 : Nat) : Int) * K = (k : Int) * K + K := by rw [Int.natCast_add, Int.add_mul]; omega
    have h0 : 0 ≤ (k : Int) * K := Int.mul_nonneg (by omega) h.hK.1
    have hK := h.hK
    refine cmL_bd (by omega) fun i hi => ?_
    have h1 := msL_bd h k i
    have h2 := h.bd k i
    omega
def mnL (v : List (List Int)) : List Int := (msL (v.getD 0 []).length v v.length).map fun a => rnd a v.length
theorem mnL_len {v : List (List Int)} : (mnL v).length = (v.getD 0 []).length := by unfold mnL; rw [List.length_map, msL_len]
theorem kk_bd {k : Nat} {K : Int} (h : k ≤ 1000) (hK : 0 ≤ K ∧ K ≤ 1000000) : 0 ≤ (k : Int) * K ∧ (k : Int) * K ≤ 1000000000 := by
  refine ⟨Int.mul_nonneg (by omega) hK.1, ?_⟩
  calc (k : Int) * K ≤ 1000 * 1000000 := Int.mul_le_mul (by omega) hK.2 hK.1 (by omega)
    _ = 1000000000 := rfl
theorem mnL_bd {n : Nat} {K : Int} {v : List (List Int)} (h : VsOk n K v) (h0 : 0 < v.length) : bdL K (mnL v) := fun i => by
  have hn := h.at_ 0 h0
  by_cases hi : i < (msL (v.getD 0 []).length v v.length).length
  · unfold mnL
    rw [map_at hi]
    have := msL_bd (n := (v.getD 0 []).length) (by rw [hn]; exact h) v.length i
    exact rnd_bd (by omega) (by rw [Int.mul_comm]; exact this.1) (by rw [Int.mul_comm]; exact this.2)
  · rw [getD_off (by rw [mnL_len]; rw [msL_len] at hi; omega)]
    have := h.hK; omega
section
variable {α : Type} {P : Program} {n : Nat} {X : Fix} {ms : List Nat} {loc env : EL} {B : List Res} {ol rest : List Oper} {k : Kt} {e : TypeId}
theorem gFzO (v : Value) {r : Rp α} {q : List α} {loc' env' : EL} {B1 B2 : List Res} [pa : PA B v α r e q B1] [sl : SbE v (lv r q) loc loc'] [se : SbE v (lv r q) env env'] [sb : SbB v (lv r q) B1 B2] [d1 : SameDom loc loc'] [d2 : SameDom env env'] (g : GO P n X ms loc' env' B2 ol rest k) : GO P n X ms loc env B ol rest k := ⟨fun ok ρ h w s => by
  obtain ⟨h', s'⟩ := s.fz (v := v) (r := r) (q := q) (pa := pa) (sl := sl) (se := se) (sb := sb)
  exact g.p (by rw [d1.h, d2.h]; exact ok) ρ h' w s'⟩
end
section
variable {v : List (List Int)} {n : Nat} {K : Int} {S : SV}
instance mean_c [j : Vw (lv (rL rI)) S v] : Ct Tryd.prog 74 [S] (0 < v.length ∧ ∃ n K, VsOk n K v) (lv rI (mnL v)) := by
  refine ct1 j (ctI Tryd.call74 Tryd.func74 Tryd.ntmps74 rfl Tryd.results74 rfl [11, 20] fun h0 w0 ⟨h1, n, K, hv⟩ => ?_)
  have hn := hv.hn
  have hl := hv.l
  have h0 := hv.at_ 0 h1
  have hms := msL_bd hv
  unfold mnL
  rw [h0]
  have hkk := fun k hk => kk_bd (k := k) (K := K) hk hv.hK
  repeat first | refine nx ?_ | intro _
  rename_i w
  rw [h0]
  refine gLp (fun s : Nat × Value => [(14, iv s.1), (3, ov s.2)]) (fun s => [rA rI 3 s.2 (msL n v s.1)]) (fun s => s.1 ≤ v.length) (fun s => v.length - s.1) (0, w) (Nat.zero_le _) fun ⟨k, w⟩ hk => ?_
  dsimp only at *
  repeat first | refine nx ?_ | intro _
  refine gIf (fun c => ?_) fun c => ?_
  · have hside : ((msL n v k).length ≤ 1000000 ∧ (msL n v k).length ≤ (v.getD k []).length) ∧ ∀ i, i < (msL n v k).length → smS ((msL n v k).getD i 0) ((v.getD k []).getD i 0) := by
      have h2 := hv.at_ k c
      have h3 := hkk k (by omega)
      have h4 := hv.hK
      refine ⟨⟨by rw [msL_len]; omega, by rw [msL_len]; omega⟩, fun i _ => ?_⟩
      have h5 := hms k i
      have h6 := hv.bd k i
      exact ⟨by omega, by omega⟩
    repeat first | refine nx ?_ | intro _
    rename_i z
    exact gBk (k + 1, z.v) (by dsimp only; omega) (by dsimp only; omega)
  have ek : k = v.length := by omega
  subst ek
  have hml := msL_len (n := n) (v := v) v.length
  have hmb := hms v.length
  have hkv := hkk v.length hl
  generalize msL n v v.length = q at *
  repeat first | refine nx ?_ | intro _
  have hls : (q.map fun a => rnd a v.length).length = q.length := List.length_map ..
  refine gLp (fun k : Nat => [(24, iv k)]) (fun k => [rA rI 3 w (mixL (q.map fun a => rnd a v.length) q k)]) (fun k => k ≤ q.length) (fun k => q.length - k) 0 (Nat.zero_le _) fun k hk => ?_
  have hm : (mixL (q.map fun a => rnd a v.length) q k).length = q.length := mixL_len hls
  repeat first | refine nx ?_ | intro _
  refine gIf (fun c => ?_) fun c => ?_
  · have hg : (mixL (q.map fun a => rnd a v.length) q k).getD k 0 = q.getD k 0 := mixL_at 0 hls (Nat.le_refl _)
    have hr : rndS (q.getD k 0) (v.length : Int) := by have := hmb k; exact ⟨by omega, by omega, by omega, by omega⟩
    repeat first | refine nx ?_ | intro _
    rw [hg]
    repeat first | refine nx ?_ | intro _
    rw [← map_at (f := fun a => rnd a v.length) c, mixL_set 0 hls (by omega)]
    exact gBk (k + 1) (by omega) (by omega)
  · refine gFz w ?_
    repeat first | refine nx ?_ | intro _
    exact mixL_all hls (by omega)
def cenL (v : List (List Int)) : List (List Int) := v.map fun x => cmL (fun a b => a - b) x (mnL v)
instance center_c [j : Vw (lv (rL rI)) S v] : Ct Tryd.prog 57 [S] (∃ n K, VsOk n K v) (lv (rL rI) (cenL v)) := by
  refine ct1 j (ctI Tryd.call57 Tryd.func57 Tryd.ntmps57 rfl Tryd.results57 rfl [] fun h0 w0 ⟨n, K, hv⟩ => ?_)
  have hn := hv.hn
  have hl := hv.l
  repeat first | refine nx ?_ | intro _
  refine gIf (fun c => ?_) fun c => ?_
  · repeat first | refine nx ?_ | intro _
    unfold cenL; rw [List.eq_nil_of_length_eq_zero c]; rfl
  have hpos : 0 < v.length ∧ ∃ n K, VsOk n K v := ⟨by omega, n, K, hv⟩
  repeat first | refine nx ?_ | intro _
  refine gNl (rL rI) 22 ?_
  refine gLp (fun s : Nat × Value => [(14, iv s.1), (4, ov s.2)]) (fun s => [rA (rL rI) 22 s.2 ((cenL v).take s.1)]) (fun s => s.1 ≤ v.length) (fun s => v.length - s.1) (0, .slice none 0 0) (Nat.zero_le _) fun ⟨k, w⟩ hk => ?_
  dsimp only at *
  have hcl : (cenL v).length = v.length := by simp [cenL]
  repeat first | refine nx ?_ | intro _
  refine gIf (fun c1 => ?_) fun c1 => ?_
  · have hside : ((v.getD k []).length ≤ 1000000 ∧ (v.getD k []).length ≤ (mnL v).length) ∧ ∀ i, i < (v.getD k []).length → smS ((v.getD k []).getD i 0) ((mnL v).getD i 0) := by
      have h2 := hv.at_ k c1
      have h3 := hv.at_ 0 hpos.1
      have h4 := hv.hK
      refine ⟨⟨by omega, by rw [mnL_len]; omega⟩, fun i _ => ?_⟩
      have h5 := mnL_bd hv hpos.1 i
      have h6 := hv.bd k i
      exact ⟨by omega, by omega⟩
    have htl : ((cenL v).take k).length = k := by rw [List.length_take]; omega
    repeat first | refine nx ?_ | intro _
    rename_i w2
    rw [show (cenL v).take k ++ [cmL (fun a b => a - b) (v.getD k []) (mnL v)] = (cenL v).take (k + 1) by
      rw [List.take_succ_eq_append_getElem (by omega)]
      unfold cenL
      rw [List.getElem_map, List.getD_eq_getElem?_getD, List.getElem?_eq_getElem c1]; rfl]
    exact gBk (k + 1, w2) (by dsimp only; omega) (by dsimp only; omega)
  · refine gFz w ?_
    repeat first | refine nx ?_ | intro _
    exact List.take_of_length_le (by omega)
def difI (v : List (List Int)) (t : Nat) : List Int := v.getD t [] ++ cmL (HSub.hSub) (v.getD (min (t + 1) (v.length - 1)) []) (v.getD (t - 1) [])
def difL (v : List (List Int)) : List (List Int) := (List.range v.length).map (difI v)
instance differences_c [j : Vw (lv (rL rI)) S v] : Ct Tryd.prog 56 [S] (∃ n K, VsOk n K v) (lv (rL rI) (difL v)) := by
  refine ct1 j (ctI Tryd.call56 Tryd.func56 Tryd.ntmps56 rfl Tryd.results56 rfl [32] fun h0 w0 ⟨n, K, hv⟩ => ?_)
  have hn := hv.hn
  have hl := hv.l
  repeat first | refine nx ?_ | intro _
  refine gNl (rL rI) 22 ?_
  refine gLp (fun s : Nat × Value => [(9, iv s.1), (3, ov s.2)]) (fun s => [rA (rL rI) 22 s.2 ((List.range s.1).map (difI v))]) (fun s => s.1 ≤ v.length) (fun s => v.length - s.1) (0, .slice none 0 0) (Nat.zero_le _) fun ⟨k, w⟩ hk => ?_
  dsimp only at *
  repeat first | refine nx ?_ | intro _
  refine gIf (fun c1 => ?_) fun c1 => ?_
  · repeat first | refine nx ?_ | intro _
    rw [show (max ((k : Int) - 1) 0).toNat = k - 1 by omega, show (min ((k + 1 : Nat) : Int) ((v.length : Int) - 1)).toNat = min (k + 1) (v.length - 1) by omega]
    have hA : min (k + 1) (v.length - 1) < v.length := by omega
    have hB : k - 1 < v.length := by omega
    have hside : ((v.getD (min (k + 1) (v.length - 1)) []).length ≤ 1000000 ∧ (v.getD (min (k + 1) (v.length - 1)) []).length ≤ (v.getD (k - 1) []).length) ∧ ∀ i, i < (v.getD (min (k + 1) (v.length - 1)) []).length → smS ((v.getD (min (k + 1) (v.length - 1)) []).getD i 0) ((v.getD (k - 1) []).getD i 0) := by
      have h2 := hv.at_ _ hA
      have h3 := hv.at_ _ hB
      have h4 := hv.hK
      refine ⟨⟨by omega, by omega⟩, fun i _ => ?_⟩
      have h5 := hv.bd (min (k + 1) (v.length - 1)) i
      have h6 := hv.bd (k - 1) i
      exact ⟨by omega, by omega⟩
    have h7 := hv.at_ k c1
    have h8 : (cmL (HSub.hSub) (v.getD (min (k + 1) (v.length - 1)) []) (v.getD (k - 1) [])).length ≤ 1000 := by rw [cmL_len, hv.at_ _ hA]; exact hn
    have htl : ((List.range k).map (difI v)).length = k := by simp
    refine nx ?_
    iterate 12 first | refine nx ?_ | intro _
    intro w1
    refine gFzO w1 ?_
    repeat first | refine nx ?_ | intro _
    rename_i w2
    rw [show ((List.range k).map (difI v)) ++ [v.getD k [] ++ cmL HSub.hSub (v.getD (min (k + 1) (v.length - 1)) []) (v.getD (k - 1) [])] = (List.range (k + 1)).map (difI v) by rw [List.range_succ, List.map_append]; rfl]
    exact gBk (k + 1, w2) (by dsimp only; omega) (by dsimp only; omega)
  · refine gFz w ?_
    repeat first | refine nx ?_ | intro _
    rw [show k = v.length by omega]; rfl
end
end Go.E3
set_option linter.unusedVariables false
namespace Go.E3
open Go Go.Ear
def IterV (P : Program) (gf : Nat) (lb : Array Value) (V : Nat → PH → Value → Prop) (len : Nat) (hi : PH) : Prop :=
  ∀ (l : Nat) (J : Nat → PH → World → Prop), (∀ k h W, J k h W → Sat h W ∧ hi.le h) → (∀ k h W h' W', J k h W → Gr h W h' W' → J k h' W') →
    (∀ k h W v, k < len → J k h W → V k h v → YieldAt Fence.wide 0 P l #[v] W fun e W' => e = .returned (.bool true) ∧ ∃ h', h.le h' ∧ J (k + 1) h' W') →
    ∀ h W, J 0 h W → CallsIn Fence.wide 0 P gf (#[.func (.yield l) #[] #[]] ++ lb) W fun e W' => (∃ v, e = .returned v) ∧ ∃ h', J len h' W'
class ItV (P : Program) (F : SV) (S : outParam (Nat → SV)) (len : outParam Nat) (sd : outParam Prop) : Prop where
  h : sd → ∀ {h x}, den h F x → ∃ (gf : FuncId) (lb : Array Value), x = .func (.func gf) #[] lb ∧ IsFn P gf ∧ IterV P gf lb (fun k h v => den h (S k) v) len h
section
variable {P : Program} {n : Nat} {X : Fix} {ms : List Nat} {loc env kept : EL} {B kb : List Res} {x y : Code} {k : Kt} {σ : Type} {s1 s2 : Prop}
theorem gRgV {g : Operand} {p : Tmp} {assign body : Code} {F : SV} {S : Nat → SV} {len : Nat} {sdI : Prop} {T : Exit → Act → World → Prop} {h0 : PH} {w0 : World} (I : Nat → σ → Prop) (rs : Nat → σ → List Res) (s0 : σ) [lg : Lu n true loc env g F] [it : ItV P F S len sdI]
    [mb : MtB B (rs 0 s0) s2 kb] {Bs : Nat → σ → List Res} [ab : ∀ k s, AppL (rs k s) kb (Bs k s)] (hI : I 0 s0) (hp : nIn p env = true)
    (round : ∀ hr k s l o o' D, k < len → I k s → GW P n ⟨fun _ _ _ => False, hr, w0, ⟨some l, []⟩⟩ ms [] ((p, S k) :: env) (rO l o :: rO D (.deferred (some [])) :: Bs k s) assign (.asg l o o' body (.cut (Me ⟨some l, []⟩ n hr w0 (fun _ => []) (fun s => rO l o' :: rO D (.deferred (some [])) :: Bs (k + 1) s) (I (k + 1))) .fin)))
    (after : ∀ D s, I len s → GX P n ⟨T, h0, w0, ⟨none, [{ target := .collected D, args := #[] }]⟩⟩ ms [] env (rO D (.deferred (some [])) :: Bs len s) .normal k)
    (hs : sdI := by first | trivial | (repeat' (first | refine And.intro ?_ ?_ | rfl | trivial | omega))) (h2 : s2 := by first | trivial | ((try dsimp only); (try simp only [List.length_replicate, List.length_set]); repeat' (first | refine And.intro ?_ ?_ | rfl | trivial | omega))) :
    GW P n ⟨T, h0, w0, X0⟩ ms loc env B (.rangeFunc g #[p] assign body) k := ⟨fun ρ hi w sy => by
  obtain ⟨gf, lb, hg, eg, hit⟩ := it.h hs (lg.h rfl ((sy.x [g]).fx g (by simp)))
  have ow0 : OwnB w0 (Bs 0 s0) hi w := by rw [← (ab 0 s0).h]; exact (mb.h h2).own sy.ow
  refine wpIn_rangeFunc ?_
  intro fn hfn
  obtain ⟨rec, hrec⟩ : ∃ rec : LoopState → Option Code → Loop, rec = fun st pe => { state := st, pending := pe, fn, tmps := (mkX X0 n ρ).tmps, params := #[p], assign, body, defers := w.heap.size } := ⟨_, rfl⟩
  obtain ⟨W1, hW1⟩ : ∃ W1, newW (newW w (.deferred (some []))) (.loop (rec .ready none)) = W1 := ⟨_, rfl⟩
  have s1 := Gr.new sy.gr.sat (.deferred (some []))
  have s2 := Gr.new s1.sat (.loop (rec .ready none))
  have gr1 : Gr hi w hi W1 := by rw [← hW1]; exact s1.trans s2
  have hsz : (newW w (.deferred (some []))).heap.size = w.heap.size + 1 := by unfold newW; simp
  have hsz2 : W1.heap.size = w.heap.size + 2 := by rw [← hW1]; unfold newW; simp
  have hK1 : W1.heap[w.heap.size]? = some (.deferred (some [])) := by rw [← hW1]; exact s2.ext.keep (newW_at w _)
  have hL1 : W1.heap[w.heap.size + 1]? = some (.loop (rec .ready none)) := by
    have := newW_at (newW w (.deferred (some []))) (.loop (rec .ready none))
    rw [hsz] at this
    rw [← hW1]; exact this
  have hw0 : w0.heap.size ≤ w.heap.size := sy.gr.ext.size
  have n1 : hi w.heap.size = none := sy.gr.sat.fresh
  have n2 : hi (w.heap.size + 1) = none := by have := s1.sat.fresh; rwa [hsz] at this
  let J : Nat → PH → World → Prop := fun k h W => ∃ s, I k s ∧ hi.le h ∧ Gr h0 w0 h W ∧ OwnB w0 (rO (w.heap.size + 1) (.loop (rec .ready none)) :: rO w.heap.size (.deferred (some [])) :: Bs k s) h W
  have hJ0 : J 0 hi W1 := by
    refine ⟨s0, hI, PH.le.refl hi, sy.gr.trans gr1, hL1, fun i e => by cases e; exact ⟨n2, fun _ => by omega, by omega⟩, fun r hr i e => ?_, hK1, fun i e => by cases e; exact ⟨n1, fun _ => sy.gr.ext.size, by omega⟩, fun r hr i e q => ?_, ow0.grow gr1⟩
    · cases e
      rcases List.mem_cons.1 hr with rfl | hr
      · intro e; have : w.heap.size + 1 = w.heap.size := e; omega
      · intro q; have := (ow0.foot r hr _ q).2.2; omega
    · cases e; have := (ow0.foot r hr _ q).2.2; omega
  refine ⟨w.heap.size + 1, [{ target := .collected w.heap.size, args := #[] }], W1, { target := .fn (.func gf) lb, args := #[.func (.yield (w.heap.size + 1)) #[] #[]] }, W1, gf,
    #[.func (.yield (w.heap.size + 1)) #[] #[]] ++ lb, W1, ?_, ?_, fun _ _ => trivial, ?_, (fun h => by cases h), ?_⟩
  · rw [← hW1, hrec]; exact run_enterLoop_outer _ _ _ _ _
  · simp only [resolve, eval_mkX, hg]
    simp [go_sem, ev]
  · simp [invoke, go_sem]
    exact eg _ _
  · have hc := hit (w.heap.size + 1) J (fun k h W ⟨s, _, le, gr, _⟩ => ⟨gr.sat, le⟩) (fun k h W h' W' ⟨s, hI, le, gr, ob⟩ g => ⟨s, hI, le.trans g.le, gr.trans g, ob.grow g⟩) ?_ hi W1 hJ0
    · refine CallsIn.mono (F := FX X0) hc ?_
      rintro e W2 ⟨⟨v, rfl⟩, h2, s, hi2, le, gr, ob⟩
      have hend := run_endLoop (P := P) ob.1 (by rw [hrec]; simp)
      refine ⟨_, _, hend, ?_⟩
      have hlt := (ob.2.1 _ rfl).2.2
      have hpt : Put W2 (W2.putObj (w.heap.size + 1) (.loop { rec .ready none with state := .exhausted })) _ _ := Put.obj hlt
      have ob2 := ob.obj hpt
      have hf := ob.2.1 (w.heap.size + 1) rfl
      subst hrec
      exact (after w.heap.size s hi2).p ρ h2 _ ⟨gr.put hpt hf.1 (hf.2.1 rfl), trivial, sy.en.mono le, ob2.2.2.2⟩
    · rintro k h W v hk ⟨s, hI, le, gr, ob⟩ hv
      have hy := run_yield (P := P) (args := #[v]) ob.1 (by rw [hrec]; rfl)
      refine ⟨_, _, _, _, hy, ?_⟩
      rw [hrec]
      refine roundIn_of_wpIn (F := Fence.wide) trivial ?_
      have hact : ((#[p].zip #[v]).foldl (fun tmps (x : Tmp × Value) => tmps.setIfInBounds x.1 x.2) (mkX X0 n ρ).tmps) = (mkX ⟨some (w.heap.size + 1), []⟩ n (upd ρ p v)).tmps := by
        have := put_mkX (X := X0) (n := n) (ρ := ρ) (d := some p) (v := v)
        have := congrArg Act.tmps this
        refine Eq.trans ?_ this
        simp [Act.put]
      have hr := (round h k s (w.heap.size + 1) (.loop (rec .ready none)) (.loop { rec .ready none with state := .busy }) w.heap.size hk hI).p (upd ρ p v) h W ⟨Gr.base gr gr (PH.le.refl h), trivial, ⟨by rw [upd_at]; exact hv, (sy.en.mono le).upd hp⟩, ob⟩
      have e : (⟨_, []⟩ : Act) = mkX ⟨some (w.heap.size + 1), []⟩ n (upd ρ p v) := congrArg (fun t => (⟨t, []⟩ : Act)) hact
      refine wpIn_mono (F := FX ⟨some (w.heap.size + 1), []⟩) (by rw [e]; exact hr) ?_
      rintro e a Wa hq
      cases e with
      | normal =>
        obtain ⟨hla, hq⟩ := hq
        have hlt := blk_lt hla
        refine ⟨_, run_beginRound hla (by rw [hrec]), ?_⟩
        have hp2 := Put.obj (o := .loop { rec .ready none with state := .busy }) hlt
        refine wpIn_mono (hq _ hp2 rfl) ?_
        rintro e a3 W3 hq
        cases e with
        | normal =>
          obtain ⟨ρ3, rfl, s3, hI3, h3, sy3⟩ := Me.p hq
          have ob3 := sy3.ow
          have hlt3 := blk_lt ob3.1
          refine ⟨_, _, run_endRound none ob3.1, rfl, ?_⟩
          have hp3 := Put.obj (o := .loop (rec .ready none)) hlt3
          have he2 : ({ { rec .ready none with state := .busy } with state := if (none : Option Code).isNone then .ready else .done, pending := none } : Loop) = rec .ready none := by rw [hrec]; rfl
          rw [he2]
          have hf := ob3.2.1 (w.heap.size + 1) rfl
          exact ⟨h3, sy3.gr.le, s3, hI3, le.trans sy3.gr.le, (Gr.unbase gr sy3.gr).put hp3 hf.1 (hf.2.1 rfl), ob3.obj hp3⟩
        | _ => exact hq.elim
      | _ => exact hq.elim⟩
end
theorem calls_iterT {P : Program} {n : Nat} {f : FuncId} {fn : Func} {c : Code} {vs : List Value} {w : World} {N : World → Prop}
    (hf : P.funcs[f]? = some fn) (hn2 : fn.ntmps = n) (hb : fn.body = some c) (hn : Nat.ble vs.length n = true) (hr : fn.results = #[])
    (hw : WT X0 P n c (toQX X0 n fun e _ w => match e with | .normal | .ret => N w | _ => False) (env0 0 vs) w) :
    CallsIn Fence.wide 0 P f vs.toArray w fun e w' => (∃ v, e = .returned v) ∧ N w' := by
  subst hn2
  refine callsIn_of_wp hf hb trivial ?_
  have := mk_env0 (Nat.le_of_ble_eq_true hn)
  simp only [List.size_toArray]
  rw [this]
  refine wpIn_mono (F := Fence.wide) hw ?_
  rintro e a w' ⟨ρ, rfl, hq⟩
  cases e <;> first
    | exact ⟨rfl, .tuple #[], by simp [results, hr], ⟨_, rfl⟩, hq⟩
    | exact hq.elim
theorem WT.yield {P : Program} {n : Nat} {T : Exit → Act → World → Prop} {ρ : Env} {w : World} {l : Nat} {x : Value} {d1 d2 d3 : Tmp} {o1 o2 f2 : Operand} {ty1 ty2 ty3 : TypeId} {p1 p2 p3 : String} {a1 a2 a3 : Array Edge} {ts : Array TypeId} {id : Nat} {rest : List Oper}
    {R : Ending → World → Prop} (hr : rest.all noDefer = true) (e1 : ev n ρ o1 = .func (.yield l) #[] #[]) (e2 : ev n (upd ρ d1 (.func (.yield l) #[] #[])) o2 = x)
    (hf : ev n (upd (upd ρ d1 (.func (.yield l) #[] #[])) d2 x) f2 = .func (.yield l) #[] #[]) (hx : ev n (upd (upd ρ d1 (.func (.yield l) #[] #[])) d2 x) (.tmp d2) = x)
    (hy : YieldAt Fence.wide 0 P l #[x] w R)
    (hk : ∀ e w', R e w' → ∃ v, e = .returned v ∧ Ops P n (⟨some d1, .move o1, ty1, p1, a1, none⟩ :: ⟨some d2, .move o2, ty2, p2, a2, none⟩ :: ⟨some d3, .call ⟨.value f2, #[.tmp d2], ts⟩, ty3, p3, a3, none⟩ :: rest).toArray (fun ρ w => T .normal (mkX X0 n ρ) w) rest (upd (upd (upd ρ d1 (.func (.yield l) #[] #[])) d2 x) d3 v) w') :
    WT X0 P n (.region id (⟨some d1, .move o1, ty1, p1, a1, none⟩ :: ⟨some d2, .move o2, ty2, p2, a2, none⟩ :: ⟨some d3, .call ⟨.value f2, #[.tmp d2], ts⟩, ty3, p3, a3, none⟩ :: rest).toArray false) T ρ w :=
  wpIn_mono (WpX.yield (Q := fun e ρ w => T e (mkX X0 n ρ) w) hr e1 e2 hf hx hy hk) (by rintro e a w ⟨ρ, rfl, q⟩; exact q)
end Go.E3
set_option linter.unusedVariables false
set_option maxRecDepth 20000
set_option maxHeartbeats 4000000
set_option synthInstance.maxSize 1000
namespace Go.E3
open Go Go.Ear Go.Proofs
def nFr (n sz st : Nat) : Nat := if sz ≤ n then (n - sz) / st + 1 else 0
theorem nFr_iff {n sz st k : Nat} (h : 0 < st) : k < nFr n sz st ↔ k * st + sz ≤ n := by
  unfold nFr
  split
  · rw [Nat.lt_succ_iff, Nat.le_div_iff_mul_le h]; omega
  · have := Nat.zero_le (k * st); omega
def frI (x : List Int) (sz st k : Nat) : List Int := (x.drop (k * st)).take sz
theorem frI_len {x : List Int} {sz st k : Nat} (h : k * st + sz ≤ x.length) : (frI x sz st k).length = sz := by unfold frI; rw [List.length_take, List.length_drop]; omega
abbrev cutE (l : Nat) (x : List Int) (sz st k : Nat) : EL := [(6, iv ((k * st : Nat) : Int)), (0, .cv (.func (.yield l) #[] #[])), (1, .pk [iv (sz : Int)] 0), (2, .pk [lv rI x] 0), (3, .pk [bv false] 0), (4, .pk [iv (st : Int)] 0)]
theorem cut_iter {x : List Int} {sz st : Nat} {vs : List Value} {hi : PH} (h1 : x.length ≤ 1000000) (h2 : 1 ≤ sz ∧ sz ≤ 4096) (h3 : 1 ≤ st ∧ st ≤ 4096) (hd : denL hi [.pk [iv (sz : Int)] 0, .pk [lv rI x] 0, .pk [bv false] 0, .pk [iv (st : Int)] 0] vs) :
    IterV Tryd.prog 68 vs.toArray (fun k h v => den h (lv rI (frI x sz st k)) v) (nFr x.length sz st) hi := by
  intro l J hB hG hY h W hJ
  have hst : 0 < st := by omega
  rw [show #[Value.func (.yield l) #[] #[]] ++ vs.toArray = (.func (.yield l) #[] #[] :: vs).toArray by simp]
  have hvl := hd.length
  refine calls_iterT Tryd.func68 Tryd.ntmps68 rfl (by rw [List.length_cons, hvl]; rfl) rfl ?_
  obtain ⟨hs, hle⟩ := hB 0 h W hJ
  generalize hT : (toQX X0 37 fun (e : Exit) (_ : Env) w => match e with | .normal | .ret => (∃ h', J (nFr x.length sz st) h' w) | _ => False) = T
  refine GW.p (P := Tryd.prog) (n := 37) (X := ⟨T, h, W, X0⟩) (ms := [27]) (loc := []) (env := [(0, .cv (.func (.yield l) #[] #[])), (1, .pk [iv (sz : Int)] 0), (2, .pk [lv rI x] 0), (3, .pk [bv false] 0), (4, .pk [iv (st : Int)] 0)]) (B := []) (k := .fin) ?_ _ h W ⟨Gr.refl hs, trivial, ?_, trivial⟩
  rotate_left
  · match vs, hvl, hd with
    | [a, b, c, d], _, ⟨u1, u2, u3, u4, _⟩ => exact ⟨rfl, den.mono hle u1, den.mono hle u2, den.mono hle u3, den.mono hle u4, trivial⟩
  repeat first | refine nx ?_ | intro _
  refine ⟨fun ρ h' w' sy => ?_⟩
  refine WT.loop (σ := Nat) (fun k ρ w => k ≤ nFr x.length sz st ∧ ∃ h, J k h w ∧ EnvOk h ρ (cutE l x sz st k)) (fun k => nFr x.length sz st - k) 0 ⟨Nat.zero_le _, h', hG _ _ _ _ _ hJ sy.gr, ?_⟩ ?_
  · have := sy.en
    unfold cutE; rw [Nat.zero_mul]; exact this
  rintro k ρ w ⟨hk, hc, hJk, he⟩
  obtain ⟨hsc, hlc⟩ := hB k hc w hJk
  refine GW.p (P := Tryd.prog) (n := 37) (X := ⟨T, hc, w, X0⟩) (ms := [27]) (loc := []) (env := cutE l x sz st k) (B := []) (k := .cut (fun a w' => ∃ ρ', a = mkX X0 37 ρ' ∧ ∃ s' : Nat, (s' ≤ nFr x.length sz st ∧ ∃ h, J s' h w' ∧ EnvOk h ρ' (cutE l x sz st s')) ∧ nFr x.length sz st - s' < nFr x.length sz st - k) (.blk 0 .fin)) ?_ ρ hc w ⟨Gr.refl hsc, trivial, he, trivial⟩
  have hks : k * st ≤ 1100000 := by
    rcases Nat.eq_zero_or_pos k with q | q
    · subst q; omega
    · have h4 := (nFr_iff (n := x.length) (sz := sz) (k := k - 1) hst).1 (by omega)
      have : k * st = (k - 1) * st + st := by rw [← Nat.succ_mul]; congr 1; omega
      omega
  repeat first | refine nx ?_ | intro _
  refine gIf (fun c => ?_) fun c => ?_
  · have c2 : k * st + sz ≤ x.length := by rcases c with c | c; exact c; cases c
    clear c
    have hkn : k < nFr x.length sz st := (nFr_iff hst).2 c2
    have hxl : (frI x sz st k).length = sz := frI_len c2
    have hdl : k * st ≤ x.length := by omega
    iterate 22 first | refine nx ?_ | intro _
    rename_i v
    have hfr : (x.drop (k * st)).take (List.replicate sz (0 : Int)).length ++ (List.replicate sz (0 : Int)).drop (x.drop (k * st)).length = frI x sz st k := by
      have hd0 : (List.replicate sz (0 : Int)).drop (x.drop (k * st)).length = [] := List.drop_eq_nil_of_le (by rw [List.length_replicate, List.length_drop]; omega)
      rw [hd0, List.length_replicate, List.append_nil]; rfl
    rw [hfr]
    refine gFz v ?_
    refine ⟨fun ρ h2 w2 sy => ?_⟩
    have hJ2 := hG _ _ _ _ _ hJk sy.gr
    have hv : den h2 (lv rI (frI x sz st k)) (ρ 7) := sy.en.mem (by simp)
    have h0 : ρ 0 = .func (.yield l) #[] #[] := sy.en.mem (S := .cv (.func (.yield l) #[] #[])) (t := 0) (by simp)
    refine WT.yield (l := l) (x := ρ 7) rfl h0 rfl rfl rfl (hY k h2 w2 (ρ 7) hkn hJ2 hv) ?_
    rintro e W3 ⟨rfl, h3, hl3, hJ3⟩
    refine ⟨_, rfl, ?_⟩
    refine Ops.cons (OpW.notB (a := true) (r := false) rfl rfl ?_)
    refine Ops.nil ?_
    obtain ⟨hs3, _⟩ := hB _ _ _ hJ3
    refine GW.p (P := Tryd.prog) (n := 37) (X := ⟨T, h3, W3, X0⟩) (ms := []) (loc := []) (env := (36, bv false) :: cutE l x sz st k) (B := []) ?_ _ h3 W3 ⟨Gr.refl hs3, trivial, ?_, trivial⟩
    · refine gIf (fun c => absurd c (by simp)) fun _ => ?_
      repeat first | refine nx ?_ | intro _
      refine ⟨fun ρ4 h4 w4 sy4 => ⟨ρ4, rfl, k + 1, ⟨by omega, h4, hG _ _ _ _ _ hJ3 sy4.gr, ?_⟩, by omega⟩⟩
      have e6 : ((k + 1) * st) = k * st + st := by rw [Nat.succ_mul]
      unfold cutE
      rw [e6]
      exact ⟨sy4.en.1, sy4.en.2.2⟩
    · refine ⟨rfl, EnvOk.ext (ρ := ρ) (fun p hp => ?_) (EnvOk.mono hl3 sy.en.2)⟩
      simp only [List.mem_cons, List.not_mem_nil, or_false] at hp
      rcases hp with rfl | rfl | rfl | rfl | rfl | rfl <;> rfl
  · repeat first | refine nx ?_ | intro _
    refine ⟨fun ρ4 h4 w4 sy4 => ?_⟩
    have hkn : ¬ k < nFr x.length sz st := fun q => c (.inl ((nFr_iff hst).1 q))
    have ek : k = nFr x.length sz st := by omega
    rw [ek] at hJk
    have hJ4 := hG _ _ _ _ _ hJk sy4.gr
    show T .normal (mkX X0 37 ρ4) w4
    rw [← hT]
    exact ⟨ρ4, rfl, h4, hJ4⟩
instance cut_it {x : List Int} {sz st : Nat} : ItV Tryd.prog (fnv (.func 68) [] [.pk [iv (sz : Int)] 0, .pk [lv rI x] 0, .pk [bv false] 0, .pk [iv (st : Int)] 0]) (fun k => lv rI (frI x sz st k)) (nFr x.length sz st) (x.length ≤ 1000000 ∧ (1 ≤ sz ∧ sz ≤ 4096) ∧ 1 ≤ st ∧ st ≤ 4096) := ⟨fun ⟨h1, h2, h3⟩ {h v} u => by
  obtain ⟨us, vs, e, a, b⟩ := u
  match us, a with
  | [], _ => exact ⟨68, vs.toArray, e, Tryd.call68, cut_iter h1 h2 h3 b⟩⟩
instance cut_c {x : List Int} {sz st : Nat} : Ct Tryd.prog 51 [lv rI x, iv (sz : Int), iv (st : Int), bv false] True (fnv (.func 68) [] [.pk [iv (sz : Int)] 0, .pk [lv rI x] 0, .pk [bv false] 0, .pk [iv (st : Int)] 0]) := by
  refine (ctI Tryd.call51 Tryd.func51 Tryd.ntmps51 rfl Tryd.results51 rfl [] fun h0 w0 _ => ?_)
  repeat first | refine nx ?_ | intro _
  trivial
def frL (x : List Int) (sz st : Nat) : List (List Int) := (List.range (nFr x.length sz st)).map (frI x sz st)
instance Frames_c {x : List Int} {sz st : Nat} : Ct Tryd.prog 29 [lv rI x, iv (sz : Int), iv (st : Int), bv false] ((x.length ≤ 1000 ∧ valE x = 0) ∧ (1 ≤ sz ∧ sz ≤ 4096) ∧ 1 ≤ st ∧ st ≤ 4096) (.tp [lv (rL rI) (frL x sz st), iv 0]) := by
  refine (ctI Tryd.call29 Tryd.func29 Tryd.ntmps29 rfl Tryd.results29 rfl [] fun h0 w0 ⟨⟨h1, h2⟩, h3, h4⟩ => ?_)
  repeat first | refine nx ?_ | intro _
  refine gIf (fun c => absurd h2 c) fun c => ?_
  repeat first | refine nx ?_ | intro _
  refine gIf (fun c => absurd c (by omega)) fun c => ?_
  repeat first | refine nx ?_ | intro _
  have hnf : nFr x.length sz st * sz ≤ 4000000 := by
    unfold nFr
    split
    · have h5 : (x.length - sz) / st ≤ x.length - sz := Nat.div_le_self _ _
      have h6 : ((x.length - sz) / st + 1) * sz ≤ 1001 * 1000 := Nat.mul_le_mul (by omega) (by omega)
      omega
    · omega
  refine gJ [(11, iv ((nFr x.length sz st : Nat) : Int))] (fun c => ?_) (fun c => ?_) ?_
  · have h5 : (x.length - sz) / st ≤ x.length - sz := Nat.div_le_self _ _
    rw [show nFr x.length sz st = (x.length - sz) / st + 1 from if_pos c]
    repeat first | refine nx ?_ | intro _
    exact gM
  · rw [show nFr x.length sz st = 0 from if_neg c]
    repeat first | refine nx ?_ | intro _
    exact gM
  repeat first | refine nx ?_ | intro _
  refine gIf (fun c => absurd c (by omega)) fun c => ?_
  repeat first | refine nx ?_ | intro _
  rename_i w
  refine gNl (rL rI) 22 ?_
  refine gRgV (σ := Value) (fun k s => True) (fun k s => [rV w [ov s] 28, rA (rL rI) 22 s ((List.range k).map (frI x sz st))]) (.slice none 0 0) trivial (by rfl) (fun hr k s l o o' D hk _ => ?_) (fun D s _ => ?_)
  · have hn : nFr x.length sz st ≤ 1001 := by
      unfold nFr
      have h5 : (x.length - sz) / st ≤ x.length - sz := Nat.div_le_self _ _
      split <;> omega
    have hl : ((List.range k).map (frI x sz st)).length = k := by simp
    repeat first | refine nx ?_ | intro _
    rename_i s2
    rw [show (List.range k).map (frI x sz st) ++ [frI x sz st k] = (List.range (k + 1)).map (frI x sz st) by rw [List.range_succ, List.map_append]; rfl]
    exact gMe s2 trivial
  · repeat first | refine nx ?_ | intro _
    exact ⟨rfl, trivial⟩
end Go.E3
set_option linter.unusedVariables false
set_option maxRecDepth 20000
set_option maxHeartbeats 4000000
set_option synthInstance.maxSize 1000
namespace Go.E3
open Go Go.Ear Go.Proofs
section
variable {r : Rcp} {v : List (List Int)}
def difV (r : Rcp) (v : List (List Int)) : List (List Int) := if r.dif = true then difL v else v
def cenV (r : Rcp) (v : List (List Int)) : List (List Int) := if r.cen = true then cenL v else v
instance differ_c : Ct Tryd.prog 31 [.pk (rcpC r) 0, lv (rL rI) v] (∃ n K, VsOk n K v) (lv (rL rI) (difV r v)) := by
  refine (ctI Tryd.call31 Tryd.func31 Tryd.ntmps31 rfl Tryd.results31 rfl [] fun h0 w0 hv => ?_)
  unfold difV
  repeat first | refine nx ?_ | intro _
  refine gIf (fun c => ?_) fun c => ?_
  · rw [if_neg c]
    repeat first | refine nx ?_ | intro _
    trivial
  · rw [if_pos (Classical.not_not.1 c)]
    repeat first | refine nx ?_ | intro _
    trivial
instance middle_c : Ct Tryd.prog 32 [.pk (rcpC r) 0, lv (rL rI) v] (∃ n K, VsOk n K v) (lv (rL rI) (cenV r v)) := by
  refine (ctI Tryd.call32 Tryd.func32 Tryd.ntmps32 rfl Tryd.results32 rfl [] fun h0 w0 hv => ?_)
  unfold cenV
  repeat first | refine nx ?_ | intro _
  refine gIf (fun c => ?_) fun c => ?_
  · rw [if_neg c]
    repeat first | refine nx ?_ | intro _
    trivial
  · rw [if_pos (Classical.not_not.1 c)]
    repeat first | refine nx ?_ | intro _
    trivial
def shG (r : Rcp) : Nat → SV
  | 0 => .cv .nilFunc
  | x + 1 => fnv (.func (x + 1)) [.pk (rcpC r) 0] []
def rFn (r : Rcp) : Rp Nat := mkRp 1 (fun x => [shG r x]) (fun _ => rfl) (fun x => by cases x <;> rfl)
instance : RpC (rFn r) (fun x => [shG r x]) := ⟨Iff.rfl⟩
instance : Rk (rFn r) 1 := ⟨rfl⟩
def stF (r : Rcp) (x : Nat) (v : List (List Int)) : List (List Int) := if x = 31 then difV r v else cenV r v
instance shG_fv {x : Nat} {B : List Res} : Fv Tryd.prog (shG r x) [lv (rL rI) v] B ((x = 31 ∨ x = 32) ∧ ∃ n K, VsOk n K v) (lv (rL rI) (stF r x v)) := ⟨fun ⟨hx, hs⟩ {w0 h w y vs} sat ow u a => by
  obtain rfl | rfl := hx
  · exact (inferInstance : Fv Tryd.prog (fnv (.func 31) [.pk (rcpC r) 0] []) [lv (rL rI) v] B (∃ n K, VsOk n K v) (lv (rL rI) (difV r v))).h hs sat ow u a
  · exact (inferInstance : Fv Tryd.prog (fnv (.func 32) [.pk (rcpC r) 0] []) [lv (rL rI) v] B (∃ n K, VsOk n K v) (lv (rL rI) (cenV r v))).h hs sat ow u a⟩
instance : Rd (rFn r) (fnv (.func 31) [.pk (rcpC r) 0] []) 31 := ⟨fun {h v} u => by
  obtain ⟨us, vs, rfl, a, b⟩ := u
  exact ⟨⟨us, vs, rfl, a, b⟩, trivial⟩⟩
instance : Rd (rFn r) (fnv (.func 32) [.pk (rcpC r) 0] []) 32 := ⟨fun {h v} u => by
  obtain ⟨us, vs, rfl, a, b⟩ := u
  exact ⟨⟨us, vs, rfl, a, b⟩, trivial⟩⟩
end
def vs0 (l : List Int) (r : Rcp) : List (List Int) := (frL (emL l r.num r.den) r.size.toNat r.step.toNat).map (vecL r)
def exV (l : List Int) (r : Rcp) : List (List Int) := cenV r (difV r (vs0 l r))
def vn (r : Rcp) : Nat := if 0 < r.cep then r.cep.toNat else r.edges.length - 1
theorem lgL_len {r : Rcp} {f : List Int} : (lgL r f).length = r.edges.length - 1 := by unfold lgL; rw [List.length_map, bnL_len]
theorem Rcp.Ok.lg {r : Rcp} (ok : r.Ok) {f : List Int} (hf : (f.length : Int) = r.size) (h : bdL 65536 f) : bdL 1007 (lgL r f) := by
  have hl := isLen_pos ok.len
  have hs := ok.size
  have h1 := extL_bd (n := r.pts.toNat) (by omega) (wgL_bd (m := r.win.toNat) (by omega) (by omega) h)
  have h2 := spL_bd (by rw [extL_len]; omega) (by omega) h1
  refine bdL_map (by omega) fun k hk => ?_
  have h3 := bnL_bd (e := r.edges) (by rw [spL_len, extL_len]; omega) h2 k
  have := lgF_bd (e := (bnL (spL (extL r.pts.toNat (wgL f r.win.toNat))) r.edges).getD k 0) (by omega)
  omega
theorem vecL_ok {r : Rcp} (ok : r.Ok) {f : List Int} (hf : (f.length : Int) = r.size) (h : bdL 65536 f) : (vecL r f).length = vn r ∧ bdL 64448 (vecL r f) := by
  have hl := ok.lg hf h
  have he := (edO_at ok.edges.1).1
  have he2 := ok.edges.2
  have hc := ok.cep
  have hp := padI_bd (m := (r.edges.length : Int) - 1) (by omega)
  unfold vecL vn
  split
  · have h1 : ((lgL r f).length : Int) = (r.edges.length : Int) - 1 := by rw [lgL_len]; omega
    have h2 := spL_bd (x := extL (padI (lgL r f).length).toNat (lgL r f)) (by rw [extL_len, h1]; omega) (by omega) (extL_bd (by omega) hl)
    refine ⟨?_, ?_⟩
    · rw [List.length_take, spL_len, extL_len, h1]; omega
    · have := bdL_part (by omega) h2 r.cep.toNat 0
      rw [List.drop_zero] at this
      exact this
  · refine ⟨lgL_len, fun i => ?_⟩
    have := hl i
    omega
theorem frL_len {x : List Int} {sz st : Nat} : (frL x sz st).length = nFr x.length sz st := by simp [frL]
theorem frL_at {x : List Int} {sz st k : Nat} (h : k < nFr x.length sz st) : (frL x sz st).getD k [] = frI x sz st k := by
  unfold frL; rw [List.getD_eq_getElem?_getD, List.getElem?_map, List.getElem?_range h]; rfl
theorem frI_bd {x : List Int} {sz st k : Nat} {B : Int} (hB : 0 ≤ B) (h : bdL B x) : bdL B (frI x sz st k) := fun i => by
  unfold frI
  rw [List.getD_eq_getElem?_getD, List.getElem?_take]
  split
  · rw [List.getElem?_drop]
    have := h (k * st + i); rwa [List.getD_eq_getElem?_getD] at this
  · simp; omega
theorem vs0_len {l : List Int} {r : Rcp} : (vs0 l r).length = nFr l.length r.size.toNat r.step.toNat := by unfold vs0; rw [List.length_map, frL_len, emL_len]
theorem mapL_at {α β : Type} {f : α → β} {l : List α} {k : Nat} (d : α) (e : β) (h : k < l.length) : (l.map f).getD k e = f (l.getD k d) := by
  rw [List.getD_eq_getElem?_getD, List.getElem?_map, List.getD_eq_getElem?_getD, List.getElem?_eq_getElem h]; rfl
theorem vs0_at {l : List Int} {r : Rcp} {k : Nat} (h : k < (vs0 l r).length) : (vs0 l r).getD k [] = vecL r (frI (emL l r.num r.den) r.size.toNat r.step.toNat k) := by
  rw [vs0_len] at h
  unfold vs0
  rw [mapL_at [] [] (by rw [frL_len, emL_len]; exact h), frL_at (by rw [emL_len]; exact h)]
theorem fr_ok {l : List Int} {r : Rcp} (ok : r.Ok) (hb : bdL 32768 l) {k : Nat} (h : k < nFr l.length r.size.toNat r.step.toNat) : ((frI (emL l r.num r.den) r.size.toNat r.step.toNat k).length : Int) = r.size ∧ bdL 65536 (frI (emL l r.num r.den) r.size.toNat r.step.toNat k) := by
  have hs := ok.size
  have ht := ok.step
  refine ⟨?_, frI_bd (by omega) (emL_bd ⟨ok.shape.2, by have := ok.shape.1; omega⟩ hb)⟩
  rw [frI_len (by rw [emL_len]; exact (nFr_iff (by omega)).1 h)]; omega
theorem vs0_ok {l : List Int} {r : Rcp} (ok : r.Ok) (h300 : l.length ≤ 300) (hb : bdL 32768 l) : VsOk (vn r) 64448 (vs0 l r) := by
  have hn : nFr l.length r.size.toNat r.step.toNat ≤ 301 := by
    unfold nFr
    have h5 : (l.length - r.size.toNat) / r.step.toNat ≤ l.length - r.size.toNat := Nat.div_le_self _ _
    split <;> omega
  have he := ok.edges.2
  have hc := ok.cep
  have hp := padI_bd (m := (r.edges.length : Int) - 1) (by omega)
  refine ⟨by rw [vs0_len]; omega, by unfold vn; split <;> omega, by omega, fun t ht => ?_, fun t => ?_⟩
  · rw [vs0_at ht]
    rw [vs0_len] at ht
    have h1 := fr_ok ok hb ht
    exact (vecL_ok ok h1.1 h1.2).1
  · by_cases ht : t < (vs0 l r).length
    · rw [vs0_at ht]
      rw [vs0_len] at ht
      have h1 := fr_ok ok hb ht
      exact (vecL_ok ok h1.1 h1.2).2
    · rw [getD_off (by omega)]
      intro i; simp
theorem dif_ok {n : Nat} {K : Int} {v : List (List Int)} {r : Rcp} (h : VsOk n K v) (hn : 2 * n ≤ 1000) (hK : 2 * K ≤ 1000000) : ∃ n K, VsOk n K (difV r v) := by
  unfold difV
  split
  · refine ⟨2 * n, 2 * K, ⟨by have := h.l; simp [difL]; omega, hn, by have := h.hK; omega, fun t ht => ?_, fun t => ?_⟩⟩
    · have ht' : t < v.length := by simpa [difL] using ht
      have e : (difL v).getD t [] = difI v t := by unfold difL; rw [List.getD_eq_getElem?_getD, List.getElem?_map, List.getElem?_range ht']; rfl
      rw [e]; unfold difI
      rw [List.length_append, cmL_len, h.at_ _ ht', h.at_ _ (by omega)]; omega
    · by_cases ht : t < (difL v).length
      · have ht' : t < v.length := by simpa [difL] using ht
        have e : (difL v).getD t [] = difI v t := by unfold difL; rw [List.getD_eq_getElem?_getD, List.getElem?_map, List.getElem?_range ht']; rfl
        rw [e]; unfold difI
        intro i
        have hK := h.hK
        rw [List.getD_eq_getElem?_getD, List.getElem?_append]
        split
        · have := h.bd t i
          rw [List.getD_eq_getElem?_getD] at this; omega
        · have h2 : bdL (2 * K) (cmL HSub.hSub (v.getD (min (t + 1) (v.length - 1)) []) (v.getD (t - 1) [])) := cmL_bd (by omega) fun j hj => by
            have h3 := h.bd (min (t + 1) (v.length - 1)) j
            have h4 := h.bd (t - 1) j
            omega
          have := h2 (i - (v.getD t []).length)
          rw [List.getD_eq_getElem?_getD] at this; exact this
      · rw [getD_off (by omega)]
        intro i
        have := h.hK
        simp; omega
  · exact ⟨n, K, h⟩
theorem recE_bd {rate : Int} {l : List Int} (h : recE rate l = 0) : l.length ≤ 200000 ∧ bdL 32768 l := by
  unfold recE at h
  split at h
  · cases h
  · split at h
    · cases h
    · rename_i h1 h2
      refine ⟨by omega, fun i => ?_⟩
      by_cases hi : i < l.length
      · have h3 : ¬ outI (-32768) 32767 (l.getD i 0) = true := fun q => h2 (.inr (.inr (List.any_eq_true.2 ⟨_, getD_mem' l 0 hi, q⟩)))
        unfold outI at h3
        simp only [Bool.or_eq_true, decide_eq_true_eq] at h3
        omega
      · rw [getD_off (by omega)]; omega
instance Frames_i {x : List Int} {sz st : Int} : Ct Tryd.prog 29 [lv rI x, iv sz, iv st, bv false] ((x.length ≤ 1000 ∧ valE x = 0) ∧ (1 ≤ sz ∧ sz ≤ 4096) ∧ 1 ≤ st ∧ st ≤ 4096) (.tp [lv (rL rI) (frL x sz.toNat st.toNat), iv 0]) :=
  ⟨(Frames_c (x := x) (sz := 0) (st := 0)).fn, fun ⟨h1, h2, h3⟩ => by
    obtain ⟨a, rfl⟩ : ∃ a : Nat, sz = (a : Int) := ⟨sz.toNat, by omega⟩
    obtain ⟨b, rfl⟩ : ∃ b : Nat, st = (b : Int) := ⟨st.toNat, by omega⟩
    rw [Int.toNat_natCast, Int.toNat_natCast]
    exact (Frames_c (x := x) (sz := a) (st := b)).h ⟨h1, by omega, by omega⟩⟩
def nI (n : Nat) (sz st : Int) : Int := if sz ≤ n then ((n : Int) - sz) / st + 1 else 0
theorem nI_bd {n : Nat} {sz st : Int} (h : n ≤ 300) (h1 : 1 ≤ sz) (h2 : 1 ≤ st) : 0 ≤ nI n sz st ∧ nI n sz st ≤ 301 := by
  unfold nI
  split
  · have h3 := Int.ediv_nonneg (a := (n : Int) - sz) (b := st) (by omega) (by omega)
    have h4 : ((n : Int) - sz) / st ≤ (n : Int) - sz := Int.ediv_le_self _ (by omega)
    omega
  · omega
def stN (r : Rcp) (v : List (List Int)) : Nat → List (List Int)
  | 0 => v
  | 1 => difV r v
  | _ => cenV r (difV r v)
instance Extract_c {rate : Int} {l : List Int} {r : Rcp} {B : List Res} [hg : HG B] : CtB Tryd.prog 9 [rcv rate l, rcpv r] B (l.length ≤ 300 ∧ r.edges.length ≤ 1099511627776) (.tp [lv (rL rI) (if recE rate l = 0 ∧ r.Ok then exV l r else []), iv (if recE rate l = 0 ∧ r.Ok then 0 else 2)]) := by
  refine (ctB Tryd.call9 Tryd.func9 Tryd.ntmps9 rfl Tryd.results9 rfl [] fun h0 w0 ⟨h1, h2⟩ => ?_)
  haveI : RT Tryd.prog 71 Nat (rFn r) 8 0 := ⟨Tryd.sizeOf71, _, _, ⟨Tryd.type71, rfl, rfl, rfl, rfl⟩, fun _ => ⟨rfl, trivial⟩⟩
  repeat first | refine nx ?_ | intro _
  refine gIf (fun c => ?_) fun c => ?_
  · have c2 : ¬ (recE rate l = 0 ∧ r.Ok) := fun q => by rcases c with c | c; exact c q.1; exact c q.2
    rw [if_neg c2, if_neg c2]
    repeat first | refine nx ?_ | intro _
    trivial
  have ok2 : recE rate l = 0 ∧ r.Ok := by
    simp only [not_or, Classical.not_not] at c
    exact c
  rw [if_pos ok2, if_pos ok2]
  clear c
  obtain ⟨hr, ok⟩ := ok2
  obtain ⟨h3, h4⟩ := recE_bd hr
  have hrat : ratS r.num r.den := ⟨ok.shape.2, by have := ok.shape.1; omega⟩
  have hs := ok.size
  have ht := ok.step
  have hpt := isLen_pos ok.len
  have hel := emL_len (x := l) (num := r.num) (den := r.den)
  have hve : valE (emL l r.num r.den) = 0 := valE_ok (by omega) (by omega) (emL_bd hrat h4)
  have hnI := nI_bd h1 hs.1 ht.1
  have hfo := fun k => fr_ok (k := k) ok h4
  have hvok := vs0_ok ok h1 h4
  have hvl := vs0_len (l := l) (r := r)
  repeat first | refine nx ?_ | intro _
  refine gIf (fun c => absurd rfl c) fun c => ?_
  repeat first | refine nx ?_ | intro _
  refine gJ [(8, iv (nI l.length r.size r.step))] (fun c => ?_) (fun c => ?_) ?_
  · rw [show nI l.length r.size r.step = ((l.length : Int) - r.size) / r.step + 1 from if_pos (by omega)]
    have h5 := Int.ediv_nonneg (a := (l.length : Int) - r.size) (b := r.step) (by omega) (by omega)
    have h6 : ((l.length : Int) - r.size) / r.step ≤ (l.length : Int) - r.size := Int.ediv_le_self _ (by omega)
    rw [← hel] at h5 h6 ⊢
    repeat first | refine nx ?_ | intro _
    exact gM
  · rw [show nI l.length r.size r.step = 0 from if_neg (by omega)]
    repeat first | refine nx ?_ | intro _
    exact gM
  repeat first | refine nx ?_ | intro _
  refine gIf (fun c => absurd c (by omega)) fun c => ?_
  repeat first | refine nx ?_ | intro _
  refine gIf (fun c => absurd rfl c) fun c => ?_
  repeat first | refine nx ?_ | intro _
  have hfl := frL_len (x := emL l r.num r.den) (sz := r.size.toNat) (st := r.step.toNat)
  rw [hel] at hfl
  have hvs : (vs0 l r) = (frL (emL l r.num r.den) r.size.toNat r.step.toNat).map (vecL r) := rfl
  have hfa : ∀ k, k < (frL (emL l r.num r.den) r.size.toNat r.step.toNat).length → (((frL (emL l r.num r.den) r.size.toNat r.step.toNat).getD k []).length : Int) = r.size ∧ bdL 65536 ((frL (emL l r.num r.den) r.size.toNat r.step.toNat).getD k []) := fun k hk => by
    rw [hfl] at hk
    rw [frL_at (by rw [hel]; exact hk)]; exact hfo k hk
  have hl5 := hvok.l
  rw [hvl, ← hfl] at hl5
  unfold exV
  generalize frL (emL l r.num r.den) r.size.toNat r.step.toNat = F at *
  refine gNl (rL rI) 22 ?_
  refine gLp (fun s : Nat × Value => [(70, iv s.1), (11, ov s.2)]) (fun s => [rA (rL rI) 22 s.2 ((vs0 l r).take s.1)]) (fun s => s.1 ≤ F.length) (fun s => F.length - s.1) (0, .slice none 0 0) (Nat.zero_le _) fun ⟨k, w⟩ hk => ?_
  dsimp only at *
  repeat first | refine nx ?_ | intro _
  refine gIf (fun c => ?_) fun c => ?_
  · have hside := hfa k c
    have htl : ((vs0 l r).take k).length = k := by rw [List.length_take, hvl, ← hfl]; omega
    repeat first | refine nx ?_ | intro _
    rename_i w2
    rw [show (vs0 l r).take k ++ [vecL r (F.getD k [])] = (vs0 l r).take (k + 1) by
      rw [List.take_succ_eq_append_getElem (by rw [hvl, ← hfl]; exact c)]
      congr 2
      rw [← mapL_at (f := vecL r) [] [] c, ← hvs, List.getD_eq_getElem?_getD, List.getElem?_eq_getElem (by rw [hvl, ← hfl]; exact c)]; rfl]
    exact gBk (k + 1, w2) (by dsimp only; omega) (by dsimp only; omega)
  rw [List.take_of_length_le (by rw [hvl, ← hfl]; omega)]
  refine gFz w ?_
  have hv2 : ∃ n K, VsOk n K (difV r (vs0 l r)) := dif_ok hvok (by
    have he := ok.edges.2
    have hc := ok.cep
    have hp := padI_bd (m := (r.edges.length : Int) - 1) (by omega)
    unfold vn; split <;> omega) (by omega)
  have hv1 : ∃ n K, VsOk n K (vs0 l r) := ⟨_, _, hvok⟩
  generalize vs0 l r = V at *
  repeat first | refine nx ?_ | intro _
  refine gLp (fun k : Nat => [(87, iv k), (11, lv (rL rI) (stN r V k))]) (fun _ => []) (fun k => k ≤ 2) (fun k => 2 - k) 0 (Nat.zero_le _) (fun k hk2 => ?_)
  repeat first | refine nx ?_ | intro _
  refine gIf (fun c1 => ?_) fun c1 => ?_
  · have hs2 : (([31, 32] : List Nat).getD k 0 = 31 ∨ ([31, 32] : List Nat).getD k 0 = 32) ∧ ∃ n K, VsOk n K (stN r V k) := by
      have : k < 2 := c1
      obtain rfl | rfl : k = 0 ∨ k = 1 := by omega
      · exact ⟨.inl rfl, hv1⟩
      · exact ⟨.inr rfl, hv2⟩
    have he : stF r (([31, 32] : List Nat).getD k 0) (stN r V k) = stN r V (k + 1) := by
      have : k < 2 := c1
      obtain rfl | rfl : k = 0 ∨ k = 1 := by omega
      · rfl
      · rfl
    repeat first | refine nx ?_ | intro _
    rw [he]
    exact gBk (k + 1) (by have : k < 2 := c1; omega) (by have : k < 2 := c1; omega)
  · have e2 : k = 2 := by have : ¬ k < 2 := c1; omega
    subst e2
    repeat first | refine nx ?_ | intro _
    exact ⟨rfl, trivial⟩
end Go.E3
set_option linter.unusedVariables false
set_option maxRecDepth 20000
set_option maxHeartbeats 4000000
set_option synthInstance.maxSize 1000
namespace Go.E3
open Go Go.Ear Go.Proofs
instance Clip_c {rate a b : Int} {l : List Int} : Ct Tryd.prog 10 [rcv rate l, .ag [iv a, iv b]] (recE rate l = 0 ∧ (0 ≤ a ∧ a ≤ b) ∧ b ≤ l.length) (.tp [rcv rate ((l.take b.toNat).drop a.toNat), iv 0]) := by
  refine (ctI Tryd.call10 Tryd.func10 Tryd.ntmps10 rfl Tryd.results10 rfl [] fun h0 w0 ⟨h1, ⟨h2, h3⟩, h4⟩ => ?_)
  have ⟨h5, h6⟩ := recE_bd h1
  obtain ⟨A, rfl⟩ : ∃ A : Nat, a = (A : Int) := ⟨a.toNat, by omega⟩
  obtain ⟨C, rfl⟩ : ∃ C : Nat, b = (C : Int) := ⟨b.toNat, by omega⟩
  rw [Int.toNat_natCast, Int.toNat_natCast]
  repeat first | refine nx ?_ | intro _
  refine gIf (fun c => absurd h1 c) fun c => ?_
  repeat first | refine nx ?_ | intro _
  refine gIf (fun c => absurd c (by omega)) fun c => ?_
  repeat first | refine gDr 11 (by kernel_rfl) ?_ | refine nx ?_ | intro _
  exact ⟨⟨trivial, trivial⟩, trivial⟩
def dsS (v c : List Int) : Nat → Int
  | 0 => 0
  | k + 1 => dsS v c k + (v.getD k 0 - c.getD k 0) * (v.getD k 0 - c.getD k 0)
def dsT (v c : List Int) : Int := dsS v c c.length
theorem dsS_mono {v c : List Int} {i : Nat} : ∀ {j : Nat}, i ≤ j → dsS v c i ≤ dsS v c j
  | 0, h => by obtain rfl : i = 0 := by omega
               exact Int.le_refl _
  | j + 1, h => by
    rcases Nat.lt_or_ge i (j + 1) with q | q
    · have h1 := dsS_mono (v := v) (c := c) (i := i) (j := j) (by omega)
      have h2 := sq_nn (v.getD j 0 - c.getD j 0)
      rw [dsS]; omega
    · obtain rfl : i = j + 1 := by omega
      exact Int.le_refl _
theorem dsS_bd {v c : List Int} {K : Int} (h1 : bdL K v) (h2 : bdL K c) : ∀ i : Nat, 0 ≤ dsS v c i ∧ dsS v c i ≤ (i : Int) * (2 * K * (2 * K))
  | 0 => by simp [dsS]
  | i + 1 => by
    have h3 := dsS_bd h1 h2 i
    have h4 := h1 i
    have h5 := h2 i
    have h6 := mul_bd2 (a := v.getD i 0 - c.getD i 0) (b := v.getD i 0 - c.getD i 0) (A := 2 * K) (B := 2 * K) ⟨by omega, by omega⟩ ⟨by omega, by omega⟩
    have h7 := sq_nn (v.getD i 0 - c.getD i 0)
    rw [dsS, show ((i + 1 : Nat) : Int) * (2 * K * (2 * K)) = (i : Int) * (2 * K * (2 * K)) + 2 * K * (2 * K) by rw [Int.natCast_add, Int.add_mul]; omega]
    omega
def nrS (v : List Int) (book : List (List Int)) : Nat → Int × Int
  | 0 => (-1, 4611686018427387904)
  | i + 1 => if dsT v (book.getD i []) < (nrS v book i).2 then ((i : Int), dsT v (book.getD i [])) else nrS v book i
def nrF (v : List Int) (book : List (List Int)) : Int := (nrS v book book.length).1
section
variable {v : List Int} {book : List (List Int)}
instance nearest_c : Ct Tryd.prog 36 [lv rI v, lv (rL rI) book] ((v.length ≤ 64 ∧ bdL 1048576 v) ∧ book.length ≤ 10000 ∧ ∀ i, i < book.length → (1 ≤ (book.getD i []).length ∧ (book.getD i []).length = v.length) ∧ bdL 1048576 (book.getD i [])) (.tp [iv (nrF v book), iv (nrS v book book.length).2]) := by
  refine (ctI Tryd.call36 Tryd.func36 Tryd.ntmps36 rfl Tryd.results36 rfl [] fun h0 w0 ⟨⟨h1, h2⟩, h3, h4⟩ => ?_)
  repeat first | refine nx ?_ | intro _
  refine gLp (fun i : Nat => [(14, iv i), (6, iv (nrS v book i).1), (7, iv (nrS v book i).2)]) (fun _ => []) (fun i => i ≤ book.length) (fun i => book.length - i) 0 (Nat.zero_le _) fun i hi => ?_
  repeat first | refine nx ?_ | intro _
  refine gIf (fun c => ?_) fun c => ?_
  · obtain ⟨⟨h5, h6⟩, h7⟩ := h4 i c
    have hds := fun k => dsS_bd (K := 1048576) h2 h7 k
    have hmo := fun k (hk : k ≤ (book.getD i []).length) => dsS_mono (v := v) (c := book.getD i []) hk
    have hT : dsT v (book.getD i []) = dsS v (book.getD i []) (book.getD i []).length := rfl
    have hnr : nrS v book (i + 1) = if dsT v (book.getD i []) < (nrS v book i).2 then ((i : Int), dsT v (book.getD i [])) else nrS v book i := rfl
    generalize nrS v book i = st at *
    repeat first | refine nx ?_ | intro _
    generalize book.getD i [] = cw at *
    refine gLp (fun k : Nat => [(21, iv k), (10, iv (dsS v cw k))]) (fun _ => []) (fun k => k ≤ cw.length ∧ (k = 0 ∨ dsS v cw k < st.2)) (fun k => cw.length - k) 0 ⟨Nat.zero_le _, .inl rfl⟩ fun k ⟨hk, hk2⟩ => ?_
    repeat first | refine nx ?_ | intro _
    refine gIf (fun c1 => ?_) fun c1 => ?_
    · have h8 := h2 k
      have h9 := h7 k
      have h10 := mul_bd2 (a := v.getD k 0 - cw.getD k 0) (b := v.getD k 0 - cw.getD k 0) (A := 2097152) (B := 2097152) ⟨by omega, by omega⟩ ⟨by omega, by omega⟩
      have h11 := hds k
      have h12 : ¬ (dsS v cw k < 0 ∨ 562949953421312 < dsS v cw k ∨ (v.getD k 0 - cw.getD k 0) * (v.getD k 0 - cw.getD k 0) < -4398046511104 ∨ 4398046511104 < (v.getD k 0 - cw.getD k 0) * (v.getD k 0 - cw.getD k 0)) := by omega
      have h13 : ¬ (v.getD k 0 - cw.getD k 0 < -2097152 ∨ 2097152 < v.getD k 0 - cw.getD k 0) := by omega
      clear h8 h9 h10 h11
      repeat first | refine nx ?_ | intro _
      have hsk : dsS v cw (k + 1) = dsS v cw k + (v.getD k 0 - cw.getD k 0) * (v.getD k 0 - cw.getD k 0) := rfl
      rw [← hsk]
      refine gIf (fun c2 => ?_) fun c2 => ?_
      · have h14 := hmo (k + 1) c1
        rw [if_neg (by omega)] at hnr
        repeat first | refine nx ?_ | intro _
        rw [show st.1 = (nrS v book (i + 1)).1 by rw [hnr], show st.2 = (nrS v book (i + 1)).2 by rw [hnr]]
        exact gBk (i + 1) (by omega) (by omega)
      · repeat first | refine nx ?_ | intro _
        exact gBk (k + 1) ⟨by omega, .inr (by omega)⟩ (by omega)
    · obtain rfl : k = cw.length := by omega
      rw [if_pos (by omega)] at hnr
      repeat first | refine nx ?_ | intro _
      rw [← hT]
      exact gBk (i + 1) (by omega) (by omega) (h1 := by
        rw [hnr]
        repeat' (first | trivial | rfl | refine And.intro ?_ ?_))
  · obtain rfl : i = book.length := by omega
    repeat first | refine nx ?_ | intro _
    trivial
theorem vcO_at {v : List (List Int)} (h : vcO v = true) {t : Nat} (ht : t < v.length) : ((1 ≤ (v.getD t []).length ∧ (v.getD t []).length ≤ 64) ∧ (v.getD t []).length = (v.getD 0 []).length) ∧ bdL 1048576 (v.getD t []) := by
  unfold vcO at h
  rw [Bool.not_eq_true', List.any_eq_false] at h
  have h2 := h _ (getD_mem' v [] ht)
  rw [Bool.not_eq_true] at h2
  have h3 := of_decide_eq_false h2
  simp only [not_or] at h3
  refine ⟨by omega, fun i => ?_⟩
  by_cases hi : i < (v.getD t []).length
  · have h4 : ¬ outI (-1048576) 1048576 ((v.getD t []).getD i 0) = true := fun q => h3.2 (List.any_eq_true.2 ⟨_, getD_mem' _ 0 hi, q⟩)
    unfold outI at h4
    simp only [Bool.or_eq_true, decide_eq_true_eq] at h4
    omega
  · rw [getD_off (by omega)]; omega
theorem bkO_ok {v : List (List Int)} (h : bkO v = true) : (1 ≤ v.length ∧ v.length ≤ 256) ∧ vcO v = true := of_decide_eq_true h
def qL (v book : List (List Int)) : List Int := v.map fun x => nrF x book
instance Quantize_c {vs : List (List Int)} : Ct Tryd.prog 11 [lv (rL rI) vs, lv (rL rI) book] (vs.length ≤ 1000 ∧ vcO vs = true ∧ bkO book = true ∧ (0 < vs.length → (vs.getD 0 []).length = (book.getD 0 []).length)) (.tp [lv rI (qL vs book), iv 0]) := by
  refine (ctI Tryd.call11 Tryd.func11 Tryd.ntmps11 rfl Tryd.results11 rfl [] fun h0 w0 ⟨h1, h2, h3, h4⟩ => ?_)
  obtain ⟨h5, h6⟩ := bkO_ok h3
  have hf : fitE vs book = 0 := by
    unfold fitE
    rw [if_neg (by omega), if_neg]
    rintro ((h | h) | h)
    · exact h ((vcE_ok (by omega)).2 h2)
    · exact h h3
    · exact h.2 (h4 h.1)
  repeat first | refine nx ?_ | intro _
  refine gIf (fun c => absurd hf c) fun c => ?_
  repeat first | refine nx ?_ | intro _
  refine gNl rI 3 ?_
  refine gLp (fun s : Nat × Value => [(20, iv s.1), (7, ov s.2)]) (fun s => [rA rI 3 s.2 ((qL vs book).take s.1)]) (fun s => s.1 ≤ vs.length) (fun s => vs.length - s.1) (0, .slice none 0 0) (Nat.zero_le _) fun ⟨k, w⟩ hk => ?_
  have hql : (qL vs book).length = vs.length := by simp [qL]
  dsimp only at *
  repeat first | refine nx ?_ | intro _
  refine gIf (fun c => ?_) fun c => ?_
  · have htl : ((qL vs book).take k).length = k := by rw [List.length_take]; omega
    have h7 := vcO_at h2 c
    have hside : ((vs.getD k []).length ≤ 64 ∧ bdL 1048576 (vs.getD k [])) ∧ book.length ≤ 10000 ∧ ∀ i, i < book.length → (1 ≤ (book.getD i []).length ∧ (book.getD i []).length = (vs.getD k []).length) ∧ bdL 1048576 (book.getD i []) := by
      refine ⟨⟨by omega, h7.2⟩, by omega, fun i hi => ?_⟩
      have h8 := vcO_at h6 hi
      have h9 := h4 (by omega)
      exact ⟨⟨by omega, by omega⟩, h8.2⟩
    repeat first | refine nx ?_ | intro _
    rename_i w2
    rw [show (qL vs book).take k ++ [nrF (vs.getD k []) book] = (qL vs book).take (k + 1) by
      rw [List.take_succ_eq_append_getElem (by omega)]
      unfold qL
      rw [List.getElem_map, List.getD_eq_getElem?_getD, List.getElem?_eq_getElem c]; rfl]
    exact gBk (k + 1, w2) (by dsimp only; omega) (by dsimp only; omega)
  · refine gFz w ?_
    repeat first | refine nx ?_ | intro _
    exact ⟨List.take_of_length_le (by omega), trivial⟩
instance Log_c {e : Int} : Ct Tryd.prog 26 [iv e] (0 ≤ e ∧ e < 9223372036854775808) (.tp [iv (lgF e), iv 0]) := by
  refine (ctI Tryd.call26 Tryd.func26 Tryd.ntmps26 rfl Tryd.results26 rfl [] fun h0 w0 h => ?_)
  repeat first | refine nx ?_ | intro _
  refine gIf (fun c => absurd c (by omega)) fun c => ?_
  repeat first | refine nx ?_ | intro _
  trivial
theorem kn1 : emL [10, 10, -7] 1 2 = [10, 5, -12] := by decide +kernel
theorem kn2 : lgF 1000 = 159 := by
  unfold lgF
  rw [if_neg (by decide)]
  have h0 : bitlen 1 = 1 := by rw [bitlen_pos (by decide), show (1 : Nat) / 2 = 0 from rfl, bitlen_zero]
  have h1 : (1000 : Nat) ^ 16 / 2 ^ 159 = 1 := by decide +kernel
  have h2 : 2 ^ 159 ≤ (1000 : Nat) ^ 16 := by decide +kernel
  have h : bitlen ((1000 : Int).toNat ^ 16) = 160 := by
    rw [show (1000 : Int).toNat = 1000 from rfl, bitlen_shift h2, h1, h0]
  rw [h]; rfl
instance known_c : Ct Tryd.prog 8 [] True (bv true) := by
  refine (ctI Tryd.call8 Tryd.func8 Tryd.ntmps8 rfl Tryd.results8 rfl [] fun h0 w0 _ => ?_)
  have hb : ([10, 10, -7] : List Int).length ≤ 200000 ∧ bdL 32768 [10, 10, -7] ∧ ratS 1 2 := by
    refine ⟨by decide, fun i => ?_, by decide⟩
    match i with
    | 0 => decide
    | 1 => decide
    | 2 => decide
    | i + 3 => simp
  repeat first | refine nx ?_ | intro _
  rw [kn1, kn2]
  rfl
end
end Go.E3
set_option linter.unusedVariables false
set_option maxRecDepth 20000
set_option maxHeartbeats 4000000
set_option synthInstance.maxSize 1000
namespace Go.E3
open Go Go.Ear Go.Proofs
@[reducible] def clR (r : Rcp) : Rcp := ⟨0, r.den, r.size, r.step, r.win, r.pts, r.edges, r.cep, false, false⟩
end Go.E3
