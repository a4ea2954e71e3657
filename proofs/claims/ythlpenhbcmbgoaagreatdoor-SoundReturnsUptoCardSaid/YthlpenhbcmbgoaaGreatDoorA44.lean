/- A44: a part of the proofs about what is clipped and stored: how the program's functions run, and what they compute, for every input. -/
import Derived.Test.YthlpenhbcmbgoaaGreatDoorA42
set_option linter.all false
set_option linter.unusedVariables false
set_option maxRecDepth 20000
set_option maxHeartbeats 4000000
set_option synthInstance.maxSize 1000
namespace Go.E3
open Go Go.Ear Go.Proofs
section
variable {l : List En} {r : List Rw} {q : List Int}
theorem pdL_le {M : Nat} : ∀ {L : List (List En)}, (∀ o ∈ L, o.length ≤ M) → pdL L ≤ M ^ L.length
  | [], _ => Nat.le_refl _
  | o :: L, h => by
    show o.length * pdL L ≤ M ^ (L.length + 1)
    rw [Nat.pow_succ, Nat.mul_comm]
    exact Nat.mul_le_mul (pdL_le fun x hx => h x (List.mem_cons_of_mem _ hx)) (h o (List.mem_cons_self ..))
theorem cho_few {ws : List ByteArray} (hl : l.length ≤ 6) (hp : ∀ e ∈ l, e.ph.length ≤ 6) (hn : ws.length ≤ 2) (hw : ∀ w ∈ ws, ∃ e ∈ l, e.w = w) : choE l ws = 0 := by
  have ol : (owns l ws).length = ws.length := List.length_map ..
  have hE : ¬ hasE (owns l ws) = true := fun h => by
    obtain ⟨w, h1, h2⟩ := List.mem_map.1 (hasE_iff.1 h)
    obtain ⟨e, he, rfl⟩ := hw w h1
    have : e ∈ ownE l e.w := List.mem_filter.2 ⟨he, by simp⟩
    rw [h2] at this
    exact List.not_mem_nil this
  have h1 : pdL (owns l ws) ≤ 6 ^ (owns l ws).length := pdL_le fun o ho => by
    obtain ⟨w, _, rfl⟩ := List.mem_map.1 ho
    exact Nat.le_trans (List.length_filter_le _ _) hl
  have h2 : 6 ^ (owns l ws).length ≤ 6 ^ 2 := Nat.pow_le_pow_right (by omega) (by omega)
  have h3 := choP_le (L := owns l ws) (b := 6) fun o ho => maxP_le fun e he => by
    obtain ⟨w, _, rfl⟩ := List.mem_map.1 ho
    exact hp e (ownE_sub he).1
  have h4 : (owns l ws).length * 6 ≤ 2 * 6 := Nat.mul_le_mul_right _ (by omega)
  unfold choE
  rw [if_neg hE, if_neg]
  rw [choN_pd]
  omega
theorem mem_srtG {b : Bag ByteArray} {x : Rg} : x ∈ srtG b ↔ ∃ k, hasB b k ∧ x = mkG k (tot b k) := by
  unfold srtG rgB
  rw [(srtS_perm (c := cmpG) _).mem_iff, List.mem_map]
  constructor
  · rintro ⟨k, hk, rfl⟩; exact ⟨k, mem_keys.1 hk, rfl⟩
  · rintro ⟨k, hk, rfl⟩; exact ⟨k, mem_keys.2 hk, rfl⟩
theorem wgT_few (h : RdS l r q) (hv : valB l = true) (hq : phB q 400 = true) {ws : List ByteArray} (hn : ws.length ≤ 2) (hw : ∀ w ∈ ws, ∃ e ∈ l, e.w = w) : wgE l r ws q = 0 ∧ wgT l r ws q = wgS r (chs (owns l ws)) q := by
  have hc := cho_few h.n (fun e he => (h.e e he).2.2.1) hn hw
  exact ⟨(if_pos ⟨hv, h.hr, by omega, hq⟩).trans hc, if_pos ⟨hv, h.hr, by omega, hq, hc⟩⟩
theorem rd_mem (h : RdS l r q) (hv : valB l = true) (hq : phB q 400 = true) {x : Rg} (hx : x ∈ srtG (sB l r q 2 [])) : x.f = frK (wgT l r x.ws q) ∧ wgE l r x.ws q = 0 ∧ x.ws.length ≤ 2 := by
  obtain ⟨k, ⟨w, hw⟩, rfl⟩ := mem_srtG.1 hx
  obtain ⟨c, h1, h2, h3, _⟩ := sB_key 2 [] (fun e he => (List.not_mem_nil he).elim) hw
  have hk : k = keyW (c.map En.w) := congrArg Prod.fst h3
  have hsp : spW k = c.map En.w := by rw [hk]; exact spW_key (h.nos h1)
  have hcl : c.length ≤ 2 := by
    have : c.length ≤ 0 + 2 := h2
    omega
  have hml : (c.map En.w).length = c.length := List.length_map ..
  obtain ⟨a, b⟩ := wgT_few h hv hq (ws := c.map En.w) (by omega) fun w hw => by
    obtain ⟨e, he, rfl⟩ := List.mem_map.1 hw
    exact ⟨e, h1 e he, rfl⟩
  have ht := sB_wg h (most := 2) (ws := c.map En.w) (by omega) (by omega) (h.nos h1)
  rw [← hk] at ht
  unfold mkG
  dsimp only
  rw [hsp]
  exact ⟨by rw [ht, b], a, by omega⟩
theorem rd_has (h : RdS l r q) {ws : List ByteArray} (hn : ws.length ≤ 2) (hw : ∀ w ∈ ws, ∃ e ∈ l, e.w = w) (hp : 0 < wgS r (chs (owns l ws)) q) : ∃ x ∈ srtG (sB l r q 2 []), x.ws = ws := by
  have hs : ∀ w ∈ ws, NoS w := fun w h1 => by
    obtain ⟨e, he, rfl⟩ := hw w h1
    exact (h.e e he).2.1
  have ht := sB_wg h (most := 2) (by omega) hn hs
  refine ⟨mkG (keyW ws) (tot (sB l r q 2 []) (keyW ws)), mem_srtG.2 ⟨_, Classical.byContradiction fun hn => ?_, rfl⟩, spW_key hs⟩
  rw [tot_none hn] at ht
  rw [← ht] at hp
  exact absurd hp (by decide)
theorem own_word {ws : List ByteArray} (h : hasE (owns l ws) = false) : ∀ w ∈ ws, ∃ e ∈ l, e.w = w := fun w hw => by
  have hne : ownE l w ≠ [] := fun e => by
    have : hasE (owns l ws) = true := hasE_iff.2 (by rw [← e]; exact List.mem_map.2 ⟨w, hw, rfl⟩)
    rw [this] at h; cases h
  obtain ⟨e, he⟩ := List.exists_mem_of_ne_nil _ hne
  exact ⟨e, ownE_sub he⟩
end
end Go.E3
namespace Go.E3
open Go Go.Ear Go.Proofs
theorem rd_bq {l : List En} {r : List Rw} {q : List Int} (h : RdS l r q) (hv : valB l = true) (hq : phB q 400 = true) {x : Rg} (hx : x ∈ srtG (sB l r q 2 [])) : bq (wgT l r x.ws q) ≤ 10000000 := by
  obtain ⟨e1, _⟩ := rd_mem h hv hq hx
  obtain ⟨k, hk, rfl⟩ := mem_srtG.1 hx
  have e2 : frK (tot (sB l r q 2 []) k) = frK (wgT l r (mkG k (tot (sB l r q 2 []) k)).ws q) := e1
  have e3 := congrArg Fr.rat e2
  rw [frK_rat, frK_rat] at e3
  rw [← e3]
  exact (sB_w h 2 [] (fun e he => (List.not_mem_nil he).elim) (by decide)).bq h (Nat.le_trans (sB_len h.n 2 []) (by decide)) k
theorem rd_len {l : List En} {r : List Rw} {q : List Int} (h : RdS l r q) : (srtG (sB l r q 2 [])).length ≤ 49 := by
  have e : (srtG (sB l r q 2 [])).length = (rgB (sB l r q 2 [])).length := (srtS_perm (c := cmpG) _).length_eq
  rw [e]
  unfold rgB
  rw [List.length_map]
  exact Nat.le_trans (cnt_le (sB l r q 2 [])) (sB_len h.n 2 [])
end Go.E3
