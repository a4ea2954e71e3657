/- A42: a part of the proofs about what is clipped and stored: how the program's functions run, and what they compute, for every input. -/
import Derived.Test.YthlpenhbcmbgoaaGreatDoorA41
set_option linter.all false
set_option linter.unusedVariables false
set_option maxRecDepth 20000
set_option maxHeartbeats 4000000
set_option synthInstance.maxSize 1000
namespace Go.E3
open Go Go.Ear Go.Proofs
theorem sQ_filt {α : Type} (p : α → Bool) (f : α → Rat) : ∀ l : List α, sQ ((l.filter p).map f) = sQ (l.map fun x => if p x = true then f x else 0)
  | [] => rfl
  | x :: l => by
    show _ = (if p x = true then f x else 0) + sQ (l.map _)
    rw [List.filter_cons]
    by_cases c : p x = true
    · rw [if_pos c, if_pos c]
      show f x + sQ _ = _
      rw [sQ_filt p f l]
    · rw [if_neg c, if_neg c, Rat.zero_add, sQ_filt p f l]
theorem keyW_inj {a b : List ByteArray} (ha : ∀ w ∈ a, NoS w) (hb : ∀ w ∈ b, NoS w) (h : keyW a = keyW b) : a = b := by
  rw [← spW_key ha, h, spW_key hb]
section
variable {l : List En} {r : List Rw} {q : List Int}
theorem own_tot (h : RdS l r q) {c : List En} (hc : ∀ e ∈ c, e ∈ l) (hn : c.length ≤ 4) (k : ByteArray) : tot (ownS r q c) k = if keyW (c.map En.w) = k then wJ c * tot (atF r (phJ c)) q else 0 := by
  unfold ownS
  have ap := h.ap hc hn
  have h0 := ((atF_wb ap).tot q).1
  split
  · rw [tot_one]
  · rename_i c1
    have e : tot (atF r (phJ c)) q = 0 := by grind
    rw [e, Rat.mul_zero]
    split <;> rfl
theorem sB_ext : ∀ n c {x : ByteArray × Rat}, x ∈ sB l r q n c → ∃ d, (∀ e ∈ d, e ∈ l) ∧ x.1 = keyW ((c ++ d).map En.w)
  | 0, c, x, hx => by
    unfold sB at hx
    split at hx
    · exact ⟨[], fun e he => (List.not_mem_nil he).elim, by rw [List.append_nil, (own_key hx).1]⟩
    · exact (List.not_mem_nil hx).elim
  | n + 1, c, x, hx => by
    unfold sB at hx
    split at hx
    · rcases List.mem_append.1 hx with hx | hx
      · exact ⟨[], fun e he => (List.not_mem_nil he).elim, by rw [List.append_nil, (own_key hx).1]⟩
      · obtain ⟨e, he, hx⟩ := List.mem_flatMap.1 hx
        obtain ⟨d, h1, h2⟩ := sB_ext n (c ++ [e]) hx
        exact ⟨e :: d, fun y hy => by
          rcases List.mem_cons.1 hy with rfl | hy
          · exact he
          · exact h1 y hy, by rw [h2, List.append_assoc]; rfl⟩
    · exact (List.not_mem_nil hx).elim
theorem RdS.nos (h : RdS l r q) {c : List En} (hc : ∀ e ∈ c, e ∈ l) : ∀ w ∈ c.map En.w, NoS w := fun w hw => by
  obtain ⟨e, he, rfl⟩ := List.mem_map.1 hw
  exact (h.e e (hc e he)).2.1
theorem app_sub {c d : List En} (hc : ∀ e ∈ c, e ∈ l) (hd : ∀ e ∈ d, e ∈ l) : ∀ e ∈ c ++ d, e ∈ l := fun e he => (List.mem_append.1 he).elim (hc e) (hd e)
theorem chs_own {ws : List ByteArray} {d : List En} (h : d ∈ chs (owns l ws)) : d.length = ws.length ∧ ∀ e ∈ d, e ∈ l := by
  obtain ⟨a, b⟩ := chs_mem h
  refine ⟨by rw [a]; exact List.length_map .., fun e he => ?_⟩
  obtain ⟨o, ho, heo⟩ := b e he
  obtain ⟨w, _, rfl⟩ := List.mem_map.1 ho
  exact (ownE_sub heo).1
theorem tot_off (h : RdS l r q) {n : Nat} {c : List En} {e : En} {k : List ByteArray} (hc : ∀ x ∈ c ++ [e], x ∈ l) (hk : ∀ w ∈ k, NoS w) (hne : ∀ d : List En, (c ++ [e] ++ d).map En.w ≠ k) : tot (sB l r q n (c ++ [e])) (keyW k) = 0 := tot_none fun ⟨x, hx⟩ => by
  obtain ⟨d, h1, h2⟩ := sB_ext _ _ hx
  exact hne d (keyW_inj (h.nos (app_sub hc h1)) hk h2.symm)
theorem map_app_one (c : List En) (e : En) (d : List En) : (c ++ [e] ++ d).map En.w = c.map En.w ++ e.w :: d.map En.w := by
  rw [List.append_assoc, List.map_append]; rfl
theorem sB_tot (h : RdS l r q) : ∀ n c ws, (∀ e ∈ c, e ∈ l) → c.length + n ≤ 4 → ws.length ≤ n → (∀ w ∈ ws, NoS w) → tot (sB l r q n c) (keyW (c.map En.w ++ ws)) = sQ ((chs (owns l ws)).map fun d => wJ (c ++ d) * tot (atF r (phJ (c ++ d))) q) := by
  intro n
  induction n with
  | zero =>
    intro c ws hc hn hw hs
    obtain rfl : ws = [] := List.eq_nil_of_length_eq_zero (by omega)
    have e : sQ ((chs (owns l [])).map fun d => wJ (c ++ d) * tot (atF r (phJ (c ++ d))) q) = wJ c * tot (atF r (phJ c)) q := by
      show wJ (c ++ []) * tot (atF r (phJ (c ++ []))) q + 0 = _
      rw [List.append_nil, Rat.add_zero]
    rw [e, List.append_nil]
    unfold sB
    split
    · rw [own_tot h hc (by omega), if_pos rfl]
    · rename_i ca
      rw [tot_nil, tot_none (b := atF r (phJ c)), Rat.mul_zero]
      intro hb
      exact ca (alive_all (m := []) (h.ap hc (by omega)) (by rw [List.append_nil]; exact h.ap hc (by omega)) (by rw [List.append_nil]; exact hb))
  | succ n ih =>
    intro c ws hc hn hw hs
    have hcs := h.nos hc
    have hkn : ∀ w ∈ c.map En.w ++ ws, NoS w := fun w hw => (List.mem_append.1 hw).elim (hcs w) (hs w)
    unfold sB
    split
    · rw [tot_app, own_tot h hc (by omega), tot_fm]
      cases ws with
      | nil =>
        have e : sQ ((chs (owns l [])).map fun d => wJ (c ++ d) * tot (atF r (phJ (c ++ d))) q) = wJ c * tot (atF r (phJ c)) q := by
          show wJ (c ++ []) * tot (atF r (phJ (c ++ []))) q + 0 = _
          rw [List.append_nil, Rat.add_zero]
        rw [e, List.append_nil, if_pos rfl, sQ_zero, Rat.add_zero]
        intro x hx
        refine tot_off h (app_sub hc fun y hy => by rw [List.mem_singleton.1 hy]; exact hx) hcs fun d he => ?_
        rw [map_app_one] at he
        have := congrArg List.length he
        rw [List.length_append, List.length_cons] at this
        omega
      | cons w ws =>
        rw [if_neg fun e => by
          have := congrArg List.length (keyW_inj hcs hkn e)
          rw [List.length_append, List.length_cons] at this
          omega, Rat.zero_add]
        show _ = sQ ((((ownE l w).flatMap fun e => (chs (owns l ws)).map (e :: ·))).map _)
        rw [sQ_fm]
        unfold ownE
        rw [sQ_filt]
        refine sQ_congr fun e he => ?_
        have hce : ∀ x ∈ c ++ [e], x ∈ l := app_sub hc fun y hy => by rw [List.mem_singleton.1 hy]; exact he
        by_cases c1 : e.w = w
        · rw [if_pos (by simpa using c1)]
          have i1 := ih (c ++ [e]) ws hce (by rw [List.length_append]; simp; omega) (by rw [List.length_cons] at hw; omega) fun x hx => hs x (List.mem_cons_of_mem _ hx)
          have e1 : (c ++ [e]).map En.w ++ ws = c.map En.w ++ w :: ws := by
            rw [List.map_append, List.append_assoc, ← c1]; rfl
          rw [e1] at i1
          rw [i1, List.map_map]
          refine sQ_congr fun d hd => ?_
          show wJ (c ++ [e] ++ d) * tot (atF r (phJ (c ++ [e] ++ d))) q = wJ (c ++ e :: d) * tot (atF r (phJ (c ++ e :: d))) q
          rw [List.append_assoc]; rfl
        · rw [if_neg (by simpa using c1)]
          refine tot_off h hce hkn fun d he => ?_
          rw [map_app_one] at he
          have := List.append_cancel_left he
          rw [List.cons.injEq] at this
          exact c1 this.1
    · rename_i ca
      rw [tot_nil]
      refine (sQ_zero fun d hd => ?_).symm
      obtain ⟨d1, d2⟩ := chs_own hd
      rw [tot_none (b := atF r (phJ (c ++ d))), Rat.mul_zero]
      intro hb
      have h1 := h.ap (app_sub hc d2) (by rw [List.length_append]; omega)
      rw [phJ_app] at hb h1
      exact ca (alive_all (h.ap hc (by omega)) h1 hb)
theorem sB_wg (h : RdS l r q) {most : Nat} {ws : List ByteArray} (hm : most ≤ 4) (hw : ws.length ≤ most) (hs : ∀ w ∈ ws, NoS w) : tot (sB l r q most []) (keyW ws) = wgS r (chs (owns l ws)) q := by
  have := sB_tot h most [] ws (fun e he => (List.not_mem_nil he).elim) (by show 0 + most ≤ 4; omega) hw hs
  rw [List.map_nil, List.nil_append] at this
  exact this
end
end Go.E3
