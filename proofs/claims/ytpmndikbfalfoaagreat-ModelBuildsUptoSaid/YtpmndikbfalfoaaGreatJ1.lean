/- J1: a part of the proofs about package model: how the program's functions run, and what they compute, for every input. -/
import Derived.Test.YtpmndikbfalfoaaGreatH15
import Derived.Test.YtpmndikbfalfoaaGreatP8
set_option linter.all false
set_option linter.unusedVariables false
set_option maxRecDepth 20000
set_option maxHeartbeats 8000000
set_option synthInstance.maxSize 1000
namespace Go.E3
open Go Go.Ear Go.Proofs
theorem rowAt_tail {α : Type} {row : List α} {d : α} {s i : Nat} (hl : row.length = s) (hi : i ≤ s) (h : ∀ j, i ≤ j → j < s → row.getD j d = d) : Go.Ear.rowAt row d s i = row := by
  refine ext_getD d (by rw [Go.Ear.rowAt_len hl hi, hl]) fun j hj => ?_
  rw [Go.Ear.rowAt_len hl hi] at hj
  unfold Go.Ear.rowAt
  rw [List.getD_eq_getElem?_getD]
  by_cases e : j < i
  · rw [List.getElem?_append_left (by simp; omega), List.getElem?_take, if_pos e, ← List.getD_eq_getElem?_getD]
  · rw [List.getElem?_append_right (by simp; omega), h j (by omega) hj, List.getElem?_replicate]; split <;> rfl
theorem joinS_rest {ms : List Md} {j : Nat} (h : sz4 ms 0 ≤ j) (hj : j < offN ms ms.length) : (joinS ms).getD j 0 = 0 := by
  obtain ⟨x, i, hx, hi, rfl⟩ := off_split ms _ j hj
  rw [joinS_at hx hi]
  refine if_neg fun e => ?_
  subst e
  have : offN ms 0 = 0 := rfl
  omega
theorem bsM_row {n : Nat} {ms : List Md} {x i : Nat} {d : List Rat} (hx : x < ms.length) (hi : i < sz4 ms x) : (bsM n ms ms.length).getD (offN ms x + i) d = jnP n ms x i 0 := by
  rw [jnP_zero]; exact bsM_at hi hx
section
variable {ms : List Md} {T : SV}
instance Join_c [i : VX T ms] : Ct Tryz.prog 54 [T] (ms.length ≤ 1000 ∧ ∀ m ∈ ms, MdB 10000000 m) (.tp [mv (joinR ms), iv (joinE ms)]) := by
  haveI := i.t
  refine ct1 i.v (ctI Tryz.call54 Tryz.func54 Tryz.ntmps54 rfl Tryz.results54 rfl [] fun h0 w0 ⟨h1, h2⟩ => ?_)
  repeat first | refine nx ?_ | intro _
  refine gIf (fun c => ?_) fun c => ?_
  · repeat first | refine nx ?_ | intro _
    have he := join_err c
    have hn := joinR_none (ms := ms) (by rw [he]; exact c)
    rw [hn, he]; exact ⟨⟨rfl, rfl, rfl, rfl⟩, rfl⟩
  have hE : beginE ms = 0 := Classical.not_not.1 c
  have hS := begin_some hE
  have hok := checkE_MsOk (begin_chk hE) h1 h2
  have hL0 : 0 < ms.length := Nat.pos_of_ne_zero fun e => by unfold beginE at hE; rw [if_neg (fun x => x (begin_chk hE)), if_pos (.inl e)] at hE; cases hE
  rw [← hS.1, ← hS.2]
  repeat first | refine nx ?_ | intro _
  refine gIf (fun c3 => ?_) fun c3 => ?_
  · repeat first | refine nx ?_ | intro _
    have he := join_long hE (by omega)
    have hn := joinR_none (ms := ms) (by rw [he]; decide)
    rw [hn, he]; exact ⟨⟨rfl, rfl, rfl, rfl⟩, rfl⟩
  have hoL : ∀ x, x < ms.length → offN ms x + sz4 ms x ≤ offN ms ms.length := fun x hx => offN_lt hx
  have he := join_ok hE (by omega)
  have hfl := fromL_len ms ms.length
  have hfa : ∀ x, x < ms.length → (fromL ms ms.length).getD x 0 = ((offN ms x : Nat) : Int) := fun x hx => fromL_at hx
  have hsl := joinS_len (ms := ms)
  have hFl := joinF_len (ms := ms)
  have hMl := joinM_len (ms := ms) (n := offN ms ms.length)
  have hBl := bsM_len (offN ms ms.length) ms ms.length
  repeat first | refine nx ?_ | intro _
  rename_i v4 s v9
  obtain ⟨s1, s2, s3, s4, vm, vy⟩ := s
  dsimp only
  have hnn : offN ms ms.length ≤ 40 := by omega
  generalize hF : fromL ms ms.length = F at *
  generalize hN : offN ms ms.length = n at *
  have hs0 := hoL 0 hL0
  rw [show offN ms 0 = 0 from rfl, Nat.zero_add] at hs0
  have hmb0 := hok.mb 0
  unfold sz4 at hs0
  repeat first | refine nx ?_ | intro _
  refine gLp (fun i : Nat => [(38, iv i)]) (fun i => [rA rF 31 s1 (Go.Ear.rowAt ((joinS ms).map frK) fr0 n i)]) (fun i => i ≤ (ms.getD 0 md0).start.length) (fun i => (ms.getD 0 md0).start.length - i) 0 (Nat.zero_le _) (fun i hi => ?_) (h2 := by rw [Go.Ear.rowAt_zero]; (repeat' (first | refine And.intro ?_ ?_ | trivial | rfl | omega)))
  have hl1 : (Go.Ear.rowAt ((joinS ms).map frK) fr0 n i).length = n := Go.Ear.rowAt_len (by rw [List.length_map, hsl]) (by omega)
  repeat first | refine nx ?_ | intro _
  refine gIf (fun c4 => ?_) fun c4 => ?_
  · have hw1 := hmb0.sb i
    repeat first | refine gDz 7 5 (by rfl) (by kernel_rfl) ?_ | refine nx ?_ | intro _
    rw [Go.Ear.rowAt_set (by rw [List.length_map, hsl]) (by omega) (by
      have := joinS_at (ms := ms) (d := 0) hL0 (show i < sz4 ms 0 from c4)
      rw [show offN ms 0 + i = i by rw [show offN ms 0 = 0 from rfl, Nat.zero_add], if_pos rfl] at this
      rw [getD_K, this]; rfl)]
    exact gBk (i + 1) (by omega) (by omega)
  · have ei : i = (ms.getD 0 md0).start.length := by omega
    subst ei
    rw [rowAt_tail (by rw [List.length_map, hsl]) hs0 fun j h1 h2 => by rw [getD_K, joinS_rest h1 (by rw [hN]; exact h2), frK_zero]]
    clear hi c4 hl1 hmb0
    repeat first | refine nx ?_ | intro _
    refine gLp (fun x : Nat => [(52, iv x)]) (fun x => [rZ rF 31 vm ((upTo (joinM n ms) (bsM n ms ms.length) (offN ms x)).map (·.map frK)), rA rF 31 s3 (Go.Ear.rowAt ((joinF ms).map frK) fr0 n (offN ms x))]) (fun x => x ≤ ms.length) (fun x => ms.length - x) 0 (Nat.zero_le _) (fun x hx => ?_) (h2 := by rw [show offN ms 0 = 0 from rfl, Go.Ear.rowAt_zero, upTo_zero]; (repeat' (first | refine And.intro ?_ ?_ | trivial | rfl | omega)))
    repeat first | refine nx ?_ | intro _
    refine gIf (fun c4 => ?_) fun c4 => ?_
    · have hs40 := hok.s x
      have hol := hoL x c4
      have hfx := hfa x c4
      have hmb := hok.mb x
      have hfn := hok.fin x c4
      unfold sz4 at hs40 hol hfn
      repeat first | refine nx ?_ | intro _
      rename_i v11
      refine gLp (fun i : Nat => [(60, iv i)]) (fun i => [rZ rF 31 vm ((upTo (joinM n ms) (bsM n ms ms.length) (offN ms x + i)).map (·.map frK)), rA rF 31 s3 (Go.Ear.rowAt ((joinF ms).map frK) fr0 n (offN ms x + i))]) (fun i => i ≤ (ms.getD x md0).start.length) (fun i => (ms.getD x md0).start.length - i) 0 (Nat.zero_le _) (fun i hi => ?_)
      refine gZl vm fun hvm => ?_
      have hul := upTo_len (r := joinM n ms) (l := bsM n ms ms.length) (i := offN ms x + i) (by rw [hMl, hBl])
      rw [hBl] at hul
      rw [List.length_map, hul] at hvm
      have hl2 : (Go.Ear.rowAt ((joinF ms).map frK) fr0 n (offN ms x + i)).length = n := Go.Ear.rowAt_len (by rw [List.length_map, hFl]) (by omega)
      repeat first | refine nx ?_ | intro _
      refine gIf (fun c5 => ?_) fun c5 => ?_
      · have c5 : i < sz4 ms x := by unfold sz4; omega
        have hw2 := hmb.fb i
        have ht : (F.getD x 0).toNat = offN ms x := by rw [hfx]; rfl
        have hr0 := bsM_row (n := n) (d := []) c4 c5
        have hg0 := upTo_get (r := joinM n ms) (l := bsM n ms ms.length) (i := offN ms x + i) (d := []) (by rw [hMl, hBl]) (by rw [hBl]; unfold sz4 at c5; omega)
        have hjm := joinM_at (ms := ms) (n := n) (d := []) c4 c5
        have hjf := joinF_at (ms := ms) (d := 0) c4 c5
        rw [hr0] at hg0
        have hlt : offN ms x + i < n := by unfold sz4 at c5; omega
        repeat first | refine nx ?_ | intro _
        refine gIf (fun c6 => ?_) fun c6 => ?_
        · have hxl : ¬ x + 1 < ms.length := by omega
          rw [if_neg hxl] at hjf
          have hjm2 : jnP n ms x i (nxN ms x) = jnP n ms x i 0 := by unfold nxN; rw [if_neg hxl]
          repeat first | refine gDz 12 10 (by rfl) (by kernel_rfl) ?_ | refine nx ?_ | intro _
          rw [ht, Go.Ear.rowAt_set (by rw [List.length_map, hFl]) hlt (by rw [getD_K, hjf]; rfl)]
          exact gBk (i + 1) (by unfold sz4 at c5; omega) (by unfold sz4 at c5; omega) (h2 := by rw [← Nat.add_assoc, upTo_skip (d := []) (by rw [hMl, hBl]) (by rw [hBl]; exact hlt) (by rw [hjm, hr0, hjm2])]; (repeat' (first | refine And.intro ?_ ?_ | trivial | rfl | omega)))
        · have hxl : x + 1 < ms.length := by omega
          rw [if_pos hxl] at hjf
          have hol1 := hoL (x + 1) hxl
          have hfx1 := hfa (x + 1) hxl
          have hmb1 := hok.mb (x + 1)
          have hs41 := hok.s (x + 1)
          have ht1 : (F.getD (x + 1) 0).toNat = offN ms (x + 1) := by rw [hfx1]; rfl
          have hox : offN ms (x + 1) = offN ms x + sz4 ms x := rfl
          unfold sz4 at hol1 hs41
          repeat first | refine nx ?_ | intro _
          refine gLp (fun j : Nat => [(88, iv j)]) (fun j => [rZ rF 31 vm (((upTo (joinM n ms) (bsM n ms ms.length) (offN ms x + i)).set (offN ms x + i) (jnP n ms x i j)).map (·.map frK))]) (fun j => j ≤ (ms.getD (x + 1) md0).start.length) (fun j => (ms.getD (x + 1) md0).start.length - j) 0 (Nat.zero_le _) (fun j hj => ?_) (h2 := by rw [← hg0, set_getD]; (repeat' (first | refine And.intro ?_ ?_ | trivial | rfl | omega)))
          have hMi : ((upTo (joinM n ms) (bsM n ms ms.length) (offN ms x + i)).set (offN ms x + i) (jnP n ms x i j)).getD (offN ms x + i) [] = jnP n ms x i j := getD_set_is (by omega)
          have hML : ((upTo (joinM n ms) (bsM n ms ms.length) (offN ms x + i)).set (offN ms x + i) (jnP n ms x i j)).length = n := by rw [List.length_set]; exact hul
          have hpl := jnP_len n ms x i j
          repeat first | refine nx ?_ | intro _
          refine gIf (fun c7 => ?_) fun c7 => ?_
          · have hset := jnP_set (n := n) (ms := ms) (x := x) (i := i) (j := j) (by omega)
            generalize hMj : (upTo (joinM n ms) (bsM n ms ms.length) (offN ms x + i)).set (offN ms x + i) (jnP n ms x i j) = Mj at hMi hML ⊢
            have k1 : ((Mj.map (·.map frK)).getD ((F.getD x 0).toNat + i) []).length = n := by rw [ht, len_KR, hMi]; exact hpl
            have k2 : (Mj.map (·.map frK)).length = n := by rw [List.length_map]; exact hML
            have hws := hmb1.sb j
            have c8 : i < (ms.getD x md0).fin.length := by rw [hfn]; exact c5
            repeat first | refine gDz 22 20 (by rfl) (by kernel_rfl) ?_ | refine nx ?_ | intro _
            have hfin : Mj.set (offN ms x + i) ((Mj.getD (offN ms x + i) []).set (offN ms (x + 1) + j) (((ms.getD x md0).fin.getD i fr0).rat * ((ms.getD (x + 1) md0).start.getD j fr0).rat)) = (upTo (joinM n ms) (bsM n ms ms.length) (offN ms x + i)).set (offN ms x + i) (jnP n ms x i (j + 1)) := by
              rw [hMi, ← hMj, List.set_set, ← hset]; rfl
            rw [ht, ht1, set_KR, hfin]
            exact gBk (j + 1) (by omega) (by omega)
          · have ej : j = nxN ms x := by unfold nxN; rw [if_pos hxl]; unfold sz4; omega
            rw [ej, upTo_set (d := []) (by rw [hMl, hBl]) (by rw [hBl]; exact hlt) hjm.symm]
            repeat first | refine nx ?_ | intro _
            exact gBk (i + 1) (by unfold sz4 at c5; omega) (by unfold sz4 at c5; omega) (h2 := by rw [← Nat.add_assoc, rowAt_skip (d := fr0) (by rw [List.length_map, hFl]) hlt (by rw [getD_K, hjf, frK_zero])]; (repeat' (first | refine And.intro ?_ ?_ | trivial | rfl | omega)))
      · have ei : i = (ms.getD x md0).start.length := by omega
        repeat first | refine nx ?_ | intro _
        have ei : offN ms x + i = offN ms (x + 1) := by show _ = offN ms x + sz4 ms x; unfold sz4; omega
        rw [ei]
        exact gBk (x + 1) (by omega) (by omega)
    · have ex : x = ms.length := by omega
      subst ex
      repeat first | refine nx ?_ | intro _
      rw [hN, Go.Ear.rowAt_end (by rw [List.length_map, hFl]) (Nat.le_refl _), upTo_end (by rw [hMl, hBl]) (by rw [hBl]; exact Nat.le_refl _), he]
      unfold joinR
      rw [if_pos he]
      unfold joinMd
      rw [← hS.2]
      exact ⟨⟨rfl, rfl, rfl, rfl⟩, rfl⟩
end
end Go.E3
