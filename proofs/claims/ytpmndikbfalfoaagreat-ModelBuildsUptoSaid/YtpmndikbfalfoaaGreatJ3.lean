/- J3: a part of the proofs about package model: how the program's functions run, and what they compute, for every input. -/
import Derived.Test.YtpmndikbfalfoaaGreatJ2
set_option linter.all false
set_option linter.unusedVariables false
set_option maxRecDepth 20000
set_option maxHeartbeats 8000000
set_option synthInstance.maxSize 1000
namespace Go.E3
open Go Go.Ear Go.Proofs
section
variable {ms : List Md} {ws : List Fr} {S T : SV}
instance rMix_c [j : VL S ws] [i : VX T ms] : Ct Tryz.prog 62 [S, T] (MsOk ms ∧ (∀ m ∈ ms, MdB 10000000 m) ∧ ws.length = ms.length ∧ wts ws ≤ 10000000) (mv (Go.Ear.mdK (mixS ws ms ms.length) (bsM (offN ms ms.length) ms ms.length) (bsE ms ms.length) (bsY ms ms.length))) := by
  haveI := i.t
  haveI := j.t
  refine ct2 j.v i.v (ctI Tryz.call62 Tryz.func62 Tryz.ntmps62 rfl Tryz.results62 rfl [] fun h0 w0 ⟨hok, h2, h3, h4⟩ => ?_)
  have hpn := hok.n
  have hpo := hok.off
  have hoL : ∀ x, x < ms.length → offN ms x + sz4 ms x ≤ offN ms ms.length := fun x hx => offN_lt hx
  have hl := mixS_len ws ms ms.length
  repeat first | refine nx ?_ | intro _
  rename_i v4 z v5
  obtain ⟨a, mv, e, y, vm⟩ := z
  dsimp only [bsR]
  generalize hN : offN ms ms.length = n at *
  refine gLp (fun x : Nat => [(7, iv x), (6, iv (offN ms x))]) (fun x => [rA rF 31 a (Go.Ear.rowAt ((mixS ws ms ms.length).map frK) fr0 n (offN ms x))]) (fun x => x ≤ ms.length) (fun x => ms.length - x) 0 (Nat.zero_le _) (fun x hx => ?_) (h2 := by rw [show offN ms 0 = 0 from rfl, Go.Ear.rowAt_zero]; (repeat' (first | refine And.intro ?_ ?_ | trivial | rfl | omega)))
  repeat first | refine nx ?_ | intro _
  refine gIf (fun c => ?_) fun c => ?_
  · have hs40 := hok.s x
    have hol := hoL x c
    have hmb := hok.mb x
    have hws := wts_bf h4 x
    have c' : x < ws.length := by omega
    unfold sz4 at hs40 hol
    repeat first | refine nx ?_ | intro _
    refine gLp (fun i : Nat => [(8, iv i)]) (fun i => [rA rF 31 a (Go.Ear.rowAt ((mixS ws ms ms.length).map frK) fr0 n (offN ms x + i))]) (fun i => i ≤ (ms.getD x md0).start.length) (fun i => (ms.getD x md0).start.length - i) 0 (Nat.zero_le _) (fun i hi => ?_)
    have hl1 : (Go.Ear.rowAt ((mixS ws ms ms.length).map frK) fr0 n (offN ms x + i)).length = n := Go.Ear.rowAt_len (by rw [List.length_map, hl]) (by omega)
    repeat first | refine nx ?_ | intro _
    refine gIf (fun c2 => ?_) fun c2 => ?_
    · have hws2 := hmb.sb i
      repeat first | refine gDz 20 18 (by rfl) (by kernel_rfl) ?_ | refine nx ?_ | intro _
      rw [Go.Ear.rowAt_set (by rw [List.length_map, hl]) (by omega) (by rw [getD_K, mixS_at (by unfold sz4; exact c2) c])]
      exact gBk (i + 1) (by omega) (by omega)
    · have ei : i = (ms.getD x md0).start.length := by omega
      subst ei
      repeat first | refine nx ?_ | intro _
      rw [show offN ms x + (ms.getD x md0).start.length = offN ms (x + 1) from rfl]
      exact gBk (x + 1) (by omega) (by omega)
  · have ex : x = ms.length := by omega
    subst ex
    rw [hN, Go.Ear.rowAt_end (by rw [List.length_map, hl]) (Nat.le_refl _)]
    refine gFz a ?_
    refine gFz e ?_
    refine gFz y ?_
    refine gFzM mv ?_
    repeat first | refine nx ?_ | intro _
    exact ⟨rfl, rfl, rfl, rfl⟩
instance rJoin_c [i : VX T ms] : Ct Tryz.prog 60 [T] (MsOk ms ∧ (∀ m ∈ ms, MdB 10000000 m) ∧ 0 < ms.length) (mv (Go.Ear.mdK (joinS ms) (joinM (offN ms ms.length) ms) (joinF ms) (bsY ms ms.length))) := by
  haveI := i.t
  refine ct1 i.v (ctI Tryz.call60 Tryz.func60 Tryz.ntmps60 rfl Tryz.results60 rfl [] fun h0 w0 ⟨hok, h2, hL0⟩ => ?_)
  have hpn := hok.n
  have hpo := hok.off
  have hoL : ∀ x, x < ms.length → offN ms x + sz4 ms x ≤ offN ms ms.length := fun x hx => offN_lt hx
  have hsl := joinS_len (ms := ms)
  have hFl := joinF_len (ms := ms)
  have hMl := joinM_len (ms := ms) (n := offN ms ms.length)
  have hBl := bsM_len (offN ms ms.length) ms ms.length
  have hEl := bsE_len ms ms.length
  repeat first | refine nx ?_ | intro _
  rename_i v2 z v3
  obtain ⟨a, mv, e, y, vm⟩ := z
  dsimp only [bsR]
  generalize hN : offN ms ms.length = n at *
  refine gLp (fun x : Nat => [(5, iv x), (4, iv (offN ms x))]) (fun x => [rA rF 31 a (Go.Ear.rowAt ((joinS ms).map frK) fr0 n (offN ms x)), rZ rF 31 vm ((upTo (joinM n ms) (bsM n ms ms.length) (offN ms x)).map (·.map frK)), rA rF 31 e ((upTo (joinF ms) (bsE ms ms.length) (offN ms x)).map frK)]) (fun x => x ≤ ms.length) (fun x => ms.length - x) 0 (Nat.zero_le _) (fun x hx => ?_) (h2 := by rw [show offN ms 0 = 0 from rfl, Go.Ear.rowAt_zero, upTo_zero, upTo_zero]; (repeat' (first | refine And.intro ?_ ?_ | trivial | rfl | omega)))
  repeat first | refine nx ?_ | intro _
  refine gIf (fun c => ?_) fun c => ?_
  · have hs40 := hok.s x
    have hol := hoL x c
    have hmb := hok.mb x
    unfold sz4 at hs40 hol
    repeat first | refine nx ?_ | intro _
    refine gLp (fun i : Nat => [(7, iv ((offN ms x + i : Nat) : Int))]) (fun i => [rA rF 31 a (Go.Ear.rowAt ((joinS ms).map frK) fr0 n (offN ms x + i)), rZ rF 31 vm ((upTo (joinM n ms) (bsM n ms ms.length) (offN ms x + i)).map (·.map frK)), rA rF 31 e ((upTo (joinF ms) (bsE ms ms.length) (offN ms x + i)).map frK)]) (fun i => i ≤ (ms.getD x md0).start.length) (fun i => (ms.getD x md0).start.length - i) 0 (Nat.zero_le _) (fun i hi => ?_)
    refine gZl vm fun hvm => ?_
    have hul := upTo_len (r := joinM n ms) (l := bsM n ms ms.length) (i := offN ms x + i) (by rw [hMl, hBl])
    have hue := upTo_len (r := joinF ms) (l := bsE ms ms.length) (i := offN ms x + i) (by rw [hFl, hEl])
    rw [hBl] at hul
    rw [hEl] at hue
    rw [List.length_map, hul] at hvm
    have hl1 : (Go.Ear.rowAt ((joinS ms).map frK) fr0 n (offN ms x + i)).length = n := Go.Ear.rowAt_len (by rw [List.length_map, hsl]) (by omega)
    repeat first | refine nx ?_ | intro _
    refine gIf (fun c2 => ?_) fun c2 => ?_
    · have c5 : i < sz4 ms x := by unfold sz4; omega
      have hlt : offN ms x + i < n := by unfold sz4 at c5; omega
      repeat first | refine nx ?_ | intro _
      have hjs := joinS_at (ms := ms) (d := 0) c c5
      have hjf := joinF_at (ms := ms) (d := 0) c c5
      have hjm := joinM_at (ms := ms) (n := n) (d := []) c c5
      have hr0 := bsM_row (n := n) (d := []) c c5
      have he0 : (bsE ms ms.length).getD (offN ms x + i) 0 = fiQ (ms.getD x md0) i := bsE_at c5 c
      have hg0 := upTo_get (r := joinM n ms) (l := bsM n ms ms.length) (i := offN ms x + i) (d := []) (by rw [hMl, hBl]) (by rw [hBl]; exact hlt)
      have hg1 := upTo_get (r := joinF ms) (l := bsE ms ms.length) (i := offN ms x + i) (d := 0) (by rw [hFl, hEl]) (by rw [hEl]; exact hlt)
      rw [hr0] at hg0
      rw [he0] at hg1
      refine gJW [] (rA rF 31 a (Go.Ear.rowAt ((joinS ms).map frK) fr0 n (offN ms x + (i + 1))) :: rZ rF 31 vm ((upTo (joinM n ms) (bsM n ms ms.length) (offN ms x + i)).map (·.map frK)) :: rA rF 31 e ((upTo (joinF ms) (bsE ms ms.length) (offN ms x + i)).map frK) :: rV v3 [ov a, ov mv, ov e, ov y] 25 :: rA rW 22 mv vm :: rA (rL rF) 22 y ((bsY ms ms.length).map (·.map frK)) :: [rV v2 [.cv (.slice none 0 0), .cv (.slice none 0 0), .cv (.slice none 0 0), .cv (.slice none 0 0)] 25]) (fun c1 => ?_) (fun c1 => ?_) ?_
      · rw [if_pos c1] at hjs
        subst c1
        have hz : offN ms 0 + i = i := by rw [show offN ms 0 = 0 from rfl, Nat.zero_add]
        have hmb0 := hmb.sb (offN ms 0 + i)
        have c6 : offN ms 0 + i < (ms.getD 0 md0).start.length := by rw [hz]; exact c5
        have hq : ((ms.getD 0 md0).start.getD (offN ms 0 + i) fr0).rat = (joinS ms).getD (offN ms 0 + i) 0 := by rw [hjs, hz]; rfl
        repeat first | refine gDz 13 11 (by rfl) (by kernel_rfl) ?_ | refine nx ?_ | intro _
        rw [hq, Go.Ear.rowAt_set (by rw [List.length_map, hsl]) hlt (by rw [getD_K])]
        exact gM
      · rw [if_neg c1] at hjs
        rw [← rowAt_skip (d := fr0) (by rw [List.length_map, hsl]) hlt (by rw [getD_K, hjs, frK_zero])]
        repeat first | refine nx ?_ | intro _
        exact gM
      repeat first | refine nx ?_ | intro _
      refine gIf (fun c3 => ?_) fun c3 => ?_
      · rw [if_pos c3] at hjf
        have hol1 := hoL (x + 1) c3
        have hmb1 := hok.mb (x + 1)
        have hs41 := hok.s (x + 1)
        have hox : offN ms (x + 1) = offN ms x + (ms.getD x md0).start.length := rfl
        unfold sz4 at hol1 hs41
        have hfb := hmb.fb i
        have hfq : bq ((upTo (joinF ms) (bsE ms ms.length) (offN ms x + i)).getD (offN ms x + i) 0) ≤ 10000001 := by
          rw [hg1]; exact Nat.le_trans (FtS.bqg (l := (ms.getD x md0).fin) inferInstance i) hfb
        repeat first | refine nx ?_ | intro _
        refine gLp (fun j : Nat => [(8, iv j)]) (fun j => [rZ rF 31 vm (((upTo (joinM n ms) (bsM n ms ms.length) (offN ms x + i)).set (offN ms x + i) (jnP n ms x i j)).map (·.map frK))]) (fun j => j ≤ (ms.getD (x + 1) md0).start.length) (fun j => (ms.getD (x + 1) md0).start.length - j) 0 (Nat.zero_le _) (fun j hj => ?_) (h2 := by rw [← hg0, set_getD]; (repeat' (first | refine And.intro ?_ ?_ | trivial | rfl | omega)))
        have hMi : ((upTo (joinM n ms) (bsM n ms ms.length) (offN ms x + i)).set (offN ms x + i) (jnP n ms x i j)).getD (offN ms x + i) [] = jnP n ms x i j := getD_set_is (by omega)
        have hML : ((upTo (joinM n ms) (bsM n ms ms.length) (offN ms x + i)).set (offN ms x + i) (jnP n ms x i j)).length = n := by rw [List.length_set]; exact hul
        have hpl := jnP_len n ms x i j
        repeat first | refine nx ?_ | intro _
        refine gIf (fun c7 => ?_) fun c7 => ?_
        · have hset := jnP_set (n := n) (ms := ms) (x := x) (i := i) (j := j) (by omega)
          generalize hMj : (upTo (joinM n ms) (bsM n ms ms.length) (offN ms x + i)).set (offN ms x + i) (jnP n ms x i j) = Mj at hMi hML ⊢
          have k1 : ((Mj.map (·.map frK)).getD (offN ms x + i) []).length = n := by rw [len_KR, hMi]; exact hpl
          have k2 : (Mj.map (·.map frK)).length = n := by rw [List.length_map]; exact hML
          have k3 : ((upTo (joinF ms) (bsE ms ms.length) (offN ms x + i)).map frK).length = n := by rw [List.length_map]; exact hue
          have hws := hmb1.sb j
          repeat first | refine gDz 25 23 (by rfl) (by kernel_rfl) ?_ | refine nx ?_ | intro _
          have hfin : Mj.set (offN ms x + i) ((Mj.getD (offN ms x + i) []).set (offN ms x + (ms.getD x md0).start.length + j) ((upTo (joinF ms) (bsE ms ms.length) (offN ms x + i)).getD (offN ms x + i) 0 * ((ms.getD (x + 1) md0).start.getD j fr0).rat)) = (upTo (joinM n ms) (bsM n ms ms.length) (offN ms x + i)).set (offN ms x + i) (jnP n ms x i (j + 1)) := by
            rw [hg1, hMi, ← hMj, List.set_set, ← hset]; rfl
          rw [set_KR, hfin]
          exact gBk (j + 1) (by omega) (by omega)
        · have ej : j = nxN ms x := by unfold nxN; rw [if_pos c3]; unfold sz4; omega
          have k3 : ((upTo (joinF ms) (bsE ms ms.length) (offN ms x + i)).map frK).length = n := by rw [List.length_map]; exact hue
          rw [ej, upTo_set (d := []) (by rw [hMl, hBl]) (by rw [hBl]; exact hlt) hjm.symm]
          repeat first | refine nx ?_ | intro _
          rw [show (⟨false, [], []⟩ : Fr) = frK 0 from frK_zero.symm, ← List.map_set, upTo_set (d := 0) (by rw [hFl, hEl]) (by rw [hEl]; exact hlt) hjf.symm]
          exact gBk (i + 1) (by omega) (by omega)
      · rw [if_neg c3] at hjf
        have hjm2 : jnP n ms x i (nxN ms x) = jnP n ms x i 0 := by unfold nxN; rw [if_neg c3]
        repeat first | refine nx ?_ | intro _
        exact gBk (i + 1) (by omega) (by omega) (h2 := by rw [← Nat.add_assoc, upTo_skip (d := []) (by rw [hMl, hBl]) (by rw [hBl]; exact hlt) (by rw [hjm, hr0, hjm2]), upTo_skip (d := 0) (by rw [hFl, hEl]) (by rw [hEl]; exact hlt) (by rw [hjf, he0])]; (repeat' (first | refine And.intro ?_ ?_ | trivial | rfl | omega)))
    · have ei : i = (ms.getD x md0).start.length := by omega
      subst ei
      repeat first | refine nx ?_ | intro _
      rw [show offN ms x + (ms.getD x md0).start.length = offN ms (x + 1) from rfl]
      exact gBk (x + 1) (by omega) (by omega)
  · have ex : x = ms.length := by omega
    subst ex
    rw [hN, Go.Ear.rowAt_end (by rw [List.length_map, hsl]) (Nat.le_refl _), upTo_end (by rw [hMl, hBl]) (by rw [hBl]; exact Nat.le_refl _), upTo_end (by rw [hFl, hEl]) (by rw [hEl]; exact Nat.le_refl _)]
    refine gFz a ?_
    refine gFz e ?_
    refine gFz y ?_
    refine gFzM mv ?_
    repeat first | refine nx ?_ | intro _
    exact ⟨rfl, rfl, rfl, rfl⟩
end
end Go.E3
