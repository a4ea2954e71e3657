/- J2: a part of the proofs about package model: how the program's functions run, and what they compute, for every input. -/
import Derived.Test.YtpmndikbfalfoaaGreatJ1
set_option linter.all false
set_option linter.unusedVariables false
set_option maxRecDepth 20000
set_option maxHeartbeats 8000000
set_option synthInstance.maxSize 1000
namespace Go.E3
open Go Go.Ear Go.Proofs
theorem range_snocR {α : Type} (f : Nat → α) (n : Nat) : (List.range n).map f ++ [f n] = (List.range (n + 1)).map f := by rw [List.range_succ, List.map_append]; rfl
theorem repK_zero (n : Nat) : List.replicate n fr0 = (List.replicate n (0 : Rat)).map frK := by rw [List.map_replicate, frK_zero]
section
instance rLeft_c {s k : Nat} : Ct Tryz.prog 57 [iv (s : Int), iv (k : Int)] (1 ≤ s ∧ s ≤ 40 ∧ 1 ≤ k ∧ k ≤ 64) (mv (leftMd s k)) := by
  refine (ctI Tryz.call57 Tryz.func57 Tryz.ntmps57 rfl Tryz.results57 rfl [11, 13, 31, 52] fun h0 w0 ⟨h1, h2, h3, h4⟩ => ?_)
  repeat first | refine nx ?_ | intro _
  rename_i v4 g1 g2 v5 ν1 ν2
  have hS : (List.replicate s fr0).set 0 (frK ((1 : Int) : Rat)) = (leftS s).map frK := by unfold leftS; rw [List.map_set, List.map_replicate, frK_zero]; rfl
  have hF : (List.replicate s fr0).set (s - 1) (frK (((1 : Int) : Rat) / ((2 : Int) : Rat))) = (leftF s).map frK := by unfold leftF; rw [List.map_set, List.map_replicate, frK_zero]; rfl
  rw [hS, hF]
  refine gNm rF 22 31 ?_
  refine gNm rF 22 31 ?_
  refine gLp (fun z : Nat × Value × List Value × Value × List Value => [(6, iv z.1)]) (fun z => [rV v5 [ov g1.v, ov z.2.1, ov g2.v, ov z.2.2.2.1] 25, rA rW 22 z.2.1 z.2.2.1, rZ rF 31 z.2.2.1 (((List.range z.1).map (leftRow s)).map (·.map frK)), rA rW 22 z.2.2.2.1 z.2.2.2.2, rZ rF 31 z.2.2.2.2 (List.replicate z.1 ((List.replicate k (eachQ k)).map frK))]) (fun z => z.1 ≤ s) (fun z => s - z.1) (0, vnil, [], vnil, []) (Nat.zero_le _) (fun ⟨i, mv, vm, yv, vy⟩ hi => ?_)
  dsimp only at hi ⊢
  refine gZl vm fun hvm => ?_
  refine gZl vy fun hvy => ?_
  rw [List.length_map, List.length_map, List.length_range] at hvm
  rw [List.length_replicate] at hvy
  repeat first | refine nx ?_ | intro _
  refine gIf (fun c => ?_) fun c => ?_
  · have hrl : (List.replicate s fr0).length = s := by simp
    have hrl2 : ∀ q : Fr, ((List.replicate s fr0).set i q).length = s := fun q => by simp
    repeat first | refine nx ?_ | intro _
    rename_i g
    have hR : ∀ q : Rat, (List.replicate s fr0).set i (frK q) = ((List.replicate s (0 : Rat)).set i q).map frK := fun q => by rw [List.map_set, List.map_replicate, frK_zero]
    refine gJW [] (rA rF 31 g.v ((leftRow s i).map frK) :: rV v5 [ov g1.v, ov mv, ov g2.v, ov yv] 25 :: rA rW 22 mv vm :: rZ rF 31 vm (((List.range i).map (leftRow s)).map (·.map frK)) :: rA rW 22 yv vy :: rZ rF 31 vy (List.replicate i ((List.replicate k (eachQ k)).map frK)) :: rA rF 31 g2.v ((leftF s).map frK) :: rA rF 31 g1.v ((leftS s).map frK) :: [rV v4 [.cv (.slice none 0 0), .cv (.slice none 0 0), .cv (.slice none 0 0), .cv (.slice none 0 0)] 25]) (fun c1 => ?_) (fun c1 => ?_) ?_
    · repeat first | refine nx ?_ | intro _
      rw [show ((List.replicate s fr0).set i (frK (((1 : Int) : Rat) / ((2 : Int) : Rat)))).set (i + 1) (frK (((1 : Int) : Rat) / ((2 : Int) : Rat))) = (leftRow s i).map frK by rw [hR, ← List.map_set]; unfold leftRow; rw [if_pos c1]; rfl]
      exact gM
    · repeat first | refine nx ?_ | intro _
      rw [show (List.replicate s fr0).set i (frK (((1 : Int) : Rat) / ((2 : Int) : Rat))) = (leftRow s i).map frK by rw [hR]; unfold leftRow; rw [if_neg c1]; rfl]
      exact gM
    repeat first | refine nx ?_ | intro _
    rename_i v2 g3
    have hkl : ∀ q, (Go.Ear.rowAt ((List.replicate k (eachQ k)).map frK) fr0 k q).length = k ∨ k < q := fun q => by
      by_cases e : q ≤ k
      · exact .inl (Go.Ear.rowAt_len (by simp) e)
      · exact .inr (by omega)
    refine gLp (fun j : Nat => [(9, iv j)]) (fun j => [rA rF 31 g3.v (Go.Ear.rowAt ((List.replicate k (eachQ k)).map frK) fr0 k j)]) (fun j => j ≤ k) (fun j => k - j) 0 (Nat.zero_le _) (fun j hj => ?_) (h2 := by rw [Go.Ear.rowAt_zero]; (repeat' (first | refine And.intro ?_ ?_ | trivial | rfl | omega)))
    have hjl : (Go.Ear.rowAt ((List.replicate k (eachQ k)).map frK) fr0 k j).length = k := Go.Ear.rowAt_len (by simp) hj
    repeat first | refine nx ?_ | intro _
    refine gIf (fun c2 => ?_) fun c2 => ?_
    · repeat first | refine nx ?_ | intro _
      rw [Go.Ear.rowAt_set (by simp) c2 (by rw [getD_K, ← Go.Ear.rep_getD (x := eachQ k) (d := 0) c2]; rfl)]
      exact gBk (j + 1) (by omega) (by omega)
    · rw [Go.Ear.rowAt_end (by simp) (by omega)]
      repeat first | refine nx ?_ | intro _
      rename_i v3
      rw [rep_snoc, ← List.map_singleton (f := fun l : List Rat => l.map frK), ← List.map_append, range_snocR]
      exact gBk (i + 1, v2, vm ++ [g.v], v3, vy ++ [g3.v]) (by dsimp only; omega) (by dsimp only; omega)
  · have ei : i = s := by omega
    subst ei
    refine gFz g1.v ?_
    refine gFz g2.v ?_
    refine gFzM mv ?_
    refine gFzM yv ?_
    repeat first | refine nx ?_ | intro _
    refine ⟨rfl, rfl, rfl, ?_⟩
    show List.replicate i _ = (leftY i k).map (·.map frK)
    unfold leftY; simp only [List.map_replicate]
end
abbrev BsT := Value × Value × Value × Value × List Value
@[reducible] def bsR (z : BsT) (S : List Fr) (M : List (List Fr)) (E : List Fr) (Y : List (List Fr)) (B : List Res) : List Res := rA rF 31 z.1 S :: rA rW 22 z.2.1 z.2.2.2.2 :: rZ rF 31 z.2.2.2.2 M :: rA rF 31 z.2.2.1 E :: rA (rL rF) 22 z.2.2.2.1 Y :: B
def bsMi (n : Nat) (ms : List Md) (x i : Nat) : List (List Rat) := bsM n ms x ++ (List.range i).map fun i => rowP n ms x i (sz4 ms x)
def bsEi (ms : List Md) (x i : Nat) : List Rat := bsE ms x ++ (List.range i).map fun i => fiQ (ms.getD x md0) i
theorem bsMi_zero (n : Nat) (ms : List Md) (x : Nat) : bsMi n ms x 0 = bsM n ms x := List.append_nil _
theorem bsEi_zero (ms : List Md) (x : Nat) : bsEi ms x 0 = bsE ms x := List.append_nil _
theorem bsMi_succ (n : Nat) (ms : List Md) (x i : Nat) : bsMi n ms x i ++ [rowP n ms x i (sz4 ms x)] = bsMi n ms x (i + 1) := by unfold bsMi; rw [List.append_assoc, range_snocR]
theorem bsEi_succ (ms : List Md) (x i : Nat) : bsEi ms x i ++ [fiQ (ms.getD x md0) i] = bsEi ms x (i + 1) := by unfold bsEi; rw [List.append_assoc, range_snocR]
theorem bsMi_end (n : Nat) (ms : List Md) (x : Nat) : bsMi n ms x (sz4 ms x) = bsM n ms (x + 1) := rfl
theorem bsEi_end (ms : List Md) (x : Nat) : bsEi ms x (sz4 ms x) = bsE ms (x + 1) := rfl
theorem bsMi_len (n : Nat) (ms : List Md) (x i : Nat) : (bsMi n ms x i).length = offN ms x + i := by unfold bsMi; rw [List.length_append, bsM_len]; simp
theorem bsEi_len (ms : List Md) (x i : Nat) : (bsEi ms x i).length = offN ms x + i := by unfold bsEi; rw [List.length_append, bsE_len]; simp
def bsYi (ms : List Md) (x i : Nat) : List (List Rat) := bsY ms x ++ sayI ms x i
theorem bsYi_zero (ms : List Md) (x : Nat) : bsYi ms x 0 = bsY ms x := List.append_nil _
theorem bsYi_len (ms : List Md) (x i : Nat) : (bsYi ms x i).length = offN ms x + i := by unfold bsYi; rw [List.length_append, bsY_len, sayI_len]
theorem rats_sayC (m : Md) (i : Nat) : ratsL (m.say.getD i []) = sayC m i (m.say.getD i []).length := by
  unfold sayC
  generalize m.say.getD i [] = l
  refine ext_getD 0 (by unfold ratsL; simp) fun j hj => ?_
  have hj2 : j < l.length := by unfold ratsL at hj; simpa using hj
  rw [range_getD _ _ hj2]
  unfold ratsL
  rw [List.getD_eq_getElem?_getD, List.getElem?_map, List.getD_eq_getElem?_getD, List.getElem?_eq_getElem hj2]; rfl
theorem bsYi_succ (ms : List Md) (x i : Nat) : bsYi ms x i ++ [ratsL ((ms.getD x md0).say.getD i [])] = bsYi ms x (i + 1) := by unfold bsYi; rw [List.append_assoc, sayI_succ, rats_sayC]
theorem bsYi_end (ms : List Md) (x : Nat) : bsYi ms x (sz4 ms x) = bsY ms (x + 1) := rfl
theorem sumS_len (ms : List Md) (k : Nat) : offN ms (k + 1) = offN ms k + (ms.getD k md0).start.length := rfl
section
variable {ms : List Md} {B : List Res}
instance rBeside_c [ft : FtX ms] : CtR Tryz.prog 127 [lv rM ms] B (MsOk ms ∧ ∀ m ∈ ms, MdB 10000000 m) BsT (fun z => .ag [ov z.1, ov z.2.1, ov z.2.2.1, ov z.2.2.2.1]) (fun z => bsR z (List.replicate (offN ms ms.length) fr0) ((bsM (offN ms ms.length) ms ms.length).map (·.map frK)) ((bsE ms ms.length).map frK) ((bsY ms ms.length).map (·.map frK)) B) := by
  refine (ctR Tryz.call127 Tryz.func127 Tryz.ntmps127 rfl Tryz.results127 rfl [26, 45] fun h0 w0 ⟨hok, h2⟩ => ?_)
  have hpn := hok.n
  have hpo := hok.off
  have hoL : ∀ x, x < ms.length → offN ms x + sz4 ms x ≤ offN ms ms.length := fun x hx => offN_lt hx
  repeat first | refine nx ?_ | intro _
  refine gLp (fun k : Nat => [(4, iv k), (3, iv (offN ms k))]) (fun k => []) (fun k => k ≤ ms.length) (fun k => ms.length - k) 0 (Nat.zero_le _) (fun k hk => ?_)
  have ho1 := offN_le hok.s k
  have hs1 := hok.s k
  have hsl := sumS_len ms k
  unfold sz4 at hs1
  repeat first | refine nx ?_ | intro _
  refine gIf (fun c => ?_) fun c => ?_
  · repeat first | refine nx ?_ | intro _
    rw [← hsl]
    exact gBk (k + 1) (by omega) (by omega)
  have ek : k = ms.length := by omega
  subst ek
  clear hk c hs1 hsl ho1
  repeat first | refine nx ?_ | intro _
  rename_i v2 g v5
  generalize hN : offN ms ms.length = n at *
  refine gNl (rL rF) 22 ?_
  refine gNl rF 31 ?_
  refine gNm rF 22 31 ?_
  refine gLp (fun z : Nat × Value × List Value × Value × Value => [(7, iv z.1), (6, iv (offN ms z.1))]) (fun z => [rV v5 [ov g.v, ov z.2.1, ov z.2.2.2.1, ov z.2.2.2.2] 25, rA rW 22 z.2.1 z.2.2.1, rZ rF 31 z.2.2.1 ((bsM n ms z.1).map (·.map frK)), rA rF 31 z.2.2.2.1 ((bsE ms z.1).map frK), rA (rL rF) 22 z.2.2.2.2 ((bsY ms z.1).map (·.map frK))]) (fun z => z.1 ≤ ms.length) (fun z => ms.length - z.1) (0, vnil, [], .slice none 0 0, .slice none 0 0) (Nat.zero_le _) (fun ⟨x, mv, vm, ev, yv⟩ hx => ?_)
  dsimp only at hx ⊢
  repeat first | refine nx ?_ | intro _
  refine gIf (fun c => ?_) fun c => ?_
  · have hs40 := hok.s x
    have hol := hoL x c
    have hmb := hok.mb x
    have hfn := hok.fin x c
    unfold sz4 at hs40 hol hfn
    have hsl := sumS_len ms x
    repeat first | refine nx ?_ | intro _
    refine gLp (fun z : Nat × Value × List Value × Value × Value => [(8, iv z.1)]) (fun z => [rV v5 [ov g.v, ov z.2.1, ov z.2.2.2.1, ov z.2.2.2.2] 25, rA rW 22 z.2.1 z.2.2.1, rZ rF 31 z.2.2.1 ((bsMi n ms x z.1).map (·.map frK)), rA rF 31 z.2.2.2.1 ((bsEi ms x z.1).map frK), rA (rL rF) 22 z.2.2.2.2 ((bsYi ms x z.1).map (·.map frK))]) (fun z => z.1 ≤ (ms.getD x md0).start.length) (fun z => (ms.getD x md0).start.length - z.1) (0, mv, vm, ev, yv) (Nat.zero_le _) (fun ⟨i, mv, vm, ev, yv⟩ hi => ?_) (h2 := by dsimp only; rw [bsMi_zero, bsEi_zero, bsYi_zero]; (repeat' (first | refine And.intro ?_ ?_ | trivial | rfl | omega)))
    dsimp only at hi ⊢
    refine gZl vm fun hvm => ?_
    rw [List.length_map, bsMi_len] at hvm
    have hel := bsEi_len ms x i
    have hyl := bsYi_len ms x i
    have hel2 : ((bsEi ms x i).map frK).length = offN ms x + i := by rw [List.length_map]; exact hel
    have hyl2 : ((bsYi ms x i).map (·.map frK)).length = offN ms x + i := by rw [List.length_map]; exact hyl
    repeat first | refine nx ?_ | intro _
    refine gIf (fun c2 => ?_) fun c2 => ?_
    · have hmv := hok.mv x i c c2
      have hsy := hok.say x i c c2
      have hwf := hmb.fb i
      have hwy := hmb.sy i
      have hwy2 : wts ((ms.getD x md0).say.getD i []) ≤ 60000000 := Nat.le_trans hwy (by decide)
      unfold sz4 at hmv
      repeat first | refine nx ?_ | intro _
      rename_i g9
      refine gLp (fun j : Nat => [(10, iv j)]) (fun j => [rA rF 31 g9.v ((rowP n ms x i j).map frK)]) (fun j => j ≤ (ms.getD x md0).start.length) (fun j => (ms.getD x md0).start.length - j) 0 (Nat.zero_le _) (fun j hj => ?_) (h2 := by rw [← rowP_zero, List.map_replicate, frK_zero]; (repeat' (first | refine And.intro ?_ ?_ | trivial | rfl | omega)))
      have hrl : ((rowP n ms x i j).map frK).length = n := by rw [List.length_map]; exact rowP_len ..
      repeat first | refine nx ?_ | intro _
      refine gIf (fun c3 => ?_) fun c3 => ?_
      · have hwm := hmb.mvb i j
        repeat first | refine nx ?_ | intro _
        rw [← List.map_set, show (((ms.getD x md0).move.getD i []).getD j fr0).rat = mvQ ms x i j from rfl, rowP_set (by omega)]
        exact gBk (j + 1) (by omega) (by omega)
      · have ej : j = sz4 ms x := by unfold sz4; omega
        rw [ej]
        repeat first | refine gDz 15 12 (by rfl) (by kernel_rfl) ?_ | refine nx ?_ | intro _
        rename_i w1 ν1 w2 ν2 w3
        have e1 : (bsYi ms x i).map (·.map frK) ++ [(ratsL ((ms.getD x md0).say.getD i [])).map frK] = (bsYi ms x (i + 1)).map (·.map frK) := by rw [← bsYi_succ, List.map_append]; rfl
        have e2 : (bsEi ms x i).map frK ++ [frK ((ms.getD x md0).fin.getD i fr0).rat] = (bsEi ms x (i + 1)).map frK := by rw [← bsEi_succ, List.map_append]; rfl
        have e3 : (bsMi n ms x i).map (·.map frK) ++ [(rowP n ms x i (sz4 ms x)).map frK] = (bsMi n ms x (i + 1)).map (·.map frK) := by rw [← bsMi_succ, List.map_append]; rfl
        rw [e1, e2, e3]
        exact gBk (i + 1, w1, vm ++ [g9.v], w2, w3) (by dsimp only; omega) (by dsimp only; omega)
    · have ei : i = sz4 ms x := by unfold sz4; omega
      rw [ei, bsMi_end, bsEi_end, bsYi_end]
      repeat first | refine nx ?_ | intro _
      rw [show offN ms x + (ms.getD x md0).start.length = offN ms (x + 1) from rfl]
      exact gBk (x + 1, mv, vm, ev, yv) (by dsimp only; omega) (by dsimp only; omega)
  · have ex : x = ms.length := by omega
    subst ex
    repeat first | refine nx ?_ | intro _
    exact gEr (σ := BsT) (g.v, mv, ev, yv, vm)
end
end Go.E3
