/- Q1: a part of the proofs about package model: how the program's functions run, and what they compute, for every input. -/
import Derived.Test.YtpmndikbfalfoaaGreatK11
import Derived.Test.YtpmndikbfalfoaaGreatP8
import Derived.Test.YtpmndikbfalfoaaGreatEarT15
set_option linter.all false
set_option linter.unusedVariables false
set_option maxRecDepth 20000
set_option maxHeartbeats 16000000
set_option synthInstance.maxSize 1000
namespace Go.E3
open Go Go.Ear Go.Proofs
theorem gDwL {P : Program} {n : Nat} {X : Fix} {ms : List Nat} {loc env : EL} {B : List Res} {k : Kt} (sz : Nat) (lt : Nat → Bool) (m : Nat) {ol : List Oper} {id : Nat} [mx : MixO P] (hs : Nat.beq ol.length sz = true) (c : (dagC ol m (env.map (·.1)) && ol.all noDefer) = true) (g : GE P n X ms [] env B ol ol k lt m 0 (fun _ => []) []) : GW P n X ms loc env B (.region id ol.toArray true) k := gDrL lt m c g
def rowsP (t : Tr) (k i : Nat) : List (List Rat) := (List.range t.o.length).map fun r => if r < k then postR t r else if r = k then (postR t r).take i else []
theorem rowsP_len (t : Tr) (k i : Nat) : (rowsP t k i).length = t.o.length := by simp [rowsP]
theorem rowsP_zero (t : Tr) : rowsP t 0 0 = List.replicate t.o.length [] := by
  refine ext_getD [] (by rw [rowsP_len, List.length_replicate]) fun r hr => ?_
  rw [rowsP_len] at hr
  rw [rowsP, range_getD _ _ hr, if_neg (by omega), List.take_zero, ite_self, ← Go.Ear.rep_getD hr]
theorem rowsP_at {t : Tr} {k i : Nat} (hk : k < t.o.length) : (rowsP t k i).getD k [] = (postR t k).take i := by rw [rowsP, range_getD _ _ hk, if_neg (by omega), if_pos rfl]
theorem rowsP_set {t : Tr} {k i : Nat} (hk : k < t.o.length) (hi : i < t.m.start.length) : (rowsP t k i).set k ((rowsP t k i).getD k [] ++ [pY t i k]) = rowsP t k (i + 1) := by
  refine ext_getD [] (by rw [List.length_set, rowsP_len, rowsP_len]) fun r hr => ?_
  rw [List.length_set, rowsP_len] at hr
  have hp : (postR t k).take i ++ [pY t i k] = (postR t k).take (i + 1) := by
    rw [List.take_add_one, List.getElem?_eq_getElem (by rw [postR_len]; exact hi)]
    unfold postR
    rw [List.getElem_map, List.getElem_range]; rfl
  by_cases e : k = r
  · subst e
    rw [getD_set_is (by rw [rowsP_len]; exact hr), rowsP_at hr, rowsP_at hr, hp]
  · rw [getD_set_ne' e, rowsP, range_getD _ _ hr, rowsP, range_getD _ _ hr]
    by_cases h1 : r < k
    · rw [if_pos h1, if_pos h1]
    · rw [if_neg h1, if_neg h1, if_neg (fun x => e x.symm), if_neg (fun x => e x.symm)]
theorem rowsP_next (t : Tr) (k : Nat) : rowsP t k t.m.start.length = rowsP t (k + 1) 0 := by
  refine List.map_congr_left fun r _ => ?_
  by_cases h1 : r < k
  · rw [if_pos h1, if_pos (by omega)]
  · by_cases h2 : r = k
    · rw [if_neg h1, if_pos h2, if_pos (by omega), List.take_of_length_le (by rw [postR_len]; exact Nat.le_refl _)]
    · rw [if_neg h1, if_neg h2, if_neg (by omega), List.take_zero, ite_self]
theorem rowsP_end (t : Tr) (i : Nat) : rowsP t t.o.length i = postT t := by
  refine List.map_congr_left fun r hr => if_pos (List.mem_range.1 hr)
theorem nil_KR (n : Nat) : List.replicate n ([] : List Fr) = (List.replicate n ([] : List Rat)).map (·.map frK) := by rw [List.map_replicate]; rfl
section
variable {m : Md} {o : List Int} {S T : SV}
instance Posterior_c [i : VM S m] [j : Vw (lv rI) T o] : Ct Tryz.prog 50 [S, T] ((o.length ≤ 1099511627776 ∧ MdB 10000000 m) ∧ (checkE [m] [o] = 0 → MdB 100000 m ∧ FwB ⟨m, o⟩ ∧ BwB ⟨m, o⟩ ∧ bq (lk ⟨m, o⟩) ≤ 60000000)) (.tp [kkR (postM m o), iv (postE m o)]) := by
  haveI := i.t
  refine ct2 i.v j (ctI Tryz.call50 Tryz.func50 Tryz.ntmps50 rfl Tryz.results50 rfl [40] fun h0 w0 ⟨⟨h1, h2⟩, h3⟩ => ?_)
  have hx := one_mdb h2
  have ho := one_len h1
  repeat first | refine nx ?_ | intro _
  refine gIf (fun c => ?_) fun c => ?_
  · repeat first | refine nx ?_ | intro _
    have e1 : postE m o = checkE [m] [o] := if_pos c
    have e2 : postM m o = [] := if_neg (by rw [e1]; exact c)
    rw [e1, e2]; (repeat' (first | refine And.intro ?_ ?_ | trivial | rfl | omega))
  have hE : checkE [m] [o] = 0 := Classical.not_not.1 c
  have ⟨hb, hf, hbw, hlq⟩ := h3 hE
  have tk := checkE_TOk hE
  have hn := tk.n
  have hs40 := tk.s40
  have hfL := fwdAll_len ⟨m, o⟩
  have hbL := bwdAll_len ⟨m, o⟩
  dsimp only at hn hs40 hfL hbL
  have a1 : (fwdAll ⟨m, o⟩).length ≤ 1048576 := by omega
  have a2 : m.start.length ≤ 1048576 := by omega
  have a3 := tk.fin
  have a4 := lik_len ⟨m, o⟩
  dsimp only at a3
  have a5 : ∃ b, (∀ i, i < m.start.length → bq (((fwdAll ⟨m, o⟩).getD ((fwdAll ⟨m, o⟩).length - 1) []).getD i 0) + bf (m.fin.getD i fr0) ≤ b) ∧ m.start.length * (b + 1) ≤ 60000000 := ⟨400001, fun i _ => lik_bd hf hb i, by omega⟩
  have hlq2 : bq (likT ⟨m, o⟩ (fwdAll ⟨m, o⟩)) ≤ 60000000 := hlq
  have tw : TW ⟨m, o⟩ := twOf hb
  repeat first | refine nx ?_ | intro _
  refine gIf (fun c2 => ?_) fun c2 => ?_
  · have hz : lk ⟨m, o⟩ = 0 := sgQ_zero.1 c2
    have e1 : postE m o = 7 := by unfold postE; rw [if_neg (fun x => x hE), if_pos hz]
    have e2 : postM m o = [] := if_neg (by rw [e1]; decide)
    repeat first | refine nx ?_ | intro _
    rw [e1, e2]; (repeat' (first | refine And.intro ?_ ?_ | trivial | rfl | omega))
  have hz : ¬ lk ⟨m, o⟩ = 0 := fun e => c2 (sgQ_zero.2 e)
  have e1 : postE m o = 0 := by unfold postE; rw [if_neg (fun x => x hE), if_neg hz]
  have e2 : postM m o = postT ⟨m, o⟩ := if_pos e1
  rw [e1, e2]
  clear e1 e2 c c2 hx ho h3 a1 a2 a4 a5
  have hlk : likT ⟨m, o⟩ (fwdAll ⟨m, o⟩) = lk ⟨m, o⟩ := rfl
  rw [hlk]
  clear hlq2
  repeat first | refine nx ?_ | intro _
  rename_i v10 out
  have hrep : (List.replicate o.length vnil).length = o.length := by simp
  rw [nil_KR, ← rowsP_zero ⟨m, o⟩]
  refine gLp (fun s : Nat × List Value => [(43, iv s.1)]) (fun s => [rA rW 22 out s.2, rZ rF 31 s.2 ((rowsP ⟨m, o⟩ s.1 0).map (·.map frK))]) (fun s => s.1 ≤ o.length ∧ s.2.length = o.length) (fun s => o.length - s.1) (0, List.replicate o.length vnil) ⟨Nat.zero_le _, by simp⟩ (fun ⟨k, vs⟩ ⟨hk, hvs⟩ => ?_)
  dsimp only at hk hvs ⊢
  repeat first | refine nx ?_ | intro _
  refine gIf (fun ck => ?_) fun ck => ?_
  · repeat first | refine nx ?_ | intro _
    refine gLp (fun s : Nat × List Value => [(49, iv s.1)]) (fun s => [rA rW 22 out s.2, rZ rF 31 s.2 ((rowsP ⟨m, o⟩ k s.1).map (·.map frK))]) (fun s => s.1 ≤ m.start.length ∧ s.2.length = o.length) (fun s => m.start.length - s.1) (0, vs) ⟨Nat.zero_le _, hvs⟩ (fun ⟨i, vs⟩ ⟨hi, hvs⟩ => ?_)
    dsimp only at hi hvs ⊢
    repeat first | refine nx ?_ | intro _
    refine gIf (fun ci => ?_) fun ci => ?_
    · have ck : k < o.length := by omega
      have f1 := hf.all k i
      have f2 := hbw.all k i
      have f3 := Nat.le_trans (bq_mul (((fwdAll ⟨m, o⟩).getD k []).getD i 0) (((bwdAll ⟨m, o⟩).getD k []).getD i 0)) (Nat.add_le_add f1 f2)
      have f4 : m.start.length ≤ (((fwdAll ⟨m, o⟩).map (·.map frK)).getD k []).length := by rw [len_KR, fwdRow_len (t := ⟨m, o⟩) ck]; exact Nat.le_refl _
      have f5 : m.start.length ≤ (((bwdAll ⟨m, o⟩).map (·.map frK)).getD k []).length := by rw [len_KR, bwdRow_len (t := ⟨m, o⟩) ck]; exact Nat.le_refl _
      have f6 : ((fwdAll ⟨m, o⟩).map (·.map frK)).length = o.length := by rw [List.length_map]; exact hfL
      have f7 : ((bwdAll ⟨m, o⟩).map (·.map frK)).length = o.length := by rw [List.length_map]; exact hbL
      have hY := pY_eq (t := ⟨m, o⟩) (i := i) ck
      have hrl := rowsP_len ⟨m, o⟩ k i
      have hra := rowsP_at (t := ⟨m, o⟩) (k := k) (i := i) ck
      have hrs := rowsP_set (t := ⟨m, o⟩) (k := k) (i := i) ck ci
      dsimp only at hrl
      have hrk : (((rowsP ⟨m, o⟩ k i).map (·.map frK)).getD k []).length = i := by rw [len_KR, hra, List.length_take, postR_len]; dsimp only; omega
      have hrl2 : ((rowsP ⟨m, o⟩ k i).map (·.map frK)).length = o.length := by rw [List.length_map]; exact hrl
      repeat first | refine gDwL 23 (fun j => Nat.beq j 19) 22 (by rfl) (by kernel_rfl) ?_ | refine gDwL 11 (fun j => Nat.ble j 1) 9 (by rfl) (by kernel_rfl) ?_ | refine nx ?_ | intro _
      rename_i v'
      have hfin : ((((rowsP ⟨m, o⟩ k i).map (·.map frK)).set k []).set k (((rowsP ⟨m, o⟩ k i).map (·.map frK)).getD k [] ++ [frK (((fwdAll ⟨m, o⟩).getD k []).getD i 0 * ((bwdAll ⟨m, o⟩).getD k []).getD i 0 / lk ⟨m, o⟩)])) = (rowsP ⟨m, o⟩ k (i + 1)).map (·.map frK) := by
        rw [hY, List.set_set, map_getDR, ← hrs, List.map_set, List.map_append]; rfl
      rw [hfin]
      exact gBk (i + 1, vs.set k v') ⟨by dsimp only; omega, by dsimp only; rw [List.length_set]; exact hvs⟩ (by dsimp only; omega)
    · have ei : i = m.start.length := by omega
      subst ei
      rw [rowsP_next ⟨m, o⟩ k]
      repeat first | refine nx ?_ | intro _
      exact gBk (k + 1, vs) ⟨by dsimp only; omega, hvs⟩ (by dsimp only; omega)
  · have ek : k = o.length := by omega
    subst ek
    rw [rowsP_end ⟨m, o⟩]
    refine gFzM out ?_
    repeat first | refine nx ?_ | intro _
    (repeat' (first | refine And.intro ?_ ?_ | trivial | rfl | omega))
end
end Go.E3
