/- K7: a part of the proofs about package model: how the program's functions run, and what they compute, for every input. -/
import Derived.Test.YtpmndikbfalfoaaGreatK6
import Derived.Test.YtpmndikbfalfoaaGreatK2
set_option linter.all false
set_option linter.unusedVariables false
set_option maxRecDepth 20000
namespace Go.E3
open Go Go.Ear Go.Proofs
instance digit_c {a A : Nat} {i : Int} {S : SV} [s : Vw nv S a] [p : Sz a A] {j : Nat} {sd : Prop} [tn : TN i j sd] : Ct Tryz.prog 224 [S, iv i] (sd ∧ A ≤ 1073741824) (.cv (.int .u64 (((digs a).getD j 0 : Nat) : Int))) := by
  refine ct1 s (ctI Tryz.call224 Tryz.func224 Tryz.ntmps224 rfl Tryz.results224 rfl [] fun h0 w0 hs => ?_)
  have hp := p.h
  unfold sz at hp
  have hf := (digs_fit a).getD j
  rw [tn.e hs.1]
  repeat refine nx ?_
  refine gIf (fun c => ?_) fun c => ?_ <;> repeat refine nx ?_
  · rw [getD_ge (by omega)]; rfl
  · trivial
instance add_c {a b A B : Nat} {S T : SV} [i : Vw nv S a] [j : Vw nv T b] [p : Sz a A] [q : Sz b B] : Ct Tryz.prog 205 [S, T] (A ≤ 1073741824 ∧ B ≤ 1073741824) (nv (a + b)) := by
  refine ct2 i j (ctI Tryz.call205 Tryz.func205 Tryz.ntmps205 rfl Tryz.results205 rfl [] fun h0 w0 hl => ?_)
  have hp0 := p.h
  have hp1 := q.h
  unfold sz at hp0 hp1
  repeat first | refine nx ?_ | intro _
  rename_i v
  generalize hN : max (digs a).length (digs b).length + 1 = N
  simp only [List.length_replicate]
  refine gLp (fun s : Nat × Nat × List Nat => [(17, iv s.1), (6, .cv (.int .u64 (s.2.1 : Int)))]) (fun s => [rA rU 175 v s.2.2]) (fun s => s.1 ≤ N ∧ s.2.2.length = N ∧ Fit s.2.2 ∧ s.2.1 ≤ 1 ∧ val (s.2.2.take s.1) + s.2.1 * B32 ^ s.1 = val ((digs a).take s.1) + val ((digs b).take s.1)) (fun s => N - s.1) (0, 0, List.replicate N 0) ⟨Nat.zero_le _, List.length_replicate, Fit.replicate _, Nat.zero_le _, by simp [val]⟩ fun ⟨k, c, out⟩ ⟨hk, hl, hf, hc, hv⟩ => ?_
  have bda := (digs_fit a).getD k
  have bdb := (digs_fit b).getD k
  dsimp only at *
  haveI : FtL out := ⟨hf⟩
  repeat first | refine nx ?_ | intro _
  refine gIf (fun c1 => ?_) fun c1 => ?_ <;> repeat first | refine nx ?_ | intro _
  · refine gJ [(6, .cv (.int .u64 ((c + (digs a).getD k 0 : Nat) : Int)))] (fun c2 => ?_) (fun c2 => ?_) ?_ <;> repeat first | refine nx ?_ | intro _
    · exact gM
    · exact gM (by rw [getD_ge (by omega)]; exact ⟨rfl, by trivial⟩)
    · refine gJ [(6, .cv (.int .u64 ((c + (digs a).getD k 0 + (digs b).getD k 0 : Nat) : Int)))] (fun c3 => ?_) (fun c3 => ?_) ?_ <;> repeat first | refine nx ?_ | intro _
      · exact gM
      · exact gM (by rw [getD_ge (l := digs b) (by omega)]; exact ⟨rfl, by trivial⟩)
      · exact gBk (k + 1, (c + (digs a).getD k 0 + (digs b).getD k 0) / 2 ^ 32, out.set k ((c + (digs a).getD k 0 + (digs b).getD k 0) % 4294967296)) ⟨by omega, by rw [List.length_set]; exact hl, hf.set _ _ (Nat.mod_lt _ (by decide)), by have : (2:Nat)^32 = 4294967296 := rfl; dsimp only; omega, add_step (by omega) hv⟩ (by dsimp only; omega)
  · rw [add_close (by omega) (by rw [hl, hN]) hv]
end Go.E3
set_option linter.unusedVariables false
set_option maxRecDepth 20000
set_option synthInstance.maxSize 1000
namespace Go.E3
open Go Go.Ear Go.Proofs
instance sub_c {a b A B : Nat} {S T : SV} [i : Vw nv S a] [j : Vw nv T b] [p : Sz a A] [q : Sz b B] : Ct Tryz.prog 206 [S, T] (A ≤ 1073741824 ∧ B ≤ 1073741824 ∧ b ≤ a) (nv (a - b)) := by
  refine ct2 i j (ctI Tryz.call206 Tryz.func206 Tryz.ntmps206 rfl Tryz.results206 rfl [11] fun h0 w0 hl => ?_)
  have hp0 := p.h
  have hp1 := q.h
  have hsz := sz_mono hl.2.2
  unfold sz at hp0 hp1 hsz
  repeat first | refine nx ?_ | intro _
  rename_i v
  obtain ⟨v, _⟩ := v
  dsimp only
  refine gLp (fun s : Nat × Nat × List Nat => [(14, iv s.1), (6, .cv (.int .u64 (s.2.1 : Int)))]) (fun s => [rA rU 175 v s.2.2]) (fun s => s.1 ≤ (digs a).length ∧ s.2.2.length = (digs a).length ∧ Fit s.2.2 ∧ s.2.1 ≤ 1 ∧ s.2.2.drop s.1 = (digs a).drop s.1 ∧ val (s.2.2.take s.1) + val ((digs b).take s.1) = val ((digs a).take s.1) + s.2.1 * B32 ^ s.1) (fun s => (digs a).length - s.1) (0, 0, digs a) ⟨Nat.zero_le _, rfl, digs_fit a, Nat.zero_le _, rfl, by simp [val]⟩ fun ⟨k, br, out⟩ ⟨hk, hll, hf, hb, hd, hv⟩ => ?_
  have bdb := (digs_fit b).getD k
  have bdo := hf.getD k
  dsimp only at *
  haveI : FtL out := ⟨hf⟩
  repeat first | refine nx ?_ | intro _
  refine gIf (fun c1 => ?_) fun c1 => ?_ <;> repeat first | refine nx ?_ | intro _
  · refine gJ [(9, .cv (.int .u64 ((br + (digs b).getD k 0 : Nat) : Int)))] (fun c3 => ?_) (fun c3 => ?_) ?_ <;> repeat first | refine nx ?_ | intro _
    · exact gM
    · exact gM (by rw [getD_ge (l := digs b) (by omega)]; exact ⟨rfl, by trivial⟩)
    · refine gIf (fun c2 => ?_) fun c2 => ?_ <;> repeat first | refine nx ?_ | intro _
      · refine gBk (k + 1, 1, out.set k ((out.getD k 0 + 4294967296 - (br + (digs b).getD k 0)) % 4294967296)) ⟨by omega, by rw [List.length_set]; exact hll, ?_, Nat.le_refl _, drop_set_succ (by omega) hd, ?_⟩ (by dsimp only; omega)
        · exact hf.set _ _ (Nat.mod_lt _ (by decide))
        · dsimp only; rw [Nat.mod_eq_of_lt (by omega)]; exact sub_step1 (by omega) (by omega) (by omega) hd hv
      · refine gBk (k + 1, 0, out.set k ((out.getD k 0 - (br + (digs b).getD k 0)) % 4294967296)) ⟨by omega, by rw [List.length_set]; exact hll, ?_, Nat.zero_le _, drop_set_succ (by omega) hd, ?_⟩ (by dsimp only; omega)
        · exact hf.set _ _ (Nat.mod_lt _ (by decide))
        · dsimp only; rw [Nat.mod_eq_of_lt (by omega)]; exact sub_step2 (by omega) (by omega) (by omega) hd hv
  · rw [sub_close (by omega) hll hf (by omega) hl.2.2 hv]
instance mul_c {a b A B : Nat} {S T : SV} [i : Vw nv S a] [j : Vw nv T b] [p : Sz a A] [q : Sz b B] : Ct Tryz.prog 195 [S, T] (A ≤ 1073741824 ∧ B ≤ 1073741824) (nv (a * b)) := by
  refine ct2 i j (ctI Tryz.call195 Tryz.func195 Tryz.ntmps195 rfl Tryz.results195 rfl [] fun h0 w0 hl => ?_)
  have hp0 := p.h
  have hp1 := q.h
  unfold sz at hp0 hp1
  repeat first | refine nx ?_ | intro _
  rename_i v
  generalize hLA : (digs a).length = LA at *
  generalize hLB : (digs b).length = LB at *
  refine gLp (fun s : Nat × List Nat => [(19, iv s.1)]) (fun s => [rA rU 175 v s.2]) (fun s => s.1 ≤ LA ∧ s.2.length = LA + LB ∧ Fit s.2 ∧ (∀ t, s.1 + LB ≤ t → s.2.getD t 0 = 0) ∧ val s.2 = val ((digs a).take s.1) * b) (fun s => LA - s.1) (0, List.replicate (LA + LB) 0) ⟨Nat.zero_le _, List.length_replicate, Fit.replicate _, fun t _ => getD_replicate _ t, by simp [val, val_replicate]⟩ fun ⟨x, out⟩ ⟨hi, hll, hf, hz, hv⟩ => ?_
  have bdx := (digs_fit a).getD x
  dsimp only at *
  haveI : FtL out := ⟨hf⟩
  repeat first | refine nx ?_ | intro _
  refine gIf (fun c1 => ?_) fun c1 => ?_ <;> repeat first | refine nx ?_ | intro _
  · refine gLp (fun s : Nat × Nat × List Nat => [(26, iv s.1), (8, .cv (.int .u64 (s.2.1 : Int)))]) (fun s => [rA rU 175 v s.2.2]) (fun s => s.1 ≤ LB ∧ s.2.2.length = LA + LB ∧ Fit s.2.2 ∧ s.2.1 < 4294967296 ∧ (∀ t, x + LB ≤ t → s.2.2.getD t 0 = 0) ∧ val s.2.2 + s.2.1 * B32 ^ (x + s.1) = val ((digs a).take x) * b + (digs a).getD x 0 * val ((digs b).take s.1) * B32 ^ x) (fun s => LB - s.1) (0, 0, out) ⟨Nat.zero_le _, hll, hf, Nat.lt_of_lt_of_le (Nat.zero_lt_one) (by decide), hz, by rw [hv]; simp [val]⟩ fun ⟨y, c, o⟩ ⟨hj, hl2, hf2, hc, hz2, hv2⟩ => ?_
    have bdy := (digs_fit b).getD y
    have bdo := hf2.getD (x + y)
    have bxy := mul_bd bdx bdy
    dsimp only at *
    repeat first | refine nx ?_ | intro _
    refine gIf (fun c2 => ?_) fun c2 => ?_ <;> repeat first | refine nx ?_ | intro _
    · exact gBk (y + 1, (c + ((digs a).getD x 0 * (digs b).getD y 0 + o.getD (x + y) 0)) / 2 ^ 32, o.set (x + y) ((c + ((digs a).getD x 0 * (digs b).getD y 0 + o.getD (x + y) 0)) % 4294967296)) ⟨by omega, by rw [List.length_set]; exact hl2, hf2.set _ _ (Nat.mod_lt _ (by decide)), by dsimp only; have : (2:Nat)^32 = 4294967296 := rfl; omega, fun t ht => by rw [getD_set_ne (by omega)]; exact hz2 t ht, mul_inner (by omega) hv2⟩ (by dsimp only; omega)
    · exact gBk (x + 1, o.set (x + (digs b).length) (c % 4294967296)) ⟨by omega, by rw [List.length_set]; exact hl2, hf2.set _ _ (Nat.mod_lt _ (by decide)), fun t ht => by rw [getD_set_ne (by omega)]; exact hz2 t (by omega), by
        rw [Nat.mod_eq_of_lt hc]
        exact mul_outer (by omega) (by omega) (hz2 _ (by omega)) hv2⟩ (by dsimp only; omega)
  · rw [hv, val_take_all (by omega), val_digs]
end Go.E3
set_option linter.unusedVariables false
set_option maxRecDepth 20000
set_option synthInstance.maxSize 1000
namespace Go.E3
open Go Go.Ear Go.Proofs
instance len32_c {n : Nat} : Ct Tryz.prog 228 [.cv (.int .u32 (n : Int))] (n < 4294967296) (iv (bitlen n)) := by
  refine ctI Tryz.call228 Tryz.func228 Tryz.ntmps228 rfl Tryz.results228 rfl [] fun h0 w0 hl => ?_
  have l16 := lo16_le n
  have l8 := lo8_le (hi16 n)
  have hb := hi_lt hl
  have hbl := bitlen_le hb
  repeat refine nx ?_
  refine gJ [(0, .cv (.int .u32 (hi16 n : Int))), (2, iv (lo16 n))] (fun c => ?_) (fun c => ?_) ?_ <;> repeat refine nx ?_
  · exact gM (by rw [hi16, lo16, if_pos c, if_pos c]; exact ⟨rfl, rfl, by trivial⟩)
  · exact gM (by rw [hi16, lo16, if_neg c, if_neg c]; exact ⟨rfl, rfl, by trivial⟩)
  refine gJ [(0, .cv (.int .u32 (hi8 (hi16 n) : Int))), (2, iv ((lo16 n + lo8 (hi16 n) : Nat) : Int))] (fun c => ?_) (fun c => ?_) ?_ <;> repeat refine nx ?_
  · exact gM (by rw [hi8, lo8, if_pos c, if_pos c]; exact ⟨rfl, rfl, by trivial⟩)
  · exact gM (by rw [hi8, lo8, if_neg c, if_neg c]; exact ⟨rfl, rfl, by trivial⟩)
  refine gTab (s := len8) (len8_at hb) ?_
  repeat refine nx ?_
  rw [len32_eq hl]
instance lz32_c {n : Nat} : Ct Tryz.prog 222 [.cv (.int .u32 (n : Int))] (n < 4294967296) (iv ((32 - bitlen n : Nat) : Int)) := by
  refine ctI Tryz.call222 Tryz.func222 Tryz.ntmps222 rfl Tryz.results222 rfl [] fun h0 w0 hl => ?_
  have hb := bitlen_lt (s := 32) hl
  repeat refine nx ?_
  omega
instance shift_c {a A m : Nat} {S : SV} [i : Vw nv S a] [p : Sz a A] : Ct Tryz.prog 223 [S, iv (m : Int)] (A ≤ 1073741824 ∧ m ≤ 32) (nv (a * 2 ^ m)) := by
  refine ct1 i (ctI Tryz.call223 Tryz.func223 Tryz.ntmps223 rfl Tryz.results223 rfl [] fun h0 w0 ⟨hl, hm⟩ => ?_)
  have hp0 := p.h
  unfold sz at hp0
  have hpw := pow_le32 hm
  repeat first | refine nx ?_ | intro _
  rename_i v
  refine gLp (fun s : Nat × List Nat => [(14, iv s.1)]) (fun s => [rA rU 175 v s.2]) (fun s => s.1 ≤ (digs a).length ∧ s.2.length = (digs a).length + 1 ∧ Fit s.2 ∧ s.2.getD s.1 0 < 2 ^ m ∧ (∀ t, s.1 < t → s.2.getD t 0 = 0) ∧ val s.2 = val ((digs a).take s.1) * 2 ^ m) (fun s => (digs a).length - s.1) (0, List.replicate ((digs a).length + 1) 0) ⟨Nat.zero_le _, List.length_replicate, Fit.replicate _, by rw [getD_replicate]; exact Nat.pow_pos (by decide), fun t _ => getD_replicate _ t, by simp [val, val_replicate]⟩ fun ⟨j, out⟩ ⟨hi, hll, hf, h0, hz, hv⟩ => ?_
  have bdx := (digs_fit a).getD j
  have bdo := hf.getD j
  have ho := or_shl_lt (x := (digs a).getD j 0) hm h0
  dsimp only at *
  haveI : FtL out := ⟨hf⟩
  repeat first | refine nx ?_ | intro _
  refine gIf (fun c1 => ?_) fun c1 => ?_ <;> repeat first | refine nx ?_ | intro _
  · exact gBk (j + 1, (out.set j (out.getD j 0 ||| (digs a).getD j 0 * 2 ^ m % 4294967296)).set (j + 1) ((digs a).getD j 0 / 2 ^ (32 - m) % 4294967296)) ⟨by omega, by rw [List.length_set, List.length_set]; exact hll, (hf.set _ _ ho).set _ _ (Nat.mod_lt _ (by decide)), by
      dsimp only
      rw [getD_set_self (by rw [List.length_set]; omega), Nat.mod_eq_of_lt (Nat.lt_of_le_of_lt (Nat.div_le_self ..) bdx)]; exact hi_lt32 hm bdx, fun t ht => by
      rw [getD_set_ne (by omega), getD_set_ne (by omega)]; exact hz t (by omega), by
      dsimp only
      rw [Nat.mod_eq_of_lt (Nat.lt_of_le_of_lt (Nat.div_le_self ..) bdx)]
      exact shift_step (by omega) hm h0 (hz _ (by omega)) rfl hv⟩ (by dsimp only; omega)
  · rw [shift_close (by omega) hv]
instance over_c {a d A : Nat} {S : SV} [i : Vw nv S a] [p : Sz a A] : Ct Tryz.prog 221 [S, .cv (.int .u32 (d : Int))] (A ≤ 1073741824 ∧ d ≠ 0 ∧ d < 4294967296) (.tp [nv (a / d), .cv (.int .u32 ((a % d : Nat) : Int))]) := by
  refine ct1 i (ctI Tryz.call221 Tryz.func221 Tryz.ntmps221 rfl Tryz.results221 rfl [] fun h0 w0 ⟨hl, hd, hd2⟩ => ?_)
  have hp0 := p.h
  unfold sz at hp0
  repeat first | refine nx ?_ | intro _
  rename_i v
  refine gLp (fun s : Nat × Nat × List Nat => [(8, iv ((s.1 : Int) - 1)), (7, .cv (.int .u64 (s.2.1 : Int)))]) (fun s => [rA rU 175 v s.2.2]) (fun s => s.1 ≤ (digs a).length ∧ s.2.1 < d ∧ s.2.2.length = (digs a).length ∧ Fit s.2.2 ∧ val (s.2.2.drop s.1) * d + s.2.1 = val ((digs a).drop s.1)) (fun s => s.1) ((digs a).length, 0, List.replicate (digs a).length 0) ⟨Nat.le_refl _, by dsimp only; omega, List.length_replicate, Fit.replicate _, by dsimp only; rw [List.drop_of_length_le (by simp), List.drop_of_length_le (Nat.le_refl _)]; simp [val]⟩ fun ⟨k, r, out⟩ ⟨hk, hr, hll, hf, hv⟩ => ?_
  dsimp only at *
  have bd := (digs_fit a).getD (k - 1)
  have eo := or_shift r ((digs a).getD (k - 1) 0) bd
  have rb : r * 2 ^ 32 + (digs a).getD (k - 1) 0 < d * 4294967296 := over_bd hr bd
  have rs := sh_bd hr hd2
  have ro := sh_bd2 hr hd2 bd
  haveI : FtL out := ⟨hf⟩
  repeat first | refine nx ?_ | intro _
  refine gIf (fun c1 => ?_) fun c1 => ?_ <;> repeat first | refine nx ?_ | intro _
  · exact gBk (k - 1, (r * 2 ^ 32 ||| (digs a).getD (k - 1) 0) % d, out.set (k - 1) ((r * 2 ^ 32 ||| (digs a).getD (k - 1) 0) / d % 4294967296)) ⟨by dsimp only; omega, Nat.mod_lt _ (by omega), by rw [List.length_set]; exact hll, hf.set _ _ (Nat.mod_lt _ (by decide)), by
      dsimp only
      rw [Nat.mod_eq_of_lt (by rw [eo]; exact Nat.div_lt_of_lt_mul rb), eo]; exact over_step (by omega) (by omega) (by omega) hv⟩ (by dsimp only; omega)
  · exact ⟨by rw [over_q (by omega) hr hv], by rw [Nat.mod_eq_of_lt (by omega), over_r (by omega) hr hv]⟩
instance down_c {a A m : Nat} {S : SV} [i : Vw nv S a] [p : Sz a A] : Ct Tryz.prog 226 [S, iv (m : Int)] (A ≤ 1073741824 ∧ m ≤ 32) (nv (a / 2 ^ m)) := by
  refine ct1 i (ctI Tryz.call226 Tryz.func226 Tryz.ntmps226 rfl Tryz.results226 rfl [] fun h0 w0 ⟨hl, hm⟩ => ?_)
  have hp0 := p.h
  unfold sz at hp0
  have hpw := pow_le32 hm
  repeat first | refine nx ?_ | intro _
  rename_i v
  refine gLp (fun s : Nat × List Nat => [(12, iv s.1)]) (fun s => [rA rU 175 v s.2]) (fun s => s.1 ≤ (digs a).length ∧ s.2.length = (digs a).length ∧ Fit s.2 ∧ val (s.2.take s.1) = a / 2 ^ m % B32 ^ s.1) (fun s => (digs a).length - s.1) (0, List.replicate (digs a).length 0) ⟨Nat.zero_le _, List.length_replicate, Fit.replicate _, by simp [val, Nat.mod_one]⟩ fun ⟨j, out⟩ ⟨hi, hll, hf, hv⟩ => ?_
  have bdx := (digs_fit a).getD j
  have bdy := (digs_fit a).getD (j + 1)
  have h32 : (2:Nat)^32 = 4294967296 := rfl
  have bdd := down_bd (a := a) (i := j) (by_ := m)
  dsimp only at *
  haveI : FtL out := ⟨hf⟩
  repeat first | refine nx ?_ | intro _
  refine gIf (fun c1 => ?_) fun c1 => ?_ <;> repeat first | refine nx ?_ | intro _
  · exact gBk (j + 1, out.set j (((digs a).getD j 0 ||| (digs a).getD (j + 1) 0 * 2 ^ 32) / 2 ^ m % 4294967296)) ⟨by omega, by rw [List.length_set]; exact hll, hf.set _ _ (Nat.mod_lt _ (by decide)), down_step (by omega) hm hv⟩ (by dsimp only; omega)
  · rw [down_close (by omega) hll hv]
instance shifted_c {a A m : Nat} {S : SV} {x : Int} {sd : Prop} [i : Vw nv S a] [p : Sz a A] [tn : TN x m sd] : Ct Tryz.prog 225 [S, iv x] (sd ∧ A ≤ 1073741824 ∧ m ≤ 1073741824) (nv (a * B32 ^ m)) := by
  refine ct1 i (ctI Tryz.call225 Tryz.func225 Tryz.ntmps225 rfl Tryz.results225 rfl [] fun h0 w0 ⟨hs, hl, hm⟩ => ?_)
  rw [tn.e hs]
  have hp0 := p.h
  have hz := sz_eq_zero (n := a)
  unfold sz at hp0 hz
  repeat first | refine nx ?_ | intro _
  refine gIf (fun c1 => ?_) fun c1 => ?_ <;> repeat first | refine nx ?_ | intro _
  · rw [hz.1 c1, Nat.zero_mul, digs_zero]
  · exact (digs_shift fun e => c1 (hz.2 e)).symm
end Go.E3
set_option linter.unusedVariables false
set_option maxRecDepth 20000
set_option maxHeartbeats 2000000
set_option synthInstance.maxSize 1000
namespace Go.E3
open Go Go.Ear Go.Proofs
instance div_c {a b A B : Nat} {S T : SV} [i : Vw nv S a] [j : Vw nv T b] [p : Sz a A] [q : Sz b B] : Ct Tryz.prog 216 [S, T] (A ≤ 536870912 ∧ B ≤ 536870912 ∧ b ≠ 0) (.tp [nv (a / b), nv (a % b)]) := by
  refine ct2 i j (ctI Tryz.call216 Tryz.func216 Tryz.ntmps216 rfl Tryz.results216 rfl [] fun h0 w0 ⟨hA, hB, hb0⟩ => ?_)
  have hsa := p.h
  have hsb := q.h
  have hpos := sz_pos hb0
  have hpa := p.h
  have hpb := q.h
  unfold sz at hsa hsb hpos
  repeat first | refine nx ?_ | intro _
  refine gIf (fun c1 => ?_) fun c1 => ?_ <;> repeat first | refine nx ?_ | intro _
  · have h := cmpN_neg.1 c1
    exact ⟨by rw [Nat.div_eq_of_lt h, digs_zero], by rw [Nat.mod_eq_of_lt h]⟩
  have hba : b ≤ a := by have := cmpN_neg (a := a) (b := b); omega
  have bdt := (digs_fit b).getD ((digs b).length - 1)
  have bd0 := (digs_fit b).getD 0
  by_cases c0 : (digs b).length = 1
  · have hd0 := digs_one c0
    have hml := Nat.mod_lt a (show 0 < (digs b).getD 0 0 by omega)
    refine gIf (fun c2 => ?_) fun c2 => absurd c0 c2
    repeat first | refine nx ?_ | intro _
    rw [hd0]; exact ⟨rfl, rfl⟩
  refine gIf (fun c2 => absurd c2 c0) fun c2 => ?_
  generalize hbl : bitlen ((digs b).getD ((digs b).length - 1) 0) = bl
  generalize hBY : 32 - bl = m
  have hm : m ≤ 32 := by omega
  have hv0 : b * 2 ^ m ≠ 0 := Nat.mul_ne_zero hb0 (Nat.pos_iff_ne_zero.1 (Nat.pow_pos (by decide)))
  have hsv : sz (b * 2 ^ m) ≤ B + 2 := Nat.le_trans (sz_shift hm) (by omega)
  have hsu : sz (a * 2 ^ m) ≤ A + 2 := Nat.le_trans (sz_shift hm) (by omega)
  have hvu : sz (b * 2 ^ m) ≤ sz (a * 2 ^ m) := sz_mono (Nat.mul_le_mul_right _ hba)
  have hini := div_lt0 hv0 hvu
  have hvp := sz_pos hv0
  have hvt := digs_top hv0
  generalize hVV : b * 2 ^ m = V at *
  generalize hUU : a * 2 ^ m = U at *
  have eV : (digs V).length = sz V := rfl
  have eU : (digs U).length = sz U := rfl
  generalize hVL : sz V = VL at *
  generalize hUL : sz U = UL at *
  haveI szU : Sz U (A + 2) := ⟨by omega⟩
  haveI szV : Sz V (B + 2) := ⟨by omega⟩
  repeat first | refine nx ?_ | intro _
  simp only [hbl, hBY, hVV, hUU, eV, eU]
  repeat first | refine nx ?_ | intro _
  rw [show ((UL : Int) - VL + 1) = ((UL - VL + 1 : Nat) : Int) by omega]
  repeat first | refine nx ?_ | intro _
  rename_i v
  refine gKp [14, 13, 12, 11, 10, 8, 5, 4] ?_
  refine gLp (fun s : Nat × Nat × List Nat => [(14, iv ((s.1 : Int) - 1)), (13, nv s.2.1)]) (fun s => [rA rU 175 v s.2.2]) (fun s => s.1 ≤ UL - VL + 1 ∧ s.2.2.length = UL - VL + 1 ∧ Fit s.2.2 ∧ (∀ t, t < s.1 → s.2.2.getD t 0 = 0) ∧ s.2.1 < V * B32 ^ s.1 ∧ U = val s.2.2 * V + s.2.1) (fun s => s.1) (UL - VL + 1, U, List.replicate (UL - VL + 1) 0) ⟨Nat.le_refl _, List.length_replicate, Fit.replicate _, fun t _ => getD_replicate _ t, hini, by dsimp only; rw [val_replicate]; simp⟩ fun ⟨k, r, q⟩ ⟨hk, hl, hf, hz, hr, hu⟩ => ?_
  dsimp only at *
  have hru : r ≤ U := by rw [hu]; exact Nat.le_add_left ..
  have hsr := sz_mono hru
  have bdT := Fit.getD (digs_fit r) (k - 1 + VL)
  have bdW := Fit.getD (digs_fit r) (k - 1 + VL - 1)
  have bdV := Fit.getD (digs_fit V) (VL - 1)
  have htl := top_lt bdT bdW
  have h32 : (2:Nat)^32 = 4294967296 := rfl
  haveI : Sz r (A + 2) := ⟨by omega⟩
  haveI : FtL q := ⟨hf⟩
  repeat first | refine nx ?_ | intro _
  refine gIf (fun c3 => ?_) fun c3 => ?_ <;> repeat first | refine nx ?_ | intro _
  · refine gKp [16, 14, 13, 12, 11, 10, 8, 5, 4] ?_
    refine gLp (fun g : Nat => [(16, .cv (.int .u64 (g : Int)))]) (fun _ => []) (fun g => g ≤ 4294967295 ∧ r < (g + 1) * (V * B32 ^ (k - 1))) (fun g => g) (min (((digs r).getD (k - 1 + VL) 0 * 2 ^ 32 ||| (digs r).getD (k - 1 + VL - 1) 0) / (digs V).getD (VL - 1) 0) 4294967295) ⟨Nat.min_le_right .., by have := div_guess (r := r) (j := k - 1) hv0 (by rw [show k - 1 + 1 = k by omega]; exact hr); rwa [hVL] at this⟩ fun g ⟨hg1, hg2⟩ => ?_
    have hsg := sz_small (n := g) (by omega)
    have hsp := sz_mul V g
    have hsq := sz_shifted (a := V * g) (k := k - 1)
    haveI : Sz g 2 := ⟨hsg⟩
    haveI : Sz (V * g) (B + 4) := ⟨by omega⟩
    haveI : Sz (V * g * B32 ^ (k - 1)) (A + 8) := ⟨by omega⟩
    repeat first | refine nx ?_ | intro _
    refine gIf (fun c4 => ?_) fun c4 => ?_ <;> repeat first | refine nx ?_ | intro _
    · refine gIf (fun c5 => ?_) fun c5 => ?_ <;> repeat first | refine nx ?_ | intro _
      · exact gBk (g - 1) ⟨by omega, div_dec (by omega) (cmpN_pos.1 c5)⟩ (by omega)
      · have hle : V * g * B32 ^ (k - 1) ≤ r := by have := cmpN_pos (a := V * g * B32 ^ (k - 1)) (b := r); omega
        repeat first | refine nx ?_ | intro _
        exact gBk (k - 1, r - V * g * B32 ^ (k - 1), q.set (k - 1) (g % 4294967296)) ⟨by dsimp only; omega, by rw [List.length_set]; exact hl, hf.set _ _ (Nat.mod_lt _ (by decide)), fun t ht => by dsimp only at ht ⊢; rw [getD_set_ne (by omega)]; exact hz t (by omega), div_next hg2 hle, by
          dsimp only
          rw [Nat.mod_eq_of_lt (by omega)]
          exact div_set (by omega) (hz _ (by omega)) hu hle⟩ (by dsimp only; omega)
    · have hg0 : g = 0 := by omega
      exact gBk (k - 1, r, q) ⟨by dsimp only; omega, hl, hf, fun t ht => hz t (by dsimp only at ht; omega), by rw [hg0, Nat.zero_add, Nat.one_mul] at hg2; exact hg2, hu⟩ (by dsimp only; omega)
  · have hk0 : k = 0 := by omega
    have hrv : r < V := by rw [hk0, Nat.pow_zero, Nat.mul_one] at hr; exact hr
    subst hVV hUU
    have hq := div_q hb0 hu hrv
    rw [hq.1, hq.2]; exact ⟨rfl, rfl⟩
end Go.E3
set_option linter.unusedVariables false
set_option maxRecDepth 20000
set_option maxHeartbeats 2000000
set_option synthInstance.maxSize 1000
namespace Go.E3
open Go Go.Ear Go.Proofs
instance gcd_c {a b A B : Nat} {S T : SV} [i : Vw nv S a] [j : Vw nv T b] [p : Sz a A] [q : Sz b B] : Ct Tryz.prog 215 [S, T] (A ≤ 536870912 ∧ B ≤ 536870912) (nv (Nat.gcd a b)) := by
  refine ct2 i j (ctI Tryz.call215 Tryz.func215 Tryz.ntmps215 rfl Tryz.results215 rfl [] fun h0 w0 ⟨hA, hB⟩ => ?_)
  have hsa := p.h
  have hsb := q.h
  repeat first | refine nx ?_ | intro _
  refine gLp (fun s : Nat × Nat => [(0, nv s.1), (1, nv s.2)]) (fun _ => []) (fun s => sz s.1 ≤ 536870912 ∧ sz s.2 ≤ 536870912 ∧ Nat.gcd s.1 s.2 = Nat.gcd a b) (fun s => s.2) (a, b) ⟨by dsimp only; omega, by dsimp only; omega, rfl⟩ fun ⟨x, y⟩ ⟨hx, hy, hg⟩ => ?_
  dsimp only at *
  have hyz := sz_eq_zero (n := y)
  unfold sz at hyz
  haveI : Sz x 536870912 := ⟨hx⟩
  haveI : Sz y 536870912 := ⟨hy⟩
  repeat first | refine nx ?_ | intro _
  refine gIf (fun c => ?_) fun c => ?_
  · have hy0 : y ≠ 0 := by omega
    have hml := Nat.mod_lt x (Nat.pos_of_ne_zero hy0)
    repeat first | refine nx ?_ | intro _
    exact gBk (y, x % y) ⟨hy, Nat.le_trans (sz_mono (Nat.le_of_lt hml)) hy, by rw [Nat.gcd_comm, ← Nat.gcd_rec, Nat.gcd_comm]; exact hg⟩ hml
  · repeat first | refine nx ?_ | intro _
    rw [← hg, hyz.1 (by omega), Nat.gcd_zero_right]
instance reduced_c {s : Bool} {n d A B : Nat} {S T : SV} [i : Vw nv S n] [j : Vw nv T d] [p : Sz n A] [q : Sz d B] : Ct Tryz.prog 194 [.cv (.bool s), S, T] (A ≤ 536870912 ∧ B ≤ 536870912 ∧ d ≠ 0) (qv (ratOf s n d)) := by
  refine ct3 (v := bv) ⟨fun u => u⟩ i j (ctI Tryz.call194 Tryz.func194 Tryz.ntmps194 rfl Tryz.results194 rfl [] fun h0 w0 ⟨hA, hB, hd⟩ => ?_)
  have hsa := p.h
  have hsb := q.h
  have hgp := gcd_pos' (n := n) hd
  have hgs := sz_mono (Nat.gcd_le_right n (Nat.pos_of_ne_zero hd))
  haveI : Sz (Nat.gcd n d) B := ⟨Nat.le_trans hgs hsb⟩
  repeat first | refine nx ?_ | intro _
  exact ⟨by rw [digs_len_pos]; exact ratOf_neg hd, by rw [ratOf_abs hd], by rw [ratOf_den hd]⟩
instance (priority := low) {a b A B : Nat} [i : Sz a A] [j : Sz b B] : Sz (a * b) (A + B) := ⟨Nat.le_trans (sz_mul a b) (Nat.add_le_add i.h j.h)⟩
instance (priority := low) {a b A B : Nat} [i : Sz a A] [j : Sz b B] : Sz (a + b) (max A B + 1) := ⟨by have := sz_add a b; have := i.h; have := j.h; omega⟩
instance (priority := low) {a b A : Nat} [i : Sz a A] : Sz (a - b) A := ⟨Nat.le_trans (sz_mono (Nat.sub_le ..)) i.h⟩
instance (priority := low) {a b A : Nat} [i : Sz a A] : Sz (a / b) A := ⟨Nat.le_trans (sz_mono (Nat.div_le_self ..)) i.h⟩
instance : Sz 1 1 := ⟨by rw [sz_one]; exact Nat.le_refl _⟩
instance {q : Rat} : Sz q.num.natAbs (bq q) := ⟨bq_num q⟩
instance {q : Rat} : Sz q.den (bq q) := ⟨bq_den q⟩
instance take_c {f : Fr} {q : Rat} {b : Nat} {S : SV} [i : VF S f q b] : Ct Tryz.prog 154 [S] (b ≤ 536870912) (qv q) := by
  have v := i.v
  have t := i.t
  obtain rfl := i.r
  obtain rfl := i.b
  refine ct1 v (ctI Tryz.call154 Tryz.func154 Tryz.ntmps154 rfl Tryz.results154 rfl [] fun h0 w0 h1 => ?_)
  have hbn := bf_n f
  have hbd := bf_d f
  haveI : Sz (val f.n) f.n.length := ⟨sz_len t.h.1⟩
  haveI : Sz (val f.d) f.d.length := ⟨sz_len t.h.2⟩
  have hlz := len_zero (n := val f.d)
  repeat first | refine nx ?_ | intro _
  refine gIf (fun c => ?_) fun c => ?_
  · haveI : Sz 1 1 := ⟨by rw [sz_one]; exact Nat.le_refl _⟩
    repeat first | refine nx ?_ | intro _
    rw [Fr.rat_z c]; exact ⟨rfl, rfl, rfl⟩
  · have hd0 : val f.d ≠ 0 := fun e => c (hlz.2 e)
    repeat first | refine nx ?_ | intro _
    rw [Fr.rat_nz c]; exact ⟨rfl, rfl, rfl⟩
instance zero_c {q : Rat} {S : SV} [i : Vw qv S q] : Ct Tryz.prog 168 [S] True (bv (decide (q = 0))) := by
  refine ct1 i (ctI Tryz.call168 Tryz.func168 Tryz.ntmps168 rfl Tryz.results168 rfl [] fun h0 w0 _ => ?_)
  repeat first | refine nx ?_ | intro _
  exact decide_eq_decide.2 num_zero
instance sign_c {q : Rat} {S : SV} [i : Vw qv S q] : Ct Tryz.prog 155 [S] True (iv (sgQ q)) := by
  refine ct1 i (ctI Tryz.call155 Tryz.func155 Tryz.ntmps155 rfl Tryz.results155 rfl [] fun h0 w0 _ => ?_)
  repeat first | refine nx ?_ | intro _
  refine gIf (fun c => ?_) fun c => ?_ <;> repeat first | refine nx ?_ | intro _
  · simp [sgQ, c]
  refine gIf (fun d => ?_) fun d => ?_ <;> repeat first | refine nx ?_ | intro _ 
  · rw [sgQ, if_neg c, if_pos d]
  · rw [sgQ, if_neg c, if_neg d]
instance minus_c {q : Rat} {S : SV} [i : Vw qv S q] : Ct Tryz.prog 173 [S] True (qv (-q)) := by
  refine ct1 i (ctI Tryz.call173 Tryz.func173 Tryz.ntmps173 rfl Tryz.results173 rfl [] fun h0 w0 _ => ?_)
  repeat first | refine nx ?_ | intro _
  exact ⟨neg_mk, by rw [← neg_abs], by rw [Rat.neg_den]⟩
instance inverse_c {q : Rat} {S : SV} [i : Vw qv S q] : Ct Tryz.prog 169 [S] (q ≠ 0) (qv q⁻¹) := by
  refine ct1 i (ctI Tryz.call169 Tryz.func169 Tryz.ntmps169 rfl Tryz.results169 rfl [] fun h0 w0 hq => ?_)
  repeat first | refine nx ?_ | intro _
  exact ⟨inv_sign, by rw [inv_abs hq], by rw [inv_den hq]⟩
instance nmul_c {a b : Rat} {S T : SV} [i : Vw qv S a] [j : Vw qv T b] : Ct Tryz.prog 151 [S, T] (bq a ≤ 134217728 ∧ bq b ≤ 134217728) (qv (a * b)) := by
  refine ct2 i j (ctI Tryz.call151 Tryz.func151 Tryz.ntmps151 rfl Tryz.results151 rfl [] fun h0 w0 ⟨h1, h2⟩ => ?_)
  have hdab := Nat.mul_ne_zero a.den_nz b.den_nz
  repeat first | refine nx ?_ | intro _
  rw [mul_mk]; exact ⟨rfl, rfl, rfl⟩
instance nadd_c {a b : Rat} {S T : SV} [i : Vw qv S a] [j : Vw qv T b] : Ct Tryz.prog 172 [S, T] (bq a ≤ 134217728 ∧ bq b ≤ 134217728) (qv (a + b)) := by
  refine ct2 i j (ctI Tryz.call172 Tryz.func172 Tryz.ntmps172 rfl Tryz.results172 rfl [] fun h0 w0 ⟨h1, h2⟩ => ?_)
  have hdab := Nat.mul_ne_zero a.den_nz b.den_nz
  repeat first | refine nx ?_ | intro _
  refine gIf (fun c => ?_) fun c => ?_
  · repeat first | refine nx ?_ | intro _
    rw [add_same (by simpa using c)]; exact ⟨rfl, rfl, rfl⟩
  repeat first | refine nx ?_ | intro _
  refine gIf (fun d => ?_) fun d => ?_
  · have hlt := Nat.le_of_lt (cmpN_neg.1 d)
    repeat first | refine nx ?_ | intro _
    rw [add_lt (by simpa using c) hlt]; exact ⟨rfl, rfl, rfl⟩
  · have hge := Nat.le_of_not_lt (fun e => absurd (cmpN_neg.2 e) d)
    repeat first | refine nx ?_ | intro _
    rw [add_ge (by simpa using c) hge]; exact ⟨rfl, rfl, rfl⟩
instance give_c {q : Rat} {S : SV} [i : Vw qv S q] : Ct Tryz.prog 152 [S] (bq q ≤ 1073741824) (kk q) := by
  refine ct1 i (ctI Tryz.call152 Tryz.func152 Tryz.ntmps152 rfl Tryz.results152 rfl [] fun h0 w0 h1 => ?_)
  have hq1 := bq_num q
  have hq2 := bq_den q
  unfold sz at hq1 hq2
  repeat first | refine nx ?_ | intro _
  refine gIf (fun c => ?_) fun c => ?_
  · repeat first | refine nx ?_ | intro _
    exact ⟨rfl, rfl, (if_neg fun e => c (cmpN_one.2 e)).symm⟩
  · repeat first | refine nx ?_ | intro _
    exact ⟨rfl, rfl, if_pos (cmpN_one.1 (by omega))⟩
instance whole_c {n : Int} : Ct Tryz.prog 150 [iv n] (-9223372036854775808 ≤ n ∧ n ≤ 9223372036854775807) (qv (n : Rat)) := by
  refine ctI Tryz.call150 Tryz.func150 Tryz.ntmps150 rfl Tryz.results150 rfl [] fun h0 w0 ⟨h1, h2⟩ => ?_
  repeat first | refine nx ?_ | intro _
  refine gIf (fun c => ?_) fun c => ?_
  · repeat first | refine nx ?_ | intro _
    rw [Rat.num_intCast, Rat.den_intCast, show (-(n + 1)).toNat + 1 = n.natAbs by omega]; exact ⟨(decide_eq_true c).symm, rfl, rfl⟩
  · repeat first | refine nx ?_ | intro _
    rw [Rat.num_intCast, Rat.den_intCast, show n.toNat = n.natAbs by omega]; exact ⟨(decide_eq_false c).symm, rfl, rfl⟩
instance floor_c {q : Rat} {S : SV} [i : Vw qv S q] : Ct Tryz.prog 209 [S] (bq q ≤ 536870912) (qv (q.floor : Rat)) := by
  refine ct1 i (ctI Tryz.call209 Tryz.func209 Tryz.ntmps209 rfl Tryz.results209 rfl [] fun h0 w0 h1 => ?_)
  have hqd := q.den_nz
  repeat first | refine nx ?_ | intro _
  by_cases c : q.num < 0 ∧ 0 < q.num.natAbs % q.den
  · refine gIf (fun d => ?_) fun d => ?_
    · repeat first | refine nx ?_ | intro _
      have ff := floor_fin (.inl ⟨c.1, c.2, rfl⟩) rfl
      rw [digs_len_pos]; exact ⟨ff.1, by rw [ff.2], by rw [← floor_den]⟩
    · exact absurd ⟨c.1, len_pos.2 c.2⟩ d
  · refine gIf (fun d => ?_) fun d => ?_
    · exact absurd ⟨d.1, len_pos.1 d.2⟩ c
    · repeat first | refine nx ?_ | intro _
      have ff := floor_fin (.inr ⟨c, rfl⟩) rfl
      rw [digs_len_pos]; exact ⟨ff.1, by rw [ff.2], by rw [← floor_den]⟩
end Go.E3
set_option linter.unusedVariables false
namespace Go.Ear
theorem num_neg_iff {q : Rat} : q.num < 0 ↔ q < 0 := by
  have := Rat.num_nonneg (q := q)
  rw [← Rat.not_le, ← this]; omega
theorem num_pos_iff {q : Rat} : 0 < q.num ↔ 0 < q := by
  have h1 := Rat.num_nonneg (q := -q)
  rw [Rat.neg_num] at h1
  rw [← Rat.not_le]
  constructor
  · intro h h2
    have : 0 ≤ -q := by grind
    have := h1.2 this
    omega
  · intro h
    have : ¬ 0 ≤ -q.num := fun h3 => h (by have := h1.1 h3; grind)
    omega
theorem sgQ_neg {q : Rat} : sgQ q < 0 ↔ q < 0 := by
  unfold sgQ
  by_cases h : q = 0
  · subst h; simp
  · rw [if_neg h, ← num_neg_iff]
    split <;> simp_all
theorem sgQ_pos {q : Rat} : 0 < sgQ q ↔ 0 < q := by
  unfold sgQ
  by_cases h : q = 0
  · subst h; simp
  · rw [if_neg h]
    have h2 : q.num ≠ 0 := fun e => h (Rat.num_eq_zero.1 e)
    rw [← num_pos_iff]
    split
    · omega
    · omega
theorem sgQ_zero {q : Rat} : sgQ q = 0 ↔ q = 0 := by
  unfold sgQ
  by_cases h : q = 0
  · simp [h]
  · rw [if_neg h]; simp only [h, iff_false]; split <;> decide
def negF (f : Fr) : Bool := decide (f.rat < 0)
def idxP {α : Type} (p : α → Bool) (l : List α) : Int := if l.any p = true then (l.findIdx p : Int) else -1
theorem idx_found {α : Type} {p : α → Bool} {l : List α} {k : Nat} (d : α) (hk : k < l.length) (hn : (l.take k).any p = false) (hp : p (l.getD k d) = true) : idxP p l = k := by
  have h1 : l.any p = true := by
    rw [List.any_eq_true]
    refine ⟨l.getD k d, ?_, hp⟩
    rw [List.getD_eq_getElem?_getD, List.getElem?_eq_getElem hk]; exact List.getElem_mem hk
  unfold idxP
  rw [if_pos h1]
  congr 1
  rw [List.findIdx_eq hk]
  refine ⟨?_, ?_⟩
  · rwa [List.getD_eq_getElem?_getD, List.getElem?_eq_getElem hk] at hp
  · intro j hj
    have := List.any_eq_false.1 hn (l[j]) (by rw [List.mem_take_iff_getElem]; exact ⟨j, by omega, rfl⟩)
    simpa using this
theorem idx_none {α : Type} {p : α → Bool} {l : List α} {k : Nat} (hk : l.length ≤ k) (hn : (l.take k).any p = false) : idxP p l = -1 := by
  rw [List.take_of_length_le hk] at hn
  unfold idxP; rw [hn]; rfl
theorem any_take_succ {α : Type} {p : α → Bool} {l : List α} {k : Nat} (d : α) (hk : k < l.length) (hn : (l.take k).any p = false) (hp : p (l.getD k d) = false) : (l.take (k + 1)).any p = false := by
  rw [take_snoc d hk, List.any_append, hn, List.any_cons, hp]; rfl
theorem idx_any {α : Type} {p : α → Bool} {l : List α} : decide (0 ≤ idxP p l) = l.any p := by
  unfold idxP
  cases h : l.any p
  · rfl
  · rw [if_pos rfl]; simp
theorem idx_bd {α : Type} (p : α → Bool) (l : List α) : -1 ≤ idxP p l ∧ idxP p l ≤ l.length := by
  unfold idxP
  split
  · have := List.findIdx_le_length (xs := l) (p := p); omega
  · omega
def bestAt (l : List Fr) : Nat → Int
  | 0 => -1
  | k + 1 => if bestAt l k < 0 ∨ (l.getD (bestAt l k).toNat fr0).rat < (l.getD k fr0).rat then (k : Int) else bestAt l k
theorem bestAt_bd (l : List Fr) : ∀ k : Nat, -1 ≤ bestAt l k ∧ bestAt l k < k
  | 0 => by simp [bestAt]
  | k + 1 => by
    have := bestAt_bd l k
    unfold bestAt
    split <;> omega
def distF (l : List Fr) : Bool := !l.any negF && decide (sumF l = 1)
def normF (l : List Fr) : List Rat := if l.any negF = true ∨ sumF l = 0 then [] else l.map fun f => f.rat * (sumF l)⁻¹
def normE (l : List Fr) : Int := if l.any negF = true then 2 else if sumF l = 0 then 3 else 0
theorem sgQ_sub_one {q : Rat} : sgQ (q - 1) = 0 ↔ q = 1 := by rw [sgQ_zero]; constructor <;> intro h <;> grind
theorem map_take_succ {α β : Type} {f : α → β} {l : List α} {k : Nat} (d : α) (hk : k < l.length) : (l.take (k + 1)).map f = (l.take k).map f ++ [f (l.getD k d)] := by
  rw [take_snoc d hk]; simp
theorem num_pow (q : Rat) (n : Nat) : (q ^ n).num = q.num ^ n := by simp [Rat.num_pow]
theorem den_pow (q : Rat) (n : Nat) : (q ^ n).den = q.den ^ n := by simp [Rat.den_pow]
theorem pow_abs (q : Rat) (n : Nat) : q.num.natAbs ^ n = (q ^ n).num.natAbs := by rw [num_pow, Int.natAbs_pow]
theorem pow_sign (q : Rat) (n : Nat) : (decide (q.num < 0) && decide (n % 2 = 1)) = decide ((q ^ n).num < 0) := by
  rw [num_pow]
  have key : ∀ n : Nat, (q.num ^ n < 0) ↔ (q.num < 0 ∧ n % 2 = 1) := by
    intro n
    by_cases h : q.num < 0
    · have h2 : ∀ m : Nat, 0 < q.num ^ (2 * m) := by
        intro m
        rw [Int.pow_mul]
        exact Int.pow_pos (by rw [Int.pow_succ, Int.pow_one] ; exact Int.mul_pos_of_neg_of_neg h h)
      rcases Nat.mod_two_eq_zero_or_one n with h3 | h3
      · have e : n = 2 * (n / 2) := by omega
        have := h2 (n / 2)
        rw [← e] at this
        constructor
        · intro hh; omega
        · intro hh; omega
      · have e : n = 2 * (n / 2) + 1 := by omega
        have := h2 (n / 2)
        rw [e, Int.pow_succ]
        constructor
        · intro _; exact ⟨h, by omega⟩
        · intro _; exact Int.mul_neg_of_pos_of_neg this h
    · have : 0 ≤ q.num ^ n := Int.pow_nonneg (by omega)
      constructor <;> intro hh <;> omega
  rw [Bool.eq_iff_iff]
  simp only [Bool.and_eq_true, decide_eq_true_eq]
  exact (key n).symm
theorem bq_pow (q : Rat) (n : Nat) : bq (q ^ n) ≤ n * bq q + 1 := by
  unfold bq
  rw [← pow_abs, den_pow]
  have h1 := sz_pow q.num.natAbs n
  have h2 := sz_pow q.den n
  have h3 := Nat.mul_le_mul_left n (bq_num q)
  have h4 := Nat.mul_le_mul_left n (bq_den q)
  unfold bq at h3 h4
  omega
end Go.Ear
namespace Go.Ear
theorem rat_sub_pos {a b : Rat} : 0 < a - b ↔ b < a := by constructor <;> intro h <;> grind
theorem bestAt_succ (l : List Fr) (k : Nat) : bestAt l (k + 1) = if bestAt l k < 0 ∨ (l.getD (bestAt l k).toNat fr0).rat < (l.getD k fr0).rat then (k : Int) else bestAt l k := rfl
theorem bestAt_zero (l : List Fr) : bestAt l 0 = -1 := rfl
attribute [irreducible] bestAt
theorem one_cast : (((1 : Nat) : Int) : Rat) = 1 := rfl
theorem dist_f {l : List Fr} (h : l.any negF = true) : false = distF l := by unfold distF; rw [h]; rfl
theorem dist_t {l : List Fr} (h : ¬ l.any negF = true) : decide (sgQ (sumF l - (((1 : Nat) : Int) : Rat)) = ((0 : Nat) : Int)) = distF l := by
  unfold distF
  rw [Bool.not_eq_true] at h
  rw [h, Bool.not_false, Bool.true_and, one_cast]
  exact decide_eq_decide.2 sgQ_sub_one
theorem zpow0 {k : Nat} (h : k ≠ 0) : (0 : Rat) = 0 ^ k := by
  cases k with
  | zero => exact absurd rfl h
  | succ k => rw [Rat.pow_succ, Rat.mul_zero]
end Go.Ear
namespace Go.Ear
theorem plus_step {out a b : List Nat} {k c : Nat} (hl : out.length = k) (hv : val out + c * B32 ^ k = val (a.take k) + val (b.take k)) :
    val (out ++ [(c + a.getD k 0 + b.getD k 0) % 4294967296]) + (c + a.getD k 0 + b.getD k 0) / 2 ^ 32 * B32 ^ (k + 1) = val (a.take (k + 1)) + val (b.take (k + 1)) := by
  have := add_step (out := out ++ [0]) (a := a) (b := b) (k := k) (c := c) (by simp; omega) (by rw [← hl, List.take_left']; rw [hl]; exact hv; rfl)
  rw [← this]
  congr 2
  rw [List.take_of_length_le (by simp; omega)]
  subst hl
  simp [List.set_append_right]
theorem plus_close {out : List Nat} {a b k : Nat} (h1 : (digs a).length ≤ k) (h2 : (digs b).length ≤ k) (hv : val out + 0 * B32 ^ k = val ((digs a).take k) + val ((digs b).take k)) : val out = a + b := by
  rw [val_take_all h1, val_take_all h2, val_digs, val_digs] at hv; omega
theorem minus_step1 {out a b : List Nat} {k br : Nat} (hl : out.length = k) (hb : b.getD k 0 < 4294967296) (hlt : a.getD k 0 < br + b.getD k 0) (hk : k < a.length)
    (hv : val out + val (b.take k) = val (a.take k) + br * B32 ^ k) (h1 : br ≤ 1) :
    val (out ++ [(a.getD k 0 + 4294967296) - (br + b.getD k 0)]) + val (b.take (k + 1)) = val (a.take (k + 1)) + 1 * B32 ^ (k + 1) := by
  have hd : (out ++ a.drop k).drop k = a.drop k := by rw [← hl, List.drop_left' rfl]
  have ht : (out ++ a.drop k).take k = out := by rw [← hl, List.take_left' rfl]
  have hg : (out ++ a.drop k).getD k 0 = a.getD k 0 := by
    subst hl
    simp [List.getD_eq_getElem?_getD, List.getElem?_append_right]
  have := sub_step1 (out := out ++ a.drop k) (a := a) (b := b) (k := k) (br := br) (by simp; omega) hb (by rw [hg]; exact hlt) hd (by rw [ht]; exact hv) h1
  rw [← this, hg]
  congr 2
  rw [take_snoc 0 (by simp; omega), getD_set_self (by simp; omega), take_set_self, ht]
theorem minus_step2 {out a b : List Nat} {k br : Nat} (hl : out.length = k) (hb : b.getD k 0 < 4294967296) (hge : ¬ a.getD k 0 < br + b.getD k 0) (hk : k < a.length)
    (hv : val out + val (b.take k) = val (a.take k) + br * B32 ^ k) :
    val (out ++ [a.getD k 0 - (br + b.getD k 0)]) + val (b.take (k + 1)) = val (a.take (k + 1)) + 0 * B32 ^ (k + 1) := by
  have hd : (out ++ a.drop k).drop k = a.drop k := by rw [← hl, List.drop_left' rfl]
  have ht : (out ++ a.drop k).take k = out := by rw [← hl, List.take_left' rfl]
  have hg : (out ++ a.drop k).getD k 0 = a.getD k 0 := by
    subst hl
    simp [List.getD_eq_getElem?_getD, List.getElem?_append_right]
  have := sub_step2 (out := out ++ a.drop k) (a := a) (b := b) (k := k) (br := br) (by simp; omega) hb (by rw [hg]; exact hge) hd (by rw [ht]; exact hv)
  rw [← this, hg]
  congr 2
  rw [take_snoc 0 (by simp; omega), getD_set_self (by simp; omega), take_set_self, ht]
theorem minus_close {out : List Nat} {a b k br : Nat} (hk : k = (digs a).length) (hl : out.length = k) (hf : Fit out) (hlb : (digs b).length ≤ (digs a).length) (hba : b ≤ a)
    (hv : val out + val ((digs b).take k) = val ((digs a).take k) + br * B32 ^ k) : val out = a - b :=
  sub_close hk (by omega) hf hlb hba (by rw [List.take_of_length_le (by omega)]; exact hv)
theorem half_step {out a : List Nat} {k c : Nat} (hk : 0 < k) (h1 : k ≤ out.length) (h2 : k ≤ a.length) (hc : c < 2) (hb : a.getD (k - 1) 0 < 4294967296) (hv : val (out.drop k) * 2 + c = val (a.drop k)) :
    val ((out.set (k - 1) (a.getD (k - 1) 0 / 2 ^ 1 ||| c * 2 ^ 31)).drop (k - 1)) * 2 + (a.getD (k - 1) 0 &&& 1) = val (a.drop (k - 1)) := by
  have e : (a.getD (k - 1) 0 / 2 ^ 1 ||| c * 2 ^ 31) = (c * 2 ^ 32 + a.getD (k - 1) 0) / 2 := by
    rw [Nat.or_comm, Nat.mul_comm, ← Nat.two_pow_add_eq_or_of_lt (i := 31) (by have : (2:Nat)^31 = 2147483648 := rfl; omega)]
    have e1 : (2:Nat)^31 = 2147483648 := rfl
    have e2 : (2:Nat)^32 = 4294967296 := rfl
    rw [e1, e2]; omega
  have e3 : (a.getD (k - 1) 0 &&& 1) = (c * 2 ^ 32 + a.getD (k - 1) 0) % 2 := by
    rw [Nat.and_one_is_mod]
    have e2 : (2:Nat)^32 = 4294967296 := rfl
    rw [e2]; omega
  rw [e, e3]
  exact over_step hk h1 h2 hv
theorem half_lt {x c : Nat} (hx : x < 4294967296) (hc : c < 2) : (x / 2 ^ 1 ||| c * 2 ^ 31) < 4294967296 := by
  have e : (4294967296 : Nat) = 2 ^ 32 := rfl
  rw [e]
  refine Nat.or_lt_two_pow ?_ ?_
  · have e2 : (2:Nat)^32 = 4294967296 := rfl
    rw [e2]; omega
  · have e1 : (2:Nat)^31 = 2147483648 := rfl
    have e2 : (2:Nat)^32 = 4294967296 := rfl
    rw [e1, e2]; omega
theorem and1_lt (x : Nat) : (x &&& 1) < 2 := by rw [Nat.and_one_is_mod]; omega
theorem digs_even {a : Nat} : (digs a).getD 0 0 % 2 = a % 2 := by
  by_cases h : a = 0
  · subst h; rw [digs_zero]; rfl
  · rw [digs_pos h]; simp only [List.getD_cons_zero, B32_eq]; omega
theorem bits_step {x : Nat} (h : 0 < x) : bitlen x = bitlen (x / 2 ^ 1) + 1 := bitlen_pos (by omega)
theorem Fit.snoc {l : List Nat} {x : Nat} (f : Fit l) (h : x < 4294967296) : Fit (l ++ [x]) := fun y hy => by
  rcases List.mem_append.1 hy with hy | hy
  · exact f y hy
  · simp at hy; subst hy; exact h
theorem one_eq {a : Nat} : (decide ((digs a).length = 1) && decide ((digs a).getD 0 0 = 1)) = decide (a = 1) := by
  rw [Bool.eq_iff_iff]
  simp only [Bool.and_eq_true, decide_eq_true_eq]
  constructor
  · intro ⟨h1, h2⟩
    have h0 : a ≠ 0 := by rintro rfl; rw [digs_zero] at h1; simp at h1
    rw [digs_pos h0] at h1 h2
    simp only [List.length_cons] at h1
    simp only [List.getD_cons_zero, B32_eq] at h2
    have h3 : a / B32 = 0 := len_zero.1 (by omega)
    rw [B32_eq] at h3
    omega
  · rintro rfl
    rw [digs_pos (by decide)]
    simp [B32, digs_zero]
theorem digs_lit1 : digs 1 = [1] := by rw [digs_pos (by decide)]; simp [B32, digs_zero]
theorem bits_end {m x a : Nat} (hm : m + bitlen x = bitlen a) (h : ¬ 0 < x) : m = bitlen a := by
  have h0 : x = 0 := by omega
  rw [h0, bitlen_zero] at hm; omega
theorem val_one (r : Nat) : val [r] = r := by simp [val]
theorem lt_bitlen (a : Nat) : a < 2 ^ bitlen a := by
  induction a using Nat.strongRecOn with
  | _ a ih =>
    by_cases h : a = 0
    · subst h; rw [bitlen_zero]; decide
    · have := ih (a / 2) (by omega)
      rw [bitlen_pos h, Nat.pow_succ]; omega
theorem one_shl_lt (i : Nat) : 1 * 2 ^ (i % 32) < 4294967296 := by
  rw [Nat.one_mul]
  exact Nat.lt_of_lt_of_le (Nat.pow_lt_pow_right (by decide) (Nat.mod_lt i (by decide))) (Nat.le_refl _)
theorem digs_getD (a : Nat) : ∀ i : Nat, (digs a).getD i 0 = a / B32 ^ i % B32 := by
  induction a using Nat.strongRecOn with
  | _ a ih =>
    intro i
    by_cases h : a = 0
    · subst h; rw [digs_zero]; simp
    · rw [digs_pos h]
      cases i with
      | zero => simp
      | succ i =>
        rw [List.getD_cons_succ, ih (a / B32) (Nat.div_lt_self (by omega) (by decide)) i, Nat.div_div_eq_div_mul, Nat.pow_succ, Nat.mul_comm B32]
theorem bit_at (a i : Nat) : ((digs a).getD (i / 32) 0 / 2 ^ (i % 32) &&& 1) = a / 2 ^ i % 2 := by
  rw [Nat.and_one_is_mod, digs_getD]
  have e : B32 = 2 ^ 32 := rfl
  have h1 : a / 2 ^ i = a / B32 ^ (i / 32) / 2 ^ (i % 32) := by
    rw [e, ← Nat.pow_mul, Nat.div_div_eq_div_mul, ← Nat.pow_add, show 32 * (i / 32) + i % 32 = i by omega]
  rw [h1]
  generalize a / B32 ^ (i / 32) = m
  have h2 : m % B32 / 2 ^ (i % 32) = m / 2 ^ (i % 32) % 2 ^ (32 - i % 32) := by
    rw [e]
    conv => lhs; rw [show (2:Nat) ^ 32 = 2 ^ (i % 32) * 2 ^ (32 - i % 32) by rw [← Nat.pow_add]; congr 1; omega]
    rw [Nat.mod_mul_right_div_self]
  rw [h2]
  have h3 : (2:Nat) ^ (32 - i % 32) = 2 * 2 ^ (31 - i % 32) := by rw [← Nat.pow_succ']; congr 1; omega
  rw [h3, Nat.mod_mul_right_mod]
theorem cmpN_nonneg {a b : Nat} (h : ((0 : Nat) : Int) ≤ cmpN a b) : b ≤ a := by have := cmpN_neg (a := a) (b := b); omega
theorem cmpN_nneg {a b : Nat} (h : ¬ ((0 : Nat) : Int) ≤ cmpN a b) : a < b := by have := cmpN_neg (a := a) (b := b); omega
theorem div_halves {a k : Nat} (hk : 0 < k) : a / 2 ^ (k - 1) = 2 * (a / 2 ^ k) + a / 2 ^ (k - 1) % 2 := by
  obtain ⟨j, rfl⟩ : ∃ j, k = j + 1 := ⟨k - 1, by omega⟩
  rw [Nat.add_sub_cancel, Nat.pow_succ, ← Nat.div_div_eq_div_mul]; omega
theorem div_core {q b t : Nat} (hb : b ≠ 0) (ht : t ≤ 1) : (2 * q + t) / b = 2 * (q / b) + (if b ≤ 2 * (q % b) + t then 1 else 0) ∧ (2 * q + t) % b = 2 * (q % b) + t - (if b ≤ 2 * (q % b) + t then b else 0) := by
  have h1 := Nat.div_add_mod q b
  have h2 := Nat.mod_lt q (Nat.pos_of_ne_zero hb)
  generalize q / b = x at *
  generalize q % b = r at *
  subst h1
  have e : 2 * (b * x + r) + t = b * (2 * x) + (2 * r + t) := by grind
  rw [e]
  split
  · rename_i h
    have e2 : b * (2 * x) + (2 * r + t) = b * (2 * x + 1) + (2 * r + t - b) := by rw [Nat.mul_add, Nat.mul_one]; omega
    rw [e2, Nat.mul_add_div (Nat.pos_of_ne_zero hb), Nat.mul_add_mod, Nat.div_eq_of_lt (by omega), Nat.mod_eq_of_lt (by omega)]
    exact ⟨rfl, rfl⟩
  · rename_i h
    rw [Nat.mul_add_div (Nat.pos_of_ne_zero hb), Nat.mul_add_mod, Nat.div_eq_of_lt (by omega), Nat.mod_eq_of_lt (by omega)]
    exact ⟨rfl, rfl⟩
theorem val_getD {l : List Nat} (f : Fit l) : ∀ {i : Nat}, i < l.length → l.getD i 0 = val l / B32 ^ i % B32 := by
  induction l with
  | nil => intro i h; simp at h
  | cons x l ih =>
    intro i h
    have hx : x < B32 := f x (List.mem_cons_self ..)
    cases i with
    | zero => simp [val, Nat.add_mul_mod_self_left, Nat.mod_eq_of_lt hx]
    | succ i =>
      rw [List.getD_cons_succ, ih (fun y hy => f y (List.mem_cons_of_mem _ hy)) (by simpa using h), val, Nat.pow_succ, Nat.mul_comm (B32 ^ i), ← Nat.div_div_eq_div_mul, Nat.add_mul_div_left _ _ B32_pos, Nat.div_eq_of_lt hx, Nat.zero_add]
section divs
variable {a b k : Nat} (hk : 0 < k) (hb : b ≠ 0)
include hk hb
theorem div_t1 (ht : a / 2 ^ (k - 1) % 2 = 1) (hge : b ≤ a / 2 ^ k % b + a / 2 ^ k % b + 1) : a / 2 ^ k % b + a / 2 ^ k % b + 1 - b = a / 2 ^ (k - 1) % b := by
  rw [div_halves hk, ht, (div_core hb (Nat.le_refl 1)).2, if_pos (by omega)]; omega
theorem div_f1 (ht : a / 2 ^ (k - 1) % 2 = 1) (hge : a / 2 ^ k % b + a / 2 ^ k % b + 1 < b) : a / 2 ^ k % b + a / 2 ^ k % b + 1 = a / 2 ^ (k - 1) % b := by
  rw [div_halves hk, ht, (div_core hb (Nat.le_refl 1)).2, if_neg (by omega)]; omega
theorem div_t0 (ht : a / 2 ^ (k - 1) % 2 = 0) (hge : b ≤ a / 2 ^ k % b + a / 2 ^ k % b) : a / 2 ^ k % b + a / 2 ^ k % b - b = a / 2 ^ (k - 1) % b := by
  rw [div_halves hk, ht, (div_core hb (Nat.zero_le 1)).2, if_pos (by omega)]; omega
theorem div_f0 (ht : a / 2 ^ (k - 1) % 2 = 0) (hge : a / 2 ^ k % b + a / 2 ^ k % b < b) : a / 2 ^ k % b + a / 2 ^ k % b = a / 2 ^ (k - 1) % b := by
  rw [div_halves hk, ht, (div_core hb (Nat.zero_le 1)).2, if_neg (by omega)]; omega
omit hb in
theorem pow_half : 2 ^ k = 2 ^ (k - 1) * 2 := by rw [← Nat.pow_succ]; congr 1; omega
theorem divv_f1 {out : List Nat} (ht : a / 2 ^ (k - 1) % 2 = 1) (hge : a / 2 ^ k % b + a / 2 ^ k % b + 1 < b) (hv : val out = 2 ^ k * (a / 2 ^ k / b)) : val out = 2 ^ (k - 1) * (a / 2 ^ (k - 1) / b) := by
  have e : a / 2 ^ (k - 1) / b = 2 * (a / 2 ^ k / b) := by rw [div_halves hk, ht, (div_core hb (Nat.le_refl 1)).1, if_neg (by omega)]; rfl
  rw [hv, e, pow_half hk, Nat.mul_assoc]
theorem divv_f0 {out : List Nat} (ht : a / 2 ^ (k - 1) % 2 = 0) (hge : a / 2 ^ k % b + a / 2 ^ k % b < b) (hv : val out = 2 ^ k * (a / 2 ^ k / b)) : val out = 2 ^ (k - 1) * (a / 2 ^ (k - 1) / b) := by
  have e : a / 2 ^ (k - 1) / b = 2 * (a / 2 ^ k / b) := by rw [div_halves hk, ht, (div_core hb (Nat.zero_le 1)).1, if_neg (by omega)]; rfl
  rw [hv, e, pow_half hk, Nat.mul_assoc]
omit hk hb in
theorem set_bit {out : List Nat} {i q : Nat} (hi : i / 32 < out.length) (hf : Fit out) (hv : val out = 2 ^ (i + 1) * q) :
    val (out.set (i / 32) (out.getD (i / 32) 0 ||| 1 * 2 ^ (i % 32))) = 2 ^ i * (2 * q + 1) := by
  have hg : out.getD (i / 32) 0 = val out / B32 ^ (i / 32) % B32 := val_getD hf hi
  have e : B32 = 2 ^ 32 := rfl
  have hm : out.getD (i / 32) 0 % 2 ^ (i % 32 + 1) = 0 := by
    rw [hg, hv, e, ← Nat.pow_mul]
    have h1 : (2:Nat) ^ (i + 1) = 2 ^ (32 * (i / 32)) * 2 ^ (i % 32 + 1) := by rw [← Nat.pow_add]; congr 1; omega
    rw [h1, Nat.mul_assoc, Nat.mul_div_cancel_left _ (Nat.pow_pos (by decide))]
    have h2 : (2:Nat) ^ 32 = 2 ^ (i % 32 + 1) * 2 ^ (31 - i % 32) := by rw [← Nat.pow_add]; congr 1; omega
    rw [h2, Nat.mod_mul_right_mod, Nat.mul_mod_right]
  have hor : (out.getD (i / 32) 0 ||| 1 * 2 ^ (i % 32)) = out.getD (i / 32) 0 + 2 ^ (i % 32) := by
    obtain ⟨c, hc⟩ := Nat.dvd_of_mod_eq_zero hm
    rw [hc, Nat.one_mul, ← Nat.two_pow_add_eq_or_of_lt (Nat.pow_lt_pow_right (by decide) (by omega))]
  have hs := val_set out (i / 32) (out.getD (i / 32) 0 + 2 ^ (i % 32)) hi
  rw [hor]
  have hp : 2 ^ (i % 32) * B32 ^ (i / 32) = 2 ^ i := by rw [e, ← Nat.pow_mul, ← Nat.pow_add]; congr 1; omega
  rw [Nat.add_mul, hp, hv, Nat.pow_succ] at hs
  rw [Nat.mul_add, Nat.mul_one]
  have : 2 ^ i * 2 * q = 2 ^ i * (2 * q) := by rw [Nat.mul_assoc]
  omega
theorem divv_t1 {out : List Nat} (ht : a / 2 ^ (k - 1) % 2 = 1) (hge : b ≤ a / 2 ^ k % b + a / 2 ^ k % b + 1) (hl : out.length = (digs a).length) (hf : Fit out) (hbz : k ≤ 32 * (digs a).length) (hv : val out = 2 ^ k * (a / 2 ^ k / b)) :
    val (out.set ((k - 1) / 32) (out.getD ((k - 1) / 32) 0 ||| 1 * 2 ^ ((k - 1) % 32))) = 2 ^ (k - 1) * (a / 2 ^ (k - 1) / b) := by
  have e : a / 2 ^ (k - 1) / b = 2 * (a / 2 ^ k / b) + 1 := by rw [div_halves hk, ht, (div_core hb (Nat.le_refl 1)).1, if_pos (by omega)]
  rw [e]
  exact set_bit (by omega) hf (by rw [hv]; congr 2; omega)
theorem divv_t0 {out : List Nat} (ht : a / 2 ^ (k - 1) % 2 = 0) (hge : b ≤ a / 2 ^ k % b + a / 2 ^ k % b) (hl : out.length = (digs a).length) (hf : Fit out) (hbz : k ≤ 32 * (digs a).length) (hv : val out = 2 ^ k * (a / 2 ^ k / b)) :
    val (out.set ((k - 1) / 32) (out.getD ((k - 1) / 32) 0 ||| 1 * 2 ^ ((k - 1) % 32))) = 2 ^ (k - 1) * (a / 2 ^ (k - 1) / b) := by
  have e : a / 2 ^ (k - 1) / b = 2 * (a / 2 ^ k / b) + 1 := by rw [div_halves hk, ht, (div_core hb (Nat.zero_le 1)).1, if_pos (by omega)]
  rw [e]
  exact set_bit (by omega) hf (by rw [hv]; congr 2; omega)
end divs
theorem gcd_both {x y t G : Nat} (hx : x % 2 = 0) (hy : y % 2 = 0) (h : 2 ^ t * Nat.gcd x y = G) : 2 ^ (t + 1) * Nat.gcd (x / 2) (y / 2) = G := by
  obtain ⟨m, rfl⟩ := Nat.dvd_of_mod_eq_zero hx
  obtain ⟨n, rfl⟩ := Nat.dvd_of_mod_eq_zero hy
  rw [Nat.mul_div_cancel_left _ (by decide), Nat.mul_div_cancel_left _ (by decide), ← h, Nat.gcd_mul_left, Nat.pow_succ, Nat.mul_assoc]
theorem gcd_odd {x y : Nat} (hy : y ≠ 0) (h : ¬ (x % 2 = 0 ∧ y % 2 = 0)) : Nat.gcd x y % 2 = 1 := by
  rcases Nat.mod_two_eq_zero_or_one (Nat.gcd x y) with h2 | h2
  · exfalso
    have hd := Nat.dvd_of_mod_eq_zero h2
    exact h ⟨Nat.mod_eq_zero_of_dvd (Nat.dvd_trans hd (Nat.gcd_dvd_left ..)), Nat.mod_eq_zero_of_dvd (Nat.dvd_trans hd (Nat.gcd_dvd_right ..))⟩
  · exact h2
theorem gcd_half_l {x y G : Nat} (ho : G % 2 = 1) (hx : x % 2 = 0) (h : Nat.gcd x y = G) : Nat.gcd (x / 2) y = G := by
  obtain ⟨m, rfl⟩ := Nat.dvd_of_mod_eq_zero hx
  rw [Nat.mul_div_cancel_left _ (by decide)]
  apply Nat.dvd_antisymm
  · rw [← h]; exact Nat.dvd_gcd (Nat.dvd_trans (Nat.gcd_dvd_left ..) (Nat.dvd_mul_left ..)) (Nat.gcd_dvd_right ..)
  · have h1 : G ∣ 2 * m := h ▸ Nat.gcd_dvd_left ..
    have h2 : G ∣ y := h ▸ Nat.gcd_dvd_right ..
    have hc : Nat.Coprime G 2 := by
      rw [Nat.coprime_comm, Nat.Coprime, Nat.gcd_rec, ho]; rfl
    exact Nat.dvd_gcd (hc.dvd_of_dvd_mul_left h1) h2
theorem gcd_half_r {x y G : Nat} (ho : G % 2 = 1) (hy : y % 2 = 0) (h : Nat.gcd x y = G) : Nat.gcd x (y / 2) = G := by
  rw [Nat.gcd_comm]; exact gcd_half_l ho hy (by rw [Nat.gcd_comm]; exact h)
theorem gcd_sub {x y G : Nat} (hle : x ≤ y) (h : Nat.gcd x y = G) : Nat.gcd x (y - x) = G := by
  rw [← h]; exact Nat.gcd_sub_self_right hle
theorem gcd_swap_sub {x y G : Nat} (hlt : y < x) (h : Nat.gcd x y = G) : Nat.gcd y (x - y) = G := by
  rw [Nat.gcd_sub_self_right (Nat.le_of_lt hlt), Nat.gcd_comm]; exact h
theorem not_gt_of {x y : Nat} (h : ¬ ((0 : Nat) : Int) < cmpN x y) : x ≤ y := by have := cmpN_pos (a := x) (b := y); omega
theorem dbl_pow (x i : Nat) : x * 2 ^ i + x * 2 ^ i = x * 2 ^ (i + 1) := by rw [Nat.pow_succ]; grind
theorem pow_bound {t g a b : Nat} (ha : a ≠ 0) (h : 2 ^ t * g = Nat.gcd a b) : t ≤ 32 * sz a := by
  have h1 := Nat.gcd_le_left b (Nat.pos_of_ne_zero ha)
  have h0 : 0 < Nat.gcd a b := Nat.gcd_pos_of_pos_left b (Nat.pos_of_ne_zero ha)
  have hg : 0 < g := by
    rcases Nat.eq_zero_or_pos g with e | e
    · rw [e, Nat.mul_zero] at h; omega
    · exact e
  have h2 : 2 ^ t ≤ a := by
    have := Nat.le_mul_of_pos_right (2 ^ t) hg
    omega
  have h3 : a < 2 ^ (32 * sz a) := by rw [Nat.pow_mul]; exact lt_sz a
  exact Nat.le_of_lt ((Nat.pow_lt_pow_iff_right (by decide)).1 (Nat.lt_of_le_of_lt h2 h3))
theorem gcd_one {n d : Nat} (h : n = 1 ∨ d = 1) : 1 = Nat.gcd n d := by
  rcases h with rfl | rfl
  · rw [Nat.gcd_one_left]
  · rw [Nat.gcd_one_right]
theorem div_one {n g : Nat} (h : g = 1) : n = n / g := by subst h; rw [Nat.div_one]
theorem digs1_len : (digs 1).length = 1 := by rw [digs_lit1]; rfl
end Go.Ear
namespace Go.Ear
def lowF (f : Fr) : Nat := if val f.d = 0 then 1 else val f.d
theorem lowF_ne (f : Fr) : lowF f ≠ 0 := by unfold lowF; split <;> omega
theorem Fr.rat_eq (f : Fr) : f.rat = ratOf f.neg (val f.n) (lowF f) := rfl
theorem sz_lowF {f : Fr} (h : Fit f.d) : sz (lowF f) ≤ bf f := by
  unfold lowF
  split
  · rw [sz_one]; exact bf_pos f
  · exact Nat.le_trans (sz_len h) (bf_d f)
theorem sz_valn {f : Fr} (h : Fit f.n) : sz (val f.n) ≤ bf f := Nat.le_trans (sz_len h) (bf_n f)
theorem mk_rat {s : Bool} {x y : Nat} (h : y ≠ 0) : (Fr.mk s (digs x) (digs y)).rat = ratOf s x y := by
  unfold Fr.rat; simp only [val_digs, if_neg h]
theorem mk_rat1 {s : Bool} {x : Nat} : (Fr.mk s (digs x) []).rat = ratOf s x 1 := by
  unfold Fr.rat; simp only [val_digs]; rfl
theorem ratOf_div (s : Bool) (n d : Nat) : ratOf s n d = ((sgn s n : Int) : Rat) / ((d : Int) : Rat) := by
  unfold ratOf sgn
  rw [Rat.mkRat_eq_div]; rfl
theorem nc_ne {d : Nat} (h : d ≠ 0) : ((d : Int) : Rat) ≠ 0 := fun e => h (by have := Rat.intCast_inj.1 (e.trans Rat.intCast_zero.symm); omega)
theorem add_s {s : Bool} {n d m e : Nat} (hd : d ≠ 0) (he : e ≠ 0) : ratOf s (n * e + m * d) (d * e) = ratOf s n d + ratOf s m e := by
  rw [ratOf_div, ratOf_div, ratOf_div]
  have h1 := nc_ne hd
  have h2 := nc_ne he
  have h3 : ((sgn s (n * e + m * d) : Int) : Rat) = (sgn s n : Int) * ((e : Int) : Rat) + (sgn s m : Int) * ((d : Int) : Rat) := by
    rw [← Rat.intCast_mul, ← Rat.intCast_mul, ← Rat.intCast_add]
    congr 1
    unfold sgn; split <;> simp <;> grind
  have h4 : ((((d * e : Nat) : Int)) : Rat) = ((d : Int) : Rat) * ((e : Int) : Rat) := by rw [← Rat.intCast_mul]; rfl
  rw [h3, h4]
  grind
theorem sub_s {s t : Bool} {n d m e : Nat} (hd : d ≠ 0) (he : e ≠ 0) (hst : s ≠ t) (hle : m * d ≤ n * e) : ratOf s (n * e - m * d) (d * e) = ratOf s n d + ratOf t m e := by
  rw [ratOf_div, ratOf_div, ratOf_div]
  have h1 := nc_ne hd
  have h2 := nc_ne he
  have h3 : ((sgn s (n * e - m * d) : Int) : Rat) = (sgn s n : Int) * ((e : Int) : Rat) + (sgn t m : Int) * ((d : Int) : Rat) := by
    rw [← Rat.intCast_mul, ← Rat.intCast_mul, ← Rat.intCast_add]
    congr 1
    have e3 : ((n * e - m * d : Nat) : Int) = (n : Int) * e - m * d := by rw [Int.ofNat_sub hle]; simp
    unfold sgn
    cases s <;> cases t <;> first | exact absurd rfl hst | (simp only [Bool.false_eq_true, if_false, if_true, e3]; grind)
  have h4 : ((((d * e : Nat) : Int)) : Rat) = ((d : Int) : Rat) * ((e : Int) : Rat) := by rw [← Rat.intCast_mul]; rfl
  rw [h3, h4]
  grind
theorem sub_s' {s t : Bool} {n d m e : Nat} (hd : d ≠ 0) (he : e ≠ 0) (hst : s ≠ t) (hlt : n * e ≤ m * d) : ratOf t (m * d - n * e) (d * e) = ratOf s n d + ratOf t m e := by
  rw [Nat.mul_comm d e, Rat.add_comm]; exact sub_s he hd (fun h => hst h.symm) hlt
theorem mul_s {s t : Bool} {n d m e : Nat} (hd : d ≠ 0) (he : e ≠ 0) : ratOf (s != t) (n * m) (d * e) = ratOf s n d * ratOf t m e := by
  rw [ratOf_div, ratOf_div, ratOf_div]
  have h1 := nc_ne hd
  have h2 := nc_ne he
  have h3 : ((sgn (s != t) (n * m) : Int) : Rat) = (sgn s n : Int) * (sgn t m : Int) := by
    rw [← Rat.intCast_mul]
    congr 1
    unfold sgn
    cases s <;> cases t <;> simp <;> grind
  have h4 : ((((d * e : Nat) : Int)) : Rat) = ((d : Int) : Rat) * ((e : Int) : Rat) := by rw [← Rat.intCast_mul]; rfl
  rw [h3, h4]
  grind
theorem neg_s {s : Bool} {n d : Nat} : ratOf (!s) n d = -ratOf s n d := by
  rw [ratOf_div, ratOf_div]
  have h3 : ((sgn (!s) n : Int) : Rat) = -((sgn s n : Int) : Rat) := by
    rw [← Rat.intCast_neg]
    congr 1
    unfold sgn
    cases s <;> simp
  rw [h3]
  grind
theorem inv_s {s : Bool} {n d : Nat} (hn : n ≠ 0) (hd : d ≠ 0) : ratOf s d n = (ratOf s n d)⁻¹ := by
  rw [ratOf_div, ratOf_div]
  have h1 := nc_ne hd
  have h2 := nc_ne hn
  cases s
  · show ((d : Int) : Rat) / ((n : Int) : Rat) = (((n : Int) : Rat) / ((d : Int) : Rat))⁻¹
    grind
  · show ((-(d : Int) : Int) : Rat) / ((n : Int) : Rat) = (((-(n : Int) : Int) : Rat) / ((d : Int) : Rat))⁻¹
    rw [Rat.intCast_neg, Rat.intCast_neg]
    grind
theorem rat_zero_iff {f : Fr} : f.rat = 0 ↔ val f.n = 0 := by
  rw [Fr.rat_eq, ratOf_div]
  have h1 := nc_ne (lowF_ne f)
  constructor
  · intro h
    have h2 : ((sgn f.neg (val f.n) : Int) : Rat) = 0 := by grind
    have h3 := Rat.intCast_inj.1 (h2.trans Rat.intCast_zero.symm)
    unfold sgn at h3
    split at h3 <;> omega
  · intro h
    rw [h]
    have : sgn f.neg 0 = 0 := by unfold sgn; split <;> rfl
    rw [this, Rat.intCast_zero]; grind
theorem int_s {n : Int} : ratOf (decide (n < 0)) n.natAbs 1 = (n : Rat) := by
  rw [ratOf_div]
  have h : sgn (decide (n < 0)) n.natAbs = n := by
    unfold sgn
    by_cases h : n < 0
    · rw [if_pos (by simpa using h)]; omega
    · rw [if_neg (by simpa using h)]; omega
  rw [h]
  have : (((1 : Nat) : Int) : Rat) = 1 := rfl
  rw [this]; grind
theorem quot_s {n d : Int} (hd : d ≠ 0) : ratOf (decide (n < 0) != decide (d < 0)) n.natAbs d.natAbs = (n : Rat) / (d : Rat) := by
  have h1 : d.natAbs ≠ 0 := by omega
  have := mul_s (s := decide (n < 0)) (t := decide (d < 0)) (n := n.natAbs) (d := 1) (m := 1) (e := d.natAbs) (by decide) h1
  rw [Nat.mul_one, Nat.one_mul] at this
  rw [this, int_s, inv_s (n := d.natAbs) (d := 1) h1 (by decide), int_s, Rat.div_def]
theorem sign_s {f : Fr} : sgQ f.rat = if val f.n = 0 then 0 else if f.neg = true then -1 else 1 := by
  unfold sgQ
  by_cases h : val f.n = 0
  · rw [if_pos (rat_zero_iff.2 h), if_pos h]
  · rw [if_neg (fun e => h (rat_zero_iff.1 e)), if_neg h]
    have hn := ratOf_neg (s := f.neg) (n := val f.n) (lowF_ne f)
    have hp : 0 < val f.n / Nat.gcd (val f.n) (lowF f) := Nat.div_pos (Nat.gcd_le_left _ (Nat.pos_of_ne_zero h)) (gcd_pos' (lowF_ne f))
    rw [decide_eq_true hp, Bool.and_true, ← Fr.rat_eq] at hn
    by_cases hs : f.neg = true
    · rw [hs] at hn
      rw [if_pos (of_decide_eq_true hn.symm), if_pos hs]
    · rw [if_neg hs]
      rw [Bool.not_eq_true] at hs
      rw [hs] at hn
      rw [if_neg (of_decide_eq_false hn.symm)]
def sameF (f g : Fr) : Bool := decide (f.neg = g.neg) && (decide (f.n = g.n) && decide (f.d = g.d))
theorem sameF_iff {f g : Fr} : sameF f g = true ↔ f = g := by
  unfold sameF
  cases f; cases g
  simp
theorem frK_inj {p q : Rat} : frK p = frK q ↔ p = q := by
  constructor
  · intro h; rw [← frK_rat p, h, frK_rat]
  · intro h; rw [h]
theorem take_eq_succ {a b : List Nat} {k : Nat} (ha : k < a.length) (hb : k < b.length) (h : a.take k = b.take k) (he : a.getD k 0 = b.getD k 0) : a.take (k + 1) = b.take (k + 1) := by
  rw [take_snoc 0 ha, take_snoc 0 hb, h, he]
theorem ne_of_getD {a b : List Nat} {k : Nat} (h : a.getD k 0 ≠ b.getD k 0) : ¬ a = b := fun e => h (by rw [e])
theorem rat_le_div {x y : Rat} {d : Rat} (hd : 0 < d) : x ≤ y / d ↔ x * d ≤ y := by
  have h1 : y = y / d * d := by
    have : d ≠ 0 := by intro e; rw [e] at hd; exact absurd hd (by decide)
    grind
  constructor
  · intro h
    rw [h1]
    exact Rat.mul_le_mul_of_nonneg_right h (by grind)
  · intro h
    rw [h1] at h
    exact Rat.le_of_mul_le_mul_right h hd
theorem floor_div {s : Bool} {n d : Nat} (hd : d ≠ 0) : (ratOf s n d).floor = (sgn s n) / (d : Int) := by
  rw [ratOf_div]
  have hp : (0 : Rat) < ((d : Int) : Rat) := by
    rw [← Rat.intCast_zero]; exact Rat.intCast_lt_intCast.2 (by omega)
  have key : ∀ z : Int, z ≤ (((sgn s n : Int) : Rat) / ((d : Int) : Rat)).floor ↔ z ≤ sgn s n / (d : Int) := by
    intro z
    rw [Rat.le_floor_iff, rat_le_div hp, ← Rat.intCast_mul, Rat.intCast_le_intCast, Int.le_ediv_iff_mul_le (by omega)]
  exact Int.le_antisymm ((key _).1 (Int.le_refl _)) ((key _).2 (Int.le_refl _))
theorem down_s {f : Fr} {m : Nat} (h : m = if f.neg = true ∧ 0 < val f.n % lowF f then val f.n / lowF f + 1 else val f.n / lowF f) : ratOf f.neg m 1 = (f.rat.floor : Rat) := by
  rw [Fr.rat_eq, floor_div (lowF_ne f), ratOf_div]
  have e1 : (((1 : Nat) : Int) : Rat) = 1 := rfl
  rw [e1]
  have : sgn f.neg m = sgn f.neg (val f.n) / (lowF f : Int) := by
    have hd := Nat.pos_of_ne_zero (lowF_ne f)
    generalize lowF f = d at *
    generalize val f.n = a at *
    have h1 := Nat.div_add_mod a d
    have hlt := Nat.mod_lt a hd
    unfold sgn
    by_cases hs : f.neg = true
    · rw [if_pos hs, if_pos hs]
      by_cases hr : 0 < a % d
      · rw [if_pos ⟨hs, hr⟩] at h
        subst h
        generalize a / d = k at *
        generalize a % d = r at *
        have : -(a : Int) = ((d - r : Nat) : Int) + (d : Int) * (-(k + 1 : Nat) : Int) := by
          rw [← h1]; push_cast [Nat.le_of_lt hlt]; grind
        rw [this, Int.add_mul_ediv_left _ _ (by omega), Int.ediv_eq_zero_of_lt (by omega) (by omega)]; simp
      · rw [if_neg (fun e => hr e.2)] at h
        subst h
        have hr : a % d = 0 := by omega
        rw [hr] at h1
        rw [← h1, Nat.add_zero, Nat.mul_div_cancel_left _ hd, Int.natCast_mul, ← Int.mul_neg, Int.mul_ediv_cancel_left _ (by omega)]
    · rw [if_neg hs, if_neg hs]
      rw [if_neg (fun e => hs e.1)] at h
      subst h; rfl
  rw [this]; grind
section
variable {a b : Fr}
theorem add_F (h : a.neg = b.neg) : ratOf a.neg (val a.n * lowF b + val b.n * lowF a) (lowF a * lowF b) = a.rat + b.rat := by
  rw [Fr.rat_eq a, Fr.rat_eq b, ← h]; exact add_s (lowF_ne a) (lowF_ne b)
theorem sub_F (h : ¬ a.neg = b.neg) (hle : val b.n * lowF a ≤ val a.n * lowF b) : ratOf a.neg (val a.n * lowF b - val b.n * lowF a) (lowF a * lowF b) = a.rat + b.rat :=
  sub_s (lowF_ne a) (lowF_ne b) h hle
theorem sub_F' (h : ¬ a.neg = b.neg) (hle : val a.n * lowF b ≤ val b.n * lowF a) : ratOf b.neg (val b.n * lowF a - val a.n * lowF b) (lowF a * lowF b) = a.rat + b.rat :=
  sub_s' (lowF_ne a) (lowF_ne b) h hle
theorem mul_F : ratOf (a.neg != b.neg) (val a.n * val b.n) (lowF a * lowF b) = a.rat * b.rat := mul_s (lowF_ne a) (lowF_ne b)
theorem neg_F : (Fr.mk (!a.neg) a.n a.d).rat = -a.rat := neg_s
theorem inv_F (h : a.rat ≠ 0) : ratOf a.neg (lowF a) (val a.n) = (a.rat)⁻¹ := inv_s (fun e => h (rat_zero_iff.2 e)) (lowF_ne a)
end
def powB (q : Rat) (n : Int) : Rat := if n < 0 then q⁻¹ else q
def powR (q : Rat) (n : Int) : Rat := powB q n ^ n.natAbs
theorem lowF_frK (q : Rat) : lowF (frK q) = q.den := by
  unfold lowF frK
  simp only
  by_cases h : q.den = 1
  · rw [if_pos h]; simp [val, h]
  · rw [if_neg h, val_digs, if_neg q.den_nz]
theorem any_of_getD {α : Type} {p : α → Bool} {l : List α} {k : Nat} {d : α} (hk : k < l.length) (hp : p (l.getD k d) = true) : l.any p = true := by
  rw [List.any_eq_true]
  refine ⟨l.getD k d, ?_, hp⟩
  rw [List.getD_eq_getElem?_getD, List.getElem?_eq_getElem hk]; exact List.getElem_mem hk
end Go.Ear
namespace Go.Ear
theorem digs_lit {c : Nat} (h : c ≠ 0) (h2 : c < 4294967296) : digs c = [c] := by
  rw [digs_pos h, B32_eq, Nat.mod_eq_of_lt h2, Nat.div_eq_of_lt h2, digs_zero]
theorem digs_getD0 {r : Nat} (h : r < 4294967296) : (digs r).getD 0 0 = r := by
  rw [digs_getD, Nat.pow_zero, Nat.div_one, B32_eq, Nat.mod_eq_of_lt h]
section ops
variable  {n : Nat}    {d : Tmp}  {pos : String} {af : Array Edge} {g : Option (Nat × Bool)}
end ops
theorem ten_pow (p : Nat) : ((((10 : Nat) : Int)) : Rat) ^ p = ((((10 ^ p : Nat) : Int)) : Rat) := by
  induction p with
  | zero => rfl
  | succ p ih => rw [Rat.pow_succ, ih, Nat.pow_succ, ← Rat.intCast_mul]; rfl
theorem mk_abs (q : Rat) : (Fr.mk false (frK q).n (frK q).d).rat = ratOf false q.num.natAbs q.den := by
  have h1 := lowF_frK q
  unfold lowF at h1
  unfold Fr.rat
  simp only
  rw [h1, show val (frK q).n = q.num.natAbs from val_digs _]
theorem natcast_num (m : Nat) : ((((m : Nat) : Int) : Rat)).num.natAbs = m := by rw [Rat.num_intCast]; rfl
end Go.Ear
set_option linter.unusedVariables false
namespace Go.E3
open Go Go.Ear
section
variable {P : Program} {n : Nat} {X : Fix} {ms : List Nat} {loc env : EL} {B : List Res} {c : Code} {k : Kt}
theorem gNl {α : Type} (r : Rp α) (e : TypeId) (g : GW P n X ms loc env (rA r e (.slice none 0 0) [] :: B) c k) : GW P n X ms loc env B c k := ⟨fun ρ h w s => g.p ρ h w ⟨s.gr, s.lo, s.en, OwnL.nil r 0 h w e, (fun i hi => by cases hi), (fun r' hr' i hi => by cases hi), s.ow⟩⟩
end
section
variable {P : Program} {n : Nat} {X : Fix} {ms : List Nat} {loc env env' : EL} {B : List Res} {ol rest : List Oper} {k : Kt}
theorem gDr (m : Nat) {id : Nat} [mx : MixO P] (c : (dagC ol m (env.map (·.1)) && ol.all noDefer) = true) (g : GE P n X ms [] env B ol ol k (fun _ => false) m 0 (fun _ => []) []) : GW P n X ms loc env B (.region id ol.toArray true) k :=
  dag_sound mx.h (Bool.and_eq_true_iff.1 c).1 (Bool.and_eq_true_iff.1 c).2 (g.p fun _ _ h => h)
theorem gDrL (lt : Nat → Bool) (m : Nat) {id : Nat} [mx : MixO P] (c : (dagC ol m (env.map (·.1)) && ol.all noDefer) = true) (g : GE P n X ms [] env B ol ol k lt m 0 (fun _ => []) []) : GW P n X ms loc env B (.region id ol.toArray true) k :=
  dag_sound mx.h (Bool.and_eq_true_iff.1 c).1 (Bool.and_eq_true_iff.1 c).2 (g.p fun _ _ h => h)
end
instance (priority := low) {B : List Res} : MtB B B True [] := ⟨fun _ => .perm (by rw [List.append_nil])⟩
instance (priority := high) {b : Option Addr} {l c : Nat} {v : Value} : EqS (.cv (.slice b l c)) (ov v) (v = .slice b l c) := ⟨fun e h u d => by subst e; exact ⟨d, rfl⟩⟩
end Go.E3
set_option linter.unusedVariables false
set_option maxRecDepth 20000
set_option maxHeartbeats 2000000
set_option synthInstance.maxSize 1000
namespace Go.E3
open Go Go.Ear Go.Proofs
class VlE (l : List Nat) (n : outParam Nat) : Prop where h : val l = n
instance {n : Nat} : VlE (digs n) n := ⟨val_digs n⟩
instance (priority := low) {l : List Nat} : VlE l (val l) := ⟨rfl⟩
instance rtrim_c {l : List Nat} {n : Nat} {S : SV} [i : Vw uv S l] [f : FtL l] [e : VlE l n] : Ct Tryz.prog 90 [S] (l.length ≤ 1000000000000) (nv n) := by
  obtain rfl := e.h
  refine ct1 i (ctI Tryz.call90 Tryz.func90 Tryz.ntmps90 rfl Tryz.results90 rfl [] fun h0 w0 hl => ?_)
  repeat refine nx ?_
  refine gLp (fun k : Nat => [(3, iv k)]) (fun _ => []) (fun k => k ≤ l.length ∧ trim (l.take k) = trim l) (fun k => k) l.length ⟨Nat.le_refl _, by rw [List.take_length]⟩ fun k ⟨h1, h2⟩ => ?_
  repeat refine nx ?_
  refine gIf (fun c => ?_) fun c => ?_ <;> repeat refine nx ?_
  · exact gBk (k - 1) ⟨by omega, by rw [← h2, ← trim_take_zero (k := k - 1) (by omega) c.2, show k - 1 + 1 = k by omega]⟩ (by omega)
  · rw [digs_val f.h, ← h2, trim_take h1 c]
instance rorder_c {a b A B : Nat} {S T : SV} [i : Vw nv S a] [j : Vw nv T b] [p : Sz a A] [q : Sz b B] : Ct Tryz.prog 102 [S, T] (A ≤ 1073741824 ∧ B ≤ 1073741824) (iv (cmpN a b)) := by
  refine ct2 i j (ctI Tryz.call102 Tryz.func102 Tryz.ntmps102 rfl Tryz.results102 rfl [] fun h0 w0 hl => ?_)
  have hp0 := p.h
  have hp1 := q.h
  unfold sz at hp0 hp1
  repeat first | refine nx ?_ | intro _
  refine gIf (fun c => ?_) fun c => ?_ <;> repeat first | refine nx ?_ | intro _
  · refine gIf (fun c => ?_) fun c => ?_ <;> repeat first | refine nx ?_ | intro _
    · exact (cmpN_lt (sz_lt (by unfold sz; omega))).symm
    · exact (cmpN_gt (sz_lt (by unfold sz; omega))).symm
  · have hlen : (digs a).length = (digs b).length := by omega
    refine gLp (fun k : Nat => [(5, iv ((k : Int) - 1))]) (fun _ => []) (fun k => k ≤ (digs a).length ∧ (digs a).drop k = (digs b).drop k) (fun k => k) (digs a).length ⟨Nat.le_refl _, by rw [List.drop_length, hlen, List.drop_length]⟩ fun k ⟨hk, hd⟩ => ?_
    repeat first | refine nx ?_ | intro _
    refine gIf (fun c => ?_) fun c => ?_ <;> repeat first | refine nx ?_ | intro _
    · refine gIf (fun d => ?_) fun d => ?_ <;> repeat first | refine nx ?_ | intro _
      · refine gIf (fun e => ?_) fun e => ?_ <;> repeat first | refine nx ?_ | intro _
        · exact (cmpN_lt (cmp_at hlen (by omega) (by omega) hd (by omega))).symm
        · exact (cmpN_gt (cmp_at hlen.symm (by omega) (by omega) hd.symm (by omega))).symm
      · exact gBk (k - 1) ⟨by omega, drop_eq_succ (by omega) (by omega) (by rw [show k - 1 + 1 = k by omega]; exact hd) (by omega)⟩ (by omega)
    · exact (cmp_end hd (by omega)).symm
instance rplus_c {a b A B : Nat} {S T : SV} [i : Vw nv S a] [j : Vw nv T b] [p : Sz a A] [q : Sz b B] : Ct Tryz.prog 101 [S, T] (A ≤ 1073741824 ∧ B ≤ 1073741824) (nv (a + b)) := by
  refine ct2 i j (ctI Tryz.call101 Tryz.func101 Tryz.ntmps101 rfl Tryz.results101 rfl [] fun h0 w0 hl => ?_)
  have hp0 := p.h
  have hp1 := q.h
  unfold sz at hp0 hp1
  repeat first | refine nx ?_ | intro _
  refine gNl rU 175 ?_
  generalize hM : max (digs a).length (digs b).length = M
  refine gLp (fun s : Nat × Nat × List Nat × Value => [(7, iv s.1), (6, .cv (.int .u64 (s.2.1 : Int))), (5, ov s.2.2.2)]) (fun s => [rA rU 175 s.2.2.2 s.2.2.1]) (fun s => s.1 ≤ M + 1 ∧ s.2.2.1.length = s.1 ∧ Fit s.2.2.1 ∧ s.2.1 ≤ 1 ∧ val s.2.2.1 + s.2.1 * B32 ^ s.1 = val ((digs a).take s.1) + val ((digs b).take s.1) ∧ (s.1 ≤ M ∨ s.2.1 = 0)) (fun s => 2 * (M + 1 - s.1) + s.2.1) (0, 0, [], .slice none 0 0) ⟨Nat.zero_le _, rfl, (fun _ hx => by cases hx), Nat.zero_le _, by simp [val], .inl (Nat.zero_le _)⟩ fun ⟨k, c, out, v⟩ ⟨hk, hll, hf, hc, hv, hkc⟩ => ?_
  have bda := (digs_fit a).getD k
  have bdb := (digs_fit b).getD k
  have ga := fun h => getD_ge (l := digs a) (k := k) h
  have gb := fun h => getD_ge (l := digs b) (k := k) h
  have h32 : (2:Nat)^32 = 4294967296 := rfl
  dsimp only at *
  haveI : FtL out := ⟨hf⟩
  repeat first | refine nx ?_ | intro _
  refine gIf (fun c1 => ?_) fun c1 => ?_ <;> repeat first | refine nx ?_ | intro _
  · refine gJ [(6, .cv (.int .u64 ((c + (digs a).getD k 0 : Nat) : Int)))] (fun c2 => ?_) (fun c2 => ?_) ?_ <;> repeat first | refine nx ?_ | intro _
    · exact gM
    · exact gM (by rw [getD_ge (by omega)]; exact ⟨rfl, by trivial⟩)
    · refine gJ [(6, .cv (.int .u64 ((c + (digs a).getD k 0 + (digs b).getD k 0 : Nat) : Int)))] (fun c3 => ?_) (fun c3 => ?_) ?_ <;> repeat first | refine nx ?_ | intro _
      · exact gM
      · exact gM (by rw [getD_ge (l := digs b) (by omega)]; exact ⟨rfl, by trivial⟩)
      · rename_i v'
        exact gBk (k + 1, (c + (digs a).getD k 0 + (digs b).getD k 0) / 2 ^ 32, out ++ [(c + (digs a).getD k 0 + (digs b).getD k 0) % 4294967296], v') ⟨by dsimp only; omega, by dsimp only; rw [List.length_append, hll]; rfl, Fit.snoc hf (Nat.mod_lt _ (by decide)), by dsimp only; omega, plus_step hll hv, by dsimp only; omega⟩ (by dsimp only; omega)
  · have hc0 : c = 0 := by omega
    rw [hc0] at hv
    rw [plus_close (by omega) (by omega) hv]
end Go.E3
set_option linter.unusedVariables false
set_option maxRecDepth 20000
set_option maxHeartbeats 2000000
set_option synthInstance.maxSize 1000
namespace Go.E3
open Go Go.Ear Go.Proofs
instance rminus_c {a b A B : Nat} {S T : SV} [i : Vw nv S a] [j : Vw nv T b] [p : Sz a A] [q : Sz b B] : Ct Tryz.prog 103 [S, T] (A ≤ 1073741824 ∧ B ≤ 1073741824 ∧ b ≤ a) (nv (a - b)) := by
  refine ct2 i j (ctI Tryz.call103 Tryz.func103 Tryz.ntmps103 rfl Tryz.results103 rfl [] fun h0 w0 hl => ?_)
  have hp0 := p.h
  have hp1 := q.h
  have hsz := sz_mono hl.2.2
  unfold sz at hp0 hp1 hsz
  repeat first | refine nx ?_ | intro _
  refine gNl rU 175 ?_
  refine gLp (fun s : Nat × Nat × List Nat × Value => [(7, iv s.1), (6, .cv (.int .u64 (s.2.1 : Int))), (5, ov s.2.2.2)]) (fun s => [rA rU 175 s.2.2.2 s.2.2.1]) (fun s => s.1 ≤ (digs a).length ∧ s.2.2.1.length = s.1 ∧ Fit s.2.2.1 ∧ s.2.1 ≤ 1 ∧ val s.2.2.1 + val ((digs b).take s.1) = val ((digs a).take s.1) + s.2.1 * B32 ^ s.1) (fun s => (digs a).length - s.1) (0, 0, [], .slice none 0 0) ⟨Nat.zero_le _, rfl, (fun _ hx => by cases hx), Nat.zero_le _, by simp [val]⟩ fun ⟨k, br, out, v⟩ ⟨hk, hll, hf, hb, hv⟩ => ?_
  have bda := (digs_fit a).getD k
  have bdb := (digs_fit b).getD k
  dsimp only at *
  haveI : FtL out := ⟨hf⟩
  repeat first | refine nx ?_ | intro _
  refine gIf (fun c1 => ?_) fun c1 => ?_ <;> repeat first | refine nx ?_ | intro _
  · refine gJ [(8, .cv (.int .u64 ((br + (digs b).getD k 0 : Nat) : Int)))] (fun c2 => ?_) (fun c2 => ?_) ?_ <;> repeat first | refine nx ?_ | intro _
    · exact gM
    · exact gM (by rw [getD_ge (l := digs b) (by omega)]; exact ⟨rfl, by trivial⟩)
    · refine gIf (fun c2 => ?_) fun c2 => ?_ <;> repeat first | refine nx ?_ | intro _
      · rename_i v'
        exact gBk (k + 1, 1, out ++ [((digs a).getD k 0 + 4294967295 + 1 - (br + (digs b).getD k 0)) % 4294967296], v') ⟨by omega, by dsimp only; rw [List.length_append, hll]; rfl, Fit.snoc hf (Nat.mod_lt _ (by decide)), Nat.le_refl _, by dsimp only; rw [Nat.mod_eq_of_lt (by omega)]; exact minus_step1 hll (by omega) (by omega) (by omega) hv (by omega)⟩ (by dsimp only; omega)
      · rename_i v'
        exact gBk (k + 1, 0, out ++ [((digs a).getD k 0 - (br + (digs b).getD k 0)) % 4294967296], v') ⟨by omega, by dsimp only; rw [List.length_append, hll]; rfl, Fit.snoc hf (Nat.mod_lt _ (by decide)), Nat.zero_le _, by dsimp only; rw [Nat.mod_eq_of_lt (by omega)]; exact minus_step2 hll (by omega) (by omega) (by omega) hv⟩ (by dsimp only; omega)
  · rw [minus_close (by omega) hll hf (by omega) hl.2.2 hv]
instance rtimes_c {a b A B : Nat} {S T : SV} [i : Vw nv S a] [j : Vw nv T b] [p : Sz a A] [q : Sz b B] : Ct Tryz.prog 98 [S, T] (A ≤ 1073741824 ∧ B ≤ 1073741824) (nv (a * b)) := by
  refine ct2 i j (ctI Tryz.call98 Tryz.func98 Tryz.ntmps98 rfl Tryz.results98 rfl [] fun h0 w0 hl => ?_)
  have hp0 := p.h
  have hp1 := q.h
  unfold sz at hp0 hp1
  repeat first | refine nx ?_ | intro _
  rename_i v
  generalize hLA : (digs a).length = LA at *
  generalize hLB : (digs b).length = LB at *
  refine gLp (fun s : Nat × List Nat => [(6, iv s.1)]) (fun s => [rA rU 175 v s.2]) (fun s => s.1 ≤ LA ∧ s.2.length = LA + LB ∧ Fit s.2 ∧ (∀ t, s.1 + LB ≤ t → s.2.getD t 0 = 0) ∧ val s.2 = val ((digs a).take s.1) * b) (fun s => LA - s.1) (0, List.replicate (LA + LB) 0) ⟨Nat.zero_le _, List.length_replicate, Fit.replicate _, fun t _ => getD_replicate _ t, by simp [val, val_replicate]⟩ fun ⟨x, out⟩ ⟨hi, hll, hf, hz, hv⟩ => ?_
  have bdx := (digs_fit a).getD x
  dsimp only at *
  haveI : FtL out := ⟨hf⟩
  repeat first | refine nx ?_ | intro _
  refine gIf (fun c1 => ?_) fun c1 => ?_ <;> repeat first | refine nx ?_ | intro _
  · refine gLp (fun s : Nat × Nat × List Nat => [(8, iv s.1), (7, .cv (.int .u64 (s.2.1 : Int)))]) (fun s => [rA rU 175 v s.2.2]) (fun s => s.1 ≤ LB ∧ s.2.2.length = LA + LB ∧ Fit s.2.2 ∧ s.2.1 < 4294967296 ∧ (∀ t, x + LB ≤ t → s.2.2.getD t 0 = 0) ∧ val s.2.2 + s.2.1 * B32 ^ (x + s.1) = val ((digs a).take x) * b + (digs a).getD x 0 * val ((digs b).take s.1) * B32 ^ x) (fun s => LB - s.1) (0, 0, out) ⟨Nat.zero_le _, hll, hf, Nat.lt_of_lt_of_le (Nat.zero_lt_one) (by decide), hz, by rw [hv]; simp [val]⟩ fun ⟨y, c, o⟩ ⟨hj, hl2, hf2, hc, hz2, hv2⟩ => ?_
    have bdy := (digs_fit b).getD y
    have bdo := hf2.getD (x + y)
    have bxy := mul_bd bdx bdy
    dsimp only at *
    repeat first | refine nx ?_ | intro _
    refine gIf (fun c2 => ?_) fun c2 => ?_ <;> repeat first | refine nx ?_ | intro _
    · have ecc : c + o.getD (x + y) 0 + (digs a).getD x 0 * (digs b).getD y 0 = c + ((digs a).getD x 0 * (digs b).getD y 0 + o.getD (x + y) 0) := by omega
      rw [ecc]
      exact gBk (y + 1, (c + ((digs a).getD x 0 * (digs b).getD y 0 + o.getD (x + y) 0)) / 2 ^ 32, o.set (x + y) ((c + ((digs a).getD x 0 * (digs b).getD y 0 + o.getD (x + y) 0)) % 4294967296)) ⟨by omega, by rw [List.length_set]; exact hl2, hf2.set _ _ (Nat.mod_lt _ (by decide)), by dsimp only; have : (2:Nat)^32 = 4294967296 := rfl; omega, fun t ht => by rw [getD_set_ne (by omega)]; exact hz2 t ht, mul_inner (by omega) hv2⟩ (by dsimp only; omega)
    · exact gBk (x + 1, o.set (x + (digs b).length) (c % 4294967296)) ⟨by omega, by rw [List.length_set]; exact hl2, hf2.set _ _ (Nat.mod_lt _ (by decide)), fun t ht => by rw [getD_set_ne (by omega)]; exact hz2 t (by omega), by
        rw [Nat.mod_eq_of_lt hc]
        exact mul_outer (by omega) (by omega) (hz2 _ (by omega)) hv2⟩ (by dsimp only; omega)
  · rw [hv, val_take_all (by omega), val_digs]
instance rhalf_c {a A : Nat} {S : SV} [i : Vw nv S a] [p : Sz a A] : Ct Tryz.prog 203 [S] (A ≤ 1073741824) (nv (a / 2)) := by
  refine ct1 i (ctI Tryz.call203 Tryz.func203 Tryz.ntmps203 rfl Tryz.results203 rfl [] fun h0 w0 hl => ?_)
  have hp0 := p.h
  unfold sz at hp0
  repeat first | refine nx ?_ | intro _
  rename_i v
  refine gLp (fun s : Nat × Nat × List Nat => [(5, iv ((s.1 : Int) - 1)), (4, .cv (.int .u32 (s.2.1 : Int)))]) (fun s => [rA rU 175 v s.2.2]) (fun s => s.1 ≤ (digs a).length ∧ s.2.1 < 2 ∧ s.2.2.length = (digs a).length ∧ Fit s.2.2 ∧ val (s.2.2.drop s.1) * 2 + s.2.1 = val ((digs a).drop s.1)) (fun s => s.1) ((digs a).length, 0, List.replicate (digs a).length 0) ⟨Nat.le_refl _, by dsimp only; omega, List.length_replicate, Fit.replicate _, by dsimp only; rw [List.drop_of_length_le (by simp), List.drop_of_length_le (Nat.le_refl _)]; simp [val]⟩ fun ⟨k, c, out⟩ ⟨hk, hc, hll, hf, hv⟩ => ?_
  have bd := (digs_fit a).getD (k - 1)
  have h31 : (2:Nat)^31 = 2147483648 := rfl
  have h21 : (2:Nat)^1 = 2 := rfl
  dsimp only at *
  have hlt := half_lt (x := (digs a).getD (k - 1) 0) (c := c) bd hc
  have hand := and1_lt ((digs a).getD (k - 1) 0)
  haveI : FtL out := ⟨hf⟩
  repeat first | refine nx ?_ | intro _
  refine gIf (fun c1 => ?_) fun c1 => ?_ <;> repeat first | refine nx ?_ | intro _
  · rw [Nat.mod_eq_of_lt (show c * 2 ^ 31 < 4294967296 by omega)]
    exact gBk (k - 1, (digs a).getD (k - 1) 0 &&& 1, out.set (k - 1) ((digs a).getD (k - 1) 0 / 2 ^ 1 ||| c * 2 ^ 31)) ⟨by dsimp only; omega, hand, by rw [List.length_set]; exact hll, hf.set _ _ hlt, half_step (by omega) (by omega) (by omega) hc bd hv⟩ (by dsimp only; omega)
  · rw [over_q (by omega) hc hv]
instance rbits_c {a A : Nat} {S : SV} [i : Vw nv S a] [p : Sz a A] : Ct Tryz.prog 204 [S] (A ≤ 1073741824) (iv (bitlen a)) := by
  refine ct1 i (ctI Tryz.call204 Tryz.func204 Tryz.ntmps204 rfl Tryz.results204 rfl [] fun h0 w0 hl => ?_)
  have hp0 := p.h
  unfold sz at hp0
  have hz := sz_eq_zero (n := a)
  unfold sz at hz
  repeat first | refine nx ?_ | intro _
  refine gIf (fun c1 => ?_) fun c1 => ?_ <;> repeat first | refine nx ?_ | intro _
  · rw [hz.1 c1, bitlen_zero]; rfl
  rw [show ((digs a).length : Int) - 1 = (((digs a).length - 1 : Nat) : Int) by omega]
  repeat first | refine nx ?_ | intro _
  have hd := (digs_fit a).getD ((digs a).length - 1)
  refine gLp (fun s : Nat × Nat => [(3, iv s.1), (4, .cv (.int .u32 (s.2 : Int)))]) (fun _ => []) (fun s => s.1 + bitlen s.2 = bitlen a ∧ s.2 < 4294967296) (fun s => s.2) (32 * ((digs a).length - 1), (digs a).getD ((digs a).length - 1) 0) ⟨(bitlen_digs (by omega)).symm, hd⟩ fun ⟨m, x⟩ ⟨hm, hx⟩ => ?_
  dsimp only at *
  have hbs := fun h => bits_step (x := x) h
  have hbz := bitlen_sz a
  unfold sz at hbz
  have h21 : (2:Nat)^1 = 2 := rfl
  by_cases c : 0 < x
  · have hb1 := hbs c
    repeat first | refine nx ?_ | intro _
    refine gIf (fun _ => ?_) fun d => absurd c d
    repeat first | refine nx ?_ | intro _
    exact gBk (m + 1, x / 2 ^ 1) ⟨by dsimp only; omega, by dsimp only; omega⟩ (by dsimp only; omega)
  · repeat first | refine nx ?_ | intro _
    refine gIf (fun d => absurd d c) fun _ => ?_
    repeat first | refine nx ?_ | intro _
    rw [bits_end hm (by omega)]
instance reven_c {a A : Nat} {S : SV} [i : Vw nv S a] [p : Sz a A] : Ct Tryz.prog 202 [S] (A ≤ 1073741824) (bv (decide (a % 2 = 0))) := by
  refine ct1 i (ctI Tryz.call202 Tryz.func202 Tryz.ntmps202 rfl Tryz.results202 rfl [] fun h0 w0 hl => ?_)
  have hp0 := p.h
  unfold sz at hp0
  have hz := sz_eq_zero (n := a)
  unfold sz at hz
  have hde := digs_even (a := a)
  repeat first | refine nx ?_ | intro _
  rw [Bool.eq_iff_iff]; simp only [Bool.or_eq_true, decide_eq_true_eq]; constructor <;> intro hh <;> omega
instance rone_c {a A : Nat} {S : SV} [i : Vw nv S a] [p : Sz a A] : Ct Tryz.prog 163 [S] (A ≤ 1073741824) (bv (decide (a = 1))) := by
  refine ct1 i (ctI Tryz.call163 Tryz.func163 Tryz.ntmps163 rfl Tryz.results163 rfl [] fun h0 w0 hl => ?_)
  have hp0 := p.h
  unfold sz at hp0
  repeat first | refine nx ?_ | intro _
  exact one_eq
end Go.E3
set_option linter.unusedVariables false
set_option maxRecDepth 20000
set_option maxHeartbeats 2000000
set_option synthInstance.maxSize 1000
namespace Go.E3
open Go Go.Ear Go.Proofs
instance : Vw nv (lv rU [1]) 1 := ⟨fun u => by unfold nv; rw [digs_lit1]; exact u⟩
instance rdivide_c {a b A B : Nat} {S T : SV} [i : Vw nv S a] [j : Vw nv T b] [p : Sz a A] [q : Sz b B] : Ct Tryz.prog 165 [S, T] (A ≤ 536870912 ∧ B ≤ 536870912 ∧ b ≠ 0) (.tp [nv (a / b), nv (a % b)]) := by
  refine ct2 i j (ctI Tryz.call165 Tryz.func165 Tryz.ntmps165 rfl Tryz.results165 rfl [] fun h0 w0 ⟨hA, hB, hb0⟩ => ?_)
  have hsa := p.h
  have hsb := q.h
  have hpos := sz_pos hb0
  have hbz := bitlen_sz a
  unfold sz at hsa hsb hpos hbz
  repeat first | refine nx ?_ | intro _
  rename_i v
  by_cases c0 : (digs b).length = 1
  · have hd0 := digs_one c0
    have hdl := (digs_fit b).getD 0
    refine gIf (fun c2 => ?_) fun c2 => absurd c0 c2
    repeat first | refine nx ?_ | intro _
    refine gLp (fun s : Nat × Nat × List Nat => [(8, iv ((s.1 : Int) - 1)), (7, .cv (.int .u64 (s.2.1 : Int)))]) (fun s => [rA rU 175 v s.2.2]) (fun s => s.1 ≤ (digs a).length ∧ s.2.1 < (digs b).getD 0 0 ∧ s.2.2.length = (digs a).length ∧ Fit s.2.2 ∧ val (s.2.2.drop s.1) * (digs b).getD 0 0 + s.2.1 = val ((digs a).drop s.1)) (fun s => s.1) ((digs a).length, 0, List.replicate (digs a).length 0) ⟨Nat.le_refl _, by dsimp only; omega, List.length_replicate, Fit.replicate _, by dsimp only; rw [List.drop_of_length_le (by simp), List.drop_of_length_le (Nat.le_refl _)]; simp [val]⟩ fun ⟨k, r, out⟩ ⟨hk, hr, hll, hf, hv⟩ => ?_
    dsimp only at *
    have bd := (digs_fit a).getD (k - 1)
    have eo := or_shift r ((digs a).getD (k - 1) 0) bd
    have rb : r * 2 ^ 32 + (digs a).getD (k - 1) 0 < (digs b).getD 0 0 * 4294967296 := over_bd hr bd
    have rs := sh_bd hr hdl
    have ro := sh_bd2 hr hdl bd
    haveI : FtL out := ⟨hf⟩
    repeat first | refine nx ?_ | intro _
    refine gIf (fun c1 => ?_) fun c1 => ?_ <;> repeat first | refine nx ?_ | intro _
    · exact gBk (k - 1, (r * 2 ^ 32 ||| (digs a).getD (k - 1) 0) % (digs b).getD 0 0, out.set (k - 1) ((r * 2 ^ 32 ||| (digs a).getD (k - 1) 0) / (digs b).getD 0 0 % 4294967296)) ⟨by dsimp only; omega, Nat.mod_lt _ (by omega), by rw [List.length_set]; exact hll, hf.set _ _ (Nat.mod_lt _ (by decide)), by
        dsimp only
        rw [Nat.mod_eq_of_lt (by rw [eo]; exact Nat.div_lt_of_lt_mul rb), eo]; exact over_step (by omega) (by omega) (by omega) hv⟩ (by dsimp only; omega)
    · exact ⟨by rw [over_q (by omega) hr hv]; exact congrArg (fun x => digs (a / x)) hd0, by rw [Nat.mod_eq_of_lt (by omega), val_one, over_r (by omega) hr hv]; exact congrArg (fun x => digs (a % x)) hd0⟩
  refine gIf (fun c2 => absurd c2 c0) fun c2 => ?_
  repeat first | refine nx ?_ | intro _
  have dz : (digs 0) = [] := digs_zero
  refine gLp (fun s : Nat × List Nat => [(10, iv ((s.1 : Int) - 1)), (9, nv (a / 2 ^ s.1 % b))]) (fun s => [rA rU 175 v s.2]) (fun s => s.1 ≤ bitlen a ∧ s.2.length = (digs a).length ∧ Fit s.2 ∧ val s.2 = 2 ^ s.1 * (a / 2 ^ s.1 / b)) (fun s => s.1) (bitlen a, List.replicate (digs a).length 0) (h1 := ⟨trivial, by dsimp only; rw [Nat.div_eq_of_lt (lt_bitlen a), Nat.zero_mod, dz], trivial⟩) ⟨Nat.le_refl _, List.length_replicate, Fit.replicate _, by dsimp only; rw [val_replicate, Nat.div_eq_of_lt (lt_bitlen a)]; simp⟩ fun ⟨k, out⟩ ⟨hk, hl, hf, hv⟩ => ?_
  dsimp only at *
  have hml := Nat.mod_lt (a / 2 ^ k) (Nat.pos_of_ne_zero hb0)
  have hs1 := Nat.le_trans (sz_mono (Nat.le_of_lt hml)) q.h
  have hbd := (digs_fit a).getD ((k - 1) / 32)
  have bdo := hf.getD ((k - 1) / 32)
  have hsh := one_shl_lt (k - 1)
  have hbit := bit_at a (k - 1)
  have hlt2 : (digs a).getD ((k - 1) / 32) 0 / 2 ^ ((k - 1) % 32) < 4294967296 := Nat.lt_of_le_of_lt (Nat.div_le_self ..) hbd
  haveI : Sz (a / 2 ^ k % b) B := ⟨hs1⟩
  haveI : FtL out := ⟨hf⟩
  repeat first | refine nx ?_ | intro _
  refine gIf (fun c1 => ?_) fun c1 => ?_
  · repeat first | refine nx ?_ | intro _
    refine gJ [(9, nv (a / 2 ^ k % b + a / 2 ^ k % b + a / 2 ^ (k - 1) % 2))] (fun c3 => ?_) (fun c3 => ?_) ?_ <;> repeat first | refine nx ?_ | intro _
    · exact gM (by rw [← hbit, c3]; exact ⟨rfl, by trivial⟩)
    · exact gM (by rw [show a / 2 ^ (k - 1) % 2 = 0 by rw [← hbit]; omega]; exact ⟨rfl, by trivial⟩)
    · have hdh := div_halves (a := a) (k := k) (by omega)
      have hsx : sz (a / 2 ^ k % b + a / 2 ^ k % b + a / 2 ^ (k - 1) % 2) ≤ B + 2 := by
        have h1 := sz_add (a / 2 ^ k % b + a / 2 ^ k % b) (a / 2 ^ (k - 1) % 2)
        have h2 := sz_add (a / 2 ^ k % b) (a / 2 ^ k % b)
        have h3 := sz_small (n := a / 2 ^ (k - 1) % 2) (by omega)
        omega
      haveI : Sz (a / 2 ^ k % b + a / 2 ^ k % b + a / 2 ^ (k - 1) % 2) (B + 2) := ⟨hsx⟩
      have hdk := cmpN_neg (a := a / 2 ^ k % b + a / 2 ^ k % b + a / 2 ^ (k - 1) % 2) (b := b)
      repeat first | refine nx ?_ | intro _
      refine gIf (fun c4 => ?_) fun c4 => ?_ <;> repeat first | refine nx ?_ | intro _
      · have hor : (out.getD ((k - 1) / 32) 0 ||| 1 * 2 ^ ((k - 1) % 32)) < 4294967296 := Nat.or_lt_two_pow (n := 32) bdo hsh
        rw [Nat.mod_eq_of_lt hsh]
        rcases Nat.mod_two_eq_zero_or_one (a / 2 ^ (k - 1)) with ht | ht
        · have hge : b ≤ a / 2 ^ k % b + a / 2 ^ k % b := by omega
          exact gBk (k - 1, out.set ((k - 1) / 32) (out.getD ((k - 1) / 32) 0 ||| 1 * 2 ^ ((k - 1) % 32))) ⟨by dsimp only; omega, by rw [List.length_set]; exact hl, hf.set _ _ hor, divv_t0 (by omega) hb0 ht hge hl hf (by omega) hv⟩ (by dsimp only; omega) (h1 := ⟨by dsimp only; omega, by dsimp only; rw [← div_t0 (by omega) hb0 ht hge, ht, Nat.add_zero], by trivial⟩)
        · have hge : b ≤ a / 2 ^ k % b + a / 2 ^ k % b + 1 := by omega
          exact gBk (k - 1, out.set ((k - 1) / 32) (out.getD ((k - 1) / 32) 0 ||| 1 * 2 ^ ((k - 1) % 32))) ⟨by dsimp only; omega, by rw [List.length_set]; exact hl, hf.set _ _ hor, divv_t1 (by omega) hb0 ht hge hl hf (by omega) hv⟩ (by dsimp only; omega) (h1 := ⟨by dsimp only; omega, by dsimp only; rw [← div_t1 (by omega) hb0 ht hge, ht], by trivial⟩)
      · rcases Nat.mod_two_eq_zero_or_one (a / 2 ^ (k - 1)) with ht | ht
        · have hge : a / 2 ^ k % b + a / 2 ^ k % b < b := by omega
          exact gBk (k - 1, out) ⟨by dsimp only; omega, hl, hf, divv_f0 (by omega) hb0 ht hge hv⟩ (by dsimp only; omega) (h1 := ⟨by dsimp only; omega, by dsimp only; rw [← div_f0 (by omega) hb0 ht hge, ht, Nat.add_zero], by trivial⟩)
        · have hge : a / 2 ^ k % b + a / 2 ^ k % b + 1 < b := by omega
          exact gBk (k - 1, out) ⟨by dsimp only; omega, hl, hf, divv_f1 (by omega) hb0 ht hge hv⟩ (by dsimp only; omega) (h1 := ⟨by dsimp only; omega, by dsimp only; rw [← div_f1 (by omega) hb0 ht hge, ht], by trivial⟩)
  · repeat first | refine nx ?_ | intro _
    have hk0 : k = 0 := by omega
    subst hk0
    exact ⟨by rw [hv]; simp, by simp⟩
instance rgcd_c {a b A B : Nat} {S T : SV} [i : Vw nv S a] [j : Vw nv T b] [p : Sz a A] [q : Sz b B] : Ct Tryz.prog 164 [S, T] (A ≤ 536870912 ∧ B ≤ 536870912 ∧ a ≠ 0 ∧ b ≠ 0) (nv (Nat.gcd a b)) := by
  refine ct2 i j (ctI Tryz.call164 Tryz.func164 Tryz.ntmps164 rfl Tryz.results164 rfl [] fun h0 w0 ⟨hA, hB, ha0, hb0⟩ => ?_)
  have hsa := p.h
  have hsb := q.h
  have hsab := sz_add a b
  repeat first | refine nx ?_ | intro _
  refine gLp (fun s : Nat × Nat × Nat => [(5, iv s.1), (0, nv s.2.1), (1, nv s.2.2)]) (fun _ => []) (fun s => s.2.1 ≠ 0 ∧ s.2.2 ≠ 0 ∧ s.2.1 ≤ a ∧ s.2.2 ≤ b ∧ 2 ^ s.1 * Nat.gcd s.2.1 s.2.2 = Nat.gcd a b) (fun s => s.2.1) (0, a, b) ⟨ha0, hb0, Nat.le_refl _, Nat.le_refl _, by simp⟩ fun ⟨t, x, y⟩ ⟨hx, hy, hxa, hyb, hg⟩ => ?_
  dsimp only at *
  have hsx := sz_mono hxa
  have hsy := sz_mono hyb
  have hta := pow_bound ha0 hg
  haveI : Sz x A := ⟨by omega⟩
  haveI : Sz y B := ⟨by omega⟩
  repeat first | refine nx ?_ | intro _
  refine gIf (fun c => ?_) fun c => ?_ <;> repeat first | refine nx ?_ | intro _
  · exact gBk (t + 1, x / 2, y / 2) ⟨by dsimp only; omega, by dsimp only; omega, by dsimp only; omega, by dsimp only; omega, gcd_both c.1 c.2 hg⟩ (by dsimp only; omega)
  have hod : Nat.gcd x y % 2 = 1 := gcd_odd hy c
  refine gLp (fun s : Nat × Nat => [(0, nv s.1), (1, nv s.2)]) (fun _ => []) (fun s => s.1 ≠ 0 ∧ s.1 ≤ a + b ∧ s.2 ≤ a + b ∧ Nat.gcd s.1 s.2 = Nat.gcd x y) (fun s => s.1 + s.2) (x, y) ⟨hx, by dsimp only; omega, by dsimp only; omega, rfl⟩ fun ⟨x2, y2⟩ ⟨hx2, hxa2, hyb2, hg2⟩ => ?_
  dsimp only at *
  have hsx2 := sz_mono hxa2
  have hsy2 := sz_mono hyb2
  have hyz := sz_eq_zero (n := y2)
  unfold sz at hyz
  have hml : max (sz a) (sz b) + 1 ≤ 536870913 := by omega
  haveI : Sz x2 536870913 := ⟨by omega⟩
  haveI : Sz y2 536870913 := ⟨by omega⟩
  repeat first | refine nx ?_ | intro _
  refine gIf (fun c2 => ?_) fun c2 => ?_ <;> repeat first | refine nx ?_ | intro _
  · have hy20 : y2 ≠ 0 := by omega
    refine gLp (fun x3 : Nat => [(0, nv x3)]) (fun _ => []) (fun x3 => x3 ≠ 0 ∧ x3 ≤ x2 ∧ Nat.gcd x3 y2 = Nat.gcd x y) (fun x3 => x3) x2 ⟨hx2, Nat.le_refl _, hg2⟩ fun x3 ⟨hx3, hx32, hg3⟩ => ?_
    have hsx3 := sz_mono hx32
    haveI : Sz x3 536870913 := ⟨by omega⟩
    repeat first | refine nx ?_ | intro _
    refine gIf (fun c3 => ?_) fun c3 => ?_ <;> repeat first | refine nx ?_ | intro _
    · exact gBk (x3 / 2) ⟨by omega, by omega, gcd_half_l hod c3 hg3⟩ (by omega)
    refine gLp (fun y3 : Nat => [(1, nv y3)]) (fun _ => []) (fun y3 => y3 ≠ 0 ∧ y3 ≤ y2 ∧ Nat.gcd x3 y3 = Nat.gcd x y) (fun y3 => y3) y2 ⟨hy20, Nat.le_refl _, hg3⟩ fun y3 ⟨hy3, hy32, hg4⟩ => ?_
    have hsy3 := sz_mono hy32
    haveI : Sz y3 536870913 := ⟨by omega⟩
    repeat first | refine nx ?_ | intro _
    refine gIf (fun c4 => ?_) fun c4 => ?_ <;> repeat first | refine nx ?_ | intro _
    · exact gBk (y3 / 2) ⟨by omega, by omega, gcd_half_r hod c4 hg4⟩ (by omega)
    refine gIf (fun c5 => ?_) fun c5 => ?_
    · have hgt := cmpN_pos.1 c5
      have hle := Nat.le_of_lt hgt
      repeat first | refine nx ?_ | intro _
      exact gBk (y3, x3 - y3) ⟨hy3, by dsimp only; omega, by dsimp only; omega, gcd_swap_sub hgt hg4⟩ (by dsimp only; omega)
    · have hle := not_gt_of c5
      repeat first | refine nx ?_ | intro _
      exact gBk (x3, y3 - x3) ⟨hx3, by dsimp only; omega, by dsimp only; omega, gcd_sub hle hg4⟩ (by dsimp only; omega)
  · have hy0 : y2 = 0 := by omega
    have hg5 : x2 = Nat.gcd x y := by rw [← hg2, hy0, Nat.gcd_zero_right]
    refine gLp (fun i : Nat => [(6, iv i), (0, nv (x2 * 2 ^ i))]) (fun _ => []) (fun i => i ≤ t) (fun i => t - i) 0 (Nat.zero_le _) (fun i hi => ?_) (h1 := ⟨trivial, by simp, trivial⟩)
    have hle : x2 * 2 ^ i ≤ a := by
      have h1 : x2 * 2 ^ i ≤ x2 * 2 ^ t := Nat.mul_le_mul_left _ (Nat.pow_le_pow_right (by decide) hi)
      have h2 := Nat.gcd_le_left b (Nat.pos_of_ne_zero ha0)
      rw [← hg, Nat.mul_comm, ← hg5] at h2
      omega
    have hsl := sz_mono hle
    haveI : Sz (x2 * 2 ^ i) A := ⟨by omega⟩
    repeat first | refine nx ?_ | intro _
    refine gIf (fun c3 => ?_) fun c3 => ?_ <;> repeat first | refine nx ?_ | intro _
    · rw [dbl_pow]; exact gBk (i + 1) (by omega) (by omega)
    · rw [← hg, ← hg5, show i = t by omega, Nat.mul_comm]
end Go.E3
set_option linter.unusedVariables false
set_option maxRecDepth 20000
set_option maxHeartbeats 2000000
set_option synthInstance.maxSize 1000
namespace Go.E3
open Go Go.Ear Go.Proofs
section
variable {P : Program} {n : Nat} {c : Bool} {loc env : EL} {B : List Res} {ms : List Nat} {d : Nat} {x : Operand} {t u : TypeId} {k : IntKind} {i : Int} {a m : Nat}
instance (priority := 2000) [lx : Lu n c loc env x (.cv (.int k (-(m : Int))))] [td : TD P t] [ti : TI P u .u64] : St P n c loc env B ms d (.convert t u x) (1 ≤ m ∧ m ≤ 18446744073709551615) (.cv (.int .u64 ((18446744073709551616 - m : Nat) : Int))) := .p fun q sd _ _ _ _ _ s _ _ _ _ _ k => by
  obtain ⟨_, hd⟩ := td.h
  exact OpW.convI hd ti.h (cvE (lx.h q (s.f x))) (by simp [IntKind.wrap, IntKind.bits, IntKind.signed]; omega) (k _ rfl)
instance (priority := 2000) [lx : Lu n c loc env x (.cv (.int .u64 i))] [a1 : IN i a] : St P n c loc env B ms d (.unOp .neg t x) (1 ≤ a ∧ a ≤ 18446744073709551615) (.cv (.int .u64 ((18446744073709551616 - a : Nat) : Int))) := .p fun q sd _ _ _ _ _ s _ _ _ _ _ k => OpW.negI (cvE (lx.h q (s.f x))) (by rw [a1.e]; simp [IntKind.wrap, IntKind.bits, IntKind.signed]; omega) (k _ rfl)
end
instance rsize_c {n : Int} : Ct Tryz.prog 105 [iv n] (-9223372036854775808 ≤ n ∧ n ≤ 9223372036854775807) (.cv (.int .u64 (n.natAbs : Int))) := by
  refine (ctI Tryz.call105 Tryz.func105 Tryz.ntmps105 rfl Tryz.results105 rfl [] fun h0 w0 ⟨h1, h2⟩ => ?_)
  by_cases hn : n < 0
  · obtain ⟨m, rfl⟩ : ∃ m : Nat, n = -(m : Int) := ⟨n.natAbs, by omega⟩
    repeat first | refine nx ?_ | intro _
    refine gIf (fun c => ?_) fun c => ?_ <;> repeat first | refine nx ?_ | intro _
    · omega
    · omega
  · repeat first | refine nx ?_ | intro _
    refine gIf (fun c => ?_) fun c => ?_
    · omega
    · repeat first | refine nx ?_ | intro _
      omega
instance : FtL [1] := ⟨fun x hx => by rw [List.mem_singleton.1 hx]; decide⟩
theorem rtwo {n : Nat} (h : n < 18446744073709551616) : val [n % 4294967296, n / 2 ^ 32 % 4294967296] = n := by simp [val, B32]; omega
instance rnatural_c {i : Int} {n : Nat} [x : IN i n] : Ct Tryz.prog 104 [.cv (.int .u64 i)] (n < 18446744073709551616) (nv n) := by
  obtain rfl := x.e
  refine ctI Tryz.call104 Tryz.func104 Tryz.ntmps104 rfl Tryz.results104 rfl [] fun h0 w0 hl => ?_
  repeat first | refine nx ?_ | intro _
  rw [rtwo hl]
instance (priority := 50) {f : Fr} : VlE f.n (val f.n) := ⟨rfl⟩
@[reducible] def dOf (d : Nat) : Nat := if d = 0 then 1 else d
instance rlow_c {f : Fr} {q : Rat} {b : Nat} {S : SV} [i : VF S f q b] : Ct Tryz.prog 99 [S] (b ≤ 134217000) (nv (lowF f)) := by
  have t := i.t
  refine ct1 i.v (ctI Tryz.call99 Tryz.func99 Tryz.ntmps99 rfl Tryz.results99 rfl [] fun h0 w0 hb => ?_)
  obtain ⟨_, _, rfl, rfl⟩ := i
  have hbd := bf_d f
  have hz := len_zero (n := val f.d)
  repeat first | refine nx ?_ | intro _
  refine gIf (fun c => ?_) fun c => ?_ <;> repeat first | refine nx ?_ | intro _
  · unfold lowF; rw [if_pos (hz.1 c), digs_lit1]
  · unfold lowF; rw [if_neg fun e => c (hz.2 e)]
instance rmake1_c {s : Bool} {l m : List Nat} {n d : Nat} {S T : SV} [i : Vw uv S l] [j : Vw uv T m] [fl : FtL l] [fm : FtL m] [vl : VlE l n] [vm : VlE m d] : Ct Tryz.prog 100 [.cv (.bool s), S, T] (l.length ≤ 536870912 ∧ m.length ≤ 536870912) (kk (ratOf s n (dOf d))) := by
  refine ct3 (v := bv) ⟨fun u => u⟩ i j (ctI Tryz.call100 Tryz.func100 Tryz.ntmps100 rfl Tryz.results100 rfl [] fun h0 w0 ⟨h1, h2⟩ => ?_)
  have hsn : sz n ≤ 536870912 := by rw [← vl.h]; exact Nat.le_trans (sz_len fl.h) h1
  have hsd : sz d ≤ 536870912 := by rw [← vm.h]; exact Nat.le_trans (sz_len fm.h) h2
  have hz := len_zero (n := n)
  have hzd := len_zero (n := d)
  repeat first | refine nx ?_ | intro _
  refine gIf (fun c => ?_) fun c => ?_
  · repeat first | refine nx ?_ | intro _
    rw [hz.1 c, ratOf_zero, frK_zero]; exact ⟨rfl, rfl, rfl⟩
  repeat first | refine nx ?_ | intro _
  have hn0 : n ≠ 0 := fun e => c (hz.2 e)
  refine gJ [(2, nv (dOf d))] (fun c3 => ?_) (fun c3 => ?_) ?_
  · repeat first | refine nx ?_ | intro _
    exact gM (by rw [dOf, if_pos (hzd.1 c3), digs_lit1]; exact ⟨rfl, by trivial⟩)
  · repeat first | refine nx ?_ | intro _
    exact gM (by rw [dOf, if_neg fun e => c3 (hzd.2 e)]; exact ⟨rfl, by trivial⟩)
  have hd0 : dOf d ≠ 0 := by unfold dOf; split <;> omega
  have hsD : sz (dOf d) ≤ 536870912 := by
    unfold dOf; split
    · rw [sz_one]; decide
    · omega
  generalize dOf d = D at *
  have hgp := gcd_pos' (n := n) hd0
  have hgs := sz_mono (Nat.gcd_le_right n (Nat.pos_of_ne_zero hd0))
  haveI : Sz n 536870912 := ⟨hsn⟩
  haveI : Sz D 536870912 := ⟨hsD⟩
  haveI : Sz (Nat.gcd n D) 536870912 := ⟨by omega⟩
  repeat first | refine nx ?_ | intro _
  refine gJ [(7, nv (Nat.gcd n D))] (fun c3 => ?_) (fun c3 => ?_) ?_
  · repeat first | refine nx ?_ | intro _
    exact gM
  · repeat first | refine nx ?_ | intro _
    exact gM (by rw [← gcd_one (n := n) (d := D) (by omega), digs_lit1]; exact ⟨rfl, by trivial⟩)
  repeat first | refine nx ?_ | intro _
  refine gJ [(1, nv (n / Nat.gcd n D)), (2, nv (D / Nat.gcd n D))] (fun c3 => ?_) (fun c3 => ?_) ?_
  · repeat first | refine nx ?_ | intro _
    exact gM
  · repeat first | refine nx ?_ | intro _
    have hg1 : Nat.gcd n D = 1 := by omega
    exact gM (by rw [hg1, Nat.div_one, Nat.div_one]; exact ⟨rfl, rfl, by trivial⟩)
  have hq1 := sz_mono (Nat.div_le_self n (Nat.gcd n D))
  have hq2 := sz_mono (Nat.div_le_self D (Nat.gcd n D))
  unfold sz at hq1 hq2 hsn hsD
  repeat first | refine nx ?_ | intro _
  have e1 : decide ((ratOf s n D).num < 0) = s := by rw [← ratOf_neg hd0, decide_eq_true (Nat.div_pos (Nat.gcd_le_left D (Nat.pos_of_ne_zero hn0)) hgp), Bool.and_true]
  have hden := ratOf_den (s := s) (n := n) hd0
  refine gIf (fun c => ?_) fun c => ?_ <;> repeat first | refine nx ?_ | intro _
  · refine ⟨e1.symm, ?_, ?_⟩
    · show _ = digs _; rw [ratOf_abs hd0]
    · show _ = if _ then _ else _; rw [← hden, if_neg c]
  · refine ⟨e1.symm, ?_, ?_⟩
    · show _ = digs _; rw [ratOf_abs hd0]
    · exact if_pos (by rw [← hden]; omega)
theorem bfF_le {f : Fr} {b : Nat} (h : bf f ≤ b) : f.n.length ≤ b ∧ f.d.length ≤ b := ⟨Nat.le_trans (bf_n f) h, Nat.le_trans (bf_d f) h⟩
theorem VF.sn {S : SV} {f : Fr} {q : Rat} {b : Nat} (i : VF S f q b) : Sz (val f.n) b := ⟨by rw [← i.b]; exact sz_valn i.t.h.1⟩
theorem VF.sd {S : SV} {f : Fr} {q : Rat} {b : Nat} (i : VF S f q b) : Sz (lowF f) b := ⟨by rw [← i.b]; exact sz_lowF i.t.h.2⟩
theorem VF.le2 {S : SV} {f : Fr} {q : Rat} {b : Nat} (i : VF S f q b) : f.n.length ≤ b ∧ f.d.length ≤ b ∧ 1 ≤ b := by rw [← i.b]; exact ⟨bf_n f, bf_d f, bf_pos f⟩
theorem szl (n : Nat) {b : Nat} [i : Sz n b] : (digs n).length ≤ b := i.h
instance rOf_c {n : Int} : Ct Tryz.prog 35 [iv n] (-9223372036854775808 ≤ n ∧ n ≤ 9223372036854775807) (kk (n : Rat)) := by
  refine (ctI Tryz.call35 Tryz.func35 Tryz.ntmps35 rfl Tryz.results35 rfl [] fun h0 w0 ⟨h1, h2⟩ => ?_)
  have hss : (digs n.natAbs).length ≤ 2 := sz_small (n := n.natAbs) (by omega)
  repeat first | refine nx ?_ | intro _
  rw [show (val [] : Nat) = 0 from rfl, show dOf 0 = 1 from rfl, int_s]; exact ⟨rfl, rfl, rfl⟩
instance rMake_c {n d : Int} : Ct Tryz.prog 79 [iv n, iv d] (-9223372036854775808 ≤ n ∧ n ≤ 9223372036854775807 ∧ -9223372036854775808 ≤ d ∧ d ≤ 9223372036854775807 ∧ d ≠ 0) (kk ((n : Rat) / (d : Rat))) := by
  refine (ctI Tryz.call79 Tryz.func79 Tryz.ntmps79 rfl Tryz.results79 rfl [] fun h0 w0 ⟨h1, h2, h3, h4, h5⟩ => ?_)
  have hss : (digs n.natAbs).length ≤ 2 := sz_small (n := n.natAbs) (by omega)
  have hsd : (digs d.natAbs).length ≤ 2 := sz_small (n := d.natAbs) (by omega)
  repeat first | refine nx ?_ | intro _
  rw [show dOf d.natAbs = d.natAbs from if_neg (by omega), ← quot_s h5]; exact ⟨rfl, rfl, rfl⟩
instance rNeg_c {f : Fr} {q : Rat} {b : Nat} {S : SV} [i : VF S f q b] : Ct Tryz.prog 121 [S] (b ≤ 134217000) (kk (-q)) := by
  have t := i.t
  refine ct1 i.v (ctI Tryz.call121 Tryz.func121 Tryz.ntmps121 rfl Tryz.results121 rfl [] fun h0 w0 hb => ?_)
  have hl := i.le2
  obtain ⟨_, _, rfl, rfl⟩ := i
  repeat first | refine nx ?_ | intro _
  rw [← neg_F]; exact ⟨rfl, rfl, rfl⟩
instance rAdd_c {a b : Fr} {x y : Rat} {A B : Nat} {S T : SV} [i : VF S a x A] [j : VF T b y B] : Ct Tryz.prog 33 [S, T] (A + B ≤ 134217000) (kk (x + y)) := by
  have ta := i.t
  have tb := j.t
  refine ct2 i.v j.v (ctI Tryz.call33 Tryz.func33 Tryz.ntmps33 rfl Tryz.results33 rfl [] fun h0 w0 hb => ?_)
  have hl1 := i.le2
  have hl2 := j.le2
  haveI := i.sn
  haveI := i.sd
  haveI := j.sn
  haveI := j.sd
  obtain ⟨_, _, rfl, rfl⟩ := i
  obtain ⟨_, _, rfl, rfl⟩ := j
  repeat first | refine nx ?_ | intro _
  have hl : dOf (lowF a * lowF b) = lowF a * lowF b := if_neg (Nat.mul_ne_zero (lowF_ne a) (lowF_ne b))
  have s1 := szl (val a.n * lowF b)
  have s2 := szl (val b.n * lowF a)
  have s3 := szl (lowF a * lowF b)
  have s4 := szl (val a.n * lowF b + val b.n * lowF a)
  have s5 := szl (val a.n * lowF b - val b.n * lowF a)
  have s6 := szl (val b.n * lowF a - val a.n * lowF b)
  refine gIf (fun c => ?_) fun c => ?_
  · repeat first | refine nx ?_ | intro _
    rw [hl, add_F (by simpa using c)]; exact ⟨rfl, rfl, rfl⟩
  repeat first | refine nx ?_ | intro _
  refine gIf (fun d => ?_) fun d => ?_
  · have hge := cmpN_nonneg d
    repeat first | refine nx ?_ | intro _
    rw [hl, sub_F (by simpa using c) hge]; exact ⟨rfl, rfl, rfl⟩
  · have hge := Nat.le_of_lt (cmpN_nneg d)
    repeat first | refine nx ?_ | intro _
    rw [hl, sub_F' (by simpa using c) hge]; exact ⟨rfl, rfl, rfl⟩
instance rSub_c {a b : Fr} {x y : Rat} {A B : Nat} {S T : SV} [i : VF S a x A] [j : VF T b y B] : Ct Tryz.prog 53 [S, T] (A + B ≤ 134217000) (kk (x - y)) := by
  refine ct2 i.v j.v (ctI Tryz.call53 Tryz.func53 Tryz.ntmps53 rfl Tryz.results53 rfl [] fun h0 w0 hb => ?_)
  have h1 := i.le
  have h2 := j.le
  have h3 := i.le2
  obtain ⟨_, _, rfl, rfl⟩ := i
  obtain ⟨_, _, rfl, rfl⟩ := j
  have hn := bq_neg b.rat
  repeat first | refine nx ?_ | intro _
  rw [Rat.sub_eq_add_neg]; exact ⟨rfl, rfl, rfl⟩
instance rMul_c {a b : Fr} {x y : Rat} {A B : Nat} {S T : SV} [i : VF S a x A] [j : VF T b y B] : Ct Tryz.prog 45 [S, T] (A + B ≤ 134217000) (kk (x * y)) := by
  have ta := i.t
  have tb := j.t
  refine ct2 i.v j.v (ctI Tryz.call45 Tryz.func45 Tryz.ntmps45 rfl Tryz.results45 rfl [] fun h0 w0 hb => ?_)
  have hl1 := i.le2
  have hl2 := j.le2
  haveI := i.sn
  haveI := i.sd
  haveI := j.sn
  haveI := j.sd
  obtain ⟨_, _, rfl, rfl⟩ := i
  obtain ⟨_, _, rfl, rfl⟩ := j
  have hl : dOf (lowF a * lowF b) = lowF a * lowF b := if_neg (Nat.mul_ne_zero (lowF_ne a) (lowF_ne b))
  have s1 := szl (val a.n * val b.n)
  have s3 := szl (lowF a * lowF b)
  repeat first | refine nx ?_ | intro _
  rw [hl, mul_F]; exact ⟨rfl, rfl, rfl⟩
instance rInverse_c {f : Fr} {q : Rat} {b : Nat} {S : SV} [i : VF S f q b] : Ct Tryz.prog 170 [S] (b ≤ 134217000 ∧ q ≠ 0) (kk q⁻¹) := by
  have t := i.t
  refine ct1 i.v (ctI Tryz.call170 Tryz.func170 Tryz.ntmps170 rfl Tryz.results170 rfl [] fun h0 w0 ⟨hb, hq⟩ => ?_)
  have hl := i.le2
  haveI := i.sn
  haveI := i.sd
  obtain ⟨_, _, rfl, rfl⟩ := i
  have s1 := szl (val f.n)
  have s2 := szl (lowF f)
  repeat first | refine nx ?_ | intro _
  rw [show dOf (val f.n) = val f.n from if_neg fun e => hq (rat_zero_iff.2 e), inv_F hq]; exact ⟨rfl, rfl, rfl⟩
instance rDiv_c {a b : Fr} {x y : Rat} {A B : Nat} {S T : SV} [i : VF S a x A] [j : VF T b y B] : Ct Tryz.prog 115 [S, T] (A + B ≤ 134217000 ∧ y ≠ 0) (kk (x / y)) := by
  refine ct2 i.v j.v (ctI Tryz.call115 Tryz.func115 Tryz.ntmps115 rfl Tryz.results115 rfl [] fun h0 w0 ⟨hb, hy⟩ => ?_)
  have h1 := i.le2
  have h2 := j.le
  obtain ⟨_, _, rfl, rfl⟩ := i
  obtain ⟨_, _, rfl, rfl⟩ := j
  have hn := bq_inv' b.rat
  repeat first | refine nx ?_ | intro _
  rw [Rat.div_def]; exact ⟨rfl, rfl, rfl⟩
instance rSign_c {f : Fr} {q : Rat} {b : Nat} {S : SV} [i : VF S f q b] : Ct Tryz.prog 23 [S] (b ≤ 134217000) (iv (sgQ q)) := by
  have t := i.t
  refine ct1 i.v (ctI Tryz.call23 Tryz.func23 Tryz.ntmps23 rfl Tryz.results23 rfl [] fun h0 w0 hb => ?_)
  have hl := i.le2
  obtain ⟨_, _, rfl, rfl⟩ := i
  have hz := len_zero (n := val f.n)
  repeat first | refine nx ?_ | intro _
  refine gIf (fun c => ?_) fun c => ?_ <;> repeat first | refine nx ?_ | intro _
  · rw [sign_s, if_pos (hz.1 c)]
  refine gIf (fun d => ?_) fun d => ?_ <;> repeat first | refine nx ?_ | intro _
  · rw [sign_s, if_neg fun e => c (hz.2 e), if_pos d]
  · rw [sign_s, if_neg fun e => c (hz.2 e), if_neg d]
instance rCmp_c {a b : Fr} {x y : Rat} {A B : Nat} {S T : SV} [i : VF S a x A] [j : VF T b y B] : Ct Tryz.prog 28 [S, T] (A + B ≤ 134216000) (iv (sgQ (x - y))) := by
  refine ct2 i.v j.v (ctI Tryz.call28 Tryz.func28 Tryz.ntmps28 rfl Tryz.results28 rfl [] fun h0 w0 hb => ?_)
  have h1 := i.le
  have h2 := j.le
  obtain ⟨_, _, rfl, rfl⟩ := i
  obtain ⟨_, _, rfl, rfl⟩ := j
  have hn := bq_sub a.rat b.rat
  repeat first | refine nx ?_ | intro _
  trivial
instance rCanon_c {f : Fr} {q : Rat} {b : Nat} {S : SV} [i : VF S f q b] : Ct Tryz.prog 64 [S] (b ≤ 134217000) (kk q) := by
  have t := i.t
  refine ct1 i.v (ctI Tryz.call64 Tryz.func64 Tryz.ntmps64 rfl Tryz.results64 rfl [] fun h0 w0 hb => ?_)
  have hl := i.le2
  obtain ⟨_, _, rfl, rfl⟩ := i
  repeat first | refine nx ?_ | intro _
  exact ⟨rfl, rfl, rfl⟩
end Go.E3
