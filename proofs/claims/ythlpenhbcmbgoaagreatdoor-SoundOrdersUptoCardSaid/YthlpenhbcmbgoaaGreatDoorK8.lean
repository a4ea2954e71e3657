/- K8: a part of the proofs about what is clipped and stored: how the program's functions run, and what they compute, for every input. -/
import Derived.Sort.Row
import Derived.Lib.ItoaNum
import Derived.Sort.Grow
import Derived.Shelf.GgSortFunc.RowK
import Derived.Test.YthlpenhbcmbgoaaGreatDoorProg
import Derived.Shelf.Strconv.Itoa3
import Derived.Shelf.Strings.BuilderK
import Derived.Lib.ItoaLen
import Derived.Test.YthlpenhbcmbgoaaGreatDoorK7
import Derived.Test.YthlpenhbcmbgoaaGreatDoorK3
import Derived.Test.YthlpenhbcmbgoaaGreatDoorK6
set_option linter.all false
set_option linter.unusedVariables false
set_option maxRecDepth 20000
set_option maxHeartbeats 2000000
set_option synthInstance.maxSize 1000
namespace Go.E3
open Go Go.Ear Go.Proofs
section
variable {P : Program} {n : Nat} {c : Bool} {loc env : EL} {B : List Res} {ms : List Nat} {d : Nat} {x : Operand} {t u : TypeId} {k : IntKind} {i : Int} {a m : Nat}
instance (priority := 2000) [lx : Lu n c loc env x (.cv (.int k (-(m : Int))))] [td : TD P t] [ti : TI P u .u64] : St P n c loc env B ms d (.convert t u x) (1 ≤ m ∧ m ≤ 18446744073709551615) (.cv (.int .u64 ((18446744073709551616 - m : Nat) : Int))) := .p fun q sd _ _ _ _ _ s _ _ _ _ _ k => by
  obtain ⟨_, hd⟩ := td.h
  exact OpW.convI hd ti.h (cvE (lx.h q (s.f x))) (by simp [IntKind.wrap, IntKind.bits, IntKind.signed]; omega) (k _ rfl)
instance (priority := 2000) [lx : Lu n c loc env x (.cv (.int .u64 i))] [a1 : IN i a] : St P n c loc env B ms d (.unOp .neg t x) (1 ≤ a ∧ a ≤ 18446744073709551615) (.cv (.int .u64 ((18446744073709551616 - a : Nat) : Int))) := .p fun q sd _ _ _ _ _ s _ _ _ _ _ k => OpW.negI (cvE (lx.h q (s.f x))) (by rw [a1.e]; simp [IntKind.wrap, IntKind.bits, IntKind.signed]; omega) (k _ rfl)
end
instance rsize_c {n : Int} : Ct Tryz.prog 80 [iv n] (-9223372036854775808 ≤ n ∧ n ≤ 9223372036854775807) (.cv (.int .u64 (n.natAbs : Int))) := by
  refine (ctI Tryz.call80 Tryz.func80 Tryz.ntmps80 rfl Tryz.results80 rfl [] fun h0 w0 ⟨h1, h2⟩ => ?_)
  by_cases hn : n < 0
  · obtain ⟨m, rfl⟩ : ∃ m : Nat, n = -(m : Int) := ⟨n.natAbs, by omega⟩
    repeat first | refine nx ?_ | intro _
    refine gIf (fun c => ?_) fun c => ?_ <;> repeat first | refine nx ?_ | intro _
    · omega
    · omega
  · repeat first | refine nx ?_ | intro _
    refine gIf (fun c => ?_) fun c => ?_
    · omega
    · repeat first | refine nx ?_ | intro _
      omega
theorem rtwo {n : Nat} (h : n < 18446744073709551616) : val [n % 4294967296, n / 2 ^ 32 % 4294967296] = n := by simp [val, B32]; omega
instance rnatural_c {i : Int} {n : Nat} [x : IN i n] : Ct Tryz.prog 79 [.cv (.int .u64 i)] (n < 18446744073709551616) (nv n) := by
  obtain rfl := x.e
  refine ctI Tryz.call79 Tryz.func79 Tryz.ntmps79 rfl Tryz.results79 rfl [] fun h0 w0 hl => ?_
  repeat first | refine nx ?_ | intro _
  rw [rtwo hl]
@[reducible] def dOf (d : Nat) : Nat := if d = 0 then 1 else d
instance rlow_c {f : Fr} {q : Rat} {b : Nat} {S : SV} [i : VF S f q b] : Ct Tryz.prog 159 [S] (b ≤ 134217000) (nv (lowF f)) := by
  have t := i.t
  refine ct1 i.v (ctI Tryz.call159 Tryz.func159 Tryz.ntmps159 rfl Tryz.results159 rfl [] fun h0 w0 hb => ?_)
  obtain ⟨_, _, rfl, rfl⟩ := i
  have hbd := bf_d f
  have hz := len_zero (n := val f.d)
  repeat first | refine nx ?_ | intro _
  refine gIf (fun c => ?_) fun c => ?_ <;> repeat first | refine nx ?_ | intro _
  · unfold lowF; rw [if_pos (hz.1 c), digs_lit1]
  · unfold lowF; rw [if_neg fun e => c (hz.2 e)]
instance rmake1_c {s : Bool} {l m : List Nat} {n d : Nat} {S T : SV} [i : Vw uv S l] [j : Vw uv T m] [fl : FtL l] [fm : FtL m] [vl : VlE l n] [vm : VlE m d] : Ct Tryz.prog 78 [.cv (.bool s), S, T] (l.length ≤ 536870912 ∧ m.length ≤ 536870912) (kk (ratOf s n (dOf d))) := by
  refine ct3 (v := bv) ⟨fun u => u⟩ i j (ctI Tryz.call78 Tryz.func78 Tryz.ntmps78 rfl Tryz.results78 rfl [] fun h0 w0 ⟨h1, h2⟩ => ?_)
  have hsn : sz n ≤ 536870912 := by rw [← vl.h]; exact Nat.le_trans (sz_len fl.h) h1
  have hsd : sz d ≤ 536870912 := by rw [← vm.h]; exact Nat.le_trans (sz_len fm.h) h2
  have hz := len_zero (n := n)
  have hzd := len_zero (n := d)
  repeat first | refine nx ?_ | intro _
  refine gIf (fun c => ?_) fun c => ?_
  · repeat first | refine nx ?_ | intro _
    rw [hz.1 c, ratOf_zero, frK_zero]; exact ⟨rfl, rfl, rfl⟩
  repeat first | refine nx ?_ | intro _
  have hn0 : n ≠ 0 := fun e => c (hz.2 e)
  refine gJ [(2, nv (dOf d))] (fun c3 => ?_) (fun c3 => ?_) ?_
  · repeat first | refine nx ?_ | intro _
    exact gM (by rw [dOf, if_pos (hzd.1 c3), digs_lit1]; exact ⟨rfl, by trivial⟩)
  · repeat first | refine nx ?_ | intro _
    exact gM (by rw [dOf, if_neg fun e => c3 (hzd.2 e)]; exact ⟨rfl, by trivial⟩)
  have hd0 : dOf d ≠ 0 := by unfold dOf; split <;> omega
  have hsD : sz (dOf d) ≤ 536870912 := by
    unfold dOf; split
    · rw [sz_one]; decide
    · omega
  generalize dOf d = D at *
  have hgp := gcd_pos' (n := n) hd0
  have hgs := sz_mono (Nat.gcd_le_right n (Nat.pos_of_ne_zero hd0))
  haveI : Sz n 536870912 := ⟨hsn⟩
  haveI : Sz D 536870912 := ⟨hsD⟩
  haveI : Sz (Nat.gcd n D) 536870912 := ⟨by omega⟩
  repeat first | refine nx ?_ | intro _
  refine gJ [(7, nv (Nat.gcd n D))] (fun c3 => ?_) (fun c3 => ?_) ?_
  · repeat first | refine nx ?_ | intro _
    exact gM
  · repeat first | refine nx ?_ | intro _
    exact gM (by rw [← gcd_one (n := n) (d := D) (by omega), digs_lit1]; exact ⟨rfl, by trivial⟩)
  repeat first | refine nx ?_ | intro _
  refine gJ [(1, nv (n / Nat.gcd n D)), (2, nv (D / Nat.gcd n D))] (fun c3 => ?_) (fun c3 => ?_) ?_
  · repeat first | refine nx ?_ | intro _
    exact gM
  · repeat first | refine nx ?_ | intro _
    have hg1 : Nat.gcd n D = 1 := by omega
    exact gM (by rw [hg1, Nat.div_one, Nat.div_one]; exact ⟨rfl, rfl, by trivial⟩)
  have hq1 := sz_mono (Nat.div_le_self n (Nat.gcd n D))
  have hq2 := sz_mono (Nat.div_le_self D (Nat.gcd n D))
  unfold sz at hq1 hq2 hsn hsD
  repeat first | refine nx ?_ | intro _
  have e1 : decide ((ratOf s n D).num < 0) = s := by rw [← ratOf_neg hd0, decide_eq_true (Nat.div_pos (Nat.gcd_le_left D (Nat.pos_of_ne_zero hn0)) hgp), Bool.and_true]
  have hden := ratOf_den (s := s) (n := n) hd0
  refine gIf (fun c => ?_) fun c => ?_ <;> repeat first | refine nx ?_ | intro _
  · refine ⟨e1.symm, ?_, ?_⟩
    · show _ = digs _; rw [ratOf_abs hd0]
    · show _ = if _ then _ else _; rw [← hden, if_neg c]
  · refine ⟨e1.symm, ?_, ?_⟩
    · show _ = digs _; rw [ratOf_abs hd0]
    · exact if_pos (by rw [← hden]; omega)
theorem VF.sn {S : SV} {f : Fr} {q : Rat} {b : Nat} (i : VF S f q b) : Sz (val f.n) b := ⟨by rw [← i.b]; exact sz_valn i.t.h.1⟩
theorem VF.sd {S : SV} {f : Fr} {q : Rat} {b : Nat} (i : VF S f q b) : Sz (lowF f) b := ⟨by rw [← i.b]; exact sz_lowF i.t.h.2⟩
theorem VF.le2 {S : SV} {f : Fr} {q : Rat} {b : Nat} (i : VF S f q b) : f.n.length ≤ b ∧ f.d.length ≤ b ∧ 1 ≤ b := by rw [← i.b]; exact ⟨bf_n f, bf_d f, bf_pos f⟩
theorem szl (n : Nat) {b : Nat} [i : Sz n b] : (digs n).length ≤ b := i.h
instance rMake_c {n d : Int} : Ct Tryz.prog 114 [iv n, iv d] (-9223372036854775808 ≤ n ∧ n ≤ 9223372036854775807 ∧ -9223372036854775808 ≤ d ∧ d ≤ 9223372036854775807 ∧ d ≠ 0) (kk ((n : Rat) / (d : Rat))) := by
  refine (ctI Tryz.call114 Tryz.func114 Tryz.ntmps114 rfl Tryz.results114 rfl [] fun h0 w0 ⟨h1, h2, h3, h4, h5⟩ => ?_)
  have hss : (digs n.natAbs).length ≤ 2 := sz_small (n := n.natAbs) (by omega)
  have hsd : (digs d.natAbs).length ≤ 2 := sz_small (n := d.natAbs) (by omega)
  repeat first | refine nx ?_ | intro _
  rw [show dOf d.natAbs = d.natAbs from if_neg (by omega), ← quot_s h5]; exact ⟨rfl, rfl, rfl⟩
instance rAdd_c {a b : Fr} {x y : Rat} {A B : Nat} {S T : SV} [i : VF S a x A] [j : VF T b y B] : Ct Tryz.prog 109 [S, T] (A + B ≤ 134217000) (kk (x + y)) := by
  have ta := i.t
  have tb := j.t
  refine ct2 i.v j.v (ctI Tryz.call109 Tryz.func109 Tryz.ntmps109 rfl Tryz.results109 rfl [] fun h0 w0 hb => ?_)
  have hl1 := i.le2
  have hl2 := j.le2
  haveI := i.sn
  haveI := i.sd
  haveI := j.sn
  haveI := j.sd
  obtain ⟨_, _, rfl, rfl⟩ := i
  obtain ⟨_, _, rfl, rfl⟩ := j
  repeat first | refine nx ?_ | intro _
  have hl : dOf (lowF a * lowF b) = lowF a * lowF b := if_neg (Nat.mul_ne_zero (lowF_ne a) (lowF_ne b))
  have s1 := szl (val a.n * lowF b)
  have s2 := szl (val b.n * lowF a)
  have s3 := szl (lowF a * lowF b)
  have s4 := szl (val a.n * lowF b + val b.n * lowF a)
  have s5 := szl (val a.n * lowF b - val b.n * lowF a)
  have s6 := szl (val b.n * lowF a - val a.n * lowF b)
  refine gIf (fun c => ?_) fun c => ?_
  · repeat first | refine nx ?_ | intro _
    rw [hl, add_F (by simpa using c)]; exact ⟨rfl, rfl, rfl⟩
  repeat first | refine nx ?_ | intro _
  refine gIf (fun d => ?_) fun d => ?_
  · have hge := cmpN_nonneg d
    repeat first | refine nx ?_ | intro _
    rw [hl, sub_F (by simpa using c) hge]; exact ⟨rfl, rfl, rfl⟩
  · have hge := Nat.le_of_lt (cmpN_nneg d)
    repeat first | refine nx ?_ | intro _
    rw [hl, sub_F' (by simpa using c) hge]; exact ⟨rfl, rfl, rfl⟩
instance rMul_c {a b : Fr} {x y : Rat} {A B : Nat} {S T : SV} [i : VF S a x A] [j : VF T b y B] : Ct Tryz.prog 163 [S, T] (A + B ≤ 134217000) (kk (x * y)) := by
  have ta := i.t
  have tb := j.t
  refine ct2 i.v j.v (ctI Tryz.call163 Tryz.func163 Tryz.ntmps163 rfl Tryz.results163 rfl [] fun h0 w0 hb => ?_)
  have hl1 := i.le2
  have hl2 := j.le2
  haveI := i.sn
  haveI := i.sd
  haveI := j.sn
  haveI := j.sd
  obtain ⟨_, _, rfl, rfl⟩ := i
  obtain ⟨_, _, rfl, rfl⟩ := j
  have hl : dOf (lowF a * lowF b) = lowF a * lowF b := if_neg (Nat.mul_ne_zero (lowF_ne a) (lowF_ne b))
  have s1 := szl (val a.n * val b.n)
  have s3 := szl (lowF a * lowF b)
  repeat first | refine nx ?_ | intro _
  rw [hl, mul_F]; exact ⟨rfl, rfl, rfl⟩
instance rInverse_c {f : Fr} {q : Rat} {b : Nat} {S : SV} [i : VF S f q b] : Ct Tryz.prog 164 [S] (b ≤ 134217000 ∧ q ≠ 0) (kk q⁻¹) := by
  have t := i.t
  refine ct1 i.v (ctI Tryz.call164 Tryz.func164 Tryz.ntmps164 rfl Tryz.results164 rfl [] fun h0 w0 ⟨hb, hq⟩ => ?_)
  have hl := i.le2
  haveI := i.sn
  haveI := i.sd
  obtain ⟨_, _, rfl, rfl⟩ := i
  have s1 := szl (val f.n)
  have s2 := szl (lowF f)
  repeat first | refine nx ?_ | intro _
  rw [show dOf (val f.n) = val f.n from if_neg fun e => hq (rat_zero_iff.2 e), inv_F hq]; exact ⟨rfl, rfl, rfl⟩
instance rDiv_c {a b : Fr} {x y : Rat} {A B : Nat} {S T : SV} [i : VF S a x A] [j : VF T b y B] : Ct Tryz.prog 110 [S, T] (A + B ≤ 134217000 ∧ y ≠ 0) (kk (x / y)) := by
  refine ct2 i.v j.v (ctI Tryz.call110 Tryz.func110 Tryz.ntmps110 rfl Tryz.results110 rfl [] fun h0 w0 ⟨hb, hy⟩ => ?_)
  have h1 := i.le2
  have h2 := j.le
  obtain ⟨_, _, rfl, rfl⟩ := i
  obtain ⟨_, _, rfl, rfl⟩ := j
  have hn := bq_inv' b.rat
  repeat first | refine nx ?_ | intro _
  rw [Rat.div_def]; exact ⟨rfl, rfl, rfl⟩
instance rSign_c {f : Fr} {q : Rat} {b : Nat} {S : SV} [i : VF S f q b] : Ct Tryz.prog 108 [S] (b ≤ 134217000) (iv (sgQ q)) := by
  have t := i.t
  refine ct1 i.v (ctI Tryz.call108 Tryz.func108 Tryz.ntmps108 rfl Tryz.results108 rfl [] fun h0 w0 hb => ?_)
  have hl := i.le2
  obtain ⟨_, _, rfl, rfl⟩ := i
  have hz := len_zero (n := val f.n)
  repeat first | refine nx ?_ | intro _
  refine gIf (fun c => ?_) fun c => ?_ <;> repeat first | refine nx ?_ | intro _
  · rw [sign_s, if_pos (hz.1 c)]
  refine gIf (fun d => ?_) fun d => ?_ <;> repeat first | refine nx ?_ | intro _
  · rw [sign_s, if_neg fun e => c (hz.2 e), if_pos d]
  · rw [sign_s, if_neg fun e => c (hz.2 e), if_neg d]
end Go.E3
set_option linter.unusedVariables false
set_option maxRecDepth 20000
set_option maxHeartbeats 2000000
set_option synthInstance.maxSize 1000
namespace Go.E3
open Go Go.Ear Go.Proofs
instance rsd_c {a b : List Nat} {S T : SV} [i : Vw uv S a] [j : Vw uv T b] : Ct Tryz.prog 60 [S, T] (a.length ≤ 1000000000 ∧ b.length ≤ 1000000000) (bv (decide (a = b))) := by
  refine ct2 i j (ctI Tryz.call60 Tryz.func60 Tryz.ntmps60 rfl Tryz.results60 rfl [] fun h0 w0 ⟨h1, h2⟩ => ?_)
  repeat first | refine nx ?_ | intro _
  refine gIf (fun c => ?_) fun c => ?_ <;> repeat first | refine nx ?_ | intro _
  · exact (decide_eq_false fun e => c (congrArg List.length e)).symm
  refine gLp (fun k : Nat => [(5, iv k)]) (fun _ => []) (fun k => k ≤ a.length ∧ a.take k = b.take k) (fun k => a.length - k) 0 ⟨Nat.zero_le _, rfl⟩ fun k ⟨hk, hd⟩ => ?_
  repeat first | refine nx ?_ | intro _
  refine gIf (fun c1 => ?_) fun c1 => ?_ <;> repeat first | refine nx ?_ | intro _
  · refine gIf (fun c2 => ?_) fun c2 => ?_ <;> repeat first | refine nx ?_ | intro _
    · exact (decide_eq_false (ne_of_getD c2)).symm
    · exact gBk (k + 1) ⟨by omega, take_eq_succ (by omega) (by omega) hd (by omega)⟩ (by omega)
  · rw [List.take_of_length_le (by omega), List.take_of_length_le (by omega)] at hd
    exact (decide_eq_true hd).symm
instance rSame_c {a b : Fr} {x y : Rat} {A B : Nat} {S T : SV} [i : VF S a x A] [j : VF T b y B] : Ct Tryz.prog 19 [S, T] (A ≤ 1000000000 ∧ B ≤ 1000000000) (bv (sameF a b)) := by
  refine ct2 i.v j.v (ctI Tryz.call19 Tryz.func19 Tryz.ntmps19 rfl Tryz.results19 rfl [] fun h0 w0 ⟨h1, h2⟩ => ?_)
  have hl1 := i.le2
  have hl2 := j.le2
  repeat first | refine nx ?_ | intro _
  unfold sameF; cases a.neg <;> cases b.neg <;> simp
class FtR (l : List (List Fr)) : Prop where h : ∀ r ∈ l, FtS r
theorem FtR.getD {l : List (List Fr)} (i : FtR l) (k : Nat) : FtS (l.getD k []) := by
  rw [List.getD_eq_getElem?_getD]
  cases e : l[k]? with
  | none => exact inferInstanceAs (FtS [])
  | some x => exact i.h x (List.mem_of_getElem? e)
instance {l : List (List Fr)} [i : FtR l] {k : Nat} : FtS (l.getD k []) := i.getD k
class VR (S : SV) (l : outParam (List (List Fr))) : Prop where
  v : Vw (lv (rL rF)) S l
  t : FtR l
instance rSum_c {l : List Fr} {S : SV} [j : VL S l] : Ct Tryz.prog 145 [S] (wts l ≤ 60000000) (kk (sumF l)) := by
  haveI := j.t
  refine ct1 j.v (ctI Tryz.call145 Tryz.func145 Tryz.ntmps145 rfl Tryz.results145 rfl [] fun h0 w0 hb => ?_)
  have hb7 := len_wts l
  repeat first | refine nx ?_ | intro _
  rename_i u v
  refine gLp (fun k : Nat => [(4, iv k)]) (fun k => [rV v [bv (frK (sumF (l.take k))).neg, lv rU (frK (sumF (l.take k))).n, lv rU (frK (sumF (l.take k))).d] 32]) (fun k => k ≤ l.length) (fun k => l.length - k) 0 (Nat.zero_le _) (fun k hk => ?_) (h2 := by rw [show sumF (l.take 0) = 0 from rfl, frK_zero]; exact ⟨⟨rfl, rfl, rfl⟩, trivial⟩)
  have hb1 := Nat.le_trans (bq_foldA (l.take k) 0 fun x hx => j.t.bq x (List.mem_of_mem_take hx)) (Nat.add_le_add_left (wts_take l k) _)
  have hb2 := bf_getD l k
  have hb3 := j.t.bqg k
  have hb4 := bq_zero
  have hb5 : foldA 0 (l.take k) = sumF (l.take k) := rfl
  rw [hb5] at hb1
  repeat first | refine nx ?_ | intro _
  refine gIf (fun c => ?_) fun c => ?_ <;> repeat first | refine nx ?_ | intro _
  · rw [show sumF (l.take k) + (l.getD k fr0).rat = sumF (l.take (k + 1)) from (foldA_succ c).symm]; exact gBk (k + 1) (by omega) (by omega)
  · rw [List.take_of_length_le (by omega)]; exact ⟨rfl, rfl, rfl⟩
end Go.E3
set_option linter.unusedVariables false
set_option maxRecDepth 20000
set_option maxHeartbeats 4000000
set_option synthInstance.maxSize 1000
namespace Go.E3
open Go Go.Ear Go.Proofs
theorem cB2 {α β : Type} {v : α → SV} {x : α} {v2 : β → SV} {y : β} {P : Program} {f : FuncId} {sd : Prop} {S T R : SV} {l : List SV} {B : List Res} (i : Vw v S x) (j : Vw v2 T y) (c : CtB P f (v x :: v2 y :: l) B sd R) : CtB P f (S :: T :: l) B sd R := ⟨c.fn, fun a w0 h w vs s o u => by
  match vs, u with
  | _ :: _ :: _, u => exact c.h a s o ⟨i.h u.1, j.h u.2.1, u.2.2⟩⟩
theorem any_at {α : Type} {p : α → Bool} {l : List α} {i : Nat} (d : α) (hi : i < l.length) (h : p (l.getD i d) = true) : l.any p = true := List.any_eq_true.2 ⟨_, getD_in d hi, h⟩
def badP (p : Int) : Bool := decide (p < 1 ∨ 200 < p)
def phB (l : List Int) (most : Int) : Bool := decide ((l.length : Int) ≤ most) && !l.any badP
instance phoned1_c {p : Int} : Ct Tryz.prog 116 [iv p] True (bv (badP p)) := by
  refine (ctI Tryz.call116 Tryz.func116 Tryz.ntmps116 rfl Tryz.results116 rfl [] fun h0 w0 _ => ?_)
  repeat first | refine nx ?_ | intro _
  unfold badP; simp
instance idxI_c {l : List Int} {S F : SV} {B : List Res} {sd : Int → Prop} {p : Int → Bool} [j : Vw (lv rI) S l] [fv : ∀ (m : Int), Fv Tryz.prog F [iv m] B (sd m) (bv (p m))] : CtB Tryz.prog 166 [S, F] B (l.length ≤ 1099511627776 ∧ ∀ m ∈ l, sd m) (iv (idxP p l)) := by
  refine cB2 j (v2 := fun _ : Unit => F) ⟨fun u => u⟩ (ctB Tryz.call166 Tryz.func166 Tryz.ntmps166 rfl Tryz.results166 rfl [] fun h0 w0 ⟨hb, hs⟩ => ?_) (y := ())
  repeat first | refine nx ?_ | intro _
  refine gLp (fun k : Nat => [(8, iv k)]) (fun _ => []) (fun k => k ≤ l.length ∧ (l.take k).any p = false) (fun k => l.length - k) 0 ⟨Nat.zero_le _, rfl⟩ fun k ⟨hk, hn⟩ => ?_
  repeat first | refine nx ?_ | intro _
  refine gIf (fun c => ?_) fun c => ?_
  · have hsd := hs _ (getD_in 0 c)
    repeat first | refine nx ?_ | intro _
    refine gIf (fun c2 => ?_) fun c2 => ?_ <;> repeat first | refine nx ?_ | intro _
    · exact (idx_found 0 c hn c2).symm
    · exact gBk (k + 1) ⟨by omega, any_take_succ 0 c hn (Bool.eq_false_iff.2 c2)⟩ (by omega)
  · repeat first | refine nx ?_ | intro _
    exact (idx_none (by omega) hn).symm
instance cntI_c {l : List Int} {S F : SV} {B : List Res} {sd : Int → Prop} {p : Int → Bool} [j : Vw (lv rI) S l] [fv : ∀ (m : Int), Fv Tryz.prog F [iv m] B (sd m) (bv (p m))] : CtB Tryz.prog 115 [S, F] B (l.length ≤ 1099511627776 ∧ ∀ m ∈ l, sd m) (bv (l.any p)) := by
  refine cB2 j (v2 := fun _ : Unit => F) ⟨fun u => u⟩ (ctB Tryz.call115 Tryz.func115 Tryz.ntmps115 rfl Tryz.results115 rfl [] fun h0 w0 ⟨hb, hs⟩ => ?_) (y := ())
  repeat first | refine nx ?_ | intro _
  exact idx_any
instance phoned_c {l : List Int} {S : SV} {most : Int} [j : Vw (lv rI) S l] : Ct Tryz.prog 55 [S, iv most] (l.length ≤ 1099511627776) (bv (phB l most)) := by
  refine ct1 j (ctI Tryz.call55 Tryz.func55 Tryz.ntmps55 rfl Tryz.results55 rfl [] fun h0 w0 hl => ?_)
  have hs : ∀ m ∈ l, True := fun _ _ => trivial
  repeat first | refine nx ?_ | intro _
  rfl
instance rPhones_c {l : List Int} {S : SV} {most : Int} [j : Vw (lv rI) S l] : Ct Tryz.prog 45 [S, iv most] (l.length ≤ 1099511627776) (bv (phB l most)) := by
  refine ct1 j (ctI Tryz.call45 Tryz.func45 Tryz.ntmps45 rfl Tryz.results45 rfl [] fun h0 w0 hl => ?_)
  repeat first | refine nx ?_ | intro _
  refine gLp (fun k : Nat => [(5, iv k)]) (fun _ => []) (fun k => k ≤ l.length ∧ (l.take k).any badP = false) (fun k => l.length - k) 0 ⟨Nat.zero_le _, rfl⟩ fun k ⟨hk, hn⟩ => ?_
  repeat first | refine nx ?_ | intro _
  refine gIf (fun c => ?_) fun c => ?_
  · repeat first | refine nx ?_ | intro _
    refine gIf (fun c2 => ?_) fun c2 => ?_ <;> repeat first | refine nx ?_ | intro _
    · unfold phB
      rw [any_at (p := badP) 0 c (by unfold badP; simpa using c2)]; simp
    · refine gBk (k + 1) ⟨by omega, any_take_succ 0 c hn (by unfold badP; simpa using c2)⟩ (by omega)
  · repeat first | refine nx ?_ | intro _
    rw [List.take_of_length_le (by omega)] at hn
    unfold phB; rw [hn]; simp
def badC (s : ByteArray) (i : Nat) : Bool := decide (chr s i < 33 ∨ 126 < chr s i)
def wdB (s : ByteArray) : Bool := !(List.range s.size).any (badC s) && (decide (1 ≤ s.size) && decide (s.size ≤ 40))
theorem rng_any {p : Nat → Bool} {n k : Nat} (h : (List.range k).any p = false) (hp : p k = false) : (List.range (k + 1)).any p = false := by rw [List.range_succ, List.any_append, h]; simp [hp]
theorem rng_at {p : Nat → Bool} {n k : Nat} (h : k < n) (hp : p k = true) : (List.range n).any p = true := List.any_eq_true.2 ⟨k, List.mem_range.2 h, hp⟩
instance spelled_c {s : ByteArray} : Ct Tryz.prog 82 [.cv (.string s)] (s.size ≤ 1099511627776) (bv (wdB s)) := by
  refine (ctI Tryz.call82 Tryz.func82 Tryz.ntmps82 rfl Tryz.results82 rfl [] fun h0 w0 hs => ?_)
  repeat first | refine nx ?_ | intro _
  refine gLp (fun k : Nat => [(6, iv k)]) (fun _ => []) (fun k => k ≤ s.size ∧ (List.range k).any (badC s) = false) (fun k => s.size - k) 0 ⟨Nat.zero_le _, rfl⟩ fun k ⟨hk, hn⟩ => ?_
  repeat first | refine nx ?_ | intro _
  refine gIf (fun c => ?_) fun c => ?_
  · repeat first | refine nx ?_ | intro _
    refine gIf (fun c2 => ?_) fun c2 => ?_ <;> repeat first | refine nx ?_ | intro _
    · unfold wdB
      rw [rng_at (p := badC s) c (by unfold badC; simp at c2 ⊢; omega)]; simp
    · refine gBk (k + 1) ⟨by omega, rng_any (n := k) hn (by unfold badC; simp at c2 ⊢; omega)⟩ (by omega)
  · repeat first | refine nx ?_ | intro _
    have e : k = s.size := by omega
    subst e
    unfold wdB; rw [hn]; rfl
instance rWord_c {s : ByteArray} : Ct Tryz.prog 85 [.cv (.string s)] (s.size ≤ 1099511627776) (bv (wdB s)) := by
  refine (ctI Tryz.call85 Tryz.func85 Tryz.ntmps85 rfl Tryz.results85 rfl [] fun h0 w0 hs => ?_)
  repeat first | refine nx ?_ | intro _
  refine gLp (fun k : Nat => [(3, iv k)]) (fun _ => []) (fun k => k ≤ s.size ∧ (List.range k).any (badC s) = false) (fun k => s.size - k) 0 ⟨Nat.zero_le _, rfl⟩ fun k ⟨hk, hn⟩ => ?_
  repeat first | refine nx ?_ | intro _
  refine gIf (fun c => ?_) fun c => ?_
  · repeat first | refine nx ?_ | intro _
    refine gIf (fun c2 => ?_) fun c2 => ?_ <;> repeat first | refine nx ?_ | intro _
    · unfold wdB
      rw [rng_at (p := badC s) c (by unfold badC; simp at c2 ⊢; omega)]; simp
    · refine gBk (k + 1) ⟨by omega, rng_any (n := k) hn (by unfold badC; simp at c2 ⊢; omega)⟩ (by omega)
  · repeat first | refine nx ?_ | intro _
    have e : k = s.size := by omega
    subst e
    unfold wdB; rw [hn]; rfl
def wtB (x : Rat) : Bool := decide (0 < sgQ x) && decide (sgQ (x - 1) ≤ 0)
instance weighty_c {f : Fr} {q : Rat} {b : Nat} {S : SV} [i : VF S f q b] : Ct Tryz.prog 83 [S] (b ≤ 134216000) (bv (wtB q)) := by
  have ht := i.t
  refine ct1 i.v (ctI Tryz.call83 Tryz.func83 Tryz.ntmps83 rfl Tryz.results83 rfl [] fun h0 w0 hb => ?_)
  obtain ⟨_, _, rfl, rfl⟩ := i
  have h1 : bq ((1 : Int) : Rat) ≤ 100 := by decide +kernel
  repeat first | refine gDs 9 9 (by rfl) (by kernel_rfl) ?_ | refine nx ?_ | intro _
  rfl
def befE (a b : En) : Int := if cmpS a.w b.w ≠ 0 then cmpS a.w b.w else ordI a.ph b.ph
instance before_c {a b : En} {S T : SV} [i : Vw enV S a] [j : Vw enV T b] : Ct Tryz.prog 84 [S, T] (a.ph.length ≤ 1099511627776 ∧ b.ph.length ≤ 1099511627776) (iv (befE a b)) := by
  refine ct2 i j (ctI Tryz.call84 Tryz.func84 Tryz.ntmps84 rfl Tryz.results84 rfl [] fun h0 w0 ⟨h1, h2⟩ => ?_)
  unfold befE
  repeat first | refine nx ?_ | intro _
  refine gIf (fun c => ?_) fun c => ?_ <;> repeat first | refine nx ?_ | intro _
  · rw [if_pos c]
  · rw [if_neg c]
def nearI (l : List Int) (i : Int) : Int := if i < 0 ∨ (l.length : Int) ≤ i then 0 else l.getD i.toNat 0
instance near_c {l : List Int} {i : Int} {S : SV} [j : Vw (lv rI) S l] : Ct Tryz.prog 195 [S, iv i] (l.length ≤ 1099511627776) (iv (nearI l i)) := by
  refine ct1 j (ctI Tryz.call195 Tryz.func195 Tryz.ntmps195 rfl Tryz.results195 rfl [] fun h0 w0 hl => ?_)
  unfold nearI
  repeat first | refine nx ?_ | intro _
  refine gIf (fun c => ?_) fun c => ?_
  · repeat first | refine nx ?_ | intro _
    rw [if_pos c]
  · have e : i = ((i.toNat : Nat) : Int) := by omega
    rw [if_neg c]
    generalize i.toNat = k at *
    subst e
    have : k < l.length := by omega
    repeat first | refine nx ?_ | intro _
    trivial
instance idxV_c {l : List Int} {v : Int} {S : SV} [j : Vw (lv rI) S l] : Ct Tryz.prog 229 [S, iv v] (l.length ≤ 1099511627776) (iv (idxP (fun x => decide (v = x)) l)) := by
  refine ct1 j (ctI Tryz.call229 Tryz.func229 Tryz.ntmps229 rfl Tryz.results229 rfl [] fun h0 w0 hb => ?_)
  repeat first | refine nx ?_ | intro _
  refine gLp (fun k : Nat => [(8, iv k)]) (fun _ => []) (fun k => k ≤ l.length ∧ (l.take k).any (fun x => decide (v = x)) = false) (fun k => l.length - k) 0 ⟨Nat.zero_le _, rfl⟩ fun k ⟨hk, hn⟩ => ?_
  repeat first | refine nx ?_ | intro _
  refine gIf (fun c => ?_) fun c => ?_
  · repeat first | refine nx ?_ | intro _
    refine gIf (fun c2 => ?_) fun c2 => ?_ <;> repeat first | refine nx ?_ | intro _
    · exact (idx_found 0 c hn (by simpa using c2)).symm
    · exact gBk (k + 1) ⟨by omega, any_take_succ 0 c hn (by simpa using c2)⟩ (by omega)
  · repeat first | refine nx ?_ | intro _
    exact (idx_none (by omega) hn).symm
instance cntV_c {l : List Int} {v : Int} {S : SV} [j : Vw (lv rI) S l] : Ct Tryz.prog 196 [S, iv v] (l.length ≤ 1099511627776) (bv (l.any fun x => decide (v = x))) := by
  refine ct1 j (ctI Tryz.call196 Tryz.func196 Tryz.ntmps196 rfl Tryz.results196 rfl [] fun h0 w0 hb => ?_)
  repeat first | refine nx ?_ | intro _
  exact idx_any
theorem eq_getD {a b : List Int} {k : Nat} (h : a.length = b.length) (hn : ∀ i, i < k → a.getD i 0 = b.getD i 0) (hk : a.length ≤ k) : a = b := by
  refine List.ext_getElem h fun i h1 h2 => ?_
  have := hn i (by omega)
  rw [List.getD_eq_getElem?_getD, List.getElem?_eq_getElem h1, List.getD_eq_getElem?_getD, List.getElem?_eq_getElem h2] at this
  exact this
instance eqI_c {a b : List Int} {S T : SV} [j : Vw (lv rI) S a] [k : Vw (lv rI) T b] : Ct Tryz.prog 96 [S, T] (a.length ≤ 1099511627776 ∧ b.length ≤ 1099511627776) (bv (decide (a = b))) := by
  refine ct2 j k (ctI Tryz.call96 Tryz.func96 Tryz.ntmps96 rfl Tryz.results96 rfl [] fun h0 w0 ⟨h1, h2⟩ => ?_)
  repeat first | refine nx ?_ | intro _
  refine gIf (fun c => ?_) fun c => ?_
  · repeat first | refine nx ?_ | intro _
    rw [decide_eq_false (fun e => by rw [e] at c; omega)]
  have hl : a.length = b.length := by omega
  repeat first | refine nx ?_ | intro _
  refine gLp (fun k : Nat => [(13, iv k)]) (fun _ => []) (fun k => k ≤ a.length ∧ ∀ i, i < k → a.getD i 0 = b.getD i 0) (fun k => a.length - k) 0 ⟨Nat.zero_le _, fun i hi => by omega⟩ fun k ⟨hk, hn⟩ => ?_
  repeat first | refine nx ?_ | intro _
  refine gIf (fun c => ?_) fun c => ?_
  · repeat first | refine gDs 9 9 (by rfl) (by kernel_rfl) ?_ | refine nx ?_ | intro _
    refine gIf (fun c2 => ?_) fun c2 => ?_ <;> repeat first | refine nx ?_ | intro _
    · rw [decide_eq_false (fun e => c2 (by rw [e]))]
    · refine gBk (k + 1) ⟨by omega, fun i hi => ?_⟩ (by omega)
      by_cases e : i = k
      · subst e; exact Classical.not_not.1 c2
      · exact hn i (by omega)
  · repeat first | refine nx ?_ | intro _
    rw [decide_eq_true (eq_getD hl hn (by omega))]
section
variable {l : List Int} {S : SV}
instance cloneI_c [i : Vw (lv rI) S l] : Ct Tryz.prog 90 [S] (l.length ≤ 1000000000000) (lv rI l) := by
  refine ct1 i (ctI Tryz.call90 Tryz.func90 Tryz.ntmps90 rfl Tryz.results90 rfl [5] fun h0 w0 hl => ?_)
  repeat first | refine nx ?_ | intro _
  rename_i b hb
  refine gIf (fun c => ?_) fun c => ?_ <;> repeat first | refine nx ?_ | intro _
  · exact hb c
  · rfl
end
end Go.E3
set_option linter.unusedVariables false
set_option maxRecDepth 20000
set_option maxHeartbeats 4000000
set_option synthInstance.maxSize 1000
namespace Go.E3
open Go Go.Ear Go.Proofs
def badX (l : List Int) (i : Nat) : Bool := decide (l.getD i 0 < 0 ∨ 200 < l.getD i 0) || (decide (0 < i) && decide (l.getD i 0 ≤ l.getD (i - 1) 0))
def ctxB (l : List Int) : Bool := !(List.range l.length).any (badX l) && decide (l.length ≤ 200)
instance context_c {l : List Int} {S : SV} [j : Vw (lv rI) S l] : Ct Tryz.prog 113 [S] (l.length ≤ 1099511627776) (bv (ctxB l)) := by
  refine ct1 j (ctI Tryz.call113 Tryz.func113 Tryz.ntmps113 rfl Tryz.results113 rfl [] fun h0 w0 hs => ?_)
  repeat first | refine nx ?_ | intro _
  refine gLp (fun k : Nat => [(7, iv k)]) (fun _ => []) (fun k => k ≤ l.length ∧ (List.range k).any (badX l) = false) (fun k => l.length - k) 0 ⟨Nat.zero_le _, rfl⟩ fun k ⟨hk, hn⟩ => ?_
  repeat first | refine nx ?_ | intro _
  refine gIf (fun c => ?_) fun c => ?_
  · repeat first | refine nx ?_ | intro _
    refine gIf (fun c2 => ?_) fun c2 => ?_ <;> repeat first | refine nx ?_ | intro _
    · unfold ctxB
      rw [rng_at (p := badX l) c (by unfold badX; simp at c2 ⊢; omega)]; simp
    · refine gBk (k + 1) ⟨by omega, rng_any (n := k) hn (by unfold badX; simp at c2 ⊢; omega)⟩ (by omega)
  · repeat first | refine nx ?_ | intro _
    have e : k = l.length := by omega
    subst e
    unfold ctxB; rw [hn]; simp
def badR (x : Rw) : Bool := (((((decide (x.from_.length < 1) || !phB x.from_ 4) || !phB x.to 4) || !ctxB x.left) || !ctxB x.right) || !wtB x.f.rat)
def RwS (x : Rw) : Prop := x.from_.length ≤ 1099511627776 ∧ x.to.length ≤ 1099511627776 ∧ x.left.length ≤ 1099511627776 ∧ x.right.length ≤ 1099511627776 ∧ bf x.f ≤ 134215000 ∧ Fit x.f.n ∧ Fit x.f.d
instance rule1_c {x : Rw} : Ct Tryz.prog 112 [rwv x] (RwS x) (bv (badR x)) := by
  refine (ctI Tryz.call112 Tryz.func112 Tryz.ntmps112 rfl Tryz.results112 rfl [] fun h0 w0 ⟨h1, h2, h3, h4, h5, h6⟩ => ?_)
  haveI : FtF x.f := ⟨h6⟩
  repeat first | refine nx ?_ | intro _
  unfold badR; rfl
instance : D0 Rw rw0 := ⟨trivial⟩
instance idxR_c {l : List Rw} {S F : SV} {B : List Res} {sd : Rw → Prop} {p : Rw → Bool} [j : Vw (lv rR) S l] [fv : ∀ (m : Rw), Fv Tryz.prog F [rwv m] B (sd m) (bv (p m))] : CtB Tryz.prog 165 [S, F] B (l.length ≤ 1099511627776 ∧ ∀ m ∈ l, sd m) (iv (idxP p l)) := by
  refine cB2 j (v2 := fun _ : Unit => F) ⟨fun u => u⟩ (ctB Tryz.call165 Tryz.func165 Tryz.ntmps165 rfl Tryz.results165 rfl [] fun h0 w0 ⟨hb, hs⟩ => ?_) (y := ())
  repeat first | refine nx ?_ | intro _
  refine gLp (fun k : Nat => [(8, iv k)]) (fun _ => []) (fun k => k ≤ l.length ∧ (l.take k).any p = false) (fun k => l.length - k) 0 ⟨Nat.zero_le _, rfl⟩ fun k ⟨hk, hn⟩ => ?_
  repeat first | refine nx ?_ | intro _
  refine gIf (fun c => ?_) fun c => ?_
  · have hsd := hs _ (getD_in rw0 c)
    repeat first | refine nx ?_ | intro _
    refine gIf (fun c2 => ?_) fun c2 => ?_ <;> repeat first | refine nx ?_ | intro _
    · exact (idx_found rw0 c hn c2).symm
    · exact gBk (k + 1) ⟨by omega, any_take_succ rw0 c hn (Bool.eq_false_iff.2 c2)⟩ (by omega)
  · repeat first | refine nx ?_ | intro _
    exact (idx_none (by omega) hn).symm
instance cntR_c {l : List Rw} {S F : SV} {B : List Res} {sd : Rw → Prop} {p : Rw → Bool} [j : Vw (lv rR) S l] [fv : ∀ (m : Rw), Fv Tryz.prog F [rwv m] B (sd m) (bv (p m))] : CtB Tryz.prog 111 [S, F] B (l.length ≤ 1099511627776 ∧ ∀ m ∈ l, sd m) (bv (l.any p)) := by
  refine cB2 j (v2 := fun _ : Unit => F) ⟨fun u => u⟩ (ctB Tryz.call111 Tryz.func111 Tryz.ntmps111 rfl Tryz.results111 rfl [] fun h0 w0 ⟨hb, hs⟩ => ?_) (y := ())
  repeat first | refine nx ?_ | intro _
  exact idx_any
def rulB (r : List Rw) : Bool := decide (r.length ≤ 50) && !r.any badR
instance Rules_c {r : List Rw} {S : SV} [j : Vw (lv rR) S r] : Ct Tryz.prog 53 [S] (r.length ≤ 1099511627776 ∧ ∀ x ∈ r, RwS x) (bv (rulB r)) := by
  refine ct1 j (ctI Tryz.call53 Tryz.func53 Tryz.ntmps53 rfl Tryz.results53 rfl [] fun h0 w0 ⟨h1, h2⟩ => ?_)
  repeat first | refine nx ?_ | intro _
  rfl
def frR (x : Rw) (l : List Int) (i : Int) (k : Nat) : Bool := decide (nearI l (i + k) ≠ x.from_.getD k 0)
def offR (x : Rw) (l : List Int) (i : Int) : Bool := (decide (0 < x.left.length) && !x.left.any fun y => decide (nearI l (i - 1) = y)) || (decide (0 < x.right.length) && !x.right.any fun y => decide (nearI l (i + x.from_.length) = y))
def mtR (l : List Int) (i : Int) (x : Rw) : Bool := !(List.range x.from_.length).any (frR x l i) && !offR x l i
theorem mt_fr {l : List Int} {i : Int} {x : Rw} {k : Nat} (h : k < x.from_.length) (c : nearI l (i + k) ≠ x.from_.getD k 0) : mtR l i x = false := by
  unfold mtR
  rw [rng_at (p := frR x l i) h (by unfold frR; simpa using c)]; rfl
end Go.E3
set_option linter.unusedVariables false
set_option maxRecDepth 20000
set_option maxHeartbeats 4000000
set_option synthInstance.maxSize 1000
namespace Go.E3
open Go Go.Ear Go.Proofs
theorem offR_iff {x : Rw} {l : List Int} {i : Int} : offR x l i = true ↔ (0 < x.left.length ∧ ¬(x.left.any fun y => decide (nearI l (i - 1) = y)) = true ∨ 0 < x.right.length ∧ ¬(x.right.any fun y => decide (nearI l (i + x.from_.length) = y)) = true) := by
  unfold offR
  rw [Bool.or_eq_true, Bool.and_eq_true, Bool.and_eq_true, Bool.not_eq_true', Bool.not_eq_true', decide_eq_true_iff, decide_eq_true_iff, Bool.not_eq_true, Bool.not_eq_true]
instance matching_c {r : List Rw} {l : List Int} {i : Int} {S T : SV} [a : Vw (lv rR) S r] [b : Vw (lv rI) T l] : Ct Tryz.prog 167 [S, T, iv i] (r.length ≤ 1099511627776 ∧ l.length ≤ 1099511627776 ∧ 0 ≤ i ∧ i ≤ 1099511627776 ∧ ∀ x ∈ r, RwS x) (iv (idxP (mtR l i) r)) := by
  refine ct2 a b (ctI Tryz.call167 Tryz.func167 Tryz.ntmps167 rfl Tryz.results167 rfl [] fun h0 w0 ⟨h1, h2, h3, h4, h5⟩ => ?_)
  repeat first | refine nx ?_ | intro _
  refine gLp (fun k : Nat => [(13, iv k)]) (fun _ => []) (fun k => k ≤ r.length ∧ (r.take k).any (mtR l i) = false) (fun k => r.length - k) 0 ⟨Nat.zero_le _, rfl⟩ fun k ⟨hk, hn⟩ => ?_
  repeat first | refine nx ?_ | intro _
  refine gIf (fun c => ?_) fun c => ?_
  · obtain ⟨s1, s2, s3, s4, _⟩ := h5 _ (getD_in rw0 c)
    repeat first | refine nx ?_ | intro _
    rename_i v
    refine gLp (fun m : Nat => [(21, iv m)]) (fun _ => [rV v [lv rI (r.getD k rw0).from_, lv rI (r.getD k rw0).to, lv rI (r.getD k rw0).left, lv rI (r.getD k rw0).right, bv (r.getD k rw0).f.neg, lv rU (r.getD k rw0).f.n, lv rU (r.getD k rw0).f.d] 59]) (fun m => m ≤ (r.getD k rw0).from_.length ∧ (List.range m).any (frR (r.getD k rw0) l i) = false) (fun m => (r.getD k rw0).from_.length - m) 0 ⟨Nat.zero_le _, rfl⟩ fun m ⟨hm, hf⟩ => ?_
    generalize hx : r.getD k rw0 = x at *
    repeat first | refine nx ?_ | intro _
    refine gIf (fun c2 => ?_) fun c2 => ?_
    · repeat first | refine nx ?_ | intro _
      refine gIf (fun c3 => ?_) fun c3 => ?_
      · repeat first | refine nx ?_ | intro _
        exact gBk (k + 1) ⟨by omega, any_take_succ rw0 c hn (by rw [hx]; exact mt_fr c2 c3)⟩ (by omega)
      · repeat first | refine nx ?_ | intro _
        exact gBk (m + 1) ⟨by omega, rng_any (n := m) hf (by unfold frR; simpa using c3)⟩ (by omega)
    · have e : m = x.from_.length := by omega
      subst e
      repeat first | refine gDs 33 33 (by rfl) (by kernel_rfl) ?_ | refine nx ?_ | intro _
      refine gIf (fun c3 => ?_) fun c3 => ?_
      · repeat first | refine nx ?_ | intro _
        exact gBk (k + 1) ⟨by omega, any_take_succ rw0 c hn (by rw [hx]; unfold mtR; rw [offR_iff.2 c3]; simp)⟩ (by omega)
      · repeat first | refine nx ?_ | intro _
        rw [idx_found rw0 c hn (by rw [hx]; unfold mtR; rw [hf, Bool.eq_false_iff.2 fun e => c3 (offR_iff.1 e)]; rfl)]
  · repeat first | refine nx ?_ | intro _
    exact (idx_none (by omega) hn).symm
end Go.E3
set_option linter.unusedVariables false
namespace Go.Ear
section
variable {P : Program} {w : World}
end
section
variable {P : Program} {n : Nat} {ρ : Env} {w : World} {K : Env → World → Prop} {d : Tmp} {ty : TypeId} {pos : String} {af : Array Edge} {g : Option (Nat × Bool)} {α : Type} {r : Rp α}
end
end Go.Ear
namespace Go.E3
open Go Go.Ear
section
variable {α : Type} {P : Program} {n : Nat} {X : Fix} {ms : List Nat} {loc env : EL} {B B' : List Res} {k : Kt} {ol rest : List Oper} {d : Nat} {ty : TypeId} {pos : String} {af : Array Edge} {t t2 e : TypeId} {r : Rp α} {bb : Nat} {d0 : α} {q q' : List α} {v : Value} {o1 o2 : Operand}
end
theorem OpW.sliceMid {P : Program} {n : Nat} {d : Nat} {ty : TypeId} {pos : String} {af : Array Edge} {g : Option (Nat × Bool)} {ρ : Env} {w : World} {K : Env → World → Prop} {t e : TypeId} {x y z : Operand} {k k2 : IntKind} {a : Option Addr} {l c m m2 : Nat} {sz : Nat} (ht : IsUnd P t (.slice e)) (hs : IsSize P e sz) (hx : ev n ρ x = .slice a l c) (hy : ev n ρ y = .int k m) (hz : ev n ρ z = .int k2 m2) (hm : m ≤ m2) (hm2 : m2 ≤ c)
    (hk : K (upd ρ d (.slice (if c = m then a else a.map (·.add (m * sz))) (m2 - m) (c - m))) w) : OpW P n ⟨some d, .slice t x (some y) (some z) none, ty, pos, af, g⟩ ρ w K := by
  refine OpW.slice hx ?_ hk
  have h1 : (0 : Int) ≤ (m : Int) ∧ (m : Int) ≤ (m2 : Int) := by omega
  have h2 : (0 : Int) ≤ (m2 : Int) ∧ (m2 : Int) ≤ (c : Int) := by omega
  simp only [Instr.sliceAt, Sem.run_bind, ht.run w, Result.andThen, Option.map_none, Option.map_some, hy, hz, Instr.slice, Instr.sliceBounds, Instr.sliceBound, asIntOf, Sem.run_pure, h1, h2, and_self, if_true, hs w, Int.toNat_natCast]
section
variable {P : Program} {n : Nat} {c : Bool} {loc env : EL} {B : List Res} {ms : List Nat} {d : Nat} {t e : TypeId} {m : Nat} {x y z : Operand} {k k2 : IntKind} {i i2 : Int} {a b : Nat}
instance {α : Type} {r : Rp α} {q : List α} [ts : TS P t e] [tz : TZ P e m] [rk : Rk r m] [lx : Lu n c loc env x (lv r q)] [ly : Lu n c loc env y (.cv (.int k i))] [lz : Lu n c loc env z (.cv (.int k2 i2))] {sd sd2 : Prop} [tn : TN i a sd] [tn2 : TN i2 b sd2] : St P n c loc env B ms d (.slice t x (some y) (some z) none) ((sd ∧ sd2) ∧ a ≤ b ∧ b ≤ q.length) (lv r ((q.take b).drop a)) := .p fun qc hsd _ _ _ _ _ s _ _ _ _ _ kk => by
  have u : LR r _ _ q := lx.h qc (s.f x)
  obtain ⟨base, cp, e, hc⟩ := u.shape
  rw [e] at u
  obtain ⟨⟨s1, s2⟩, s3, s4⟩ := hsd
  have u2 := LR.drop (u.take b s4) (m := a) rk.h.symm (by rw [List.length_take]; omega)
  exact OpW.sliceMid ts.h tz.h e ((cvE (ly.h qc (s.f y))).trans (by rw [tn.e s1])) ((cvE (lz.h qc (s.f z))).trans (by rw [tn2.e s2])) s3 (Nat.le_trans s4 hc) (kk _ u2)
end
end Go.E3
set_option linter.unusedVariables false
set_option maxHeartbeats 4000000
namespace Go.E3
open Go Go.Ear
section
variable {α : Type} {P : Program} {n : Nat} {c : Bool} {loc env : EL} {B : List Res} {ms : List Nat} {d : Nat} {t e : TypeId} {xs : List (Nat × Operand)} {ps : List (Nat × SV)}
theorem bsF (d0' : Nat) {len : Nat} {r : Rp α} {bb : Nat} {d0 : α} {q : List α} [de : RflE (Nat.beq d d0') true] [nn : NotIn d ms] [lx : Lup n c loc env xs ps] [ts : TS P t e] [rt : RT P e α r bb d0] [f : Els r 0 ps q] : St P n c loc env B ms d (.buildSlice t len xs.toArray) (q.length = len ∧ Nat.ble (len * r.k) 16777216 = true) (flv r q) := ⟨fun qc sd _ _ ρ _ _ s _ _ _ _ _ k => by
  obtain ⟨e1, e2⟩ := lx.h qc
  obtain ⟨z, i, el, hz⟩ := rt.e
  have hzk : z.cells.size = r.k := el.hc.trans el.hk
  obtain ⟨rr, hf⟩ := f.h (xs := xs.map fun p => (p.1, ev n ρ p.2)) (by rw [List.map_map]; exact e1.symm) (by rw [List.map_map]; exact e2 fun p hp => s.f p.2 (by simp [Op.operands]; exact ⟨_, hp⟩))
  obtain ⟨arr, h1, h2⟩ := hf (sz := z.cells.size) (arr := ((List.replicate len z.cells.toList).flatten).toArray) hzk (by simp [sd.1])
  refine OpW.buildSliceO s.gr.sat ts.h (isZero_of el) (by rw [hzk]; exact rt.k) (by rw [hzk]; exact sd.2) h1 fun b w' gr hn hlo hb => ?_
  obtain ⟨h', g', le, hb', _⟩ := freeze_ex gr hb hn hlo
  refine k _ _ _ g' ?_
  refine ⟨LR.own' hb' (css := xs.map fun p => (ev n ρ p.2).cells.toList) ?_ ?_ sd.1 (Nat.le_refl _), _, by rw [sd.1]⟩
  · apply Array.toList_inj.1
    rw [h2, Nat.zero_mul, Nat.zero_add, sd.1, List.drop_eq_nil_of_le (by simp)]
    simp only [List.take_zero, List.nil_append, List.append_nil, List.map_map]
    rfl
  · have := rr.mono le
    rwa [List.map_map] at this⟩
instance (priority := high) {α : Type} {r : Rp α} {l l' : List α} : EqS (flv r l) (lv r l') (l = l') := ⟨fun e _ _ u => by subst e; exact u.1⟩
end
end Go.E3
set_option linter.unusedVariables false
set_option maxRecDepth 20000
set_option maxHeartbeats 4000000
set_option synthInstance.maxSize 1000
namespace Go.E3
open Go Go.Ear Go.Proofs
def optL (r : List Rw) (l : List Int) (i : Nat) : List Op' :=
  if idxP (mtR l i) r < 0 then [⟨(l.take (i + 1)).drop i, 1, frK 1⟩]
  else ⟨(r.getD (idxP (mtR l i) r).toNat rw0).to, (r.getD (idxP (mtR l i) r).toNat rw0).from_.length, (r.getD (idxP (mtR l i) r).toNat rw0).f⟩ :: if 0 < sgQ (1 - (r.getD (idxP (mtR l i) r).toNat rw0).f.rat) then [⟨(l.take (i + 1)).drop i, 1, frK (1 - (r.getD (idxP (mtR l i) r).toNat rw0).f.rat)⟩] else []
theorem idxP_lt {α : Type} {p : α → Bool} {l : List α} (h : ¬ idxP p l < 0) : (idxP p l).toNat < l.length := by
  unfold idxP at *
  split at h
  · rename_i c
    rw [if_pos c]
    have := List.findIdx_lt_length.2 (List.any_eq_true.1 c)
    simpa using this
  · omega
instance : D0 Op' op0 := ⟨trivial⟩
section
local instance (priority := high) bs42 {α : Type} {P : Program} {n : Nat} {c : Bool} {loc env : EL} {B : List Res} {ms : List Nat} {d : Nat} {t e : TypeId} {xs : List (Nat × Operand)} {ps : List (Nat × SV)} {len : Nat} {r : Rp α} {bb : Nat} {d0 : α} {q : List α} [de : RflE (Nat.beq d 42) true] [nn : NotIn d ms] [lx : Lup n c loc env xs ps] [ts : TS P t e] [rt : RT P e α r bb d0] [f : Els r 0 ps q] : St P n c loc env B ms d (.buildSlice t len xs.toArray) (q.length = len ∧ Nat.ble (len * r.k) 16777216 = true) (flv r q) := bsF 42
instance options_c {r : List Rw} {l : List Int} {i : Nat} {S T : SV} [a : Vw (lv rR) S r] [b : Vw (lv rI) T l] : Ct Tryz.prog 120 [S, T, iv (i : Int)] (r.length ≤ 1099511627776 ∧ l.length ≤ 1099511627776 ∧ i < l.length ∧ ∀ x ∈ r, RwS x) (lv rOp (optL r l i)) := by
  refine ct2 a b (ctI Tryz.call120 Tryz.func120 Tryz.ntmps120 rfl Tryz.results120 rfl [] fun h0 w0 ⟨h1, h2, h3, h5⟩ => ?_)
  have hsb : bq ((1 : Int) : Rat) ≤ 100 := by decide +kernel
  unfold optL
  repeat first | refine gZs 9 7 8 9 ⟨7, fun γ => ov γ.v, fun γ => rV γ.v [.cv (.slice none 0 0), .cv (.int .i64 0), .cv (.bool false), .cv (.slice none 0 0), .cv (.slice none 0 0)] 170, fun γ => rV γ.v [lv rI ((l.take (i + 1)).drop i), iv 1, bv (frK ((1 : Int) : Rat)).neg, lv rU (frK ((1 : Int) : Rat)).n, lv rU (frK ((1 : Int) : Rat)).d] 170⟩ (by rfl) (by kernel_rfl) ?_ | refine nx ?_ | intro _
  refine gIf (fun c => ?_) fun c => ?_
  · rw [if_pos c]
    repeat first | refine nx ?_ | intro _
    trivial
  · rw [if_neg c]
    have hlt := idxP_lt c
    have hw := h5 _ (getD_in rw0 hlt)
    have hnat : idxP (mtR l i) r = ((idxP (mtR l i) r).toNat : Int) := by omega
    generalize (idxP (mtR l i) r).toNat = m at *
    rw [hnat]
    haveI : FtF (r.getD m rw0).f := ⟨hw.2.2.2.2.2⟩
    have hbf := hw.2.2.2.2.1
    have hb1 : bq (r.getD m rw0).f.rat ≤ bf (r.getD m rw0).f := bq_rat hw.2.2.2.2.2
    have hsb2 := bq_sub ((1 : Int) : Rat) (r.getD m rw0).f.rat
    repeat first | refine nx ?_ | intro _
    refine gIf (fun c2 => ?_) fun c2 => ?_
    · repeat first | refine nx ?_ | intro _
      exact congrArg (_ :: ·) (if_pos c2).symm
    · repeat first | refine nx ?_ | intro _
      exact congrArg (_ :: ·) (if_neg c2).symm
end
end Go.E3
set_option linter.unusedVariables false
namespace Go.E3
open Go Go.Ear
structure TO {α : Type} (c : α → α → Int) : Prop where
  neg : ∀ a b, c b a = -c a b
  eq : ∀ a b, c a b = 0 → a = b
  tr : ∀ a b d, c a b < 0 → c b d < 0 → c a d < 0
section
variable {α : Type} {c : α → α → Int}
theorem TO.self (t : TO c) (a : α) : c a a = 0 := by have := t.neg a a; omega
theorem TO.tr' (t : TO c) {a b d : α} (h1 : c a b ≤ 0) (h2 : c b d ≤ 0) : c a d ≤ 0 := by
  by_cases e1 : c a b = 0
  · rw [t.eq _ _ e1]; exact h2
  · by_cases e2 : c b d = 0
    · rw [← t.eq _ _ e2]; exact h1
    · have := t.tr a b d (by omega) (by omega); omega
theorem TO.le_lt (t : TO c) {a b d : α} (h1 : c a b ≤ 0) (h2 : c b d < 0) : c a d < 0 := by
  by_cases e1 : c a b = 0
  · rw [t.eq _ _ e1]; exact h2
  · exact t.tr a b d (by omega) h2
theorem TO.lt_le (t : TO c) {a b d : α} (h1 : c a b < 0) (h2 : c b d ≤ 0) : c a d < 0 := by
  by_cases e1 : c b d = 0
  · rw [← t.eq _ _ e1]; exact h1
  · exact t.tr a b d h1 (by omega)
def ordX (c : α → α → Int) : List α → List α → Int
  | [], [] => 0
  | [], _ :: _ => -1
  | _ :: _, [] => 1
  | a :: x, b :: y => if c a b = 0 then ordX c x y else c a b
theorem TO.lex (t : TO c) : TO (ordX c) where
  neg := by
    intro a
    induction a with
    | nil => intro b; cases b <;> rfl
    | cons a x ih =>
      intro b
      cases b with
      | nil => rfl
      | cons b y =>
        unfold ordX
        have := t.neg a b
        by_cases h : c a b = 0
        · rw [if_pos h, if_pos (by omega)]; exact ih y
        · rw [if_neg h, if_neg (by omega)]; exact this
  eq := by
    intro a
    induction a with
    | nil => intro b h; cases b with
      | nil => rfl
      | cons b y => exact absurd h (by show ¬ ((-1 : Int) = 0); omega)
    | cons a x ih =>
      intro b h
      cases b with
      | nil => exact absurd h (by show ¬ ((1 : Int) = 0); omega)
      | cons b y =>
        unfold ordX at h
        by_cases h1 : c a b = 0
        · rw [if_pos h1] at h; rw [t.eq _ _ h1, ih y h]
        · rw [if_neg h1] at h; exact absurd h h1
  tr := by
    intro a
    induction a with
    | nil =>
      intro b d h1 h2
      cases d with
      | nil => cases b with
        | nil => exact absurd h1 (by show ¬ ((0 : Int) < 0); omega)
        | cons b y => exact absurd h2 (by show ¬ ((1 : Int) < 0); omega)
      | cons d z => show (-1 : Int) < 0; omega
    | cons a x ih =>
      intro b d h1 h2
      cases b with
      | nil => exact absurd h1 (by show ¬ ((1 : Int) < 0); omega)
      | cons b y =>
        cases d with
        | nil => exact absurd h2 (by show ¬ ((1 : Int) < 0); omega)
        | cons d z =>
          unfold ordX at h1 h2 ⊢
          by_cases e1 : c a b = 0
          · rw [if_pos e1] at h1
            have := t.eq _ _ e1
            subst this
            by_cases e2 : c a d = 0
            · rw [if_pos e2] at h2 ⊢; exact ih y z h1 h2
            · rw [if_neg e2] at h2 ⊢; exact h2
          · rw [if_neg e1] at h1
            by_cases e2 : c b d = 0
            · have := t.eq _ _ e2
              subst this
              rw [if_neg e1]; exact h1
            · rw [if_neg e2] at h2
              have := t.tr a b d h1 h2
              rw [if_neg (by omega)]; exact this
end
theorem cmpI_to : TO cmpI where
  neg a b := by unfold cmpI; repeat' split
                all_goals omega
  eq a b h := by unfold cmpI at h; repeat' split at h
                 all_goals omega
  tr a b d h1 h2 := by
    have e1 : a < b := by unfold cmpI at h1; repeat' split at h1
                          all_goals omega
    have e2 : b < d := by unfold cmpI at h2; repeat' split at h2
                          all_goals omega
    unfold cmpI; rw [if_pos (by omega)]; omega
def cmpB (a b : UInt8) : Int := if a = b then 0 else if a < b then -1 else 1
theorem cmpB_to : TO cmpB where
  neg a b := by
    unfold cmpB
    by_cases h : a = b
    · rw [if_pos h, if_pos h.symm]; rfl
    · rw [if_neg h, if_neg fun e => h e.symm]
      have : a.toNat ≠ b.toNat := fun e => h (UInt8.toNat_inj.1 e)
      simp only [UInt8.lt_iff_toNat_lt]
      repeat' split
      all_goals omega
  eq a b h := by
    unfold cmpB at h
    split at h
    · assumption
    · split at h <;> omega
  tr a b d h1 h2 := by
    have e : ∀ x y : UInt8, cmpB x y < 0 → x.toNat < y.toNat := by
      intro x y h
      unfold cmpB at h
      by_cases e1 : x = y
      · rw [if_pos e1] at h; omega
      · rw [if_neg e1] at h
        by_cases e2 : x < y
        · exact UInt8.lt_iff_toNat_lt.1 e2
        · rw [if_neg e2] at h; omega
    have e1 := e _ _ h1
    have e2 := e _ _ h2
    have hne : ¬ a = d := fun e => by subst e; omega
    unfold cmpB; rw [if_neg hne, if_pos (UInt8.lt_iff_toNat_lt.2 (by omega))]; omega
theorem ordI_eq : ∀ a b, ordI a b = ordX cmpI a b
  | [], [] => rfl
  | [], _ :: _ => rfl
  | _ :: _, [] => rfl
  | a :: x, b :: y => by unfold ordI ordX; rw [ordI_eq x y]
theorem cmpL_ordX : ∀ a b, cmpL a b = ordX cmpB a b
  | [], [] => rfl
  | [], _ :: _ => rfl
  | _ :: _, [] => rfl
  | a :: x, b :: y => by
    unfold cmpL ordX cmpB
    rw [cmpL_ordX x y]
    by_cases h : a = b
    · rw [if_pos h, if_pos h]; rfl
    · rw [if_neg h, if_neg h]
      by_cases h2 : a < b
      · rw [if_pos h2]; rfl
      · rw [if_neg h2]; rfl
theorem ordS_eq : ∀ a b, ordS a b = ordX cmpS a b
  | [], [] => rfl
  | [], _ :: _ => rfl
  | _ :: _, [] => rfl
  | a :: x, b :: y => by unfold ordS ordX; rw [ordS_eq x y]
theorem ordI_to : TO ordI := by
  have : ordI = ordX cmpI := by funext a b; exact ordI_eq a b
  rw [this]; exact cmpI_to.lex
theorem cmpS_to : TO cmpS where
  neg a b := by unfold cmpS; rw [cmpL_ordX, cmpL_ordX]; exact cmpB_to.lex.neg _ _
  eq a b h := cmpS_eq.1 h
  tr a b d h1 h2 := by unfold cmpS at *; rw [cmpL_ordX] at *; exact cmpB_to.lex.tr _ _ _ h1 h2
theorem ordS_to : TO ordS := by
  have : ordS = ordX cmpS := by funext a b; exact ordS_eq a b
  rw [this]; exact cmpS_to.lex
theorem TO.pair {α β : Type} {c : α → α → Int} {d : β → β → Int} (t : TO c) (u : TO d) : TO fun (x y : α × β) => if c x.1 y.1 ≠ 0 then c x.1 y.1 else d x.2 y.2 where
  neg a b := by
    have h := t.neg a.1 b.1
    have k := u.neg a.2 b.2
    by_cases e : c a.1 b.1 = 0
    · show (if c b.1 a.1 ≠ 0 then c b.1 a.1 else d b.2 a.2) = -(if c a.1 b.1 ≠ 0 then c a.1 b.1 else d a.2 b.2)
      rw [if_neg (by omega), if_neg (by omega)]; exact k
    · show (if c b.1 a.1 ≠ 0 then c b.1 a.1 else d b.2 a.2) = -(if c a.1 b.1 ≠ 0 then c a.1 b.1 else d a.2 b.2)
      rw [if_pos (by omega), if_pos e]; exact h
  eq a b h := by
    by_cases e : c a.1 b.1 = 0
    · have h : (if c a.1 b.1 ≠ 0 then c a.1 b.1 else d a.2 b.2) = 0 := h
      rw [if_neg (by omega)] at h
      exact Prod.ext (t.eq _ _ e) (u.eq _ _ h)
    · have h : (if c a.1 b.1 ≠ 0 then c a.1 b.1 else d a.2 b.2) = 0 := h
      rw [if_pos e] at h; exact absurd h e
  tr a b x h1 h2 := by
    have h1 : (if c a.1 b.1 ≠ 0 then c a.1 b.1 else d a.2 b.2) < 0 := h1
    have h2 : (if c b.1 x.1 ≠ 0 then c b.1 x.1 else d b.2 x.2) < 0 := h2
    show (if c a.1 x.1 ≠ 0 then c a.1 x.1 else d a.2 x.2) < 0
    by_cases e1 : c a.1 b.1 = 0
    · rw [if_neg (by omega)] at h1
      rw [t.eq _ _ e1]
      by_cases e2 : c b.1 x.1 = 0
      · rw [if_neg (by omega)] at h2 ⊢; exact u.tr _ _ _ h1 h2
      · rw [if_pos e2] at h2 ⊢; exact h2
    · rw [if_pos e1] at h1
      by_cases e2 : c b.1 x.1 = 0
      · rw [← t.eq _ _ e2, if_pos e1]; exact h1
      · rw [if_pos e2] at h2
        have := t.tr _ _ _ h1 h2
        rw [if_pos (by omega)]; exact this
end Go.E3
set_option linter.unusedVariables false
set_option maxRecDepth 20000
namespace Go.E3
open Go Go.Ear
def sQ : List Rat → Rat
  | [] => 0
  | x :: l => x + sQ l
theorem sQ_app : ∀ a b : List Rat, sQ (a ++ b) = sQ a + sQ b
  | [], b => by show sQ b = 0 + sQ b; rw [Rat.zero_add]
  | x :: a, b => by show x + sQ (a ++ b) = x + sQ a + sQ b; rw [sQ_app a b, Rat.add_assoc]
theorem sQ_perm {a b : List Rat} (p : a.Perm b) : sQ a = sQ b := by
  induction p with
  | nil => rfl
  | cons x _ ih => show x + _ = x + _; rw [ih]
  | swap x y l => show y + (x + sQ l) = x + (y + sQ l); rw [← Rat.add_assoc, ← Rat.add_assoc, Rat.add_comm y x]
  | trans _ _ h1 h2 => exact h1.trans h2
theorem sQ_mul (c : Rat) : ∀ l : List Rat, sQ (l.map (c * ·)) = c * sQ l
  | [] => by show (0 : Rat) = c * 0; rw [Rat.mul_zero]
  | x :: l => by show c * x + sQ (l.map _) = c * (x + sQ l); rw [sQ_mul c l, Rat.mul_add]
theorem sQ_nonneg : ∀ {l : List Rat}, (∀ x ∈ l, 0 ≤ x) → 0 ≤ sQ l
  | [], _ => Rat.le_refl
  | x :: l, h => Rat.add_nonneg (h x (List.mem_cons_self ..)) (sQ_nonneg fun y hy => h y (List.mem_cons_of_mem _ hy))
theorem foldA_sQ : ∀ (l : List Fr) (q : Rat), foldA q l = q + sQ (l.map Fr.rat)
  | [], q => by show q = q + 0; rw [Rat.add_zero]
  | f :: l, q => by show foldA (q + f.rat) l = q + (f.rat + sQ _); rw [foldA_sQ l, Rat.add_assoc]
theorem sumF_sQ (l : List Fr) : sumF l = sQ (l.map Fr.rat) := by unfold sumF; rw [foldA_sQ, Rat.zero_add]
theorem befE_to : ∀ a b d : En, befE b a = -befE a b ∧ (befE a b < 0 → befE b d < 0 → befE a d < 0) := fun a b d =>
  ⟨(cmpS_to.pair ordI_to).neg (a.w, a.ph) (b.w, b.ph), (cmpS_to.pair ordI_to).tr (a.w, a.ph) (b.w, b.ph) (d.w, d.ph)⟩
theorem befE_eq {a b : En} (h : befE a b = 0) : a.w = b.w ∧ a.ph = b.ph := by
  have := (cmpS_to.pair ordI_to).eq (a.w, a.ph) (b.w, b.ph) h
  exact ⟨congrArg Prod.fst this, congrArg Prod.snd this⟩
theorem befE_w {a b : En} (h : befE a b < 0) : cmpS a.w b.w ≤ 0 := by
  unfold befE at h
  split at h
  · omega
  · omega
def badE (l : List En) (i : Nat) : Bool := !wdB (l.getD i en0).w || !phB (l.getD i en0).ph 40 || !wtB (l.getD i en0).f.rat || (decide (0 < i) && decide (0 ≤ befE (l.getD (i - 1) en0) (l.getD i en0)))
def ordB (l : List En) : Bool := !(List.range l.length).any (badE l)
def totW (l : List En) (w : ByteArray) : Rat := sQ ((l.filter fun e => decide (e.w = w)).map fun e => e.f.rat)
def sumE (l : List En) (i j : Nat) : Rat := sQ (((l.take j).drop i).map fun e => e.f.rat)
def valB (l : List En) : Bool := decide (l.length ≤ 1000) && (ordB l && l.all fun e => decide (totW l e.w = 1))
theorem sumE_self (l : List En) (i : Nat) : sumE l i i = 0 := by unfold sumE; rw [List.drop_eq_nil_of_le (by simp; omega)]; rfl
theorem sumE_succ {l : List En} {i j : Nat} (h : i ≤ j) (hj : j < l.length) : sumE l i (j + 1) = sumE l i j + (l.getD j en0).f.rat := by
  unfold sumE
  rw [List.take_succ_eq_append_getElem hj, List.drop_append_of_le_length (by simp; omega), List.map_append, sQ_app]
  rw [List.getD_eq_getElem?_getD, List.getElem?_eq_getElem hj]
  show _ + (_ + 0) = _
  rw [Rat.add_zero]; rfl
def Srt (l : List En) : Prop := ∀ i, 0 < i → i < l.length → befE (l.getD (i - 1) en0) (l.getD i en0) < 0
theorem Srt.lt {l : List En} (s : Srt l) {i : Nat} : ∀ {j : Nat}, i < j → j < l.length → befE (l.getD i en0) (l.getD j en0) < 0
  | 0, h, _ => by omega
  | j + 1, h, hj => by
    have h1 := s (j + 1) (by omega) hj
    rw [Nat.add_sub_cancel] at h1
    by_cases e : i = j
    · rw [e]; exact h1
    · exact (befE_to _ _ _).2 (s.lt (j := j) (by omega) (by omega)) h1
theorem ordB_srt {l : List En} (h : ordB l = true) : Srt l := fun i h1 h2 => by
  unfold ordB at h
  rw [Bool.not_eq_true'] at h
  have := List.any_eq_false.1 h i (List.mem_range.2 h2)
  unfold badE at this
  have h3 : ¬ (0 ≤ befE (l.getD (i - 1) en0) (l.getD i en0)) := fun e => this (by rw [decide_eq_true e, decide_eq_true h1]; simp)
  omega
theorem getD_mem {α : Type} {l : List α} {d : α} {x : α} (h : x ∈ l) : ∃ k, k < l.length ∧ l.getD k d = x := by
  obtain ⟨k, hk, e⟩ := List.mem_iff_getElem.1 h
  exact ⟨k, hk, by rw [List.getD_eq_getElem?_getD, List.getElem?_eq_getElem hk]; exact e⟩
theorem take_getD {α : Type} {l : List α} {d : α} {k n : Nat} (h : k < n) : (l.take n).getD k d = l.getD k d := by
  rw [List.getD_eq_getElem?_getD, List.getElem?_take, if_pos h, ← List.getD_eq_getElem?_getD]
theorem drop_getD {α : Type} {l : List α} {d : α} {k n : Nat} : (l.drop n).getD k d = l.getD (n + k) d := by
  rw [List.getD_eq_getElem?_getD, List.getElem?_drop, ← List.getD_eq_getElem?_getD]
theorem filt_run {l : List En} (s : Srt l) {i j : Nat} {w : ByteArray} (hij : i ≤ j) (hj : j ≤ l.length) (h0 : i < l.length) (hw : (l.getD i en0).w = w) (hr : ∀ k, i ≤ k → k < j → (l.getD k en0).w = w) (hb : i = 0 ∨ (l.getD (i - 1) en0).w ≠ w) (he : j = l.length ∨ (l.getD j en0).w ≠ w) (hlt : i < j) : l.filter (fun e => decide (e.w = w)) = (l.take j).drop i := by
  have e1 : l = l.take i ++ ((l.take j).drop i ++ l.drop j) := by
    have : l.take i ++ (l.take j).drop i = l.take j := by
      have h2 : (l.take j).take i = l.take i := by rw [List.take_take, Nat.min_eq_left hij]
      rw [← h2]; exact List.take_append_drop i (l.take j)
    rw [← List.append_assoc, this, List.take_append_drop]
  have c1 : ∀ k, k < i → cmpS (l.getD k en0).w w < 0 := fun k hk => by
    rcases hb with rfl | hb
    · omega
    · have h1 : cmpS (l.getD (i - 1) en0).w w < 0 := by
        have := befE_w (s.lt (i := i - 1) (j := i) (by omega) h0)
        rw [hw] at this
        rcases Int.lt_or_eq_of_le this with h | h
        · exact h
        · exact absurd (cmpS_eq.1 h) hb
      by_cases e : k = i - 1
      · rw [e]; exact h1
      · exact cmpS_to.le_lt (befE_w (s.lt (i := k) (j := i - 1) (by omega) (by omega))) h1
  have c2 : ∀ k, j ≤ k → k < l.length → cmpS w (l.getD k en0).w < 0 := fun k hk hl => by
    rcases he with he | he
    · omega
    · have h1 : cmpS w (l.getD j en0).w < 0 := by
        have := befE_w (s.lt (i := i) (j := j) hlt (by omega))
        rw [hw] at this
        rcases Int.lt_or_eq_of_le this with h | h
        · exact h
        · exact absurd (cmpS_eq.1 h).symm he
      by_cases e : k = j
      · rw [e]; exact h1
      · exact cmpS_to.lt_le h1 (befE_w (s.lt (i := j) (j := k) (by omega) hl))
  have f1 : (l.take i).filter (fun e => decide (e.w = w)) = [] := List.filter_eq_nil_iff.2 fun x hx => by
    obtain ⟨k, hk, rfl⟩ := getD_mem (d := en0) hx
    rw [List.length_take] at hk
    rw [take_getD (by omega)]
    have := c1 k (by omega)
    intro h
    have h : (l.getD k en0).w = w := by simpa using h
    rw [h, cmpS_self] at this; omega
  have f2 : ((l.take j).drop i).filter (fun e => decide (e.w = w)) = (l.take j).drop i := List.filter_eq_self.2 fun x hx => by
    obtain ⟨k, hk, rfl⟩ := getD_mem (d := en0) hx
    rw [List.length_drop, List.length_take] at hk
    rw [drop_getD, take_getD (by omega)]
    simpa using hr (i + k) (by omega) (by omega)
  have f3 : (l.drop j).filter (fun e => decide (e.w = w)) = [] := List.filter_eq_nil_iff.2 fun x hx => by
    obtain ⟨k, hk, rfl⟩ := getD_mem (d := en0) hx
    rw [List.length_drop] at hk
    rw [drop_getD]
    have := c2 (j + k) (by omega) (by omega)
    intro h
    have h : (l.getD (j + k) en0).w = w := by simpa using h
    rw [h, cmpS_self] at this; omega
  rw [e1, List.filter_append, List.filter_append, ← e1, f1, f2, f3, List.nil_append, List.append_nil]
theorem totW_run {l : List En} (s : Srt l) {i j : Nat} {w : ByteArray} (hij : i ≤ j) (hj : j ≤ l.length) (h0 : i < l.length) (hw : (l.getD i en0).w = w) (hr : ∀ k, i ≤ k → k < j → (l.getD k en0).w = w) (hb : i = 0 ∨ (l.getD (i - 1) en0).w ≠ w) (he : j = l.length ∨ (l.getD j en0).w ≠ w) (hlt : i < j) : totW l w = sumE l i j := by
  unfold totW sumE
  rw [filt_run s hij hj h0 hw hr hb he hlt]
def EnS (e : En) : Prop := (e.w.size ≤ 1000000 ∧ e.ph.length ≤ 1000000) ∧ bf e.f ≤ 1000 ∧ Fit e.f.n ∧ Fit e.f.d
theorem bq_sQ : ∀ {l : List Rat} {b : Nat}, (∀ x ∈ l, bq x ≤ b) → bq (sQ l) ≤ l.length * (b + 1) + 1
  | [], b, _ => by show bq 0 ≤ _; rw [bq_zero]; omega
  | x :: l, b, h => by
    have h1 := h x (List.mem_cons_self ..)
    have h2 := bq_sQ (l := l) (b := b) fun y hy => h y (List.mem_cons_of_mem _ hy)
    have h3 := bq_add x (sQ l)
    show bq (x + sQ l) ≤ (l.length + 1) * (b + 1) + 1
    rw [Nat.add_mul]; omega
theorem bq_sumE {l : List En} (h : ∀ e ∈ l, EnS e) (i j : Nat) : bq (sumE l i j) ≤ l.length * 1001 + 1 := by
  unfold sumE
  have h1 := bq_sQ (l := ((l.take j).drop i).map fun e => e.f.rat) (b := 1000) fun x hx => by
    obtain ⟨e, he, rfl⟩ := List.mem_map.1 hx
    have he' : e ∈ l := List.mem_of_mem_take (List.mem_of_mem_drop he)
    have := h e he'
    exact Nat.le_trans (bq_rat this.2.2) this.2.1
  have h2 : (((l.take j).drop i).map fun e => e.f.rat).length ≤ l.length := by simp; omega
  refine Nat.le_trans h1 (Nat.add_le_add_right (Nat.mul_le_mul h2 (Nat.le_refl _)) 1)
end Go.E3
set_option linter.unusedVariables false
set_option maxRecDepth 20000
set_option maxHeartbeats 4000000
set_option synthInstance.maxSize 1000
namespace Go.E3
open Go Go.Ear Go.Proofs
class FtEs (l : List En) : Prop where h : ∀ e ∈ l, FtF e.f
instance {l : List En} [i : FtEs l] {k : Nat} : FtF (l.getD k en0).f := by
  by_cases h : k < l.length
  · exact i.h _ (getD_in en0 h)
  · rw [List.getD_eq_getElem?_getD, List.getElem?_eq_none (by omega)]; exact inferInstanceAs (FtF fr0)
instance {S : SV} {l : List En} [i : Vw (lv rE) S l] : Vw lxv (.ag [S]) l := ⟨fun ⟨vs, e, u⟩ => ⟨vs, e, by
  match vs, u with
  | [_], ⟨p, t⟩ => exact ⟨i.h p, t⟩⟩⟩
def LxS (l : List En) : Prop := l.length ≤ 2000 ∧ ∀ e ∈ l, EnS e
theorem LxS.ft {l : List En} (h : LxS l) : FtEs l := ⟨fun e he => ⟨(h.2 e he).2.2⟩⟩
theorem sgQ_eq {x y : Rat} : sgQ (x - y) = 0 ↔ x = y := by rw [sgQ_zero]; constructor <;> intro h <;> grind
theorem valB_bad {l : List En} {k : Nat} (h : k < l.length) (c : badE l k = true) : valB l = false := by
  unfold valB ordB; rw [rng_at h c]; simp
theorem valB_tot {l : List En} {k : Nat} (h : k < l.length) (c : totW l (l.getD k en0).w ≠ 1) : valB l = false := by
  unfold valB
  rw [List.all_eq_false.2 ⟨_, getD_in en0 h, by simpa using c⟩]; simp
theorem valB_ok {l : List En} (h1 : l.length ≤ 1000) (h2 : ordB l = true) (h3 : ∀ k, k < l.length → totW l (l.getD k en0).w = 1) : valB l = true := by
  unfold valB
  rw [h2, decide_eq_true h1]
  simp only [Bool.true_and]
  exact List.all_eq_true.2 fun e he => by
    obtain ⟨k, hk, rfl⟩ := getD_mem (d := en0) he
    exact decide_eq_true (h3 k hk)
instance Valid_c {l : List En} {S : SV} [j : Vw lxv S l] : Ct Tryz.prog 34 [S] (LxS l) (bv (valB l)) := by
  refine ct1 j (ctI Tryz.call34 Tryz.func34 Tryz.ntmps34 rfl Tryz.results34 rfl [] fun h0 w0 hl => ?_)
  haveI := hl.ft
  obtain ⟨h1, h2⟩ := hl
  repeat first | refine nx ?_ | intro _
  refine gIf (fun c0 => ?_) fun c0 => ?_ <;> repeat first | refine nx ?_ | intro _
  · unfold valB; rw [decide_eq_false (by omega)]; rfl
  refine gLp (fun k : Nat => [(15, iv k)]) (fun _ => []) (fun k => k ≤ l.length ∧ (List.range k).any (badE l) = false) (fun k => l.length - k) 0 ⟨Nat.zero_le _, rfl⟩ fun k ⟨hk, hn⟩ => ?_
  repeat first | refine nx ?_ | intro _
  refine gIf (fun c => ?_) fun c => ?_
  · have hs := h2 _ (getD_in en0 c)
    have hs1 := (h2 _ (getD_in en0 (show k - 1 < l.length by omega))).1.2
    obtain ⟨⟨s1, s2⟩, s3, s4⟩ := hs
    repeat first | refine gDs 31 31 (by rfl) (by kernel_rfl) ?_ | refine nx ?_ | intro _
    refine gIf (fun c2 => ?_) fun c2 => ?_ <;> repeat first | refine nx ?_ | intro _
    · rw [valB_bad c (by unfold badE; simpa using c2)]
    · exact gBk (k + 1) ⟨by omega, rng_any (n := k) hn (by unfold badE; simpa using c2)⟩ (by omega)
  · have hord : ordB l = true := by
      unfold ordB
      rw [show l.length = k by omega, hn]; rfl
    have hsr := ordB_srt hord
    have hsz := fun i j => bq_sumE h2 i j
    have hfl : ∀ i, i < l.length → bf (l.getD i en0).f ≤ 1000 := fun i hi => (h2 _ (getD_in en0 hi)).2.1
    repeat first | refine nx ?_ | intro _
    refine gLp (fun i : Nat => [(5, iv i)]) (fun _ => []) (fun i => i ≤ l.length ∧ (i = 0 ∨ i = l.length ∨ (l.getD (i - 1) en0).w ≠ (l.getD i en0).w) ∧ ∀ k, k < i → totW l (l.getD k en0).w = 1) (fun i => l.length - i) 0 ⟨Nat.zero_le _, .inl rfl, fun k hk => by omega⟩ fun i ⟨hi, hb, ht⟩ => ?_
    repeat first | refine nx ?_ | intro _
    refine gIf (fun c2 => ?_) fun c2 => ?_
    · repeat first | refine nx ?_ | intro _
      rename_i v
      have hz : frK (sumE l i i) = fr0 := by rw [sumE_self, frK_zero]
      have hz1 : false = (frK (sumE l i i)).neg := by rw [hz]; rfl
      have hz2 : (frK (sumE l i i)).n = [] := by rw [hz]; rfl
      have hz3 : (frK (sumE l i i)).d = [] := by rw [hz]; rfl
      refine gLp (fun j : Nat => [(5, iv j)]) (fun j => [rV v [bv (frK (sumE l i j)).neg, lv rU (frK (sumE l i j)).n, lv rU (frK (sumE l i j)).d] 32]) (fun j => (i ≤ j ∧ j ≤ l.length) ∧ ∀ k, i ≤ k → k < j → (l.getD k en0).w = (l.getD i en0).w) (fun j => l.length - j) i ⟨⟨Nat.le_refl _, hi⟩, fun k h1 h2 => by omega⟩ fun j ⟨⟨hij, hj⟩, hw⟩ => ?_
      repeat first | refine nx ?_ | intro _
      refine gIf (fun c3 => ?_) fun c3 => ?_
      · have h5 := hfl j c3.1
        have h6 := hsz i j
        repeat first | refine gDs 9 8 (by rfl) (by kernel_rfl) ?_ | refine nx ?_ | intro _
        rw [← sumE_succ hij c3.1]
        exact gBk (j + 1) ⟨⟨by omega, by omega⟩, fun k h1 h2 => by
          by_cases e : k = j
          · rw [e]; exact c3.2
          · exact hw k h1 (by omega)⟩ (by omega)
      · have h6 := hsz i j
        have h7 : bq ((1 : Int) : Rat) ≤ 100 := by decide +kernel
        repeat first | refine gDs 4 4 (by rfl) (by kernel_rfl) ?_ | refine nx ?_ | intro _
        have hij2 : i < j := by
          rcases Nat.lt_or_eq_of_le hij with h | h
          · exact h
          · subst h; exact absurd ⟨c2, rfl⟩ c3
        have hend : j = l.length ∨ (l.getD j en0).w ≠ (l.getD i en0).w := by
          by_cases e : j < l.length
          · exact .inr fun e2 => c3 ⟨e, e2⟩
          · exact .inl (by omega)
        have hrun := totW_run hsr hij hj c2 rfl hw (by rcases hb with h | h | h; exact .inl h; omega; exact .inr h) hend hij2
        refine gIf (fun c4 => ?_) fun c4 => ?_ <;> repeat first | refine nx ?_ | intro _
        · rw [valB_tot c2 (by rw [hrun]; exact fun e => c4 (sgQ_eq.2 (by rw [e]; rfl)))]
        · refine gBk j ⟨hj, ?_, fun k hk => ?_⟩ (by omega)
          · rcases hend with h | h
            · exact .inr (.inl h)
            · exact .inr (.inr (by rw [hw (j - 1) (by omega) (by omega)]; exact fun e => h e.symm))
          · by_cases e : k < i
            · exact ht k e
            · rw [hw k (by omega) hk, hrun]
              have := sgQ_eq.1 (Classical.not_not.1 c4)
              rw [this]; rfl
    · repeat first | refine nx ?_ | intro _
      rw [valB_ok (by omega) hord fun k hk => ht k (by omega)]
end Go.E3
set_option linter.unusedVariables false
set_option maxRecDepth 20000
set_option maxHeartbeats 4000000
set_option synthInstance.maxSize 1000
namespace Go.E3
open Go Go.Ear Go.Proofs
def frsW (l : List En) (w : ByteArray) : List Fr := (l.filter fun e => decide (e.w = w)).map (·.f)
theorem sumF_frsW (l : List En) (w : ByteArray) : sumF (frsW l w) = totW l w := by
  rw [sumF_sQ]; unfold frsW totW; rw [List.map_map]; rfl
theorem frsW_succ {l : List En} {w : ByteArray} {k : Nat} (h : k < l.length) : frsW (l.take (k + 1)) w = frsW (l.take k) w ++ if (l.getD k en0).w = w then [(l.getD k en0).f] else [] := by
  unfold frsW
  rw [List.take_succ_eq_append_getElem h, List.filter_append, List.map_append]
  rw [List.getD_eq_getElem?_getD, List.getElem?_eq_getElem h]
  by_cases e : (l[k]).w = w
  · rw [if_pos (by exact e)]; simp [e]
  · rw [if_neg (by exact e)]; simp [e]
theorem wts_map {l : List En} (h : ∀ e ∈ l, EnS e) : wts (l.map (·.f)) ≤ l.length * 1001 := by
  induction l with
  | nil => exact Nat.le_refl _
  | cons e l ih =>
    have h1 := (h e (List.mem_cons_self ..)).2.1
    have h2 := ih fun x hx => h x (List.mem_cons_of_mem _ hx)
    rw [List.map_cons, wts_cons, List.length_cons, Nat.add_mul]; omega
theorem wts_frsW {l : List En} (h : LxS l) (w : ByteArray) : wts (frsW l w) ≤ 2002000 := by
  have h1 := wts_map (l := l.filter fun e => decide (e.w = w)) fun e he => h.2 e (List.mem_filter.1 he).1
  have h2 := List.length_filter_le (fun e => decide (e.w = w)) l
  have h3 := h.1
  have h4 : (l.filter fun e => decide (e.w = w)).length * 1001 ≤ 2000 * 1001 := Nat.mul_le_mul (by omega) (Nat.le_refl _)
  exact Nat.le_trans h1 h4
theorem ft_frsW {l : List En} [i : FtEs l] {w : ByteArray} : FtS (frsW l w) := ⟨fun f hf => by
  unfold frsW at hf
  obtain ⟨e, he, rfl⟩ := List.mem_map.1 hf
  exact i.h e (List.mem_filter.1 he).1⟩
instance total_c {l : List En} {w : ByteArray} {S : SV} [j : Vw (lv rE) S l] : Ct Tryz.prog 88 [S, .cv (.string w)] (LxS l) (kk (totW l w)) := by
  refine ct1 j (ctI Tryz.call88 Tryz.func88 Tryz.ntmps88 rfl Tryz.results88 rfl [] fun h0 w0 hl => ?_)
  haveI := hl.ft
  have hw := wts_frsW hl w
  haveI : FtS (frsW l w) := ft_frsW
  have hll := hl.1
  repeat first | refine nx ?_ | intro _
  rename_i u
  refine gNl rF 32 ?_
  refine gLp (fun s : Nat × Value => [(6, iv s.1), (5, ov s.2)]) (fun s => [rA rF 32 s.2 (frsW (l.take s.1) w)]) (fun s => s.1 ≤ l.length) (fun s => l.length - s.1) (0, .slice none 0 0) (Nat.zero_le _) (fun ⟨k, v⟩ hk => ?_) (h2 := by dsimp only; rw [List.take_zero]; exact ⟨rfl, trivial⟩)
  dsimp only at hk ⊢
  have hlk : (frsW (l.take k) w).length ≤ k := by
    unfold frsW
    have := List.length_filter_le (fun e => decide (e.w = w)) (l.take k)
    rw [List.length_take] at this
    rw [List.length_map]; omega
  repeat first | refine nx ?_ | intro _
  refine gIf (fun c => ?_) fun c => ?_
  · repeat first | refine nx ?_ | intro _
    refine gIf (fun c2 => ?_) fun c2 => ?_ <;> repeat first | refine nx ?_ | intro _
    · rename_i v2
      have e := frsW_succ (w := w) c
      rw [if_pos c2] at e
      rw [← e]
      exact gBk (k + 1, v2) (by dsimp only; omega) (by dsimp only; omega)
    · have e := frsW_succ (w := w) c
      rw [if_neg c2, List.append_nil] at e
      rw [← e]
      exact gBk (k + 1, v) (by dsimp only; omega) (by dsimp only; omega)
  · rw [List.take_of_length_le (by omega)]
    repeat first | refine nx ?_ | intro _
    rw [sumF_frsW]; exact ⟨rfl, rfl, rfl⟩
theorem badE_iff {l : List En} {k : Nat} : badE l k = true ↔ ((¬ wdB (l.getD k en0).w = true ∨ ¬ phB (l.getD k en0).ph 40 = true) ∨ ¬ wtB (l.getD k en0).f.rat = true) ∨ (0 < k ∧ 0 ≤ befE (l.getD (k - 1) en0) (l.getD k en0)) := by
  unfold badE
  simp only [Bool.or_eq_true, Bool.and_eq_true, Bool.not_eq_true', Bool.not_eq_true, decide_eq_true_iff]
end Go.E3
set_option linter.unusedVariables false
set_option maxRecDepth 20000
set_option maxHeartbeats 4000000
set_option synthInstance.maxSize 1000
namespace Go.E3
open Go Go.Ear Go.Proofs
def newW' (l : List En) (i : Nat) : Bool := decide (i = 0 ∨ (l.getD i en0).w ≠ (l.getD (i - 1) en0).w)
def wdsT (l : List En) (k : Nat) : List ByteArray := ((List.range k).filter (newW' l)).map fun i => (l.getD i en0).w
instance isW_c {e : En} {w : ByteArray} : Ct Tryz.prog 147 [enV e, .pk [.cv (.string w)] 0] True (bv (decide (e.w = w))) := by
  refine (ctI Tryz.call147 Tryz.func147 Tryz.ntmps147 rfl Tryz.results147 rfl [] fun h0 w0 _ => ?_)
  repeat first | refine nx ?_ | intro _
  trivial
instance idxE_c {l : List En} {S F : SV} {B : List Res} {sd : En → Prop} {p : En → Bool} [j : Vw (lv rE) S l] [fv : ∀ (m : En), Fv Tryz.prog F [enV m] B (sd m) (bv (p m))] : CtB Tryz.prog 146 [S, F] B (l.length ≤ 1099511627776 ∧ ∀ m ∈ l, sd m) (iv (idxP p l)) := by
  refine cB2 j (v2 := fun _ : Unit => F) ⟨fun u => u⟩ (ctB Tryz.call146 Tryz.func146 Tryz.ntmps146 rfl Tryz.results146 rfl [] fun h0 w0 ⟨hb, hs⟩ => ?_) (y := ())
  repeat first | refine nx ?_ | intro _
  refine gLp (fun k : Nat => [(8, iv k)]) (fun _ => []) (fun k => k ≤ l.length ∧ (l.take k).any p = false) (fun k => l.length - k) 0 ⟨Nat.zero_le _, rfl⟩ fun k ⟨hk, hn⟩ => ?_
  repeat first | refine nx ?_ | intro _
  refine gIf (fun c => ?_) fun c => ?_
  · have hsd := hs _ (getD_in en0 c)
    repeat first | refine nx ?_ | intro _
    refine gIf (fun c2 => ?_) fun c2 => ?_ <;> repeat first | refine nx ?_ | intro _
    · exact (idx_found en0 c hn c2).symm
    · exact gBk (k + 1) ⟨by omega, any_take_succ en0 c hn (Bool.eq_false_iff.2 c2)⟩ (by omega)
  · repeat first | refine nx ?_ | intro _
    exact (idx_none (by omega) hn).symm
def ownE (l : List En) (w : ByteArray) : List En := l.filter fun e => decide (e.w = w)
theorem idxP_first {α : Type} {p : α → Bool} {l : List α} {d : α} {i : Nat} (h : idxP p l = i) : i < l.length ∧ p (l.getD i d) = true ∧ ∀ k, k < i → p (l.getD k d) = false := by
  unfold idxP at h
  split at h
  · rename_i c
    have hi : l.findIdx p = i := by omega
    have hlt := List.findIdx_lt_length.2 (List.any_eq_true.1 c)
    rw [hi] at hlt
    refine ⟨hlt, ?_, fun k hk => ?_⟩
    · have := List.findIdx_getElem (p := p) (xs := l) (w := by rw [hi]; exact hlt)
      rw [List.getD_eq_getElem?_getD, List.getElem?_eq_getElem hlt]
      simpa [hi] using this
    · have := List.not_of_lt_findIdx (p := p) (xs := l) (i := k) (by omega)
      rw [List.getD_eq_getElem?_getD, List.getElem?_eq_getElem (by omega)]
      simpa using this
  · omega
instance entries_c {l : List En} {w : ByteArray} {S : SV} [j : Vw lxv S l] : Ct Tryz.prog 89 [S, .cv (.string w)] (LxS l ∧ Srt l) (lv rE (ownE l w)) := by
  refine ct1 j (ctI Tryz.call89 Tryz.func89 Tryz.ntmps89 rfl Tryz.results89 rfl [] fun h0 w0 ⟨hl, hsr⟩ => ?_)
  haveI := hl.ft
  obtain ⟨h1, h2⟩ := id hl
  have hsd : ∀ m ∈ l, True := fun _ _ => trivial
  repeat first | refine nx ?_ | intro _
  refine gIf (fun c0 => ?_) fun c0 => ?_ <;> repeat first | refine nx ?_ | intro _
  · unfold idxP at c0
    split at c0
    · omega
    · rename_i c
      unfold ownE
      exact List.filter_eq_nil_iff.2 fun e he h => c (List.any_eq_true.2 ⟨e, he, h⟩)
  · obtain ⟨i, hi⟩ : ∃ i : Nat, idxP (fun m : En => decide (m.w = w)) l = i := ⟨(idxP (fun m : En => decide (m.w = w)) l).toNat, by omega⟩
    obtain ⟨hi1, hi2, hi3⟩ := idxP_first (d := en0) hi
    rw [hi]
    have hi2 : (l.getD i en0).w = w := by simpa only [decide_eq_true_iff] using hi2
    refine gLp (fun j : Nat => [(6, iv j)]) (fun _ => []) (fun j => (i ≤ j ∧ j ≤ l.length) ∧ ∀ k, i ≤ k → k < j → (l.getD k en0).w = w) (fun j => l.length - j) i ⟨⟨Nat.le_refl _, by omega⟩, fun k h1 h2 => by omega⟩ fun j ⟨⟨hij, hj⟩, hw⟩ => ?_
    repeat first | refine gDs 15 15 (by rfl) (by kernel_rfl) ?_ | refine nx ?_ | intro _
    refine gIf (fun c3 => ?_) fun c3 => ?_
    · repeat first | refine nx ?_ | intro _
      exact gBk (j + 1) ⟨⟨by omega, by omega⟩, fun k h1 h2 => by
        by_cases e : k = j
        · rw [e]; exact c3.2
        · exact hw k h1 (by omega)⟩ (by omega)
    · have hij2 : i < j := by
        rcases Nat.lt_or_eq_of_le hij with h | h
        · exact h
        · subst h; exact absurd ⟨hi1, hi2⟩ c3
      have hend : j = l.length ∨ (l.getD j en0).w ≠ w := by
        by_cases e : j < l.length
        · exact .inr fun e2 => c3 ⟨e, e2⟩
        · exact .inl (by omega)
      have hrun := filt_run hsr hij hj hi1 hi2 hw (by
        rcases Nat.eq_zero_or_pos i with h | h
        · exact .inl h
        · exact .inr (by simpa only [decide_eq_false_iff_not] using hi3 (i - 1) (by omega))) hend hij2
      repeat first | refine nx ?_ | intro _
      exact hrun.symm
end Go.E3
set_option linter.unusedVariables false
set_option maxHeartbeats 4000000
namespace Go.E3
open Go Go.Ear
section
variable {α : Type}
def rMp (f : α → SV) (v : Value) (R : List (ByteArray × α) → Prop) : Res where
  fp := fun i => v = .map (some i)
  pr := fun h w => ∃ l, R l ∧ (rM' f v l).pr h w
  st := fun {h w h' w'} le hw hn ⟨l, m, x⟩ => ⟨l, m, (rM' f v l).st le hw hn x⟩
  fz := fun _ => True
  fzm := fun _ _ => trivial
  frz := fun {h0 w0 h w} g _ _ => ⟨h, g, PH.le.refl h, fun _ x _ => x, trivial⟩
class PMp (B : List Res) (v : Value) (α : outParam Type) (f : outParam (α → SV)) (R : outParam (List (ByteArray × α) → Prop)) (B' : outParam (List Res)) : Prop where h : Sb B (rMp f v R :: B')
theorem rMI_M {f : α → SV} {v p : Value} {l vis : List (ByteArray × α)} {B : List Res} : Sb (rMI f p v l vis :: B) (rM' f v l :: B) := ⟨fun o => ⟨by
  obtain ⟨it, b, _, e, es, clock, seen, zv, zr, h1, _, h2, h3, h4, _⟩ := o.1
  exact ⟨b, e, es, clock, h1, h2, h3, h4⟩, fun i hi => o.2.1 i (.inr hi), fun r' hr' i hi => o.2.2.1 r' hr' i (.inr hi), o.2.2.2⟩, fun r hr i hi => by
  rcases List.mem_cons.1 hr with rfl | hr
  · exact ⟨_, List.mem_cons_self .., .inr hi⟩
  · exact ⟨r, List.mem_cons_of_mem _ hr, hi⟩⟩
instance {f : α → SV} {v p : Value} {l vis : List (ByteArray × α)} {B : List Res} : PM (rMI f p v l vis :: B) v α f l B := ⟨rMI_M⟩
variable {f : α → SV} {v p : Value} {l l' vis vis' : List (ByteArray × α)} {R R' : List (ByteArray × α) → Prop} {B B' B1 L rest : List Res} {sd : Prop}
instance : PMp (rMp f v R :: B) v α f R B := ⟨.refl _⟩
instance (priority := 50) {x : Res} [i : PMp B v α f R B'] : PMp (x :: B) v α f R (x :: B') := ⟨(i.h.cons x).trans (.perm (List.Perm.swap ..))⟩
theorem rMp_cl (m : R l) : Sb (rM' f v l :: B) (rMp f v R :: B) := ⟨fun o => ⟨⟨l, m, o.1⟩, o.2⟩, fun r hr i hi => by
  rcases List.mem_cons.1 hr with rfl | hr
  · exact ⟨_, List.mem_cons_self .., hi⟩
  · exact ⟨r, List.mem_cons_of_mem _ hr, hi⟩⟩
theorem rMp_im (m : ∀ l, R l → R' l) : Sb (rMp f v R :: B) (rMp f v R' :: B) := ⟨fun o => ⟨by
  obtain ⟨l, a, b⟩ := o.1
  exact ⟨l, m l a, b⟩, o.2⟩, fun r hr i hi => by
  rcases List.mem_cons.1 hr with rfl | hr
  · exact ⟨_, List.mem_cons_self .., hi⟩
  · exact ⟨r, List.mem_cons_of_mem _ hr, hi⟩⟩
instance {l0 : List (ByteArray × α)} {s1 s2 : Prop} [pm : PM B v α f l0 B1] [ea : EqA l0 l s1] [i : MtB B1 L s2 rest] : MtB B (rM' f v l :: L) (s1 ∧ s2) rest := ⟨fun x => by rw [← ea.h x.1]; exact pm.h.more (i.h x.2)⟩
instance {l0 vis0 : List (ByteArray × α)} {s1 s3 s2 : Prop} [pm : PMI B p α f v l0 vis0 B1] [ea : EqA l0 l s1] [eb : EqA vis0 vis s3] [i : MtB B1 L s2 rest] : MtB B (rMI f p v l vis :: L) (s1 ∧ s3 ∧ s2) rest := ⟨fun x => by rw [← ea.h x.1, ← eb.h x.2.1]; exact pm.h.more (i.h x.2.2)⟩
instance {R0 : List (ByteArray × α) → Prop} {s2 : Prop} [pm : PMp B v α f R0 B1] [i : MtB B1 L s2 rest] : MtB B (rMp f v R :: L) ((∀ l, R0 l → R l) ∧ s2) rest := ⟨fun x => (pm.h.trans (rMp_im x.1)).more (i.h x.2)⟩
instance (priority := 900) {l0 : List (ByteArray × α)} {s2 : Prop} [pm : PM B v α f l0 B1] [i : MtB B1 L s2 rest] : MtB B (rMp f v R :: L) (R l0 ∧ s2) rest := ⟨fun x => (pm.h.trans (rMp_cl x.1)).more (i.h x.2)⟩
end
section
variable {P : Program} {n : Nat} {X : Fix} {ms : List Nat} {loc env : EL} {B B1 : List Res} {k : Kt} {c : Code} {α : Type} {f : α → SV} {R : List (ByteArray × α) → Prop}
theorem gSb (s : Sb B B1) (g : GW P n X ms loc env B1 c k) : GW P n X ms loc env B c k := ⟨fun ρ h w sy => g.p ρ h w (sy.sb s)⟩
theorem gOp (v : Value) [pm : PMp B v α f R B1] (g : ∀ l, R l → GW P n X ms loc env (rM' f v l :: B1) c k) : GW P n X ms loc env B c k := ⟨fun ρ h w sy => by
  have s' := sy.sb pm.h
  obtain ⟨l, m, x⟩ := s'.ow.1
  exact (g l m).p ρ h w ⟨s'.gr, s'.lo, s'.en, x, s'.ow.2⟩⟩
theorem gCl (v : Value) {l : List (ByteArray × α)} (R : List (ByteArray × α) → Prop) [pm : PM B v α f l B1] (m : R l) (g : GW P n X ms loc env (rMp f v R :: B1) c k) : GW P n X ms loc env B c k := gSb (pm.h.trans (rMp_cl m)) g
end
end Go.E3
set_option linter.unusedVariables false
set_option maxHeartbeats 4000000
namespace Go.E3
open Go Go.Ear
def Tab (h : PH) : Prop := ∃ e fz, h 1 = some (.cells (Lib.pow10Tab.map fun z => Value.int .u64 z).toArray e fz)
def rG : Res where
  fp := fun _ => False
  pr := fun h _ => Tab h
  st := fun le _ _ ⟨e, fz, a⟩ => ⟨e, fz, le _ _ a⟩
  fz := fun _ => True
  fzm := fun _ _ => trivial
  frz := fun {h0 w0 h w} g _ _ => ⟨h, g, PH.le.refl h, fun _ x _ => x, trivial⟩
class HG (B : List Res) : Prop where h : ∀ {w0 h w}, OwnB w0 B h w → Tab h
instance {B : List Res} : HG (rG :: B) := ⟨fun o => o.1⟩
instance (priority := 50) {x : Res} {B : List Res} [i : HG B] : HG (x :: B) := ⟨fun o => i.h o.2.2.2⟩
instance (priority := 60) {B : List Res} [i : HG B] : HG (B.map bo) := ⟨fun o => i.h o.unbo⟩
def del (h : PH) : PH := fun i => if i = 1 then none else h i
theorem del_one (h : PH) : del h 1 = none := if_pos rfl
theorem del_le (h : PH) : (del h).le h := fun i o e => by unfold del at e; split at e; cases e; exact e
theorem del_ne {h : PH} {i : Nat} (hi : i ≠ 1) : del h i = h i := if_neg hi
def nu (v : Value) : Prop := ∀ z, v ≠ .int .u64 z
class Dz (S : SV) : Prop where
  h : ∀ {h v}, Tab h → den h S v → den (del h) S v
  n : ∀ {h v}, den h S v → nu v
class DzL (l : List SV) : Prop where
  h : ∀ {h vs}, Tab h → denL h l vs → denL (del h) l vs
  n : ∀ {h vs}, denL h l vs → ∀ v ∈ vs, nu v
instance : DzL [] := ⟨fun {h vs} _ u => by cases vs with | nil => exact trivial | cons => exact u.elim, fun {h vs} u => by cases vs with | nil => intro v hv; cases hv | cons => exact u.elim⟩
instance {S : SV} {l : List SV} [a : Dz S] [b : DzL l] : DzL (S :: l) := ⟨fun {h vs} t u => by
  cases vs with
  | nil => exact u.elim
  | cons v vs => exact ⟨a.h t u.1, b.h t u.2⟩, fun {h vs} u => by
  cases vs with
  | nil => exact u.elim
  | cons v vs =>
    intro x hx
    rcases List.mem_cons.1 hx with rfl | hx
    · exact a.n u.1
    · exact b.n u.2 x hx⟩
class DzR {α : Type} (r : Rp α) : Prop where
  h : ∀ {h cs x}, Tab h → r.R h cs x → r.R (del h) cs x
  n : ∀ {h cs x}, r.R h cs x → ∀ v ∈ cs, nu v
  k : 0 < r.k
theorem DzR.of {α : Type} {r : Rp α} {c : α → List SV} [i : RpC r c] (hk : 0 < r.k) (d : ∀ x, DzL (c x)) : DzR r := ⟨fun {h cs x} t u => i.h.2 ((d x).h t (i.h.1 u)), fun {h cs x} u => (d x).n (i.h.1 u), hk⟩
theorem rows_del {α : Type} {r : Rp α} [i : DzR r] {h : PH} (t : Tab h) : ∀ {css : List (List Value)} {l : List α}, Go.Ear.Rows r h css l → Go.Ear.Rows r (del h) css l
  | [], [], _ => trivial
  | _ :: _, _ :: _, u => ⟨i.h t u.1, rows_del t u.2⟩
theorem rows_nu {α : Type} {r : Rp α} [i : DzR r] {h : PH} : ∀ {css : List (List Value)} {l : List α}, Go.Ear.Rows r h css l → ∀ cs ∈ css, ∀ v ∈ cs, nu v
  | [], [], _, cs, hc => by cases hc
  | c :: _, _ :: _, u, cs, hc => by
    rcases List.mem_cons.1 hc with rfl | hc
    · exact i.n u.1
    · exact rows_nu u.2 cs hc
theorem cut_mem {arr : Array Value} {o k : Nat} {v : Value} (h : v ∈ cut arr o k) : v ∈ arr.toList := by
  unfold cut at h
  exact List.mem_of_mem_drop (List.mem_of_mem_take h)
theorem LR.del {α : Type} {r : Rp α} [i : DzR r] {h : PH} {v : Value} {l : List α} (t : Tab h) (u : LR r h v l) : LR r (del h) v l := by
  obtain ⟨css, ⟨base, cap, rfl, hc, hk, hx⟩, b⟩ := u
  refine ⟨css, ⟨base, cap, rfl, hc, hk, ?_⟩, rows_del t b⟩
  rcases hx with hx | ⟨bb, off, arr, e, fz, h1, h2, h3, h4⟩
  · exact .inl hx
  · cases css with
    | nil => exact .inl rfl
    | cons cs css =>
      refine .inr ⟨bb, off, arr, e, fz, h1, ?_, h3, h4⟩
      by_cases hb : bb = 1
      · exfalso
        subst hb
        obtain ⟨e', fz', q⟩ := t
        rw [q] at h2
        injection h2 with h2
        injection h2 with h2 _ _
        have hcut := h4 0 cs rfl
        have hkl := hk cs (List.mem_cons_self ..)
        cases cs with
        | nil => have := i.k; simp at hkl; omega
        | cons c cs =>
          have hn := rows_nu b _ (List.mem_cons_self ..) c (List.mem_cons_self ..)
          have hm : c ∈ arr.toList := cut_mem (o := off + 0 * r.k) (k := r.k) (by rw [hcut]; exact List.mem_cons_self ..)
          rw [← h2] at hm
          obtain ⟨z, _, hz⟩ := List.mem_map.1 (by simpa using hm : c ∈ Lib.pow10Tab.map fun z => Value.int .u64 z)
          exact hn z hz.symm
      · rw [del_ne hb]; exact h2
instance {α : Type} {r : Rp α} {l : List α} [i : DzR r] : Dz (lv r l) := ⟨fun t u => LR.del t u, fun {h v} u => by obtain ⟨b, c, rfl, _⟩ := LR.shape u; intro z e; cases e⟩
instance {b : Bool} : Dz (.cv (.bool b)) := ⟨fun _ u => u, fun u => by rw [u]; intro z e; cases e⟩
instance {b : ByteArray} : Dz (.cv (.string b)) := ⟨fun _ u => u, fun u => by rw [u]; intro z e; cases e⟩
instance {i : Int} : Dz (.cv (.int .i64 i)) := ⟨fun _ u => u, fun u => by rw [u]; intro z e; cases e⟩
instance {i : Int} : Dz (.cv (.int .u32 i)) := ⟨fun _ u => u, fun u => by rw [u]; intro z e; cases e⟩
instance : DzR rU := .of (by decide) fun _ => inferInstance
instance : DzR rI := .of (by decide) fun _ => inferInstance
instance {α : Type} {r : Rp α} [DzR r] : DzR (rL r) := .of Nat.zero_lt_one fun _ => inferInstance
theorem grow_of {w w' : World} (e : Ext w w') (d : w.drawn ≤ w'.drawn) : ∃ q os, w' = Sort.grow (w.drewN q) os := by
  refine ⟨w'.drawn - w.drawn, w'.heap.extract w.heap.size w'.heap.size, ?_⟩
  obtain ⟨heap, tape, drawn, os, output⟩ := w
  obtain ⟨heap', tape', drawn', os', output'⟩ := w'
  obtain ⟨h1, h2, h3, h4, h5⟩ := e
  dsimp only at *
  subst h1 h2 h3
  unfold Sort.grow World.drewN
  dsimp only
  congr 1
  · apply Array.ext_getElem?
    intro i
    rw [Array.getElem?_append]
    by_cases hi : i < heap.size
    · rw [if_pos hi]; exact h5 i hi
    · rw [if_neg hi, Array.getElem?_extract]
      by_cases hj : i < heap'.size
      · rw [if_pos (by omega)]; congr 1; omega
      · rw [if_neg (by omega), Array.getElem?_eq_none (by omega)]
  · omega
theorem putCells_id {c F : Array Value} (h : F.size ≤ c.size) : (Sort.putCells id 0 F c).toList.take F.size = F.toList ∧ (Sort.putCells id 0 F c).size = c.size := by
  have hs : (Sort.putCells id 0 F c).size = c.size := by unfold Sort.putCells; simp
  refine ⟨?_, hs⟩
  apply List.ext_getElem?
  intro i
  by_cases hi : i < F.size
  · rw [List.getElem?_take, if_pos hi]
    unfold Sort.putCells
    rw [Array.getElem?_toList, Array.getElem?_mapIdx, Array.getElem?_eq_getElem (by omega : i < c.size), Option.map_some, if_pos (by omega), Array.getElem?_toList, Array.getElem?_eq_getElem hi]
    simp [getElem!_pos F i hi]
  · rw [List.getElem?_eq_none (by rw [List.length_take]; omega), List.getElem?_eq_none (by simp; omega)]
theorem putCells_map {α : Type} [Inhabited α] (enc : α → Value) (d : Array α) (c : Array Value) : Sort.putCells enc 0 d c = Sort.putCells id 0 (d.map enc) c := by
  unfold Sort.putCells
  rw [Array.size_map]
  congr 1
  funext k x
  split
  · rename_i h
    rw [getElem!_pos d _ (by omega), getElem!_pos (d.map enc) _ (by rw [Array.size_map]; omega)]
    simp
  · rfl
theorem putRow_map {α : Type} [Inhabited α] (enc : α → Value) (w : World) (b : Nat) (d : Array α) : Sort.putRow enc w b 0 d = Sort.putRow id w b 0 (d.map enc) := by
  unfold Sort.putRow
  rw [show Sort.putCells enc 0 d = Sort.putCells id 0 (d.map enc) from funext fun c => putCells_map enc d c]
structure SWd (w W : World) (b : Nat) (arr : Array Value) (e : TypeId) (F : Array Value) : Prop where
  at_ : W.heap[b]? = some (.cells (Sort.putCells id 0 F arr) e (0, 0))
  ow : Ow w W (some b)
theorem swd {w : World} {b : Nat} {arr F : Array Value} {e : TypeId} (hb : w.heap[b]? = some (.cells arr e (0, 0))) (m : Nat) (os : Array Obj) : SWd w (Sort.grow (Sort.putRow id (Sort.ahead w m) b 0 F) os) b arr e F := by
  have hlt := blk_lt hb
  have hsz : (Sort.putRow id (Sort.ahead w m) b 0 F).heap.size = w.heap.size := Sort.size_putRow _ _ _ _ _
  have hg : ∀ i, i < w.heap.size → (Sort.grow (Sort.putRow id (Sort.ahead w m) b 0 F) os).heap[i]? = (Sort.putRow id (Sort.ahead w m) b 0 F).heap[i]? := fun i hi => by
    show (_ ++ os)[i]? = _
    rw [Array.getElem?_append_left (by rw [hsz]; exact hi)]
  refine ⟨?_, rfl, rfl, rfl, ?_, fun i hi hne => ?_, Nat.le_add_right _ _⟩
  · rw [hg b hlt]
    show (w.heap.modify b _)[b]? = _
    rw [Array.getElem?_modify, if_pos rfl, hb]; rfl
  · show _ ≤ (_ ++ os).size
    rw [Array.size_append, hsz]; omega
  · rw [hg i hi]
    show (w.heap.modify b _)[i]? = _
    rw [Array.getElem?_modify, if_neg (fun e => hne (by rw [e]))]
theorem flat_get {k : Nat} (hk : 0 < k) : ∀ {css : List (List Value)} (_ : ∀ cs ∈ css, cs.length = k) (j : Nat), css.flatten[j]? = (css[j / k]?).bind (·[j % k]?)
  | [], _, j => by simp
  | cs :: css, h, j => by
    have hc := h cs (List.mem_cons_self ..)
    rw [List.flatten_cons]
    by_cases hj : j < k
    · rw [List.getElem?_append_left (by omega), Nat.div_eq_of_lt hj, Nat.mod_eq_of_lt hj]; rfl
    · rw [List.getElem?_append_right (by omega), flat_get hk (fun c hc => h c (List.mem_cons_of_mem _ hc)), hc]
      have e1 : j / k = (j - k) / k + 1 := by
        have := Nat.add_div_right (j - k) hk
        rwa [Nat.sub_add_cancel (by omega)] at this
      have e2 : j % k = (j - k) % k := by
        have := Nat.add_mod_right (j - k) k
        rwa [Nat.sub_add_cancel (by omega)] at this
      rw [e1, e2, List.getElem?_cons_succ]
theorem flatK_eq {α : Type} [Inhabited α] (enc : α → List Value) {k : Nat} (hk : ∀ x, (enc x).length = k) (h0 : 0 < k) (d : Array α) : (Sort.flatK enc k d).toList = (d.toList.map enc).flatten := by
  apply List.ext_getElem?
  intro j
  rw [flat_get h0 (by intro cs hc; obtain ⟨x, _, rfl⟩ := List.mem_map.1 hc; exact hk x)]
  by_cases hj : j < d.size * k
  · have h1 : j / k < d.size := (Nat.div_lt_iff_lt_mul h0).2 hj
    have h2 := Nat.mod_lt j h0
    have e3 : d.toList[j / k]? = some d[j / k] := by rw [Array.getElem?_toList]; exact Array.getElem?_eq_getElem h1
    rw [List.getElem?_map, e3, Option.map_some, Option.bind_some]
    unfold Sort.flatK
    rw [Array.getElem?_toList, Array.getElem?_map, Array.getElem?_range, if_pos hj, Option.map_some, getElem!_pos d _ h1, getElem!_pos _ _ (by rw [hk]; exact h2), List.getElem?_eq_getElem (by rw [hk]; exact h2)]
  · rw [List.getElem?_eq_none (by simp; omega)]
    have h1 : ¬ j / k < d.size := fun e => hj ((Nat.div_lt_iff_lt_mul h0).1 e)
    rw [List.getElem?_eq_none (by simp; omega)]; rfl
end Go.E3
namespace Go.Ear
open Go.Proofs Go.Shelf
def itoaRen : Ren := ⟨fun | 129 => 181 | 171 => 153 | 243 => 192 | 246 => 227 | 283 => 237 | 284 => 238 | 285 => 239 | 286 => 240 | 317 => 244 | 318 => 245 | 319 => 246 | 320 => 247 | 337 => 248 | 338 => 249 | n => n, fun | 0 => 0 | 2 => 2 | 3 => 3 | 4 => 4 | 5 => 5 | 9 => 9 | 20 => 20 | 37 => 201 | 46 => 185 | 51 => 171 | 53 => 137 | 171 => 269 | 173 => 271 | 212 => 276 | 213 => 277 | 232 => 278 | 233 => 279 | n => n, fun | 17 => 1 | 18 => 2 | 19 => 3 | n => n⟩
set_option maxRecDepth 100000 in
theorem itoaLays171 : LaysM.n171 Tryz.prog itoaRen := {
  mixed := by kernel_rfl,
  f129 := by kernel_rfl,
  f171 := by kernel_rfl,
  f243 := by kernel_rfl,
  f246 := by kernel_rfl,
  f283 := by kernel_rfl,
  f284 := by kernel_rfl,
  f285 := by kernel_rfl,
  f286 := by kernel_rfl,
  f317 := by kernel_rfl,
  f318 := by kernel_rfl,
  f319 := by kernel_rfl,
  f320 := by kernel_rfl,
  f337 := by kernel_rfl,
  f338 := by kernel_rfl,
  t0 := by kernel_rfl,
  a0 := fun _ => by kernel_rfl,
  z0 := fun _ => by kernel_rfl,
  v0 := fun _ => by kernel_rfl,
  t2 := by kernel_rfl,
  a2 := fun _ => by kernel_rfl,
  z2 := fun _ => by kernel_rfl,
  v2 := fun _ => by kernel_rfl,
  t3 := by kernel_rfl,
  a3 := fun _ => by kernel_rfl,
  z3 := fun _ => by kernel_rfl,
  v3 := fun _ => by kernel_rfl,
  t4 := by kernel_rfl,
  a4 := fun _ => by kernel_rfl,
  z4 := fun _ => by kernel_rfl,
  v4 := fun _ => by kernel_rfl,
  t5 := by kernel_rfl,
  a5 := fun _ => by kernel_rfl,
  z5 := fun _ => by kernel_rfl,
  v5 := fun _ => by kernel_rfl,
  t9 := by kernel_rfl,
  a9 := fun _ => by kernel_rfl,
  z9 := fun _ => by kernel_rfl,
  v9 := fun _ => by kernel_rfl,
  t20 := by kernel_rfl,
  a20 := fun _ => by kernel_rfl,
  z20 := fun _ => by kernel_rfl,
  v20 := fun _ => by kernel_rfl,
  t37 := by kernel_rfl,
  a37 := fun _ => by kernel_rfl,
  z37 := fun _ => by kernel_rfl,
  v37 := fun _ => by kernel_rfl,
  t46 := by kernel_rfl,
  a46 := fun _ => by kernel_rfl,
  z46 := fun _ => by kernel_rfl,
  v46 := fun _ => by kernel_rfl,
  t51 := by kernel_rfl,
  a51 := fun _ => by kernel_rfl,
  z51 := fun _ => by kernel_rfl,
  v51 := fun _ => by kernel_rfl,
  t53 := by kernel_rfl,
  a53 := fun _ => by kernel_rfl,
  z53 := fun _ => by kernel_rfl,
  v53 := fun _ => by kernel_rfl,
  t171 := by kernel_rfl,
  a171 := fun _ => by kernel_rfl,
  z171 := fun _ => by kernel_rfl,
  v171 := fun _ => by kernel_rfl,
  t173 := by kernel_rfl,
  a173 := fun _ => by kernel_rfl,
  z173 := fun _ => by kernel_rfl,
  v173 := fun _ => by kernel_rfl,
  t212 := by kernel_rfl,
  a212 := fun _ => by kernel_rfl,
  z212 := fun _ => by kernel_rfl,
  v212 := fun _ => by kernel_rfl,
  t213 := by kernel_rfl,
  a213 := fun _ => by kernel_rfl,
  z213 := fun _ => by kernel_rfl,
  t232 := by kernel_rfl,
  a232 := fun _ => by kernel_rfl,
  z232 := fun _ => by kernel_rfl,
  v232 := fun _ => by kernel_rfl,
  t233 := by kernel_rfl,
  a233 := fun _ => by kernel_rfl,
  z233 := fun _ => by kernel_rfl,
  v233 := fun _ => by kernel_rfl,
  g17 := by kernel_rfl,
  g18 := by kernel_rfl,
  g19 := by kernel_rfl,
  i0 := by kernel_rfl,
  i2 := by kernel_rfl,
  i3 := by kernel_rfl,
  i4 := by kernel_rfl,
  i5 := by kernel_rfl,
  i9 := by kernel_rfl,
  i20 := by kernel_rfl,
  i37 := by kernel_rfl,
  i46 := by kernel_rfl,
  i51 := by kernel_rfl,
  i53 := by kernel_rfl,
  i171 := by kernel_rfl,
  i173 := by kernel_rfl,
  i212 := by kernel_rfl,
  i232 := by kernel_rfl,
  i233 := by kernel_rfl,
  m17 := by kernel_rfl,
  m18 := by kernel_rfl,
  m19 := by kernel_rfl }
def bldRen : Ren := ⟨fun | 166 => 152 | 167 => 154 | 169 => 155 | 240 => 191 | 276 => 226 | n => n, fun | 0 => 0 | 3 => 3 | 4 => 4 | 5 => 5 | 9 => 9 | 20 => 20 | 37 => 201 | 70 => 200 | 72 => 203 | 75 => 205 | 80 => 210 | 127 => 234 | 164 => 259 | n => n, fun  | n => n⟩
set_option maxRecDepth 100000 in
theorem bldLays166 : Lays.n166 Tryz.prog bldRen := {
  mixed := by kernel_rfl,
  f166 := by kernel_rfl,
  f240 := by kernel_rfl,
  f276 := by kernel_rfl,
  t0 := by kernel_rfl,
  a0 := fun _ => by kernel_rfl,
  z0 := fun _ => by kernel_rfl,
  v0 := fun _ => by kernel_rfl,
  t3 := by kernel_rfl,
  a3 := fun _ => by kernel_rfl,
  z3 := fun _ => by kernel_rfl,
  v3 := fun _ => by kernel_rfl,
  t4 := by kernel_rfl,
  a4 := fun _ => by kernel_rfl,
  z4 := fun _ => by kernel_rfl,
  v4 := fun _ => by kernel_rfl,
  t9 := by kernel_rfl,
  a9 := fun _ => by kernel_rfl,
  z9 := fun _ => by kernel_rfl,
  v9 := fun _ => by kernel_rfl,
  t20 := by kernel_rfl,
  a20 := fun _ => by kernel_rfl,
  z20 := fun _ => by kernel_rfl,
  v20 := fun _ => by kernel_rfl,
  t37 := by kernel_rfl,
  a37 := fun _ => by kernel_rfl,
  z37 := fun _ => by kernel_rfl,
  v37 := fun _ => by kernel_rfl,
  t70 := by kernel_rfl,
  a70 := fun _ => by kernel_rfl,
  z70 := fun _ => by kernel_rfl,
  v70 := fun _ => by kernel_rfl,
  t72 := by kernel_rfl,
  a72 := fun _ => by kernel_rfl,
  z72 := fun _ => by kernel_rfl,
  v72 := fun _ => by kernel_rfl,
  t75 := by kernel_rfl,
  a75 := fun _ => by kernel_rfl,
  z75 := fun _ => by kernel_rfl,
  v75 := fun _ => by kernel_rfl,
  t164 := by kernel_rfl,
  a164 := fun _ => by kernel_rfl,
  z164 := fun _ => by kernel_rfl,
  v164 := fun _ => by kernel_rfl }
set_option maxRecDepth 100000 in
theorem bldLays167 : Lays.n167 Tryz.prog bldRen := {
  mixed := by kernel_rfl,
  f167 := by kernel_rfl,
  f240 := by kernel_rfl,
  f276 := by kernel_rfl,
  t0 := by kernel_rfl,
  a0 := fun _ => by kernel_rfl,
  z0 := fun _ => by kernel_rfl,
  v0 := fun _ => by kernel_rfl,
  t4 := by kernel_rfl,
  a4 := fun _ => by kernel_rfl,
  z4 := fun _ => by kernel_rfl,
  v4 := fun _ => by kernel_rfl,
  t5 := by kernel_rfl,
  a5 := fun _ => by kernel_rfl,
  z5 := fun _ => by kernel_rfl,
  v5 := fun _ => by kernel_rfl,
  t9 := by kernel_rfl,
  a9 := fun _ => by kernel_rfl,
  z9 := fun _ => by kernel_rfl,
  v9 := fun _ => by kernel_rfl,
  t20 := by kernel_rfl,
  a20 := fun _ => by kernel_rfl,
  z20 := fun _ => by kernel_rfl,
  v20 := fun _ => by kernel_rfl,
  t37 := by kernel_rfl,
  a37 := fun _ => by kernel_rfl,
  z37 := fun _ => by kernel_rfl,
  v37 := fun _ => by kernel_rfl,
  t70 := by kernel_rfl,
  a70 := fun _ => by kernel_rfl,
  z70 := fun _ => by kernel_rfl,
  v70 := fun _ => by kernel_rfl,
  t72 := by kernel_rfl,
  a72 := fun _ => by kernel_rfl,
  z72 := fun _ => by kernel_rfl,
  v72 := fun _ => by kernel_rfl,
  t75 := by kernel_rfl,
  a75 := fun _ => by kernel_rfl,
  z75 := fun _ => by kernel_rfl,
  v75 := fun _ => by kernel_rfl,
  t164 := by kernel_rfl,
  a164 := fun _ => by kernel_rfl,
  z164 := fun _ => by kernel_rfl,
  v164 := fun _ => by kernel_rfl }
set_option maxRecDepth 100000 in
theorem bldLays169 : Lays.n169 Tryz.prog bldRen := {
  mixed := by kernel_rfl,
  f169 := by kernel_rfl,
  t0 := by kernel_rfl,
  a0 := fun _ => by kernel_rfl,
  z0 := fun _ => by kernel_rfl,
  v0 := fun _ => by kernel_rfl,
  t3 := by kernel_rfl,
  a3 := fun _ => by kernel_rfl,
  z3 := fun _ => by kernel_rfl,
  v3 := fun _ => by kernel_rfl,
  t9 := by kernel_rfl,
  a9 := fun _ => by kernel_rfl,
  z9 := fun _ => by kernel_rfl,
  v9 := fun _ => by kernel_rfl,
  t37 := by kernel_rfl,
  a37 := fun _ => by kernel_rfl,
  z37 := fun _ => by kernel_rfl,
  v37 := fun _ => by kernel_rfl,
  t70 := by kernel_rfl,
  a70 := fun _ => by kernel_rfl,
  z70 := fun _ => by kernel_rfl,
  v70 := fun _ => by kernel_rfl,
  t72 := by kernel_rfl,
  a72 := fun _ => by kernel_rfl,
  z72 := fun _ => by kernel_rfl,
  v72 := fun _ => by kernel_rfl,
  t127 := by kernel_rfl,
  a127 := fun _ => by kernel_rfl,
  z127 := fun _ => by kernel_rfl,
  v127 := fun _ => by kernel_rfl }
set_option maxRecDepth 100000 in
theorem bldExtra : Builder.Extra Tryz.prog bldRen where
  sizeBuilder := by kernel_rfl
  liesBuilder := by kernel_rfl
  t5 := by kernel_rfl
  a5 := fun _ => by kernel_rfl
  z5 := fun _ => by kernel_rfl
  v5 := fun _ => by kernel_rfl
  infoByte := by kernel_rfl
  cellsByte := by kernel_rfl
  sizeByte := by kernel_rfl
  neB5 := by decide
end Go.Ear
set_option linter.unusedVariables false
set_option maxRecDepth 20000
set_option maxHeartbeats 4000000
set_option synthInstance.maxSize 1000
namespace Go.E3
open Go Go.Ear Go.Proofs Go.RowKit
theorem gPow : Tryz.prog.globalNamed "internal/strconv.uint64pow10" = some 1 := by kernel_rfl
theorem Tab.is {h : PH} {w : World} (t : Tab h) (s : Sat h w) : Lib.TabIs Tryz.prog w "internal/strconv.uint64pow10" .u64 Lib.pow10Tab := by
  obtain ⟨e, fz, q⟩ := t
  unfold Lib.TabIs World.var?
  rw [gPow, Option.bind_some, s _ _ q]
def prtL (l : List Int) : List UInt8 := l.flatMap fun p => Lib.itoa p ++ [32]
def prtB (l : List Int) : ByteArray := ⟨(prtL l).toArray⟩
theorem prtL_succ {l : List Int} {k : Nat} (h : k < l.length) : prtL (l.take (k + 1)) = prtL (l.take k) ++ (Lib.itoa (l.getD k 0) ++ [32]) := by
  unfold prtL
  rw [List.take_succ_eq_append_getElem h, List.flatMap_append, List.getD_eq_getElem?_getD, List.getElem?_eq_getElem h]
  simp
theorem prtL_len {l : List Int} (hb : ∀ p ∈ l, -9223372036854775808 ≤ p ∧ p ≤ 9223372036854775807) : (prtL l).length ≤ l.length * 22 := by
  induction l with
  | nil => exact Nat.le_refl _
  | cons p l ih =>
    have h1 := hb p (List.mem_cons_self ..)
    have h2 := ih fun q hq => hb q (List.mem_cons_of_mem _ hq)
    have h3 := Lib.itoa_length_le p h1.1 h1.2
    unfold prtL at *
    simp only [List.flatMap_cons, List.length_append, List.length_cons, List.length_nil]
    omega
theorem calls_low {P : Program} {f : FuncId} {fn : Func} {c : Code} {vs : List Value} {w : World} {R : Value → World → Prop}
    (hf : P.funcs[f]? = some fn) (hb : fn.body = some c) (hn : Nat.ble vs.length fn.ntmps = true)
    (hw : Wp P fn.ntmps c (retQ P fn R) (env0 0 vs) w) : Calls P f vs.toArray w fun e w' => ∃ v, e = .returned v ∧ R v w' := by
  refine calls_of_wp hf hb ?_
  have := mk_env0 (Nat.le_of_ble_eq_true hn)
  simp only [List.size_toArray]
  rw [this]
  refine wp_mono hw.out ?_
  rintro e a w' ⟨ρ, rfl, hq⟩
  cases e <;> first
    | (obtain ⟨v, hr, hq⟩ := hq; exact ⟨rfl, v, hr, v, rfl, hq⟩)
    | exact hq.elim
theorem OpW.callL {P : Program} {n : Nat} {ρ : Env} {w : World} {K : Env → World → Prop} {ty : TypeId} {pos : String} {af : Array Edge} {g : Option (Nat × Bool)} {f : FuncId} {xs : List Operand} {ts : Array TypeId} {vs : List Value} {R : Ending → World → Prop} {dd : Option Tmp} (hf : IsFn P f) (hx : xs.map (ev n ρ) = vs)
    (hc : Calls P f vs.toArray w R) (hk : ∀ e w', R e w' → ∃ v, e = .returned v ∧ K (updO ρ dd v) w') :
    OpW P n ⟨dd, .call ⟨.value (.func f), xs.toArray, ts⟩, ty, pos, af, g⟩ ρ w K := by
  refine OpW.enter (f := f) (args := vs.toArray) ?_ hc hk
  simp only [execOp, resolve, ev, Deferred.ofValue, Sem.run_bind, Sem.run_pure, Result.andThen, invoke, List.map_toArray, hx]
  have := hf (#[] ++ vs.toArray ++ #[]) w
  simpa using this
theorem bld_kept {T e : TypeId} {B b : Nat} {p : Value} {bs : List Value} {w w' : World} (h : Lib.BuilderAtF T e B b p bs w) (k : ∀ i, i < w.heap.size → w'.heap[i]? = w.heap[i]?) : Lib.BuilderAtF T e B b p bs w' := by
  obtain ⟨hB, v, hb, hown, hne⟩ := h
  refine ⟨hB, v, by rw [k b (blk_lt hb)]; exact hb, ?_, hne⟩
  unfold World.ownsRowF at *
  obtain ⟨h1, h2⟩ := hown
  refine ⟨h1, ?_⟩
  rcases h2 with h2 | ⟨g, cap, cur, fz, e1, e2, e3, e4⟩
  · exact .inl h2
  · exact .inr ⟨g, cap, cur, fz, e1, e2, by rw [k g (blk_lt e3)]; exact e3, e4⟩
theorem bldF_kept {T e : TypeId} {B b : Nat} {bs : List Value} {w w' : World} (h : Lib.IsBuilderF T e B b bs w) (k : ∀ i, i < w.heap.size → w'.heap[i]? = w.heap[i]?) : Lib.IsBuilderF T e B b bs w' := h.imp (fun x => bld_kept x k) fun x => bld_kept x k
def Jp (v : Value) (l : List Int) (B b : Nat) (w0 : World) (k : Nat) (ρ : Env) (w : World) : Prop :=
  Has ρ [(3, .pointer (some ⟨b, 0, none⟩)), (6, v), (7, .int .i64 (l.length : Int)), (8, .int .i64 (k : Int))] ∧ k ≤ l.length ∧ Lib.IsBuilderF 203 5 B b (Lib.byteCells (prtL (l.take k))) w ∧ Below B w0 w ∧ B ≤ w.heap.size
theorem take_sub {l : List Int} {k : Nat} {P : Int → Prop} (h : ∀ p ∈ l, P p) : ∀ p ∈ l.take k, P p := fun p hp => h p (List.mem_of_mem_take hp)
theorem printed_low {l : List Int} {v : Value} {h : PH} {w : World} (ht : Tab h) (sat : Sat h w) (u : LR rI h v l) (hl : l.length ≤ 1000000) (hb : ∀ p ∈ l, -9223372036854775808 ≤ p ∧ p ≤ 9223372036854775807) :
    Calls Tryz.prog 99 #[v] w fun e w' => ∃ x, e = .returned x ∧ x = .string (prtB l) ∧ Below w.heap.size w w' := by
  obtain ⟨base, cap, hv, hcap⟩ := u.shape
  refine calls_low (vs := [v]) Tryz.func99 rfl (by rfl) ?_
  refine Wp.seq ?_
  refine Wp.region ?_
  refine Ops.cons ?_
  refine OpW.assign rfl ?_
  refine Ops.nil ?_
  refine Wp.seq ?_
  refine Wp.region ?_
  refine Ops.cons ?_
  refine OpW.alloc (z := .agg #[.pointer none, .slice none 0 0]) Tryz.zeroValue203 ?_
  refine Ops.nil ?_
  refine Wp.seq ?_
  refine Wp.seq ?_
  refine Wp.region ?_
  refine Ops.cons ?_
  refine OpW.move (v := v) rfl ?_
  refine Ops.cons ?_
  refine OpW.lenS Tryz.underlying26 (b := base) (l := l.length) (c := cap) hv ?_
  refine Ops.cons ?_
  refine OpW.move (v := .int .i64 0) rfl ?_
  refine Ops.nil ?_
  refine Wp.block ?_
  have hB0 : Below w.heap.size w (newW w (.cells #[.pointer none, .slice none 0 0] 203 (0, 0))) := (Below.refl _ w).alloc (Nat.le_refl _) _
  refine Wp.loop (Jp v l w.heap.size w.heap.size w) (fun k => l.length - k) 0 ⟨⟨rfl, rfl, rfl, rfl, trivial⟩, Nat.zero_le _, Lib.IsBuilderF.of (Lib.fresh_isBuilder 203 5 w), hB0, hB0.size⟩ ?_
  intro k ρ1 w1 hJ
  obtain ⟨hh, hk, hbf, hbl, hsz⟩ := hJ
  rw [named hh]
  generalize ρ1 = ρb
  clear hh
  have hlt2 : ∀ (i : Nat) (o : Obj), h i = some o → i < w.heap.size := fun i o e => sat.lt (by rw [e]; exact fun h => nomatch h)
  have sat1 : Sat h w1 := fun i o e => by rw [hbl.block i (hlt2 i o e)]; exact sat i o e
  refine Wp.seq ?_
  refine Wp.region ?_
  refine Ops.cons ?_
  refine OpW.lss (r := decide (k < l.length)) (a := k) (b := l.length) rfl rfl (by simp) ?_
  refine Ops.nil ?_
  refine Wp.seq ?_
  refine Wp.cond (t := decide (k < l.length)) rfl (fun c => ?_) fun c => ?_
  · have c : k < l.length := of_decide_eq_true c
    refine Wp.skip ?_
    refine Wp.seq ?_
    refine Wp.block ?_
    refine Wp.seq ?_
    refine Wp.region ?_
    refine Ops.cons ?_
    refine OpW.indexL (h := h) (r := rI) (j := k) (l := l) (s := 1) (i := k) (base := base) (len := l.length) (cap := cap) 0 rfl Tryz.underlying26 Tryz.sizeOf3 hv (by rw [← hv]; exact u) rfl c rfl ?_
    intro bb o arr e' fz cs hbb hcut hos hr
    have hcs : cs = [.int .i64 (l.getD k 0)] := by
      match cs, hr with
      | [x], hr => rw [hr.1]
    have hat : arr[o]? = some (.int .i64 (l.getD k 0)) := by
      have h3 := congrArg (fun z : List Value => z[0]?) (hcut.trans hcs)
      unfold cut at h3
      simpa [List.getElem?_take, List.getElem?_drop] using h3
    have hp := hb _ (getD_in 0 c)
    have hlen := prtL_len (take_sub (k := k) hb)
    have hlt := List.length_take (i := k) (l := l)
    have hil := Lib.itoa_length_le _ hp.1 hp.2
    refine Ops.cons ?_
    refine OpW.load1 (v := .int .i64 (l.getD k 0)) Tryz.isAgg3 rfl (sat1 _ _ hbb) hat ?_
    refine Ops.cons ?_
    refine OpW.assign (v := .int .i64 (l.getD k 0)) rfl ?_
    refine Ops.nil ?_
    refine Wp.seq ?_
    refine Wp.region ?_
    refine Ops.cons ?_
    refine OpW.move (v := .int .i64 (l.getD k 0)) rfl ?_
    refine Ops.cons ?_
    refine OpW.callL (vs := [.int .i64 (l.getD k 0)]) Tryz.call153 rfl (Any.strconv_Itoa itoaLays171 (l.getD k 0) hp.1 hp.2 w1 (ht.is sat1)) ?_
    rintro e w2 ⟨rfl, q, os, rfl⟩
    refine ⟨_, rfl, ?_⟩
    generalize hW : Sort.grow (w1.drewN q) os = w2
    have hgb : ∀ i, i < w1.heap.size → w2.heap[i]? = w1.heap[i]? := fun i hi => by
      subst hW
      show (w1.heap ++ os)[i]? = _
      rw [Array.getElem?_append_left hi]
    have hgs : w1.heap.size ≤ w2.heap.size := by
      subst hW
      show _ ≤ (w1.heap ++ os).size
      rw [Array.size_append]; omega
    have hbl2 : Below w.heap.size w w2 := hbl.trans (by subst hW; exact ⟨rfl, rfl, rfl, hgs, fun i hi => hgb i (by omega)⟩)
    have hbf2 := bldF_kept hbf hgb
    clear hW
    refine Ops.cons ?_
    refine OpW.callL (vs := [.pointer (some ⟨w.heap.size, 0, none⟩), .string ⟨(Lib.itoa (l.getD k 0)).toArray⟩]) Tryz.call152 rfl (Any.Builder_WriteString_k bldLays166 bldExtra w.heap.size w.heap.size _ _ w2 hbf2 (by
      rw [Lib.byteCells_length, show ByteArray.size ⟨(Lib.itoa (l.getD k 0)).toArray⟩ = (Lib.itoa (l.getD k 0)).length from List.size_toArray ..]; omega) (by omega)) ?_
    rintro e w3 ⟨rfl, hb3, hbl3, _⟩
    refine ⟨_, rfl, ?_⟩
    refine Ops.nil ?_
    refine Wp.region ?_
    refine Ops.cons ?_
    have hs3 := hbl3.size
    refine OpW.callL (vs := [.pointer (some ⟨w.heap.size, 0, none⟩), .int .u8 32]) Tryz.call154 rfl (Any.Builder_WriteByte_k bldLays167 bldExtra w.heap.size w.heap.size _ 32 w3 (.inr hb3) (by
      rw [List.length_append, Lib.byteCells_length, Lib.strCells_length, show ByteArray.size ⟨(Lib.itoa (l.getD k 0)).toArray⟩ = (Lib.itoa (l.getD k 0)).length from List.size_toArray ..]; omega) (by omega)) ?_
    rintro e w4 ⟨rfl, hb4, hbl4, _⟩
    refine ⟨_, rfl, ?_⟩
    refine Ops.nil ?_
    have hs4 := hbl4.size
    refine Wp.region ?_
    refine Ops.cons ?_
    refine OpW.add (a := k) (b := 1) (r := ((k + 1 : Nat) : Int)) rfl rfl (add_i64 (b := 1) (by omega)) ?_
    refine Ops.cons ?_
    refine OpW.move (v := .int .i64 ((k + 1 : Nat) : Int)) rfl ?_
    refine Ops.nil ?_
    refine ⟨k + 1, ⟨⟨rfl, rfl, rfl, rfl, trivial⟩, c, ?_, (hbl2.trans hbl3).trans hbl4, by omega⟩, by omega⟩
    rw [prtL_succ c, Lib.byteCells_append, Lib.byteCells_append, ← List.append_assoc]
    exact .inr hb4
  · have c : ¬ k < l.length := of_decide_eq_false c
    refine Wp.exit ?_
    change Wp Tryz.prog Tryz.f99.ntmps _ _ _ _
    refine Wp.seq ?_
    refine Wp.region ?_
    refine Ops.cons ?_
    refine OpW.callL (vs := [.pointer (some ⟨w.heap.size, 0, none⟩)]) Tryz.call155 rfl (Any.Builder_String_any_k bldLays169 bldExtra w.heap.size w.heap.size _ w1 hbf hsz) ?_
    rintro e w3 ⟨rfl, _, hbl3, _⟩
    refine ⟨_, rfl, ?_⟩
    refine Ops.cons ?_
    refine OpW.assign (v := .string ⟨(prtL (l.take k)).toArray⟩) rfl ?_
    refine Ops.nil ?_
    refine Wp.ret ?_
    refine ⟨_, res_run (rs := [.tmp 2]) (vs := [.string ⟨(prtL (l.take k)).toArray⟩]) rfl ⟨resOf_tmp rfl, trivial⟩, ?_, hbl.trans hbl3⟩
    rw [List.take_of_length_le (by omega)]; rfl
theorem Gr.below {h : PH} {w w' : World} (s : Sat h w) (b : RowKit.Below w.heap.size w w') (h1 : h 1 ≠ none) : Gr h w h w' := by
  have hb := b.block
  refine ⟨fun i x e => ?_, ⟨b.os, b.tape, b.output, b.size, hb⟩, PH.le.refl h, fun _ hb => .inl hb, fun e => absurd e h1⟩
  rw [hb i (s.lt (by rw [e]; exact fun h => nomatch h))]; exact s i x e
instance printed_c {l : List Int} {S : SV} {B : List Res} [j : Vw (lv rI) S l] [hg : HG B] : CtB Tryz.prog 99 [S] B (l.length ≤ 1000000 ∧ ∀ p ∈ l, -9223372036854775808 ≤ p ∧ p ≤ 9223372036854775807) (.cv (.string (prtB l))) := ⟨Tryz.call99, fun hs w0 h w vs sat ow u => by
  match vs, u with
  | [v], u =>
    refine (printed_low (hg.h ow) sat (j.h u.1) hs.1 hs.2).mono ?_
    rintro e w' ⟨x, rfl, rfl, hb⟩
    exact ⟨_, h, rfl, Gr.below sat hb (by obtain ⟨e, fz, q⟩ := hg.h ow; rw [q]; exact fun h => nomatch h), rfl⟩⟩
end Go.E3
