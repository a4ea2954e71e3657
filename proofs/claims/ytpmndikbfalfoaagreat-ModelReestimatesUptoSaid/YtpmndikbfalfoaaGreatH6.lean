/- H6: a part of the proofs about package model: how the program's functions run, and what they compute, for every input. -/
import Derived.Test.YtpmndikbfalfoaaGreatH5
set_option linter.all false
set_option linter.unusedVariables false
set_option maxRecDepth 20000
set_option maxHeartbeats 8000000
set_option synthInstance.maxSize 1000
namespace Go.E3
open Go Go.Ear Go.Proofs
instance zeros_c {n : Nat} : CtO Tryz.prog 88 [iv (n : Int)] (n ≤ 1048576) (fun g => [rA rF 31 g.v (List.replicate n fr0)]) := by
  refine (ctO Tryz.call88 Tryz.func88 Tryz.ntmps88 rfl Tryz.results88 rfl [] fun h0 w0 hn => ?_)
  repeat first | refine nx ?_ | intro _
  trivial
def refM (q : Nat → Rat) : Nat → Rat
  | 0 => 0
  | j + 1 => if refM q j < q j then q j else refM q j
theorem refM_t {q : Nat → Rat} {j : Nat} (h : refM q j < q j) : refM q (j + 1) = q j := by rw [refM, if_pos h]
theorem refM_f {q : Nat → Rat} {j : Nat} (h : ¬ refM q j < q j) : refM q (j + 1) = refM q j := by rw [refM, if_neg h]
theorem refM_arg {q : Nat → Rat} (h : ∀ j, 0 ≤ q j) : ∀ n, 1 ≤ n → refM q n = q (argN q n)
  | 1, _ => by
    rw [argN_one]
    by_cases e : refM q 0 < q 0
    · exact refM_t e
    · rw [refM_f e]; have h1 := h 0; have h2 : ¬ (0 : Rat) < q 0 := e; show (0 : Rat) = q 0; grind
  | n + 2, _ => by
    have ih := refM_arg h (n + 1) (by omega)
    by_cases e : q (argN q (n + 1)) < q (n + 1)
    · rw [refM_t (by rw [ih]; exact e), argN_t e]
    · rw [refM_f (by rw [ih]; exact e), argN_f e, ih]
theorem refM_bq {q : Nat → Rat} {B : Nat} (hB : 1 ≤ B) : ∀ n, (∀ j, j < n → bq (q j) ≤ B) → bq (refM q n) ≤ B
  | 0, _ => by show bq 0 ≤ B; rw [bq_zero]; exact hB
  | n + 1, h => by rw [refM]; split; exact h n (by omega); exact refM_bq hB n fun j hj => h j (by omega)
theorem bestAt_arg {q : Nat → Rat} {l : List Fr} : ∀ n, 1 ≤ n → (∀ j, j < n → (l.getD j fr0).rat = q j) → bestAt l n = ((argN q n : Nat) : Int)
  | 1, _, _ => by rw [argN_one, bestAt]; exact if_pos (.inl (by rw [bestAt]; decide))
  | n + 2, _, h => by
    have ih := bestAt_arg (q := q) (l := l) (n + 1) (by omega) fun j hj => h j (by omega)
    have ha := argN_lt (q := q) (k := n + 1) (by omega)
    have h1 := h (argN q (n + 1)) (by omega)
    have h2 := h (n + 1) (by omega)
    rw [bestAt, ih, Int.toNat_natCast, h1, h2]
    by_cases e : q (argN q (n + 1)) < q (n + 1)
    · rw [if_pos (.inr e), argN_t e]
    · rw [if_neg (fun x => x.elim (fun y => by omega) e), argN_f e]
theorem rst_nn {t : Tr} (nn : Nn t.m) : ∀ d i, 0 ≤ ((rst t d).getD i fr0).rat
  | 0, i => by
    by_cases hi : i < t.m.start.length
    · rw [← rst_z (t := t) (k := 0) rfl hi]; exact nn.fi i
    · rw [List.getD_eq_getElem?_getD, List.getElem?_eq_none (by rw [rst_len]; omega)]; show 0 ≤ fr0.rat; decide +kernel
  | d + 1, i => by
    by_cases hi : i < t.m.start.length
    · rw [rst, range_getD _ _ hi, frK_rat]
      exact Rat.mul_nonneg (Rat.mul_nonneg (nn.mv _ _) (nn.sy _ _)) (rst_nn nn d _)
    · rw [List.getD_eq_getElem?_getD, List.getElem?_eq_none (by rw [rst_len]; omega)]; show 0 ≤ fr0.rat; decide +kernel
def qT (t : Tr) (k : Nat) : Nat → Rat := if k = 0 then rq0 t (rst t (t.o.length - 1)) else rq t (rst t (t.o.length - 1 - k)) (atT t (k - 1)) k
theorem qT_arg (t : Tr) (k : Nat) : argN (qT t k) t.m.start.length = atT t k := by
  cases k with
  | zero => rfl
  | succ k => unfold qT; rw [if_neg (by omega)]; rfl
theorem qT_bq {t : Tr} (w : MdW 100 t.m) (hf : RsB t) (k i : Nat) (hk : k < t.o.length) : bq (qT t k i) ≤ 300300 := by
  unfold qT
  split
  · have h1 := bq_mul ((t.m.start.getD i fr0).rat * sayT t i 0) ((rst t (t.o.length - 1)).getD i fr0).rat
    have h2 := bq_mul (t.m.start.getD i fr0).rat (sayT t i 0)
    have h3 := w.st i; have h4 := w.sy i (t.o.getD 0 0).toNat; have h5 := hf (t.o.length - 1) i (by omega)
    show bq (_ * _ * _) ≤ _
    unfold sayT at *; omega
  · have h1 := bq_mul (moveT t (atT t (k - 1)) i * sayT t i k) ((rst t (t.o.length - 1 - k)).getD i fr0).rat
    have h2 := bq_mul (moveT t (atT t (k - 1)) i) (sayT t i k)
    have h3 := w.mv (atT t (k - 1)) i; have h4 := w.sy i (t.o.getD k 0).toNat; have h5 := hf (t.o.length - 1 - k) i (by omega)
    show bq (_ * _ * _) ≤ _
    unfold sayT moveT at *; omega
def qL (t : Tr) (k i : Nat) : List Fr := (List.range i).map fun j => frK (qT t k j)
theorem qL_len (t : Tr) (k i : Nat) : (qL t k i).length = i := by simp [qL]
theorem qL_succ (t : Tr) (k i : Nat) : qL t k (i + 1) = qL t k i ++ [frK (qT t k i)] := by unfold qL; rw [List.range_succ, List.map_append]; rfl
instance {t : Tr} {k i : Nat} : FtS (qL t k i) := ⟨fun f hf => by obtain ⟨j, _, rfl⟩ := List.mem_map.1 hf; infer_instance⟩
theorem wts_leB {B : Nat} : ∀ {l : List Fr}, (∀ f ∈ l, bf f ≤ B) → wts l ≤ (B + 1) * l.length
  | [], _ => Nat.le_refl _
  | f :: l, h => by rw [wts_cons, List.length_cons, Nat.mul_succ]; have := h f (List.mem_cons_self ..); have := wts_leB (B := B) fun g hg => h g (List.mem_cons_of_mem _ hg); omega
theorem qL_wts {t : Tr} (w : MdW 100 t.m) (hf : RsB t) {k i : Nat} (hk : k < t.o.length) : wts (qL t k i) ≤ 300301 * i := by
  have := wts_leB (B := 300300) (l := qL t k i) fun f hf' => by obtain ⟨j, _, rfl⟩ := List.mem_map.1 hf'; rw [bf_frK]; exact qT_bq w hf k j hk
  rw [qL_len] at this; exact this
theorem qL_best {t : Tr} (hs : 1 ≤ t.m.start.length) (k : Nat) : bestAt (qL t k t.m.start.length) (qL t k t.m.start.length).length = ((atT t k : Nat) : Int) := by
  rw [qL_len, bestAt_arg (q := qT t k) _ hs (fun j hj => by rw [qL, range_getD _ _ hj, frK_rat]), qT_arg]
def isB (t : Tr) : Bool := !(decide (t.o.length = 0) || decide (bestW t = 0))
section
variable {m : Md} {o : List Int} {S T : SV}
instance rBestP_c [i : VM S m] [j : Vw (lv rI) T o] : Ct Tryz.prog 22 [S, T] (TOk ⟨m, o⟩ ∧ MdB 100000 m ∧ MdW 100 m ∧ Nn m ∧ RsB ⟨m, o⟩ ∧ m.start.length ≤ 40) (.tp [lv rI (bif isB ⟨m, o⟩ then pathN ⟨m, o⟩ o.length else []), kk (bif isB ⟨m, o⟩ then bestW ⟨m, o⟩ else 0), bv (isB ⟨m, o⟩)]) := by
  haveI := i.t
  refine ct2 i.v j (ctI Tryz.call22 Tryz.func22 Tryz.ntmps22 rfl Tryz.results22 rfl [35] fun h0 w0 ⟨tk, hb, hw, nn, hf, hs40⟩ => ?_)
  have hs1 := tk.s1
  have hn := tk.n
  have hmv := ge_of tk.mv
  have hfn := ge_of tk.fin
  have hsy := ge_of tk.say
  dsimp only at hs1 hn hmv hfn hsy
  have tw : TW ⟨m, o⟩ := twOf hb
  repeat first | refine nx ?_ | intro _
  rename_i v5 out
  refine gLp (fun s : Nat × List Value × List (List Fr) => [(9, iv ((o.length : Int) - 1 - (s.1 : Int)))]) (fun s => [rA rW 22 out s.2.1, rZ rF 31 s.2.1 s.2.2]) (fun s => s.1 ≤ o.length ∧ s.2.1.length = o.length ∧ s.2.2.length = o.length ∧ (∀ j, j < o.length ∧ o.length ≤ j + s.1 → s.2.2.getD j [] = rst ⟨m, o⟩ (o.length - 1 - j)) ∧ FtR s.2.2) (fun s => o.length - s.1) (0, List.replicate o.length vnil, List.replicate o.length []) ⟨Nat.zero_le _, by simp, by simp, fun j hj => by omega, inferInstance⟩ (fun ⟨k, vs, ls⟩ ⟨hk, hi1, hi2, hi3, hi4⟩ => ?_)
  dsimp only at hk hi1 hi2 hi3 hi4 ⊢
  repeat first | refine nx ?_ | intro _
  refine gIf (fun c => ?_) fun c => ?_
  · have hkn : k < o.length := by omega
    have ep : (o.length : Int) - 1 - (k : Int) = ((o.length - 1 - k : Nat) : Int) := by omega
    rw [ep]
    have hp := show o.length - 1 - k < o.length by omega
    have hkp : o.length - 1 - (o.length - 1 - k) = k := by omega
    have hnx : ∀ j, j < o.length → o.length ≤ j + (k + 1) → o.length ≤ j + k ∨ j = o.length - 1 - k := fun j _ hj => by omega
    have hnb : ¬ (o.length - 1 - k < o.length ∧ o.length ≤ o.length - 1 - k + k) := by omega
    have hpb : 1 ≤ k → o.length - 1 - k + 1 < o.length ∧ o.length ≤ o.length - 1 - k + 1 + k ∧ o.length - 1 - (o.length - 1 - k + 1) = k - 1 := by omega
    have hk0 : o.length - 1 - k = o.length - 1 ↔ k = 0 := by omega
    generalize hpe : o.length - 1 - k = p at *
    repeat first | refine nx ?_ | intro _
    rename_i γ
    refine gLp (fun s : Nat × List (List Fr) => [(10, iv s.1)]) (fun s => [rZ rF 31 (vs.set p γ.v) s.2]) (fun s => PJ o.length m.start.length p (fun j => j < o.length ∧ o.length ≤ j + k) (fun j => rst ⟨m, o⟩ (o.length - 1 - j)) s.2 s.1) (fun s => m.start.length - s.1) (0, ls.set p (List.replicate m.start.length fr0)) (.start hi2 hp hi3 hnb hi4) (fun ⟨i, ls2⟩ hI2 => ?_)
    dsimp only at hI2 ⊢
    have hI2i := hI2.il
    have hft := hI2.t
    repeat first | refine nx ?_ | intro _
    refine gIf (fun c1 => ?_) fun c1 => ?_
    · have hwm := hb.fb i
      have hq : ls2.getD p [] = _ := hI2.r
      have hql : m.start.length ≤ (ls2.getD p []).length := ge_of (by rw [hq]; exact Go.Ear.rowAt_len (rst_len _ _) hI2i)
      have hll := hI2.l
      repeat first | refine nx ?_ | intro _
      refine gIf (fun c0 => ?_) fun c0 => ?_
      · have hz := rst_z (t := ⟨m, o⟩) (k := k) (hk0.1 (by omega)) c1
        dsimp only at hz
        repeat first | refine gDr 12 (by kernel_rfl) ?_ | refine nx ?_ | intro _
        exact gBk (i + 1, ls2.set p ((ls2.getD p []).set i (m.fin.getD i fr0))) (hI2.next hp hnb c1 (rst_len _ _) (by rw [hkp]; exact hz)) (by dsimp only; omega)
      · have hk1 : 1 ≤ k := Nat.pos_of_ne_zero fun e => c0 (by have := hk0.2 e; omega)
        obtain ⟨hp1, hp2, hp3⟩ := hpb hk1
        have hpr := hI2.b (p + 1) ⟨hp1, hp2⟩
        rw [hp3] at hpr
        have hpb := fun j => hf (k - 1) j (show k - 1 < o.length by omega)
        have hpl := rst_len ⟨m, o⟩ (k - 1)
        have hz := rst_s (t := ⟨m, o⟩) (i := i) hk1 hkn c1
        dsimp only at hz hpl
        rw [hpe] at hz
        rw [← hpr] at hz hpl hpb
        have hbb : ∀ j, bq (rq ⟨m, o⟩ (ls2.getD (p + 1) []) i (p + 1) j) ≤ 60000000 := fun j => bq_rq tw hpb i (p + 1) j
        have hrow : (ls2.getD p []).getD i fr0 = fr0 := by rw [hq]; exact Go.Ear.rowAt_get (rst_len _ _) c1
        have hmi := ge_of (tk.mvi i c1)
        have hsi := fun j (hj : j < m.start.length) => tk.sayi j (p + 1) hj hp1
        have hqa := refM_arg (q := rq ⟨m, o⟩ (ls2.getD (p + 1) []) i (p + 1)) (fun j => by
          unfold rq
          refine Rat.mul_nonneg (Rat.mul_nonneg (nn.mv i j) (nn.sy j _)) ?_
          rw [hpr]; exact rst_nn nn _ j) m.start.length hs1
        generalize hQ : rq ⟨m, o⟩ (ls2.getD (p + 1) []) i (p + 1) = q at *
        have hrb := fun j => refM_bq (q := q) (B := 60000000) (by decide) j fun j _ => hbb j
        dsimp only at hmi hsi
        repeat first | refine nx ?_ | intro _
        refine gLp (fun j : Nat => [(11, iv j)]) (fun j => [rZ rF 31 (vs.set p γ.v) (ls2.set p ((ls2.getD p []).set i (frK (refM q j))))]) (fun j => j ≤ m.start.length) (fun j => m.start.length - j) 0 (Nat.zero_le _) (fun j hj => ?_) (h2 := by
          have hset : (ls2.getD p []).set i fr0 = ls2.getD p [] := by have := set_getD (l := ls2.getD p []) (i := i) (d := fr0); rw [hrow] at this; exact this
          rw [show refM q 0 = 0 from rfl, frK_zero]; refine ⟨?_, trivial⟩; show ls2 = ls2.set p ((ls2.getD p []).set i fr0); rw [hset, set_getD])
        have hrj := hrb j
        haveI := hft.set (x := (ls2.getD p []).set i (frK (refM q j))) ((hft.getD p).set inferInstance i) p
        have r1 : (ls2.set p ((ls2.getD p []).set i (frK (refM q j)))).getD (p + 1) [] = ls2.getD (p + 1) [] := by rw [getD_set _ _ _ (by omega), if_neg (by omega)]
        have r2 : (ls2.set p ((ls2.getD p []).set i (frK (refM q j)))).getD p [] = (ls2.getD p []).set i (frK (refM q j)) := by rw [getD_set _ _ _ (by omega), if_pos rfl]
        have hr3 : m.start.length ≤ ((ls2.set p ((ls2.getD p []).set i (frK (refM q j)))).getD p []).length := by rw [r2, List.length_set]; exact hql
        have hr4 : m.start.length ≤ ((ls2.set p ((ls2.getD p []).set i (frK (refM q j)))).getD (p + 1) []).length := by rw [r1]; exact ge_of hpl
        have hr5 : ((ls2.set p ((ls2.getD p []).set i (frK (refM q j)))).getD p []).getD i fr0 = frK (refM q j) := by rw [r2, getD_set _ _ _ (by omega), if_pos rfl]
        have hr6 : bf (((ls2.set p ((ls2.getD p []).set i (frK (refM q j)))).getD p []).getD i fr0) ≤ 60000000 := by rw [hr5, bf_frK]; exact hrj
        have hpj := hpb j
        rw [← r1] at hpj
        clear hpl
        repeat first | refine nx ?_ | intro _
        refine gIf (fun c3 => ?_) fun c3 => ?_
        · have hsj := hsi j c3
          have hwv := hb.mvb i j
          have hws := hb.syb j (o.getD (p + 1) 0).toNat
          have hbj := hbb j
          have hmm := bq_mul ((m.move.getD i []).getD j fr0).rat ((m.say.getD j []).getD (o.getD (p + 1) 0).toNat fr0).rat
          have hm1 := hw.mv i j
          have hm2 := hw.sy j (o.getD (p + 1) 0).toNat
          have hqj : ((m.move.getD i []).getD j fr0).rat * ((m.say.getD j []).getD (o.getD (p + 1) 0).toNat fr0).rat * (((ls2.set p ((ls2.getD p []).set i (frK (refM q j)))).getD (p + 1) []).getD j fr0).rat = q j := by rw [r1, ← hQ]; rfl
          have hqb : bq (((m.move.getD i []).getD j fr0).rat * ((m.say.getD j []).getD (o.getD (p + 1) 0).toNat fr0).rat * (((ls2.set p ((ls2.getD p []).set i (frK (refM q j)))).getD (p + 1) []).getD j fr0).rat) ≤ 60000000 := by rw [hqj]; exact hbj
          repeat first | refine nx ?_ | intro _
          clear hsi hbb hrb hm1 hm2 hmm hws hwv hqb hpj
          refine gIf (fun c4 => ?_) fun c4 => ?_
          · have hlt : refM q j < q j := by rw [hqj, hr5, frK_rat] at c4; exact rat_sub_pos.1 (sgQ_pos.1 c4)
            rw [hqj]
            clear hqj c4
            repeat first | refine nx ?_ | intro _
            rw [r2, List.set_set, List.set_set]
            exact gBk (j + 1) (by omega) (by omega) (h2 := by rw [refM_t hlt]; (repeat' (first | refine And.intro ?_ ?_ | trivial | rfl | omega)))
          · have hlt : ¬ refM q j < q j := fun e => c4 (by rw [hqj, hr5, frK_rat]; exact sgQ_pos.2 (rat_sub_pos.2 e))
            repeat first | refine nx ?_ | intro _
            exact gBk (j + 1) (by omega) (by omega) (h2 := by rw [refM_f hlt]; (repeat' (first | refine And.intro ?_ ?_ | trivial | rfl | omega)))
        · have ej : j = m.start.length := by omega
          subst ej
          repeat first | refine nx ?_ | intro _
          exact gBk (i + 1, ls2.set p ((ls2.getD p []).set i (frK (refM q m.start.length)))) (hI2.next hp hnb c1 (rst_len _ _) (by rw [hkp, hqa]; exact hz)) (by dsimp only; omega)
    · repeat first | refine nx ?_ | intro _
      have ei : i = m.start.length := by omega
      refine gBk (k + 1, vs.set p γ.v, ls2) ⟨by dsimp only; omega, by simp [hi1], hI2.l, fun j hj => ?_, hft⟩ (by dsimp only; omega)
      rcases hnx j hj.1 hj.2 with h | h
      · exact hI2.b j ⟨hj.1, h⟩
      · subst h; dsimp only; rw [hI2.r]; exact Go.Ear.rowAt_end (rst_len _ _) (by omega)
  · have hi3 : ∀ j, j < o.length → ls.getD j [] = rst ⟨m, o⟩ (o.length - 1 - j) := fun j hj => hi3 j ⟨hj, by omega⟩
    clear c hk
    repeat first | refine nx ?_ | intro _
    refine gNl rI 3 ?_
    refine gLp (fun s : Nat × Value => [(14, iv s.1), (13, ov s.2)]) (fun s => [rA rI 3 s.2 (pathN ⟨m, o⟩ s.1)]) (fun s => s.1 ≤ o.length) (fun s => o.length - s.1) (0, .slice none 0 0) (Nat.zero_le _) (fun ⟨t, v⟩ ht => ?_)
    dsimp only at ht ⊢
    repeat first | refine nx ?_ | intro _
    refine gIf (fun c => ?_) fun c => ?_
    · have hlt := hi3 t c
      have hltl : m.start.length ≤ (ls.getD t []).length := by rw [hlt, rst_len]; exact Nat.le_refl _
      have hpb := fun j => hf (o.length - 1 - t) j (show o.length - 1 - t < o.length by omega)
      rw [← hlt] at hpb
      have hat := fun k => atT_lt (t := ⟨m, o⟩) hs1 k
      have hpl := pathN_len ⟨m, o⟩ t
      have hqb := qT_bq (t := ⟨m, o⟩) hw hf
      dsimp only at hat
      repeat first | refine nx ?_ | intro _
      refine gNl rF 31 ?_
      refine gLp (fun s : Nat × Value => [(16, iv s.1), (15, ov s.2)]) (fun s => [rA rF 31 s.2 (qL ⟨m, o⟩ t s.1)]) (fun s => s.1 ≤ m.start.length) (fun s => m.start.length - s.1) (0, .slice none 0 0) (Nat.zero_le _) (fun ⟨i, w⟩ hi => ?_)
      dsimp only at hi ⊢
      have hql := qL_len ⟨m, o⟩ t i
      repeat first | refine nx ?_ | intro _
      refine gIf (fun c1 => ?_) fun c1 => ?_
      · have hsi := tk.sayi i t c1 c
        have hws := hb.syb i (o.getD t 0).toNat
        have hpi := hpb i
        have hw1 := hw.sy i (o.getD t 0).toNat
        dsimp only at hsi
        repeat first | refine nx ?_ | intro _
        refine gIf (fun c2 => ?_) fun c2 => ?_
        · have hpt : (pathN ⟨m, o⟩ t).getD (t - 1) 0 = ((atT ⟨m, o⟩ (t - 1) : Nat) : Int) := range_getD (fun k => ((atT ⟨m, o⟩ k : Nat) : Int)) _ (by omega)
          have ha1 := hat (t - 1)
          have hmi := ge_of (tk.mvi _ ha1)
          have hwv := hb.mvb (atT ⟨m, o⟩ (t - 1)) i
          have hm1 := hw.mv (atT ⟨m, o⟩ (t - 1)) i
          have hmm := bq_mul ((m.move.getD (atT ⟨m, o⟩ (t - 1)) []).getD i fr0).rat ((m.say.getD i []).getD (o.getD t 0).toNat fr0).rat
          dsimp only at hmi
          rw [← Int.toNat_natCast (atT ⟨m, o⟩ (t - 1)), ← hpt] at ha1 hmi hwv hm1 hmm
          have hp0 : 0 ≤ (pathN ⟨m, o⟩ t).getD (t - 1) 0 := by rw [hpt]; omega
          repeat first | refine nx ?_ | intro _
          rename_i w3
          have e : ((m.move.getD ((pathN ⟨m, o⟩ t).getD (t - 1) 0).toNat []).getD i fr0).rat * ((m.say.getD i []).getD (o.getD t 0).toNat fr0).rat * ((ls.getD t []).getD i fr0).rat = qT ⟨m, o⟩ t i := by unfold qT; rw [if_neg (by omega), hpt, Int.toNat_natCast, hlt]; rfl
          rw [e, ← qL_succ]
          exact gBk (i + 1, w3) (by dsimp only; omega) (by dsimp only; omega)
        · have ht0 : t = 0 := by omega
          subst ht0
          have hsb := hb.sb i
          have hm1 := hw.st i
          have hmm := bq_mul (m.start.getD i fr0).rat ((m.say.getD i []).getD (o.getD 0 0).toNat fr0).rat
          repeat first | refine nx ?_ | intro _
          rename_i w3
          have e : (m.start.getD i fr0).rat * ((m.say.getD i []).getD (o.getD 0 0).toNat fr0).rat * ((ls.getD 0 []).getD i fr0).rat = qT ⟨m, o⟩ 0 i := by unfold qT; rw [if_pos rfl, hlt]; rfl
          rw [e, ← qL_succ]
          exact gBk (i + 1, w3) (by dsimp only; omega) (by dsimp only; omega)
      · have ei : i = m.start.length := by omega
        subst ei
        have hqw := qL_wts (t := ⟨m, o⟩) (i := m.start.length) hw hf c
        have hqe := qL_best (t := ⟨m, o⟩) hs1 t
        dsimp only at hqe
        repeat first | refine nx ?_ | intro _
        rename_i v3
        rw [hqe, ← pathN_succ]
        exact gBk (t + 1, v3) (by dsimp only; omega) (by dsimp only; omega)
    · have et : t = o.length := by omega
      subst et
      have pk : POk m o (pathN ⟨m, o⟩ o.length) := ⟨pathN_len _ _, fun k hk => by
        have e : (pathN ⟨m, o⟩ o.length).getD k 0 = ((atT ⟨m, o⟩ k : Nat) : Int) := range_getD (fun k => ((atT ⟨m, o⟩ k : Nat) : Int)) _ hk
        rw [e, Int.toNat_natCast]; exact ⟨by omega, atT_lt (t := ⟨m, o⟩) hs1 k⟩⟩
      have hwq := weightT_bq (t := ⟨m, o⟩) (p := pathN ⟨m, o⟩ o.length) hw (by decide)
      dsimp only at hwq
      repeat first | refine nx ?_ | intro _
      refine gIf (fun c => ?_) fun c => ?_
      · have hz := sgQ_zero.1 c
        have hi : isB ⟨m, o⟩ = false := by
          unfold isB
          by_cases h0 : o.length = 0
          · rw [decide_eq_true (show (⟨m, o⟩ : Tr).o.length = 0 from h0)]; rfl
          · rw [weight_bestW (t := ⟨m, o⟩) hs1 (Nat.pos_of_ne_zero h0)] at hz; rw [decide_eq_true hz, Bool.or_true]; rfl
        rw [hi]
        repeat first | refine nx ?_ | intro _
        rw [cond_false, cond_false, frK_zero]; (repeat' (first | refine And.intro ?_ ?_ | trivial | rfl | omega))
      · have hz : weightT ⟨m, o⟩ (pathN ⟨m, o⟩ o.length) ≠ 0 := fun e => c (sgQ_zero.2 e)
        have h0 : o.length ≠ 0 := fun e => hz (by unfold weightT; exact if_pos e)
        rw [weight_bestW (t := ⟨m, o⟩) hs1 (Nat.pos_of_ne_zero h0)] at hz ⊢
        have hi : isB ⟨m, o⟩ = true := by
          unfold isB
          rw [decide_eq_false (show ¬ (⟨m, o⟩ : Tr).o.length = 0 from h0), decide_eq_false hz]; rfl
        rw [hi]
        repeat first | refine gKp [5, 6, 18, 13] (gDr 3 (by kernel_rfl) ?_) | refine nx ?_ | intro _
        rw [cond_true, cond_true]; (repeat' (first | refine And.intro ?_ ?_ | trivial | rfl | omega))
end
end Go.E3
