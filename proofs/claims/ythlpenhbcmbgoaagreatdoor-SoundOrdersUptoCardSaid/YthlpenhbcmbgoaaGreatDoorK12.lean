/- K12: a part of the proofs about what is clipped and stored: how the program's functions run, and what they compute, for every input. -/
import Derived.Test.YthlpenhbcmbgoaaGreatDoorK11
import Derived.Test.YthlpenhbcmbgoaaGreatDoorK10
import Derived.Test.YthlpenhbcmbgoaaGreatDoorK8
import Derived.Test.YthlpenhbcmbgoaaGreatDoorK6
set_option linter.all false
set_option linter.unusedVariables false
set_option maxRecDepth 20000
set_option maxHeartbeats 4000000
set_option synthInstance.maxSize 1000
namespace Go.E3
open Go Go.Ear Go.Proofs
def ownS (r : List Rw) (q : List Int) (c : List En) : Bag ByteArray := if 0 < tot (atF r (phJ c)) q then [(keyW (c.map En.w), wJ c * tot (atF r (phJ c)) q)] else []
def sB (l : List En) (r : List Rw) (q : List Int) : Nat → List En → Bag ByteArray
  | 0, c => if aliveB r (phJ c) q = true then ownS r q c else []
  | n + 1, c => if aliveB r (phJ c) q = true then ownS r q c ++ l.flatMap fun e => sB l r q n (c ++ [e]) else []
structure RdS (l : List En) (r : List Rw) (q : List Int) : Prop where
  hr : rulB r = true
  s : ∀ x ∈ r, RwS x ∧ bf x.f ≤ 1000
  n : l.length ≤ 6
  e : ∀ e ∈ l, EnS e ∧ NoS e.w ∧ e.ph.length ≤ 6 ∧ phB e.ph 40 = true ∧ 0 < e.f.rat ∧ e.f.rat ≤ 1
  q : q.length ≤ 1000000
section
variable {l : List En} {r : List Rw} {q : List Int}
theorem RdS.ap (h : RdS l r q) {c : List En} (hc : ∀ e ∈ c, e ∈ l) (hn : c.length ≤ 4) : ApOk r (phJ c) := by
  have h1 := phJ_len (c := c) (b := 6) fun e he => (h.e e (hc e he)).2.2.1
  have h2 : c.length * 6 ≤ 4 * 6 := Nat.mul_le_mul_right _ hn
  refine ⟨h.hr, ?_, by omega, h.s⟩
  unfold phB
  rw [Bool.and_eq_true, decide_eq_true_iff, Bool.not_eq_true', List.any_eq_false]
  refine ⟨by omega, fun y hy => ?_⟩
  obtain ⟨e, hec, hye⟩ := List.mem_flatMap.1 hy
  have := (h.e e (hc e hec)).2.2.2.1
  unfold phB at this
  rw [Bool.and_eq_true, Bool.not_eq_true'] at this
  exact List.any_eq_false.1 this.2 y hye
theorem RdS.w (h : RdS l r q) {c : List En} (hc : ∀ e ∈ c, e ∈ l) (hn : c.length ≤ 4) : 0 < wJ c ∧ wJ c ≤ 1 ∧ Wh (eD l ^ 4) (wJ c) := by
  obtain ⟨a, b, d⟩ := wJ_ok (l := l) (fun e he => (h.e e he).2.2.2.2) hc
  exact ⟨a, b, d.of_dvd (Nat.pow_dvd_pow _ hn)⟩
def BgW (l : List En) (r : List Rw) (b : Bag ByteArray) : Prop := ∀ x ∈ b, 0 < x.2 ∧ x.2 ≤ ((3 ^ 25 : Nat) : Rat) ∧ Wh (eD l ^ 4 * rdn r ^ 25) x.2
theorem sQ_leM {M : Nat} : ∀ {l : List Rat}, (∀ x ∈ l, x ≤ (M : Rat)) → sQ l ≤ ((l.length * M : Nat) : Rat)
  | [], _ => by show (0 : Rat) ≤ _; rw [List.length_nil, Nat.zero_mul]; exact Rat.le_refl
  | x :: l, h => by
    have h1 := h x (List.mem_cons_self ..)
    have h2 := sQ_leM fun y hy => h y (List.mem_cons_of_mem x hy)
    show x + sQ l ≤ _
    rw [List.length_cons, Nat.add_mul, Nat.one_mul, Rat.natCast_add]; grind
theorem rd_sz (h : RdS l r q) {E : Nat} (a5 : sz E ≤ 2) : sz (eD l ^ 4 * rdn r ^ 25 * E) ≤ 10000000 := by
  have a1 := sz_mul (eD l ^ 4 * rdn r ^ 25) E
  have a0 := sz_mul (eD l ^ 4) (rdn r ^ 25)
  have a2 := sz_pow (rdn r) 25
  have a3 := rdn_sz (r := r) (b := 1000) fun x hx => ⟨(h.s x hx).1.2.2.2.2.2.1, (h.s x hx).1.2.2.2.2.2.2, (h.s x hx).2⟩
  have a4 := (rul_gd h.hr).1
  have a6 : r.length * 1000 ≤ 50 * 1000 := Nat.mul_le_mul_right _ a4
  have a7 := sz_pow (eD l) 4
  have a8 := eD_sz (r := l) (b := 1000) fun x hx => ⟨(h.e x hx).1.2.2, (h.e x hx).1.2.1⟩
  have a9 : l.length * 1000 ≤ 6 * 1000 := Nat.mul_le_mul_right _ h.n
  omega
theorem BgW.bq (h : RdS l r q) {b : Bag ByteArray} (hb : BgW l r b) (hn : b.length ≤ 5000) (p : ByteArray) : bq (tot b p) ≤ 10000000 := by
  have h0 : 0 ≤ tot b p := tot_nonneg (fun x hx => (hb x hx).1) p
  have hm : ∀ x ∈ ((b.filter fun x => decide (x.1 = p)).map (·.2)), x ≤ ((3 ^ 25 : Nat) : Rat) ∧ Wh (eD l ^ 4 * rdn r ^ 25) x := fun x hx => by
    obtain ⟨y, hy, rfl⟩ := List.mem_map.1 hx
    exact (hb y (List.mem_filter.1 hy).1).2
  have h1 : tot b p ≤ ((5000 * 3 ^ 25 : Nat) : Rat) := by
    refine Rat.le_trans (sQ_leM fun x hx => (hm x hx).1) ?_
    refine Rat.natCast_le_natCast.2 (Nat.mul_le_mul_right _ ?_)
    rw [List.length_map]
    exact Nat.le_trans (List.length_filter_le _ _) hn
  have h2 : Wh (eD l ^ 4 * rdn r ^ 25) (tot b p) := Wh.sQ fun x hx => (hm x hx).2
  refine Nat.le_trans (h2.bqM (Nat.mul_pos (Nat.pow_pos (eD_pos l)) (Nat.pow_pos (rdn_pos r))) (by decide) h0 h1) ?_
  exact rd_sz h (sz_small (by decide))
theorem BgW.app {a b : Bag ByteArray} (h : BgW l r a) (k : BgW l r b) : BgW l r (a ++ b) := fun x hx => (List.mem_append.1 hx).elim (h x) (k x)
theorem own_w (h : RdS l r q) {c : List En} (hc : ∀ e ∈ c, e ∈ l) (hn : c.length ≤ 4) : BgW l r (ownS r q c) := fun x hx => by
  unfold ownS at hx
  split at hx
  · rename_i hp
    rw [List.mem_singleton.1 hx]
    obtain ⟨a, b, d⟩ := h.w hc hn
    have h1 := (atF_wb (h.ap hc hn)).tot q
    refine ⟨Rat.mul_pos a hp, ?_, d.mul h1.2.2⟩
    have h2 := Rat.mul_le_mul_of_nonneg_right b h1.1
    rw [Rat.one_mul] at h2
    exact Rat.le_trans h2 h1.2.1
  · exact (List.not_mem_nil hx).elim
theorem sB_w (h : RdS l r q) : ∀ n c, (∀ e ∈ c, e ∈ l) → c.length + n ≤ 4 → BgW l r (sB l r q n c)
  | 0, c, hc, hn => by
    unfold sB
    split
    · exact own_w h hc hn
    · exact fun x hx => (List.not_mem_nil hx).elim
  | n + 1, c, hc, hn => by
    unfold sB
    split
    · refine (own_w h hc (by omega)).app fun x hx => ?_
      obtain ⟨e, he, hx⟩ := List.mem_flatMap.1 hx
      exact sB_w h n (c ++ [e]) (fun y hy => by
        rcases List.mem_append.1 hy with hy | hy
        · exact hc y hy
        · rw [List.mem_singleton.1 hy]; exact he) (by rw [List.length_append]; simp; omega) x hx
    · exact fun x hx => (List.not_mem_nil hx).elim
theorem own_len (c : List En) : (ownS r q c).length ≤ 1 := by
  unfold ownS
  split <;> simp
theorem fm_le {α β : Type} {f : α → List β} {M : Nat} : ∀ {l : List α}, (∀ a ∈ l, (f a).length ≤ M) → (l.flatMap f).length ≤ l.length * M
  | [], _ => Nat.zero_le _
  | a :: l, h => by
    have h1 := h a (List.mem_cons_self ..)
    have h2 := fm_le (f := f) fun b hb => h b (List.mem_cons_of_mem a hb)
    rw [List.flatMap_cons, List.length_append, List.length_cons, Nat.add_mul]; omega
theorem sB_len (hl : l.length ≤ 6) : ∀ n c, (sB l r q n c).length ≤ 7 ^ n
  | 0, c => by
    unfold sB
    have := own_len (r := r) (q := q) c
    split
    · exact this
    · exact Nat.zero_le _
  | n + 1, c => by
    unfold sB
    have h1 := own_len (r := r) (q := q) c
    have h2 := fm_le (f := fun e => sB l r q n (c ++ [e])) (l := l) (M := 7 ^ n) fun e _ => sB_len hl n _
    have h3 : l.length * 7 ^ n ≤ 6 * 7 ^ n := Nat.mul_le_mul_right _ hl
    have h4 : 1 ≤ 7 ^ n := Nat.pow_pos (by omega)
    split
    · rw [List.length_append, Nat.pow_succ]; omega
    · exact Nat.zero_le _
instance addR_c {v m : Value} {c : List En} {most : Int} {f : Fr} {b : Bag ByteArray} {S F : SV} {B B1 B2 : List Res} [ft : FtF f] [i : Vw (lv rE) S c] [j : Vw fv F f] [pv : PV B v (rdc l r q most m) 130 B1] [pm : PMp B1 m Rg rgv (MG b) B2] : CtR Tryz.prog 133 [ov v, S, F] B ((c.length ≤ 1000 ∧ ∀ e ∈ c, EnS e ∧ NoS e.w) ∧ bq (tot b (keyW (c.map En.w))) + bf f ≤ 134217000) Unit (fun _ => .tp []) (fun _ => rV v (rdc l r q most m) 130 :: rMp rgv m (MG (b ++ [(keyW (c.map En.w), f.rat)])) :: B2) :=
  (CtR.to addR_b (pv.h.trans (pm.h.cons _))).az fun {h vs} u => by
    match vs, u with
    | _ :: _ :: _ :: _, u => exact ⟨u.1, i.h u.2.1, j.h u.2.2.1, u.2.2.2⟩
def SrC (l : List En) (r : List Rw) (q : List Int) (v m : Value) (most n : Nat) : Prop := ∀ (c : List En) (b : Bag ByteArray) (B1 : List Res), c.length + n = most → CtR Tryz.prog 73 [ov v, lv rE c] (rV v (rdc l r q most m) 130 :: rMp rgv m (MG b) :: B1) ((∀ e ∈ c, e ∈ l) ∧ BgW l r b ∧ b.length + 7 ^ n ≤ 5000) Unit (fun _ => .tp []) (fun _ => rV v (rdc l r q most m) 130 :: rMp rgv m (MG (b ++ sB l r q n c)) :: B1)
theorem SrC.call {v m : Value} {most n' : Nat} (ih : SrC l r q v m most n') {B B1 B2 : List Res} {b' : Bag ByteArray} {c' : List En} {S : SV} [i : Vw (lv rE) S c'] [pv : PV B v (rdc l r q most m) 130 B1] [pm : PMp B1 m Rg rgv (MG b') B2] : CtR Tryz.prog 73 [ov v, S] B (c'.length + n' = most ∧ (∀ e ∈ c', e ∈ l) ∧ BgW l r b' ∧ b'.length + 7 ^ n' ≤ 5000) Unit (fun _ => .tp []) (fun _ => rV v (rdc l r q most m) 130 :: rMp rgv m (MG (b' ++ sB l r q n' c')) :: B2) := ⟨Tryz.call73, fun hs => ((CtR.to (ih c' b' B2 hs.1) (pv.h.trans (pm.h.cons _))).az fun {h vs} u => by
    match vs, u with
    | _ :: _ :: _, u => exact ⟨u.1, i.h u.2.1, u.2.2⟩).h hs.2⟩
def tlS (l : List En) (r : List Rw) (q : List Int) : Nat → List En → Bag ByteArray
  | 0, c => []
  | n + 1, c => l.flatMap fun e => sB l r q n (c ++ [e])
theorem sB_eq (n : Nat) (c : List En) : sB l r q n c = if aliveB r (phJ c) q = true then ownS r q c ++ tlS l r q n c else [] := by
  cases n with
  | zero => unfold sB tlS; rw [List.append_nil]
  | succ n => rfl
theorem fm_take {α β : Type} {f : α → List β} {l : List α} {k : Nat} (d : α) (h : k < l.length) : (l.take (k + 1)).flatMap f = (l.take k).flatMap f ++ f (l.getD k d) := by
  rw [List.take_succ_eq_append_getElem h, List.flatMap_append, List.getD_eq_getElem?_getD, List.getElem?_eq_getElem h]; simp
theorem search_n (h : RdS l r q) (v m : Value) {most : Nat} (hm : most ≤ 2) (n : Nat) (ih : ∀ n', n' + 1 = n → SrC l r q v m most n') : SrC l r q v m most n := fun c b B1 hn => by
  refine (ctR Tryz.call73 Tryz.func73 Tryz.ntmps73 rfl Tryz.results73 rfl [5, 6] fun h0 w0 ⟨hc, hb, hl⟩ => ?_)
  have ap := h.ap hc (by omega)
  have hce : c.length ≤ 100 ∧ ∀ e ∈ c, EnS e := ⟨by omega, fun e he => (h.e e (hc e he)).1⟩
  have hcs : c.length ≤ 1000 ∧ ∀ e ∈ c, EnS e ∧ NoS e.w := ⟨by omega, fun e he => ⟨(h.e e (hc e he)).1, (h.e e (hc e he)).2.1⟩⟩
  have hq := h.q
  have h7 : 1 ≤ 7 ^ n := Nat.pow_pos (by omega)
  refine gOp m fun l0 mk => ?_
  have hl0 := mk.len fun p q h => h
  have hcn := cnt_le b
  repeat first | refine gDs 19 19 (by rfl) (by kernel_rfl) ?_ | refine nx ?_ | intro _
  refine gIf (fun c1 => ?_) fun c1 => ?_
  · have ha : ¬ aliveB r (phJ c) q = true := c1.elim (fun h => absurd h (by omega)) id
    have e : sB l r q n c = [] := by rw [sB_eq, if_neg ha]
    repeat first | refine nx ?_ | intro _
    rw [e, List.append_nil]
    exact gEr () (h2 := ⟨⟨trivial, trivial, trivial, trivial, trivial⟩, mk, trivial⟩)
  · have ha : aliveB r (phJ c) q = true := Classical.byContradiction fun h => c1 (.inr h)
    have e : sB l r q n c = ownS r q c ++ tlS l r q n c := by rw [sB_eq, if_pos ha]
    obtain ⟨w1, w2, w3⟩ := h.w hc (by omega)
    have hx := at_bq (q := q) ap
    have hwj : bq (wJ c) ≤ 1000000 := by
      have a1 := w3.bq (Nat.pow_pos (eD_pos l)) (Rat.le_of_lt w1) w2
      have a7 := sz_pow (eD l) 4
      have a8 := eD_sz (r := l) (b := 1000) fun x hx => ⟨(h.e x hx).1.2.2, (h.e x hx).1.2.1⟩
      have a9 : l.length * 1000 ≤ 6 * 1000 := Nat.mul_le_mul_right _ h.n
      omega
    have hmu := bq_mul (wJ c) (tot (atF r (phJ c)) q)
    have hmu2 : bf (frK (wJ c * tot (atF r (phJ c)) q)) ≤ 3000000 := by rw [bf_frK]; omega
    have htb := hb.bq h (by omega) (keyW (c.map En.w))
    have how := own_w (q := q) h hc (by omega)
    have hol := own_len (r := r) (q := q) c
    repeat first | refine gDs 12 12 (by rfl) (by kernel_rfl) ?_ | refine nx ?_ | intro _
    refine gIf (fun c2 => ?_) fun c2 => ?_
    · have eo : ownS r q c = [(keyW (c.map En.w), wJ c * tot (atF r (phJ c)) q)] := if_pos (sgQ_pos.1 c2)
      refine gCl m (MG b) mk ?_
      repeat first | refine nx ?_ | intro _
      rw [frK_rat, ← eo]
      refine gIf (fun c3 => ?_) fun c3 => ?_
      · obtain rfl : n = 0 := by omega
        repeat first | refine nx ?_ | intro _
        rw [e]
        exact gEr () (h2 := ⟨⟨trivial, trivial, trivial, trivial, trivial⟩, fun _ h => by rw [show tlS l r q 0 c = [] from rfl, List.append_nil]; exact h, trivial⟩)
      · obtain ⟨n', rfl⟩ : ∃ n', n = n' + 1 := ⟨n - 1, by omega⟩
        have hih := ih n' rfl
        haveI hsr : ∀ {B B1 B2 : List Res} {b' : Bag ByteArray} {c' : List En} {S : SV} [Vw (lv rE) S c'] [PV B v (rdc l r q most m) 130 B1] [PMp B1 m Rg rgv (MG b') B2], CtR Tryz.prog 73 [ov v, S] B (c'.length + n' = most ∧ (∀ e ∈ c', e ∈ l) ∧ BgW l r b' ∧ b'.length + 7 ^ n' ≤ 5000) Unit (fun _ => .tp []) (fun _ => rV v (rdc l r q most m) 130 :: rMp rgv m (MG (b' ++ sB l r q n' c')) :: B2) := hih.call
        have hll := h.n
        have hps : 7 ^ (n' + 1) = 7 * 7 ^ n' := by rw [Nat.pow_succ, Nat.mul_comm]
        have h71 : 1 ≤ 7 ^ n' := Nat.pow_pos (by omega)
        have hcE : c.length ≤ 100000000000 := by omega
        repeat first | refine nx ?_ | intro _
        refine gLp (fun k : Nat => [(65, iv k)]) (fun k => [rV v (rdc l r q most m) 130, rMp rgv m (MG (b ++ ownS r q c ++ (l.take k).flatMap fun e => sB l r q n' (c ++ [e])))]) (fun k => k ≤ l.length) (fun k => l.length - k) 0 (Nat.zero_le _) (fun k hk => ?_) (h2 := ⟨⟨trivial, trivial, trivial, trivial, trivial⟩, fun _ h => by rw [show (l.take 0).flatMap (fun e => sB l r q n' (c ++ [e])) = [] from rfl, List.append_nil]; exact h, trivial⟩)
        repeat first | refine nx ?_ | intro _
        refine gIf (fun c4 => ?_) fun c4 => ?_
        · have hel : l.getD k en0 ∈ l := getD_in en0 c4
          have hlt := fm_le (f := fun e => sB l r q n' (c ++ [e])) (l := l.take k) (M := 7 ^ n') fun e _ => sB_len hll n' _
          have hkt : (l.take k).length = k := by rw [List.length_take]; omega
          rw [hkt] at hlt
          have hk6 : k * 7 ^ n' ≤ 5 * 7 ^ n' := Nat.mul_le_mul_right _ (by omega)
          have hmc : ∀ e, e ∈ l → ∀ y ∈ c ++ [e], y ∈ l := fun e he y hy => by
            rcases List.mem_append.1 hy with hy | hy
            · exact hc y hy
            · rw [List.mem_singleton.1 hy]; exact he
          have hclen : (c ++ [l.getD k en0]).length + n' = most := by rw [List.length_append]; simp; omega
          have hmx := hmc _ hel
          have hbg : BgW l r (b ++ ownS r q c ++ (l.take k).flatMap fun e => sB l r q n' (c ++ [e])) := (hb.app how).app fun x hx => by
            obtain ⟨e, he, hx⟩ := List.mem_flatMap.1 hx
            exact sB_w h n' (c ++ [e]) (hmc e (List.mem_of_mem_take he)) (by rw [List.length_append]; simp; omega) x hx
          have hbl : List.length (b ++ ownS r q c ++ (l.take k).flatMap fun e => sB l r q n' (c ++ [e])) + 7 ^ n' ≤ 5000 := by
            rw [List.length_append, List.length_append]; omega
          have hft := fm_take (f := fun e => sB l r q n' (c ++ [e])) en0 c4
          repeat first | refine gDc 7 2 5 6 ⟨71, 74, fun v => rA rE 87 v c, fun v => rA rE 87 v (c ++ [l.getD k en0])⟩ (by rfl) (by kernel_rfl) ?_ | refine nx ?_ | intro _
          refine gCa (ct := cloneE_o) rfl rfl (by omega) ?_
          repeat first | refine nx ?_ | intro _
          refine gCb rfl ⟨by simp; omega, by simp; omega⟩ ?_
          refine gCe rfl fun v74 => ?_
          refine gFzO v74 ?_
          repeat first | refine nx ?_ | intro _
          rw [List.append_assoc, ← hft]
          exact gBk (k + 1) (by omega) (by omega) (h2 := ⟨⟨trivial, trivial, trivial, trivial, trivial⟩, fun _ h => h, ⟨trivial, trivial, trivial⟩, ⟨trivial, trivial, trivial⟩, trivial⟩)
        · rw [List.take_of_length_le (by omega)]
          repeat first | refine nx ?_ | intro _
          rw [e]
          exact gEr () (h2 := ⟨⟨trivial, trivial, trivial, trivial, trivial⟩, fun _ h => by rw [List.append_assoc] at h; exact h, trivial⟩)
    · have eo : ownS r q c = [] := if_neg fun h => c2 (sgQ_pos.2 h)
      refine gCl m (MG (b ++ ownS r q c)) (by rw [eo, List.append_nil]; exact mk) ?_
      repeat first | refine nx ?_ | intro _
      refine gIf (fun c3 => ?_) fun c3 => ?_
      · obtain rfl : n = 0 := by omega
        repeat first | refine nx ?_ | intro _
        rw [e]
        exact gEr () (h2 := ⟨⟨trivial, trivial, trivial, trivial, trivial⟩, fun _ h => by rw [show tlS l r q 0 c = [] from rfl, List.append_nil]; exact h, trivial⟩)
      · obtain ⟨n', rfl⟩ : ∃ n', n = n' + 1 := ⟨n - 1, by omega⟩
        have hih := ih n' rfl
        haveI hsr : ∀ {B B1 B2 : List Res} {b' : Bag ByteArray} {c' : List En} {S : SV} [Vw (lv rE) S c'] [PV B v (rdc l r q most m) 130 B1] [PMp B1 m Rg rgv (MG b') B2], CtR Tryz.prog 73 [ov v, S] B (c'.length + n' = most ∧ (∀ e ∈ c', e ∈ l) ∧ BgW l r b' ∧ b'.length + 7 ^ n' ≤ 5000) Unit (fun _ => .tp []) (fun _ => rV v (rdc l r q most m) 130 :: rMp rgv m (MG (b' ++ sB l r q n' c')) :: B2) := hih.call
        have hll := h.n
        have hps : 7 ^ (n' + 1) = 7 * 7 ^ n' := by rw [Nat.pow_succ, Nat.mul_comm]
        have h71 : 1 ≤ 7 ^ n' := Nat.pow_pos (by omega)
        have hcE : c.length ≤ 100000000000 := by omega
        repeat first | refine nx ?_ | intro _
        refine gLp (fun k : Nat => [(65, iv k)]) (fun k => [rV v (rdc l r q most m) 130, rMp rgv m (MG (b ++ ownS r q c ++ (l.take k).flatMap fun e => sB l r q n' (c ++ [e])))]) (fun k => k ≤ l.length) (fun k => l.length - k) 0 (Nat.zero_le _) (fun k hk => ?_) (h2 := ⟨⟨trivial, trivial, trivial, trivial, trivial⟩, fun _ h => by rw [show (l.take 0).flatMap (fun e => sB l r q n' (c ++ [e])) = [] from rfl, List.append_nil]; exact h, trivial⟩)
        repeat first | refine nx ?_ | intro _
        refine gIf (fun c4 => ?_) fun c4 => ?_
        · have hel : l.getD k en0 ∈ l := getD_in en0 c4
          have hlt := fm_le (f := fun e => sB l r q n' (c ++ [e])) (l := l.take k) (M := 7 ^ n') fun e _ => sB_len hll n' _
          have hkt : (l.take k).length = k := by rw [List.length_take]; omega
          rw [hkt] at hlt
          have hk6 : k * 7 ^ n' ≤ 5 * 7 ^ n' := Nat.mul_le_mul_right _ (by omega)
          have hmc : ∀ e, e ∈ l → ∀ y ∈ c ++ [e], y ∈ l := fun e he y hy => by
            rcases List.mem_append.1 hy with hy | hy
            · exact hc y hy
            · rw [List.mem_singleton.1 hy]; exact he
          have hclen : (c ++ [l.getD k en0]).length + n' = most := by rw [List.length_append]; simp; omega
          have hmx := hmc _ hel
          have hbg : BgW l r (b ++ ownS r q c ++ (l.take k).flatMap fun e => sB l r q n' (c ++ [e])) := (hb.app how).app fun x hx => by
            obtain ⟨e, he, hx⟩ := List.mem_flatMap.1 hx
            exact sB_w h n' (c ++ [e]) (hmc e (List.mem_of_mem_take he)) (by rw [List.length_append]; simp; omega) x hx
          have hbl : List.length (b ++ ownS r q c ++ (l.take k).flatMap fun e => sB l r q n' (c ++ [e])) + 7 ^ n' ≤ 5000 := by
            rw [List.length_append, List.length_append]; omega
          have hft := fm_take (f := fun e => sB l r q n' (c ++ [e])) en0 c4
          repeat first | refine gDc 7 2 5 6 ⟨71, 74, fun v => rA rE 87 v c, fun v => rA rE 87 v (c ++ [l.getD k en0])⟩ (by rfl) (by kernel_rfl) ?_ | refine nx ?_ | intro _
          refine gCa (ct := cloneE_o) rfl rfl (by omega) ?_
          repeat first | refine nx ?_ | intro _
          refine gCb rfl ⟨by simp; omega, by simp; omega⟩ ?_
          refine gCe rfl fun v74 => ?_
          refine gFzO v74 ?_
          repeat first | refine nx ?_ | intro _
          rw [List.append_assoc, ← hft]
          exact gBk (k + 1) (by omega) (by omega) (h2 := ⟨⟨trivial, trivial, trivial, trivial, trivial⟩, fun _ h => h, ⟨trivial, trivial, trivial⟩, ⟨trivial, trivial, trivial⟩, trivial⟩)
        · rw [List.take_of_length_le (by omega)]
          repeat first | refine nx ?_ | intro _
          rw [e]
          exact gEr () (h2 := ⟨⟨trivial, trivial, trivial, trivial, trivial⟩, fun _ h => by rw [List.append_assoc] at h; exact h, trivial⟩)
theorem search_c (h : RdS l r q) (v m : Value) {most : Nat} (hm : most ≤ 2) : ∀ n, SrC l r q v m most n
  | 0 => search_n h v m hm 0 fun n' e => absurd e (by omega)
  | n + 1 => search_n h v m hm (n + 1) fun n' e => by
    obtain rfl : n' = n := by omega
    exact search_c h v m hm n'
end
end Go.E3
set_option linter.unusedVariables false
set_option maxRecDepth 20000
set_option maxHeartbeats 4000000
set_option synthInstance.maxSize 1000
namespace Go.E3
open Go Go.Ear Go.Proofs
def cmpG (a b : Rg) : Int := if cmpR a.f.rat b.f.rat ≠ 0 then cmpR a.f.rat b.f.rat else ordS a.ws b.ws
theorem cmpG_swo : Sort.SWO (ltOf cmpG) := (cmpR_to.pair ordS_to).swo fun a : Rg => (a.f.rat, a.ws)
theorem cmpG_zero {a b : Rg} (h1 : ¬ cmpG b a < 0) (h2 : ¬ cmpG a b < 0) : a.f.rat = b.f.rat ∧ a.ws = b.ws := by
  have n := (cmpR_to.pair ordS_to).neg (a.f.rat, a.ws) (b.f.rat, b.ws)
  have e := (cmpR_to.pair ordS_to).eq (a.f.rat, a.ws) (b.f.rat, b.ws) (by
    show cmpG a b = 0
    have n : cmpG b a = - cmpG a b := n
    omega)
  exact ⟨congrArg Prod.fst e, congrArg Prod.snd e⟩
def rgB (b : Bag ByteArray) : List Rg := (dd (b.map (·.1))).map fun k => mkG k (tot b k)
def srtG (b : Bag ByteArray) : List Rg := srtS cmpG (rgB b)
def RgS (e : Rg) : Prop := e.ws.length ≤ 1099511627776 ∧ bf e.f ≤ 60000000 ∧ Fit e.f.n ∧ Fit e.f.d
instance cmpG_c {a b : Rg} : Ct Tryz.prog 75 [rgv a, rgv b] (RgS a ∧ RgS b) (iv (cmpG a b)) := by
  refine (ctI Tryz.call75 Tryz.func75 Tryz.ntmps75 rfl Tryz.results75 rfl [2, 3] fun h0 w0 ⟨⟨h1, h2, h3⟩, h4, h5, h6⟩ => ?_)
  haveI : FtF a.f := ⟨h3⟩
  haveI : FtF b.f := ⟨h6⟩
  unfold cmpG
  repeat first | refine nx ?_ | intro _
  refine gIf (fun c => ?_) fun c => ?_ <;> repeat first | refine nx ?_ | intro _
  · exact (if_pos c).symm
  · exact (if_neg c).symm
instance : DzR rQ := .of (by decide) fun _ => inferInstance
instance : DzR rRg := .of (by decide) fun _ => inferInstance
theorem cmpG_C : CmpC Tryz.prog 75 rgv RgS cmpG := ⟨Tryz.call75, fun {x y} qx qy {h w vs} s u => cmpG_c.h ⟨qx, qy⟩ s u⟩
theorem sortG_c' {v : Value} {l : List Rg} {B1 : List Res} [hg : HG B1] : CtR Tryz.prog 74 [ov v, .cv (.func (.func 75) #[] #[])] (rA rRg 52 v l :: B1) (l.length ≤ 1099511627776 ∧ ∀ x ∈ l, RgS x) (Srtd cmpG l) (fun _ => .tp []) (fun s => rA rRg 52 v s.1 :: B1) :=
  sortK (ρ := sortRgRen) sortRgLays Tryz.call74 Tryz.isAgg52 Tryz.sizeOf52 cmpG_swo cmpG_C
instance sortG_c {v : Value} {l : List Rg} {B B1 : List Res} [pa : PA B v Rg rRg 52 l B1] [hg : HG B1] : CtR Tryz.prog 74 [ov v, .cv (.func (.func 75) #[] #[])] B (l.length ≤ 1099511627776 ∧ ∀ x ∈ l, RgS x) (Srtd cmpG l) (fun _ => .tp []) (fun s => rA rRg 52 v s.1 :: B1) := CtR.to sortG_c' pa.h
theorem own_key {r : List Rw} {q : List Int} {c : List En} {x : ByteArray × Rat} (hx : x ∈ ownS r q c) : x = (keyW (c.map En.w), wJ c * tot (atF r (phJ c)) q) ∧ 0 < tot (atF r (phJ c)) q := by
  unfold ownS at hx
  split at hx
  · rename_i h
    exact ⟨List.mem_singleton.1 hx, h⟩
  · exact (List.not_mem_nil hx).elim
theorem sB_key {l : List En} {r : List Rw} {q : List Int} : ∀ n c {x : ByteArray × Rat}, (∀ e ∈ c, e ∈ l) → x ∈ sB l r q n c → ∃ c', (∀ e ∈ c', e ∈ l) ∧ c'.length ≤ c.length + n ∧ x = (keyW (c'.map En.w), wJ c' * tot (atF r (phJ c')) q) ∧ 0 < tot (atF r (phJ c')) q
  | 0, c, x, hc, hx => by
    unfold sB at hx
    split at hx
    · exact ⟨c, hc, by omega, own_key hx⟩
    · exact (List.not_mem_nil hx).elim
  | n + 1, c, x, hc, hx => by
    unfold sB at hx
    split at hx
    · rcases List.mem_append.1 hx with hx | hx
      · exact ⟨c, hc, by omega, own_key hx⟩
      · obtain ⟨e, he, hx⟩ := List.mem_flatMap.1 hx
        obtain ⟨c', h1, h2, h3⟩ := sB_key n (c ++ [e]) (fun y hy => by
          rcases List.mem_append.1 hy with hy | hy
          · exact hc y hy
          · rw [List.mem_singleton.1 hy]; exact he) hx
        exact ⟨c', h1, by rw [List.length_append] at h2; simp at h2; omega, h3⟩
    · exact (List.not_mem_nil hx).elim
theorem rgB_anti (b : Bag ByteArray) : ∀ x y, x ∈ rgB b → y ∈ rgB b → ¬ cmpG y x < 0 → ¬ cmpG x y < 0 → x = y := fun x y hx hy h1 h2 => by
  obtain ⟨p, _, rfl⟩ := List.mem_map.1 hx
  obtain ⟨q, _, rfl⟩ := List.mem_map.1 hy
  obtain ⟨e1, e2⟩ := cmpG_zero h1 h2
  unfold mkG at *
  dsimp only at e1 e2
  rw [frK_rat, frK_rat] at e1
  rw [e1, e2]
theorem MG_perm {l : List (ByteArray × Rg)} {b : Bag ByteArray} (m : MG b l) : (l.map (·.2)).Perm (rgB b) := by
  have h1 : l.Perm ((dd (b.map (·.1))).map fun p => (p, mkG p (tot b p))) := nd_perm (nodup_of_map m.1) (map_nodup (fun p q e => congrArg (fun x => x.1) e) (nodup_dd _)) fun ⟨s, x⟩ => by
    rw [m.2, List.mem_map]
    constructor
    · rintro ⟨p, hp, rfl, rfl⟩; exact ⟨_, mem_keys.2 hp, rfl⟩
    · rintro ⟨p, hp, e⟩
      cases e
      exact ⟨_, mem_keys.1 hp, rfl, rfl⟩
  have := h1.map (·.2)
  rw [List.map_map] at this
  exact this
theorem val_word {l : List En} (h : valB l = true) : ∀ e ∈ l, wdB e.w = true := fun e he => by
  unfold valB at h
  rw [Bool.and_eq_true, decide_eq_true_iff, Bool.and_eq_true] at h
  obtain ⟨k, hk, rfl⟩ := getD_mem (d := en0) he
  have h2 := h.2.1
  unfold ordB at h2
  rw [Bool.not_eq_true'] at h2
  have h3 := List.any_eq_false.1 h2 k (List.mem_range.2 hk)
  unfold badE at h3
  simp only [Bool.or_eq_true, not_or, Bool.not_eq_true', Bool.not_eq_false] at h3
  exact h3.1.1.1
theorem wd_nos {w : ByteArray} (h : wdB w = true) : NoS w := fun b hb e => by
  unfold wdB at h
  rw [Bool.and_eq_true, Bool.not_eq_true'] at h
  obtain ⟨k, hk, hkb⟩ := List.getElem_of_mem hb
  have hk2 : k < w.size := by simpa using hk
  have h2 := List.any_eq_false.1 h.1 k (List.mem_range.2 hk2)
  unfold badC at h2
  have hc : chr w k = 32 := by
    unfold chr
    have e1 : w[k]? = some 32 := by
      rw [getElem?_pos w k hk2]
      congr 1
      rw [← e, ← hkb]
      rfl
    rw [e1]; rfl
  rw [hc] at h2
  exact h2 (by decide)
section
variable {P : Program} {n : Nat} {X : Fix} {ms : List Nat} {loc env : EL} {B B1 : List Res} {ol rest : List Oper} {k : Kt} {α : Type} {f : α → SV} {l : List (ByteArray × α)} {R : List (ByteArray × α) → Prop}
theorem gClO (v : Value) (R : List (ByteArray × α) → Prop) [pm : PM B v α f l B1] (m : R l) (g : GO P n X ms loc env (rMp f v R :: B1) ol rest k) : GO P n X ms loc env B ol rest k := gSbO (pm.h.trans (rMp_cl m)) g
theorem gOpO (v : Value) [pm : PMp B v α f R B1] (g : ∀ l, R l → GO P n X ms loc env (rM' f v l :: B1) ol rest k) : GO P n X ms loc env B ol rest k := ⟨fun ok ρ h w sy => by
  have s' := sy.sb pm.h
  obtain ⟨l, m, x⟩ := s'.ow.1
  exact (g l m).p ok ρ h w ⟨s'.gr, s'.lo, s'.en, x, s'.ow.2⟩⟩
end
structure ReS (l : List En) (r : List Rw) (q : List Int) (most : Nat) : Prop where
  lx : LxS l
  r : r.length ≤ 1000000 ∧ ∀ x ∈ r, RwS x ∧ bf x.f ≤ 1000
  q : q.length ≤ 1000000
  m : most ≤ 2
  p : ∀ e ∈ l, e.ph.length ≤ 6
  n : l.length ≤ 6 ∨ 40 < l.length
def rdE (l : List En) (r : List Rw) (q : List Int) : Int := if valB l = true ∧ rulB r = true ∧ phB q 400 = true then (if 40 < l.length then 5 else 0) else 2
def rdL (l : List En) (r : List Rw) (q : List Int) (most : Nat) : List Rg := if valB l = true ∧ rulB r = true ∧ phB q 400 = true ∧ ¬ 40 < l.length then srtG (sB l r q most []) else []
instance Read_c {l : List En} {r : List Rw} {q : List Int} {most : Nat} {S T U : SV} {B : List Res} [i : Vw lxv S l] [j : Vw (lv rR) T r] [m : Vw (lv rI) U q] [hg : HG B] : CtB Tryz.prog 26 [S, T, U, iv (most : Int)] B (ReS l r q most) (.tp [lv rRg (rdL l r q most), iv (rdE l r q)]) := by
  refine cB3 i j m (ctB Tryz.call26 Tryz.func26 Tryz.ntmps26 rfl Tryz.results26 rfl [45] fun h0 w0 s => ?_)
  have hRw := fun x hx => (s.r.2 x hx).1
  have hr1 := s.r.1
  have hlx := s.lx
  have hq := s.q
  have hm := s.m
  repeat first | refine nx ?_ | intro _
  refine gIf (fun c => ?_) fun c => ?_ <;> repeat first | refine nx ?_ | intro _
  · have hc : ¬ (valB l = true ∧ rulB r = true ∧ phB q 400 = true) := fun ⟨x, y, z⟩ => c.elim (fun h => h.elim (fun h => h.elim (fun h => h.elim (fun h => h x) fun h => h y) fun h => h z) fun h => absurd h (by omega)) fun h => absurd h (by omega)
    exact ⟨if_neg fun ⟨x, y, z, _⟩ => hc ⟨x, y, z⟩, (if_neg hc).symm⟩
  · have hc : valB l = true ∧ rulB r = true ∧ phB q 400 = true := ⟨Classical.byContradiction fun h => c (.inl (.inl (.inl (.inl h)))), Classical.byContradiction fun h => c (.inl (.inl (.inl (.inr h)))), Classical.byContradiction fun h => c (.inl (.inl (.inr h)))⟩
    refine gIf (fun c4 => ?_) fun c4 => ?_
    · repeat first | refine nx ?_ | intro _
      refine ⟨if_neg fun ⟨_, _, _, h⟩ => h (by omega), ?_⟩
      unfold rdE
      rw [if_pos hc, if_pos (by omega)]
    · have h40 : ¬ 40 < l.length := by omega
      have e1 : rdL l r q most = srtG (sB l r q most []) := if_pos ⟨hc.1, hc.2.1, hc.2.2, h40⟩
      have e2 : rdE l r q = 0 := by
        unfold rdE
        rw [if_pos hc, if_neg h40]
      obtain ⟨v1, v2⟩ := val_ent hc.1
      have rs : RdS l r q := ⟨hc.2.1, s.r.2, by rcases s.n with h | h <;> omega, fun e he => ⟨hlx.2 e he, wd_nos (val_word hc.1 e he), s.p e he, v2 e he⟩, hq⟩
      rw [e1, e2]
      clear e1 e2
      repeat first | refine nx ?_ | intro _
      rename_i vm v
      have hsc := search_c rs v vm hm most
      haveI hsr : ∀ {B B1 B2 : List Res} {b' : Bag ByteArray} {c' : List En} {S : SV} [Vw (lv rE) S c'] [PV B v (rdc l r q most vm) 130 B1] [PMp B1 vm Rg rgv (MG b') B2], CtR Tryz.prog 73 [ov v, S] B (c'.length + most = most ∧ (∀ e ∈ c', e ∈ l) ∧ BgW l r b' ∧ b'.length + 7 ^ most ≤ 5000) Unit (fun _ => .tp []) (fun _ => rV v (rdc l r q most vm) 130 :: rMp rgv vm (MG (b' ++ sB l r q most c')) :: B2) := hsc.call
      have h7 : 7 ^ most ≤ 49 := Nat.pow_le_pow_right (n := 7) (by omega) hm
      have hsl := sB_len (r := r) (q := q) rs.n most []
      have hbw := sB_w rs most [] (fun e he => (List.not_mem_nil he).elim) (by show 0 + most ≤ 4; omega)
      refine gClO vm (MG []) MK.nil ?_
      have hs0 : (([] : List En).length + most = most) ∧ (∀ e ∈ ([] : List En), e ∈ l) ∧ BgW l r [] ∧ ([] : Bag ByteArray).length + 7 ^ most ≤ 5000 := ⟨by simp, fun e he => (List.not_mem_nil he).elim, fun x hx => (List.not_mem_nil hx).elim, by show 0 + 7 ^ most ≤ 5000; omega⟩
      refine nx ?_ hs0
      intro _
      rw [List.nil_append]
      repeat first | refine nx ?_ | intro _
      refine gOpO vm fun l0 mk => ?_
      have hl0 := mk.len fun p q h => h
      have hcn := cnt_le (sB l r q most [])
      repeat first | refine nx ?_ | intro _
      refine gIf (fun c5 => absurd c5 (by omega)) fun c5 => ?_
      repeat first | refine nx ?_ | intro _
      rename_i p
      refine gNl rRg 52 ?_
      refine gLp (fun s : List (ByteArray × Rg) × Value => [(58, ov p), (11, ov s.2)]) (fun s => [rMI rgv p vm l0 s.1, rA rRg 52 s.2 (s.1.map (·.2))]) (fun s => s.1.length ≤ l0.length) (fun s => l0.length - s.1.length) ([], .slice none 0 0) (Nat.zero_le _) (fun ⟨vis, u⟩ hv => ?_)
      dsimp only at hv ⊢
      repeat first | refine nx ?_ | intro _
      refine gNxt (fun hd => ?_) fun s a ⟨rr, hr⟩ => ?_
      · have hml : (vis.map (·.2)).length = vis.length := List.length_map ..
        have hp : (vis.map (·.2)).Perm (rgB (sB l r q most [])) := (hd.map _).trans (MG_perm mk)
        have hfs : ∀ x ∈ vis.map (·.2), RgS x := fun x hx => by
          obtain ⟨k, hk, rfl⟩ := List.mem_map.1 (hp.mem_iff.1 hx)
          have ft : FtF (frK (tot (sB l r q most []) k)) := inferInstance
          obtain ⟨⟨w, hw⟩⟩ : Nonempty (hasB (sB l r q most []) k) := ⟨mem_keys.1 hk⟩
          refine ⟨?_, by show bf (frK _) ≤ _; rw [bf_frK]; exact Nat.le_trans (hbw.bq rs (by omega) k) (by omega), ft.h⟩
          obtain ⟨c', h1, h2, h3, _⟩ := sB_key most [] (fun e he => (List.not_mem_nil he).elim) hw
          have hk : k = keyW (c'.map En.w) := congrArg Prod.fst h3
          have hsp : spW (keyW (c'.map En.w)) = c'.map En.w := spW_key fun w hw => by
            obtain ⟨e, he, rfl⟩ := List.mem_map.1 hw
            exact (rs.e e (h1 e he)).2.1
          show (spW k).length ≤ _
          rw [hk, hsp, List.length_map]
          have : c'.length ≤ 0 + most := h2
          omega
        repeat first | refine nx ?_ | intro _
        rename_i s2
        exact ⟨srt_one cmpG_swo (rgB_anti _) (s2.2.1.trans hp) s2.2.2, trivial⟩
      · have hl2 := hr.length_eq
        rw [List.length_append, List.length_cons] at hl2
        have hml : (vis.map (·.2)).length = vis.length := List.length_map ..
        repeat first | refine nx ?_ | intro _
        rename_i u2
        have e : vis.map (·.2) ++ [a] = (vis ++ [(s, a)]).map (·.2) := by rw [List.map_append]; rfl
        rw [e]
        exact gBk (vis ++ [(s, a)], u2) (by dsimp only; rw [List.length_append]; simp; omega) (by dsimp only; rw [List.length_append]; simp; omega)
end Go.E3
set_option linter.unusedVariables false
set_option maxHeartbeats 4000000
namespace Go.E3
open Go Go.Ear
section
variable {P : Program} {n : Nat} {ρ : Env} {w : World} {K : Env → World → Prop} {ty : TypeId} {pos : String} {af : Array Edge} {g : Option (Nat × Bool)} {α : Type} {r : Rp α}
theorem flat1 : ∀ {css : List (List Value)}, (∀ cs ∈ css, cs.length = 1) → ∀ a, (css.take a).flatten = css.flatten.take a
  | [], _, a => by simp
  | cs :: css, h, 0 => by simp
  | cs :: css, h, a + 1 => by
    have hc := h cs (List.mem_cons_self ..)
    rw [List.take_succ_cons, List.flatten_cons, List.flatten_cons, flat1 (fun x hx => h x (List.mem_cons_of_mem _ hx)) a, List.take_append, hc, Nat.add_sub_cancel, List.take_of_length_le (l := cs) (by omega)]
theorem OpW.clearL {lo : Nat} {h : PH} {t e : TypeId} {x : Operand} {v z : Value} {l : List α} {a m b l' c c2 : Nat} {d0 : α}
    (ht : P.underlying t = some (.slice e)) (hz : IsZero P e z) (hzc : z.cells = #[z]) (h1 : z.oneCell' = true) (hk1 : r.k = 1) (hr0 : r.R h [z] d0)
    (own : OwnL r lo h w e v l) (hx : ev n ρ x = .slice (some ⟨b, a * 1, none⟩) m c2) (hv : v = .slice (some ⟨b, 0, none⟩) l' c) (hm : 0 < m) (hl : a + m = l.length)
    (hk : ∀ w', OwnL r lo h w' e v (l.take a ++ List.replicate m d0) → Ow w w' (Value.blk v) → K ρ w') : OpW P n ⟨none, .call ⟨.builtin .clear, #[x], #[t]⟩, ty, pos, af, g⟩ ρ w K := by
  obtain ⟨css, o, rr⟩ := own
  have hcl := rr.length
  have hlens := rr.lens
  rw [hk1] at hlens o
  rcases o.2 with ⟨he, _⟩ | ⟨b', cap, arr, he, hb1, hb2, hb3, hb4, hb5, hb6⟩
  · rw [he] at hv; cases hv
  · rw [he] at hv
    injection hv with e1 e2 e3
    injection e1 with e1
    injection e1 with e1
    subst e1 e2 e3
    rw [Nat.mul_one] at hb5 hb6 hx
    have hfit : a + 0 + (List.replicate m z).length ≤ arr.size := by rw [List.length_replicate]; omega
    obtain ⟨w', hst, hp⟩ := run_storeCells_own (P := P) (List.replicate m z) a 0 arr w hb3 hfit (fun y hy => by rw [List.eq_of_mem_replicate hy]; exact h1)
    have hzz : (Builtin.zeroCells z.cells m).toList = List.replicate m z := by
      rw [hzc]
      simp [Builtin.zeroCells]
      apply List.ext_getElem
      · simp
      · intro i h1 h2
        simp [Nat.mod_one]
    obtain ⟨m', rfl⟩ : ∃ m', m = m' + 1 := ⟨m - 1, by omega⟩
    refine OpW.val (v := .tuple #[]) (w' := w') ?_ (hk w' ⟨css.take a ++ List.replicate (m' + 1) [z], ?_, (rr.take a).append (Rows.replicate hr0 _)⟩ ⟨hp.os, hp.tape, hp.output, by rw [hp.size]; exact Nat.le_refl _, fun k _ hk => hp.other k (fun e => hk (by rw [he, e]; rfl)), hp.drawn⟩)
    · simp only [execOp, resolve, invoke, builtin, Sem.run_bind, Sem.run_pure, Result.andThen, List.map_toArray, List.map_cons, List.map_nil, hx]
      simp [Builtin.clear_, run_underlying ht, hz w, hzz, hst]
    · have hxs : (css.take a ++ List.replicate (m' + 1) [z]).flatten = css.flatten.take a ++ List.replicate (m' + 1) z := by
        rw [List.flatten_append, flat1 hlens]
        congr 1
        clear hst hp hfit hzz hl hm
        induction (m' + 1) with
        | zero => rfl
        | succ k ih => rw [List.replicate_succ, List.replicate_succ, List.flatten_cons, ih]; rfl
      have hfl : css.flatten.length = l.length := by
        have := o.1
        rw [Nat.mul_one] at this; exact this
      have hlen : (l.take a ++ List.replicate (m' + 1) d0).length = l.length := by rw [List.length_append, List.length_take, List.length_replicate]; omega
      rw [hk1, hlen, hxs]
      refine ⟨by rw [List.length_append, List.length_take, List.length_replicate, hfl]; omega, .inr ⟨b', cap, _, he, hb1, hb2, hp.at_, hb4, by rw [putIn_size, hb5, Nat.mul_one], ?_⟩⟩
      rw [Nat.mul_one, Nat.add_zero, putIn_toList _ _ _ (by rw [List.length_replicate]; omega), List.length_replicate]
      have e1 : a + (m' + 1) = l.length := hl
      rw [e1, ← hb6, List.take_take, Nat.min_eq_left (by omega)]
      refine List.take_left' ?_
      rw [List.length_append, List.length_take, List.length_replicate, Array.length_toList]; omega
theorem gClr {X : Fix} {ms : List Nat} {loc env : EL} {B B' : List Res} {k : Kt} {ol rest : List Oper} {β : Type} {r0 : Rp β} {q : List (List β)} {t e : TypeId} {v : Value} {a m : Nat} {x : Operand} (hz : IsZero P e (.slice none 0 0)) [ts : TS P t e] [lx : Lu n true loc env x (so v 1 a m)] [pa : PA B v (List β) (rL r0) e q B'] (hm : 0 < m ∧ a + m = q.length)
    (f : GO P n X ms loc env (rA (rL r0) e v (q.take a ++ List.replicate m []) :: B') ol rest k) : GO P n X ms loc env B ol (⟨none, .call ⟨.builtin .clear, [x].toArray, [t].toArray⟩, ty, pos, af, none⟩ :: rest) k := ⟨fun ok ρ h w s => by
  have hx := lx.h rfl ((s.x [x]).fx x (by simp))
  have s' := s.sb pa.h
  obtain ⟨b, l', c, base, c2, e1, e2, e3⟩ := hx
  rw [e3 hm.1] at e2
  refine Ops.cons (OpW.clearL (r := rL r0) (lo := 0) (d0 := []) (z := .slice none 0 0) ts.h hz rfl rfl rfl (show denL h [lv r0 []] [.slice none 0 0] from ⟨LR.nil r0 h none 0, trivial⟩) (s'.ow.at 0 rfl).1 e2 e1 hm.1 hm.2 fun w' own ow => ?_)
  exact f.p (okR_none rfl ok) _ _ _ (own_app s' own ow fun b hb => .inl hb)⟩
theorem gPre {X : Fix} {ms : List Nat} {loc env : EL} {B B' : List Res} {k : Kt} {ol rest : List Oper} {q : List α} {d : Nat} {t e : TypeId} {v : Value} {a sz : Nat} {kd : IntKind} {i : Int} {x y : Operand} [ts : TS P t e] [tz : TZ P e sz] [lx : Lu n true loc env x (ov v)] [ly : Lu n true loc env y (.cv (.int kd i))] [i1 : IN i a] [pa : PA B v α r e q B'] (hk1 : r.k = 1) (ha : a ≤ q.length)
    (f : ∀ v', GO P n X ms ((d, ov v') :: loc) env (rA r e v' (q.take a) :: B') ol rest k) : GO P n X ms loc env B ol (⟨some d, .slice t x none (some y) none, ty, pos, af, none⟩ :: rest) k := ⟨fun ok ρ h w s => by
  obtain ⟨h1, h2, h3⟩ := okR_some rfl ok
  have hx := lx.h rfl ((s.x [x]).fx x (by simp))
  have hy := cvE (ly.h rfl ((s.x [y]).fx y (by simp)))
  have s' := s.sb pa.h
  obtain ⟨css, o, rr⟩ := (s'.ow.at 0 rfl).1
  have hlens := rr.lens
  rw [hk1] at hlens
  have hfl := flat1 hlens a
  have hcl := rr.length
  have hln : ((css.take a).flatten).length = a * 1 := by
    rw [hfl, List.length_take]
    have := o.1
    rw [hk1] at this; omega
  rcases o.2 with ⟨he, hl0⟩ | ⟨b, cap, arr, he, hb1, hb2, hb3, hb4, hb5, hb6⟩
  · have ha0 : a = 0 := by omega
    subst ha0
    refine Ops.cons (OpW.sliceTo ts.h tz.h (hx.1.trans he) (hy.trans (by rw [i1.e])) (Nat.le_refl _) ?_)
    exact (f (.slice none 0 0)).p h3 _ _ _ ((own_app s' (v' := .slice none 0 0) (OwnL.nil ..) ⟨rfl, rfl, rfl, Nat.le_refl _, fun _ _ _ => rfl, Nat.le_refl _⟩ fun b hb => by cases hb).set ⟨rfl, rfl⟩ h1 (h2 rfl))
  · refine Ops.cons (OpW.sliceTo ts.h tz.h (hx.1.trans he) (hy.trans (by rw [i1.e])) (by omega) ?_)
    have own2 : OwnL r 0 h w e (.slice (some ⟨b, 0, none⟩) a cap) (q.take a) := ⟨css.take a, ⟨by rw [hk1, List.length_take, Nat.min_eq_left ha]; exact hln, .inr ⟨b, cap, arr, by rw [List.length_take, Nat.min_eq_left ha], hb1, hb2, hb3, by rw [List.length_take]; omega, hb5, by
      rw [hfl, ← hb6, List.take_take, List.length_take, hk1]
      congr 1
      omega⟩⟩, rr.take a⟩
    exact (f (.slice (some ⟨b, 0, none⟩) a cap)).p h3 _ _ _ ((own_app s' own2 ⟨rfl, rfl, rfl, Nat.le_refl _, fun _ _ _ => rfl, Nat.le_refl _⟩ fun b' hb => .inl (by rw [he]; exact hb)).set ⟨rfl, rfl⟩ h1 (h2 rfl))⟩
end
end Go.E3
set_option linter.unusedVariables false
set_option maxRecDepth 20000
set_option maxHeartbeats 4000000
set_option synthInstance.maxSize 1000
namespace Go.E3
open Go Go.Ear Go.Proofs
def cpf (l : List (List Int)) : Nat → List (List Int)
  | 0 => []
  | n + 1 => if n = 0 ∨ l.getD n [] ≠ l.getD (n - 1) [] then cpf l n ++ [l.getD n []] else cpf l n
theorem cpf_len (l : List (List Int)) : ∀ n, (cpf l n).length ≤ n
  | 0 => Nat.zero_le _
  | n + 1 => by
    have := cpf_len l n
    unfold cpf
    split
    · rw [List.length_append]; simp; omega
    · omega
theorem cpf_same {l : List (List Int)} : ∀ {k}, k ≤ l.length → (∀ j, 1 ≤ j → j < k → l.getD j [] ≠ l.getD (j - 1) []) → cpf l k = l.take k
  | 0, _, _ => rfl
  | k + 1, hk, h => by
    unfold cpf
    have ih := cpf_same (k := k) (by omega) fun j h1 h2 => h j h1 (by omega)
    rw [if_pos (by
      by_cases e : k = 0
      · exact .inl e
      · exact .inr (h k (by omega) (by omega))), ih, List.take_succ_eq_append_getElem (by omega), List.getD_eq_getElem?_getD, List.getElem?_eq_getElem (by omega)]; rfl
def LiS (l : List (List Int)) : Prop := l.length ≤ 1000000 ∧ ∀ k, (l.getD k []).length ≤ 1000000
theorem LiS.set {l : List (List Int)} (h : LiS l) {x : List Int} (hx : x.length ≤ 1000000) (i : Nat) : LiS (l.set i x) := ⟨by rw [List.length_set]; exact h.1, fun k => by
  rw [List.getD_eq_getElem?_getD, List.getElem?_set]
  split
  · split
    · exact hx
    · exact Nat.zero_le _
  · have := h.2 k
    rw [List.getD_eq_getElem?_getD] at this; exact this⟩
structure CP (l : List (List Int)) (k0 k k2 : Nat) (s : List (List Int)) : Prop where
  a : 1 ≤ k2
  b : k0 + k2 ≤ l.length
  sl : s.length = l.length
  kk : k = (cpf l (k0 + k2)).length
  kl : k + 1 ≤ k0 + k2
  tk : s.take k = cpf l (k0 + k2)
  rst : ∀ j, k0 + k2 ≤ j + 1 → s.getD j [] = l.getD j []
  ls : LiS s
theorem take_set_self {α : Type} (l : List α) (k : Nat) (x : α) (h : k < l.length) : (l.set k x).take (k + 1) = l.take k ++ [x] := by
  rw [List.take_succ_eq_append_getElem (by rw [List.length_set]; exact h), List.getElem_set_self]
  congr 1
  apply List.ext_getElem?
  intro i
  rw [List.getElem?_take, List.getElem?_take]
  split
  · rw [List.getElem?_set_ne (by omega)]
  · rfl
theorem CP.start {l : List (List Int)} {k0 : Nat} (h1 : 1 ≤ k0) (h2 : k0 < l.length) (he : l.getD k0 [] = l.getD (k0 - 1) []) (hn : ∀ j, 1 ≤ j → j < k0 → l.getD j [] ≠ l.getD (j - 1) []) (ls : LiS l) : CP l k0 k0 1 l := by
  have e1 := cpf_same (l := l) (k := k0) (by omega) hn
  have e2 : cpf l (k0 + 1) = l.take k0 := by
    rw [← e1]
    conv => lhs; unfold cpf
    rw [if_neg (by rintro (h | h); omega; exact h he)]
  exact ⟨Nat.le_refl _, h2, rfl, by rw [e2, List.length_take]; omega, Nat.le_refl _, by rw [e2], fun _ _ => rfl, ls⟩
theorem CP.same {l : List (List Int)} {k0 k k2 : Nat} {s : List (List Int)} (h : CP l k0 k k2 s) (h0 : 1 ≤ k0) (hb : k0 + k2 < l.length) (e : s.getD (k0 + k2) [] = s.getD (k0 + (k2 - 1)) []) : CP l k0 k (k2 + 1) s := by
  have ha := h.a
  rw [h.rst _ (by omega), h.rst _ (by omega), show k0 + (k2 - 1) = k0 + k2 - 1 by omega] at e
  have e2 : cpf l (k0 + (k2 + 1)) = cpf l (k0 + k2) := by
    show cpf l (k0 + k2 + 1) = _
    conv => lhs; unfold cpf
    rw [if_neg (by rintro (h | h); omega; exact h e)]
  exact ⟨by omega, by omega, h.sl, by rw [e2]; exact h.kk, by have := h.kl; omega, by rw [e2]; exact h.tk, fun j hj => h.rst j (by omega), h.ls⟩
theorem CP.diff {l : List (List Int)} {k0 k k2 : Nat} {s : List (List Int)} (h : CP l k0 k k2 s) (h0 : 1 ≤ k0) (hb : k0 + k2 < l.length) (e : ¬ s.getD (k0 + k2) [] = s.getD (k0 + (k2 - 1)) []) : CP l k0 (k + 1) (k2 + 1) (s.set k (s.getD (k0 + k2) [])) := by
  have ha := h.a
  have hkl := h.kl
  have hsl := h.sl
  have hx := h.rst (k0 + k2) (by omega)
  rw [hx, h.rst _ (by omega), show k0 + (k2 - 1) = k0 + k2 - 1 by omega] at e
  have e2 : cpf l (k0 + (k2 + 1)) = cpf l (k0 + k2) ++ [l.getD (k0 + k2) []] := by
    show cpf l (k0 + k2 + 1) = _
    conv => lhs; unfold cpf
    rw [if_pos (.inr e)]
  refine ⟨by omega, by omega, by rw [List.length_set]; exact hsl, by rw [e2, List.length_append, ← h.kk]; rfl, by omega, by rw [take_set_self _ _ _ (by omega), h.tk, e2, hx], fun j hj => ?_, h.ls.set (h.ls.2 _) _⟩
  rw [getD_setN _ _ _ (by omega), if_neg (by omega)]
  exact h.rst j (by omega)
theorem compact_c' {v : Value} {l : List (List Int)} {B1 : List Res} : CtR Tryz.prog 151 [ov v, .cv (.func (.func 96) #[] #[])] (rA (rL rI) 26 v l :: B1) (LiS l) Value (fun v' => ov v') (fun v' => rA (rL rI) 26 v' (cpf l l.length) :: B1) := by
  refine (ctR Tryz.call151 Tryz.func151 Tryz.ntmps151 rfl Tryz.results151 rfl [] fun h0 w0 hs => ?_)
  have hl := hs.1
  repeat first | refine nx ?_ | intro _
  refine gIf (fun c => ?_) fun c => ?_
  · have e : cpf l l.length = l := by rw [cpf_same (Nat.le_refl _) fun j h1 h2 => by omega, List.take_length]
    repeat first | refine nx ?_ | intro _
    rw [e]
    exact gEr v
  · repeat first | refine nx ?_ | intro _
    refine gLp (fun k : Nat => [(5, iv k)]) (fun _ => []) (fun k => 1 ≤ k ∧ k ≤ l.length ∧ ∀ j, 1 ≤ j → j < k → l.getD j [] ≠ l.getD (j - 1) []) (fun k => l.length - k) 1 ⟨Nat.le_refl _, by omega, fun j h1 h2 => by omega⟩ (fun k ⟨hk1, hk, hn⟩ => ?_)
    repeat first | refine nx ?_ | intro _
    refine gIf (fun c2 => ?_) fun c2 => ?_
    · have h1 := hs.2 k
      have h2 := hs.2 (k - 1)
      repeat first | refine gDs 11 11 (by rfl) (by kernel_rfl) ?_ | refine nx ?_ | intro _
      refine gIf (fun c3 => ?_) fun c3 => ?_
      · repeat first | refine nx ?_ | intro _
        refine gLp (fun s : Nat × Nat × List (List Int) => [(5, iv s.1), (7, iv s.2.1)]) (fun s => [rA (rL rI) 26 v s.2.2]) (fun s => CP l k s.1 s.2.1 s.2.2) (fun s => l.length - s.2.1) (k, 1, l) (.start hk1 c2 c3 hn hs) (fun ⟨k1, k2, s⟩ hc => ?_)
        dsimp only at hc ⊢
        have ha := hc.a
        have hb := hc.b
        have hsl := hc.sl
        have hkl := hc.kl
        repeat first | refine nx ?_ | intro _
        refine gIf (fun c4 => ?_) fun c4 => ?_
        · have h3 := hc.ls.2 (k + k2)
          have h4 := hc.ls.2 (k + (k2 - 1))
          repeat first | refine gDs 12 12 (by rfl) (by kernel_rfl) ?_ | refine nx ?_ | intro _
          refine gIf (fun c5 => ?_) fun c5 => ?_
          · repeat first | refine nx ?_ | intro _
            exact gBk (k1 + 1, k2 + 1, s.set k1 (s.getD (k + k2) [])) (hc.diff hk1 (by omega) c5) (by dsimp only; omega)
          · repeat first | refine nx ?_ | intro _
            exact gBk (k1, k2 + 1, s) (hc.same hk1 (by omega) (Classical.not_not.1 c5)) (by dsimp only; omega)
        · repeat first | refine nx ?_ | intro _
          refine gClr Tryz.zeroValue26 ⟨by omega, by omega⟩ ?_
          repeat first | refine nx ?_ | intro _
          refine gPre rfl (by rw [List.length_append, List.length_take]; omega) fun v' => ?_
          have e : (s.take k1 ++ List.replicate (s.length - k1) []).take k1 = cpf l l.length := by
            rw [List.take_left' (by rw [List.length_take]; omega), hc.tk, show k + k2 = l.length by omega]
          rw [e]
          repeat first | refine nx ?_ | intro _
          exact gEr v'
      · repeat first | refine nx ?_ | intro _
        refine gBk (k + 1) ⟨by omega, by omega, fun j h1 h2 => ?_⟩ (by omega)
        by_cases e : j = k
        · rw [e]; exact c3
        · exact hn j h1 (by omega)
    · have e : cpf l l.length = l := by rw [cpf_same (Nat.le_refl _) fun j h1 h2 => hn j h1 (by omega), List.take_length]
      repeat first | refine nx ?_ | intro _
      rw [e]
      exact gEr v
instance compact_c {v : Value} {l : List (List Int)} {B B1 : List Res} [pa : PA B v (List Int) (rL rI) 26 l B1] : CtR Tryz.prog 151 [ov v, .cv (.func (.func 96) #[] #[])] B (LiS l) Value (fun v' => ov v') (fun v' => rA (rL rI) 26 v' (cpf l l.length) :: B1) := CtR.to compact_c' pa.h
def bsI (l : List (List Int)) (p : List Int) : Nat := l.findIdx fun x => decide (0 ≤ ordI x p)
theorem bsI_eq {l : List (List Int)} {p : List Int} {a : Nat} (ha : a ≤ l.length) (hlo : ∀ k, k < a → ordI (l.getD k []) p < 0) (hhi : a < l.length → 0 ≤ ordI (l.getD a []) p) : bsI l p = a := by
  unfold bsI
  have hg : ∀ k (h : k < l.length), l.getD k [] = l[k] := fun k h => by rw [List.getD_eq_getElem?_getD, List.getElem?_eq_getElem h]; rfl
  by_cases e : a < l.length
  · rw [List.findIdx_eq e]
    refine ⟨decide_eq_true (by rw [← hg a e]; exact hhi e), fun j hj => decide_eq_false ?_⟩
    have := hlo j hj
    rw [hg j (by omega)] at this; omega
  · have e2 : a = l.length := by omega
    rw [e2, List.findIdx_eq_length]
    intro x hx
    obtain ⟨k, hk, rfl⟩ := getD_mem (d := []) hx
    exact decide_eq_false (by have := hlo k (by omega); omega)
theorem bs_found {l : List (List Int)} {p : List Int} {a : Nat} (hord : l.Pairwise fun a b => ordI a b < 0) (hhi : ∀ k, a ≤ k → k < l.length → 0 ≤ ordI (l.getD k []) p) (hlo : ∀ k, k < a → ordI (l.getD k []) p < 0) : p ∈ l ↔ a < l.length ∧ ordI (l.getD a []) p = 0 := by
  have hg : ∀ k (h : k < l.length), l.getD k [] = l[k] := fun k h => by rw [List.getD_eq_getElem?_getD, List.getElem?_eq_getElem h]; rfl
  constructor
  · intro h
    obtain ⟨k, hk, rfl⟩ := getD_mem (d := []) h
    have h0 := ordI_to.self (l.getD k [])
    have hka : a ≤ k := by
      rcases Nat.lt_or_ge k a with h | h
      · have := hlo k h; omega
      · exact h
    rcases Nat.lt_or_ge a k with h2 | h2
    · have h3 := List.pairwise_iff_getElem.1 hord a k (by omega) hk h2
      have h4 := hhi a (Nat.le_refl _) (by omega)
      rw [hg k hk, hg a (by omega)] at h4
      omega
    · have e : k = a := by omega
      rw [← e]; exact ⟨hk, h0⟩
  · rintro ⟨h1, h2⟩
    rw [← ordI_to.eq _ _ h2]; exact getD_in [] h1
instance bsearch_c {l : List (List Int)} {p : List Int} {S T : SV} [i : Vw (lv (rL rI)) S l] [j : Vw (lv rI) T p] : Ct Tryz.prog 104 [S, T, .cv (.func (.func 105) #[] #[])] ((LiS l ∧ p.length ≤ 1000000) ∧ l.Pairwise fun a b => ordI a b < 0) (.tp [iv (bsI l p), bv (decide (p ∈ l))]) := by
  refine ct2 i j (ctI Tryz.call104 Tryz.func104 Tryz.ntmps104 rfl Tryz.results104 rfl [] fun h0 w0 ⟨⟨hs, hp⟩, hord⟩ => ?_)
  have hl := hs.1
  repeat first | refine nx ?_ | intro _
  refine gLp (fun s : Nat × Nat => [(9, iv s.1), (10, iv s.2)]) (fun _ => []) (fun s => s.1 ≤ s.2 ∧ s.2 ≤ l.length ∧ (∀ k, k < s.1 → ordI (l.getD k []) p < 0) ∧ ∀ k, s.2 ≤ k → k < l.length → 0 ≤ ordI (l.getD k []) p) (fun s => s.2 - s.1) (0, l.length) ⟨Nat.zero_le _, Nat.le_refl _, fun k h => absurd h (Nat.not_lt_zero _), fun k h1 h2 => absurd h2 (by omega)⟩ (fun ⟨a, b⟩ ⟨hab, hb, hlo, hhi⟩ => ?_)
  dsimp only at hab hb hlo hhi ⊢
  repeat first | refine nx ?_ | intro _
  refine gIf (fun c => ?_) fun c => ?_
  · have hh := hs.2 ((a + b) / 2 ^ 1)
    have hmid : a ≤ (a + b) / 2 ^ 1 ∧ (a + b) / 2 ^ 1 < b := by omega
    have hg : ∀ k (h : k < l.length), l.getD k [] = l[k] := fun k h => by rw [List.getD_eq_getElem?_getD, List.getElem?_eq_getElem h]; rfl
    repeat first | refine nx ?_ | intro _
    refine gIf (fun c2 => ?_) fun c2 => ?_
    · repeat first | refine nx ?_ | intro _
      refine gBk ((a + b) / 2 ^ 1 + 1, b) ⟨by dsimp only; omega, hb, fun k hk => ?_, hhi⟩ (by dsimp only; omega)
      dsimp only at hk
      rcases Nat.lt_or_ge k ((a + b) / 2 ^ 1) with h | h
      · have h3 := List.pairwise_iff_getElem.1 hord k ((a + b) / 2 ^ 1) (by omega) (by omega) h
        rw [hg k (by omega)]
        rw [hg _ (by omega)] at c2
        exact ordI_to.tr _ _ _ h3 c2
      · rw [show k = (a + b) / 2 ^ 1 by omega]; exact c2
    · repeat first | refine nx ?_ | intro _
      refine gBk (a, (a + b) / 2 ^ 1) ⟨by dsimp only; omega, by dsimp only; omega, hlo, fun k hk hk2 => ?_⟩ (by dsimp only; omega)
      dsimp only at hk
      rcases Nat.lt_or_ge ((a + b) / 2 ^ 1) k with h | h
      · have h3 := List.pairwise_iff_getElem.1 hord ((a + b) / 2 ^ 1) k (by omega) hk2 h
        rw [hg k hk2]
        rw [hg _ (by omega)] at c2
        have n1 := ordI_to.neg p l[(a + b) / 2 ^ 1]
        rcases Int.lt_or_le (ordI l[k] p) 0 with h5 | h5
        · exact absurd (ordI_to.tr _ _ _ h3 h5) c2
        · exact h5
      · rw [show k = (a + b) / 2 ^ 1 by omega]; omega
  · have hh := hs.2 a
    have eab : a = b := by omega
    subst eab
    have e1 := bsI_eq hb hlo fun h => hhi a (Nat.le_refl _) h
    have e2 := bs_found hord hhi hlo
    repeat first | refine nx ?_ | intro _
    refine ⟨by rw [e1], ?_⟩
    rw [Bool.eq_iff_iff, Bool.and_eq_true, decide_eq_true_iff, decide_eq_true_iff, decide_eq_true_iff, e2]
end Go.E3
set_option linter.unusedVariables false
set_option maxRecDepth 20000
set_option maxHeartbeats 4000000
set_option synthInstance.maxSize 1000
namespace Go.E3
open Go Go.Ear Go.Proofs
theorem ordI_swo : Sort.SWO (ltOf ordI) := ordI_to.swo id
theorem compI_C : CmpC Tryz.prog 105 (fun x : List Int => lv rI x) (fun x => x.length ≤ 1099511627776) ordI := ⟨Tryz.call105, fun {x y} qx qy {h w vs} s u => compI_c.h ⟨qx, qy⟩ s u⟩
theorem sortLI_c' {v : Value} {l : List (List Int)} {B1 : List Res} [hg : HG B1] : CtR Tryz.prog 150 [ov v, .cv (.func (.func 105) #[] #[])] (rA (rL rI) 26 v l :: B1) (l.length ≤ 1099511627776 ∧ ∀ x ∈ l, x.length ≤ 1099511627776) (Srtd ordI l) (fun _ => .tp []) (fun s => rA (rL rI) 26 v s.1 :: B1) :=
  sort1 (ρ := sortLIRen) sortLILays sortLI0Lays rfl Tryz.call150 ordI_swo compI_C
instance sortLI_c {v : Value} {l : List (List Int)} {B B1 : List Res} [pa : PA B v (List Int) (rL rI) 26 l B1] [hg : HG B1] : CtR Tryz.prog 150 [ov v, .cv (.func (.func 105) #[] #[])] B (l.length ≤ 1099511627776 ∧ ∀ x ∈ l, x.length ≤ 1099511627776) (Srtd ordI l) (fun _ => .tp []) (fun s => rA (rL rI) 26 v s.1 :: B1) := CtR.to sortLI_c' pa.h
def begL (l : List En) : List (List Int) := l.flatMap fun e => (List.range (e.ph.length + 1)).map fun n => e.ph.take n
def srtI (l : List (List Int)) : List (List Int) := srtS ordI l
def dstI (l : List (List Int)) : List (List Int) := cpf (srtI l) (srtI l).length
def begS (l : List En) : List (List Int) := dstI ([] :: begL l)
theorem srtd_I {l : List (List Int)} (s : Srtd ordI l) : s.1 = srtI l := srt_one ordI_swo (fun a b _ _ h1 h2 => by
  have n := ordI_to.neg a b
  exact ordI_to.eq a b (by omega)) s.2.1 s.2.2
theorem begL_succ {l : List En} {k : Nat} (h : k < l.length) : begL (l.take (k + 1)) = begL (l.take k) ++ (List.range ((l.getD k en0).ph.length + 1)).map fun n => (l.getD k en0).ph.take n := by
  unfold begL
  rw [List.take_succ_eq_append_getElem h, List.flatMap_append, List.getD_eq_getElem?_getD, List.getElem?_eq_getElem h]; simp
theorem begL_len {l : List En} {b : Nat} (h : ∀ e ∈ l, e.ph.length ≤ b) : (begL l).length ≤ l.length * (b + 1) := fm_le fun e he => by rw [List.length_map, List.length_range]; have := h e he; omega
theorem begL_mem {l : List En} {x : List Int} : x ∈ begL l ↔ ∃ e ∈ l, ∃ n, n ≤ e.ph.length ∧ x = e.ph.take n := by
  unfold begL
  rw [List.mem_flatMap]
  constructor
  · rintro ⟨e, he, h⟩
    obtain ⟨n, hn, rfl⟩ := List.mem_map.1 h
    exact ⟨e, he, n, by have := List.mem_range.1 hn; omega, rfl⟩
  · rintro ⟨e, he, n, hn, rfl⟩
    exact ⟨e, he, List.mem_map.2 ⟨n, List.mem_range.2 (by omega), rfl⟩⟩
instance beginnings_c {l : List En} {S : SV} {B : List Res} [i : Vw lxv S l] [hg : HG B] : CtB Tryz.prog 98 [S] B (l.length ≤ 2000 ∧ ∀ e ∈ l, e.ph.length ≤ 100) (lv (rL rI) (begS l)) := by
  refine cB1 i (ctB Tryz.call98 Tryz.func98 Tryz.ntmps98 rfl Tryz.results98 rfl [7] fun h0 w0 ⟨hl, he⟩ => ?_)
  repeat first | refine nx ?_ | intro _
  rename_i v
  have hbl := begL_len he
  have hb2 : (begL l).length ≤ 2000 * 101 := Nat.le_trans hbl (Nat.mul_le_mul_right _ hl)
  refine gLp (fun s : Nat × Value => [(11, iv s.1), (3, ov s.2)]) (fun s => [rA (rL rI) 26 s.2 ([] :: begL (l.take s.1))]) (fun s => s.1 ≤ l.length) (fun s => l.length - s.1) (0, v) (Nat.zero_le _) (fun ⟨k, u⟩ hk => ?_)
  dsimp only at hk ⊢
  repeat first | refine nx ?_ | intro _
  refine gIf (fun c => ?_) fun c => ?_
  · have hph := he _ (getD_in en0 c)
    have hkl : (begL (l.take k)).length ≤ 2000 * 101 := Nat.le_trans (begL_len (b := 100) fun e h => he e (List.mem_of_mem_take h)) (Nat.mul_le_mul_right _ (by rw [List.length_take]; omega))
    repeat first | refine nx ?_ | intro _
    rename_i v5
    refine gLp (fun s : Nat × Value => [(19, iv s.1), (3, ov s.2)]) (fun s => [rA (rL rI) 26 s.2 ([] :: begL (l.take k) ++ (List.range s.1).map fun n => (l.getD k en0).ph.take n)]) (fun s => s.1 ≤ (l.getD k en0).ph.length + 1) (fun s => (l.getD k en0).ph.length + 1 - s.1) (0, u) (Nat.zero_le _) (fun ⟨n, u2⟩ hn => ?_) (h2 := ⟨by rw [List.range_zero, List.map_nil, List.append_nil], trivial⟩)
    dsimp only at hn ⊢
    repeat first | refine nx ?_ | intro _
    refine gIf (fun c2 => ?_) fun c2 => ?_
    · have hlen : ([] :: begL (l.take k) ++ (List.range n).map fun n => (l.getD k en0).ph.take n).length = (begL (l.take k)).length + 1 + n := by
        rw [List.length_append, List.length_cons, List.length_map, List.length_range]
      have happ : ([] :: begL (l.take k) ++ (List.range n).map fun n => (l.getD k en0).ph.take n) ++ [(l.getD k en0).ph.take n] = [] :: begL (l.take k) ++ (List.range (n + 1)).map fun n => (l.getD k en0).ph.take n := by
        rw [List.range_succ, List.map_append, List.append_assoc]; rfl
      repeat first | refine nx ?_ | intro _
      rename_i u3
      rw [happ]
      exact gBk (n + 1, u3) (by dsimp only; omega) (by dsimp only; omega)
    · have en : n = (l.getD k en0).ph.length + 1 := by omega
      rw [en, List.cons_append, ← begL_succ c]
      repeat first | refine nx ?_ | intro _
      exact gBk (k + 1, u2) (by dsimp only; omega) (by dsimp only; omega)
  · rw [List.take_of_length_le (by omega)]
    have hsd : ([] :: begL l).length ≤ 1099511627776 ∧ ∀ x ∈ ([] :: begL l), x.length ≤ 1099511627776 := ⟨by rw [List.length_cons]; omega, fun x hx => by
      rcases List.mem_cons.1 hx with rfl | hx
      · exact Nat.zero_le _
      · obtain ⟨e, h1, n, h2, rfl⟩ := begL_mem.1 hx
        have := he e h1
        rw [List.length_take]; omega⟩
    repeat first | refine nx ?_ | intro _
    rename_i s
    rw [srtd_I s]
    have hpm : (srtI ([] :: begL l)).Perm ([] :: begL l) := srtS_perm _
    have hls : LiS (srtI ([] :: begL l)) := ⟨by rw [hpm.length_eq, List.length_cons]; omega, fun k => by
      by_cases hk : k < (srtI ([] :: begL l)).length
      · rcases List.mem_cons.1 (hpm.mem_iff.1 (getD_in [] hk)) with h | h
        · rw [h]; exact Nat.zero_le _
        · obtain ⟨e, h1, n, h2, h3⟩ := begL_mem.1 h
          have := he e h1
          rw [h3, List.length_take]; omega
      · rw [List.getD_eq_getElem?_getD, List.getElem?_eq_none (by omega)]; exact Nat.zero_le _⟩
    repeat first | refine nx ?_ | intro _
    trivial
theorem cpf_mem {s : List (List Int)} {x : List Int} : ∀ n, n ≤ s.length → (x ∈ cpf s n ↔ ∃ k, k < n ∧ s.getD k [] = x)
  | 0, _ => by
    constructor
    · intro h; cases h
    · rintro ⟨k, hk, _⟩; omega
  | n + 1, hn => by
    have ih := cpf_mem (s := s) (x := x) n (by omega)
    unfold cpf
    split
    · rw [List.mem_append, ih, List.mem_singleton]
      constructor
      · rintro (⟨k, hk, h⟩ | h)
        · exact ⟨k, by omega, h⟩
        · exact ⟨n, by omega, h.symm⟩
      · rintro ⟨k, hk, h⟩
        by_cases e : k = n
        · exact .inr (by rw [← h, e])
        · exact .inl ⟨k, by omega, h⟩
    · rename_i h0
      rw [ih]
      constructor
      · rintro ⟨k, hk, h⟩; exact ⟨k, by omega, h⟩
      · rintro ⟨k, hk, h⟩
        by_cases e : k = n
        · refine ⟨n - 1, by omega, ?_⟩
          have h1 : ¬ s.getD n [] ≠ s.getD (n - 1) [] := fun h => h0 (.inr h)
          rw [← h, e]
          exact (Classical.not_not.1 h1).symm
        · exact ⟨k, by omega, h⟩
theorem cpf_srt {s : List (List Int)} (hs : s.Pairwise fun a b => ¬ ordI b a < 0) : ∀ n, n ≤ s.length → (cpf s n).Pairwise fun a b => ordI a b < 0
  | 0, _ => .nil
  | n + 1, hn => by
    have ih := cpf_srt hs n (by omega)
    unfold cpf
    split
    · rename_i h0
      rw [List.pairwise_append]
      refine ⟨ih, List.pairwise_singleton _ _, fun a ha b hb => ?_⟩
      rw [List.mem_singleton.1 hb]
      obtain ⟨k, hk, rfl⟩ := (cpf_mem n (by omega)).1 ha
      have hg : ∀ k (h : k < s.length), s.getD k [] = s[k] := fun k h => by rw [List.getD_eq_getElem?_getD, List.getElem?_eq_getElem h]; rfl
      have h1 := List.pairwise_iff_getElem.1 hs k n (by omega) (by omega) hk
      rw [hg k (by omega), hg n (by omega)]
      have n1 := ordI_to.neg s[k] s[n]
      rcases Int.lt_or_le (ordI s[k] s[n]) 0 with h2 | h2
      · exact h2
      · exfalso
        have e := ordI_to.eq _ _ (show ordI s[k] s[n] = 0 by omega)
        rcases h0 with h0 | h0
        · omega
        · rw [hg n (by omega), hg (n - 1) (by omega), ← e] at h0
          by_cases ek : k = n - 1
          · subst ek; exact h0 rfl
          · have h3 := List.pairwise_iff_getElem.1 hs k (n - 1) (by omega) (by omega) (by omega)
            have h4 := List.pairwise_iff_getElem.1 hs (n - 1) n (by omega) (by omega) (by omega)
            rw [← e] at h4
            have n2 := ordI_to.neg s[k] s[n - 1]
            exact h0 (ordI_to.eq _ _ (by omega))
    · exact ih
theorem dstI_mem {l : List (List Int)} {x : List Int} : x ∈ dstI l ↔ x ∈ l := by
  unfold dstI
  rw [cpf_mem _ (Nat.le_refl _), ← (srtS_perm (c := ordI) l).mem_iff]
  constructor
  · rintro ⟨k, hk, rfl⟩; exact getD_in [] hk
  · intro h
    obtain ⟨k, hk, rfl⟩ := getD_mem (d := []) h
    exact ⟨k, hk, rfl⟩
theorem dstI_srt (l : List (List Int)) : (dstI l).Pairwise fun a b => ordI a b < 0 := cpf_srt (srtS_srt ordI_swo l) _ (Nat.le_refl _)
theorem dstI_len (l : List (List Int)) : (dstI l).length ≤ l.length := Nat.le_trans (cpf_len _ _) (Nat.le_of_eq (srtS_perm (c := ordI) l).length_eq)
def wkI (l : List En) (q : List Int) : Int := if valB l = true ∧ phB q 400 = true ∧ q ∈ begS l then bsI (begS l) q else 0
def wkE (l : List En) (q : List Int) : Int := if valB l = true ∧ phB q 400 = true then (if q ∈ begS l then 0 else 7) else 2
instance Walk_c {l : List En} {q : List Int} {S T : SV} {B : List Res} [i : Vw lxv S l] [j : Vw (lv rI) T q] [hg : HG B] : CtB Tryz.prog 44 [S, T] B (LxS l ∧ q.length ≤ 1000000) (.tp [iv (wkI l q), iv (wkE l q)]) := by
  refine cB2 i j (ctB Tryz.call44 Tryz.func44 Tryz.ntmps44 rfl Tryz.results44 rfl [] fun h0 w0 ⟨hlx, hq⟩ => ?_)
  repeat first | refine nx ?_ | intro _
  refine gIf (fun c => ?_) fun c => ?_
  · have hc : ¬ (valB l = true ∧ phB q 400 = true) := fun ⟨x, y⟩ => c.elim (fun h => h x) fun h => h y
    repeat first | refine nx ?_ | intro _
    exact ⟨(if_neg fun ⟨x, y, _⟩ => hc ⟨x, y⟩).symm, (if_neg hc).symm⟩
  · have hc : valB l = true ∧ phB q 400 = true := ⟨Classical.byContradiction fun h => c (.inl h), Classical.byContradiction fun h => c (.inr h)⟩
    obtain ⟨v1, v2⟩ := val_ent hc.1
    have hpl : l.length ≤ 2000 ∧ ∀ e ∈ l, e.ph.length ≤ 100 := ⟨by omega, fun e he => by have := (phB_gd (v2 e he).1).2; omega⟩
    have hord : (begS l).Pairwise fun a b => ordI a b < 0 := dstI_srt _
    have hbl := begL_len hpl.2
    have hb2 : (begL l).length ≤ 2000 * 101 := Nat.le_trans hbl (Nat.mul_le_mul_right _ hpl.1)
    have hls : LiS (begS l) := ⟨by
      have := dstI_len ([] :: begL l)
      rw [List.length_cons] at this
      show (dstI ([] :: begL l)).length ≤ _
      omega, fun k => by
      by_cases hk : k < (begS l).length
      · have hm : (begS l).getD k [] ∈ dstI ([] :: begL l) := getD_in [] hk
        rcases List.mem_cons.1 (dstI_mem.1 hm) with h | h
        · rw [h]; exact Nat.zero_le _
        · obtain ⟨e, h1, n, h2, h3⟩ := begL_mem.1 h
          have := hpl.2 e h1
          rw [h3, List.length_take]; omega
      · rw [List.getD_eq_getElem?_getD, List.getElem?_eq_none (by omega)]; exact Nat.zero_le _⟩
    repeat first | refine nx ?_ | intro _
    refine gIf (fun c2 => ?_) fun c2 => ?_ <;> repeat first | refine nx ?_ | intro _
    · have c2 : q ∉ begS l := by simpa using c2
      refine ⟨(if_neg fun h => c2 h.2.2).symm, ?_⟩
      unfold wkE
      rw [if_pos hc, if_neg c2]
    · have c2 : q ∈ begS l := by simpa using c2
      refine ⟨(if_pos ⟨hc.1, hc.2, c2⟩).symm, ?_⟩
      unfold wkE
      rw [if_pos hc, if_pos c2]
end Go.E3
set_option linter.unusedVariables false
set_option maxRecDepth 20000
set_option maxHeartbeats 4000000
set_option synthInstance.maxSize 1000
namespace Go.E3
open Go Go.Ear Go.Proofs
def sfAt (a b : List Fo) (i : Nat) : Bool := decide (ordI (a.getD i fo0).ph (b.getD i fo0).ph = 0) && sameF (a.getD i fo0).f (b.getD i fo0).f
def sfB (a b : List Fo) : Bool := decide (a.length = b.length) && (List.range a.length).all (sfAt a b)
class FtFo (l : List Fo) : Prop where h : ∀ e ∈ l, FtF e.f
instance {l : List Fo} [i : FtFo l] {k : Nat} : FtF (l.getD k fo0).f := by
  by_cases h : k < l.length
  · exact i.h _ (getD_in fo0 h)
  · rw [List.getD_eq_getElem?_getD, List.getElem?_eq_none (by omega)]
    exact inferInstanceAs (FtF fr0)
def FoL (l : List Fo) : Prop := l.length ≤ 1099511627776 ∧ ∀ e ∈ l, FoS e
theorem FoL.ft {l : List Fo} (h : FoL l) : FtFo l := ⟨fun e he => ⟨(h.2 e he).2.2⟩⟩
instance sameForms_c {a b : List Fo} {S T : SV} [i : Vw (lv rO') S a] [j : Vw (lv rO') T b] : Ct Tryz.prog 39 [S, T] (FoL a ∧ FoL b) (bv (sfB a b)) := by
  refine ct2 i j (ctI Tryz.call39 Tryz.func39 Tryz.ntmps39 rfl Tryz.results39 rfl [] fun h0 w0 ⟨ha, hb⟩ => ?_)
  haveI := ha.ft
  haveI := hb.ft
  have hal := ha.1
  have hbl := hb.1
  repeat first | refine nx ?_ | intro _
  refine gIf (fun c => ?_) fun c => ?_ <;> repeat first | refine nx ?_ | intro _
  · unfold sfB
    rw [decide_eq_false c]; rfl
  · have c := Classical.not_not.1 c
    refine gLp (fun k : Nat => [(5, iv k)]) (fun _ => []) (fun k => k ≤ a.length ∧ ∀ j, j < k → sfAt a b j = true) (fun k => a.length - k) 0 ⟨Nat.zero_le _, fun j hj => absurd hj (Nat.not_lt_zero _)⟩ (fun k ⟨hk, hn⟩ => ?_)
    repeat first | refine nx ?_ | intro _
    refine gIf (fun c2 => ?_) fun c2 => ?_
    · obtain ⟨x1, x2, x3⟩ := ha.2 _ (getD_in fo0 c2)
      obtain ⟨y1, y2, y3⟩ := hb.2 _ (getD_in fo0 (show k < b.length by omega))
      have hkb : k < b.length := by omega
      repeat first | refine gDs 26 26 (by rfl) (by kernel_rfl) ?_ | refine nx ?_ | intro _
      refine gIf (fun c3 => ?_) fun c3 => ?_ <;> repeat first | refine nx ?_ | intro _
      · have h1 : sfAt a b k = false := by
          unfold sfAt
          rw [Bool.and_eq_false_iff]
          exact c3.elim (fun h => .inl (decide_eq_false h)) fun h => .inr (by simpa using h)
        have h2 : (List.range a.length).all (sfAt a b) = false := List.all_eq_false.2 ⟨k, List.mem_range.2 c2, by rw [h1]; decide⟩
        unfold sfB
        rw [h2, Bool.and_false]
      · refine gBk (k + 1) ⟨by omega, fun j hj => ?_⟩ (by omega)
        by_cases e : j = k
        · subst e
          unfold sfAt
          rw [Bool.and_eq_true]
          exact ⟨decide_eq_true (Classical.byContradiction fun h => c3 (.inl h)), Classical.byContradiction fun h => c3 (.inr h)⟩
        · exact hn j (by omega)
    · repeat first | refine nx ?_ | intro _
      unfold sfB
      rw [decide_eq_true c, Bool.true_and]
      exact (List.all_eq_true.2 fun j hj => hn j (by have := List.mem_range.1 hj; omega)).symm
end Go.E3
set_option linter.unusedVariables false
set_option maxHeartbeats 4000000
namespace Go.E3
open Go Go.Ear
open Classical in
noncomputable def bSt (p : Nat) (B B2 : List Res) (D : Nat → Prop) : List Res := if D p then B2 else B
section
variable (P : Program) (n : Nat) (X : Fix) (ms : List Nat) (env : EL) (ol : List Oper) (B : List Res) (k : Kt) (p m : Nat) (B2 : List Res)
def EvSt (L : EL) (i : Nat) (o : Oper) : Option (Nat × SV) → Prop
  | some q => i ≠ p ∧ o.dst = some q.1 ∧ TriP P n X env B ol L o q.1 q.2 ∧ TriP P n X env B2 ol L o q.1 q.2
  | none => i = p ∧ o.dst = none ∧ TriV P n X env B ol L o none (fun _ => B2)
inductive GWst : EL → Nat → List Oper → Prop
  | pure {L i o rest} (q : Nat × SV) (h : EvSt P n X env ol B p B2 L i o (some q)) (g : GWst (q :: L) (i + 1) rest) : GWst L i (o :: rest)
  | ev {L i o rest} (h : EvSt P n X env ol B p B2 L i o none) (g : GWst L (i + 1) rest) : GWst L i (o :: rest)
  | fin {L rest} (g : GO P n X ms L env B2 ol rest k) : GWst L m rest
end
section
variable {P : Program} {n : Nat} {X : Fix} {ms : List Nat} {env : EL} {ol : List Oper} {B : List Res} {k : Kt} {p m : Nat} {B2 : List Res}
theorem GWst.sem {L : EL} {i : Nat} {rest : List Oper} (g : GWst P n X ms env ol B k p m B2 L i rest) :
    ∃ res : List (Option (Nat × SV)), i + res.length = m ∧ res.length ≤ rest.length ∧ (∀ j e, res[j]? = some e → ∃ o, rest[j]? = some o ∧ EvSt P n X env ol B p B2 (lcs (res.take j) ++ L) (i + j) o e) ∧ GO P n X ms (lcs res ++ L) env B2 ol (rest.drop res.length) k := by
  induction g with
  | @pure L i o rest q h g ih =>
    obtain ⟨res, e, hle, hr, hg⟩ := ih
    refine ⟨some q :: res, by simp only [List.length_cons]; omega, by simp only [List.length_cons]; omega, fun j e hj => ?_, by rw [lcs_some]; simpa using hg⟩
    cases j with
    | zero => have hj : some q = e := by simpa using hj
              subst hj
              exact ⟨o, rfl, by simpa [lcs] using h⟩
    | succ j =>
      obtain ⟨o', x, y⟩ := hr j e (by simpa using hj)
      refine ⟨o', by simpa using x, ?_⟩
      rw [List.take_succ_cons, lcs_some, show i + (j + 1) = i + 1 + j by omega]; exact y
  | @ev L i o rest h g ih =>
    obtain ⟨res, e, hle, hr, hg⟩ := ih
    refine ⟨none :: res, by simp only [List.length_cons]; omega, by simp only [List.length_cons]; omega, fun j e hj => ?_, by rw [lcs_none]; simpa using hg⟩
    cases j with
    | zero => have hj : none = e := by simpa using hj
              subst hj
              exact ⟨o, rfl, by simpa [lcs] using h⟩
    | succ j =>
      obtain ⟨o', x, y⟩ := hr j e (by simpa using hj)
      refine ⟨o', by simpa using x, ?_⟩
      rw [List.take_succ_cons, lcs_none, show i + (j + 1) = i + 1 + j by omega]; exact y
  | @fin L rest g => exact ⟨[], by simp, by simp, fun j e hj => by simp at hj, by simpa [lcs] using g⟩
theorem wst_sound {loc : EL} {idn : Nat} (hmix : P.follows .mixedOrders = true) (hc : dagC ol m (env.map (·.1)) = true) (hnd : ol.all noDefer = true) (hpm : p < m)
    (g : GWst P n X ms env ol B k p m B2 [] 0 ol) : GW P n X ms loc env B (.region idn ol.toArray true) k := ⟨fun ρ0 h1 wi si => by
  obtain ⟨res, hm0, hlen, hr, hend⟩ := g.sem
  rw [Nat.zero_add] at hm0
  have hr : ∀ j e, res[j]? = some e → ∃ o, ol[j]? = some o ∧ EvSt P n X env ol B p B2 (lcs (res.take j) ++ []) j o e := fun j e hj => by have := hr j e hj; rwa [Nat.zero_add] at this
  unfold dagC at hc
  simp only [Bool.and_eq_true] at hc
  obtain ⟨⟨hok, hall⟩, htl⟩ := hc
  have hall := fun i (hi : i < m) => by have := List.all_eq_true.1 hall i (List.mem_range.2 hi); rw [Bool.and_eq_true, Bool.not_eq_true'] at this; exact this
  have htl := fun i (o : Oper) (ho : ol[i]? = some o) => by
    have := List.all_eq_true.1 htl i (List.mem_range.2 (List.getElem?_eq_some_iff.1 ho).1)
    rw [Bool.and_eq_true, opA_eq ho] at this; exact this
  have F := okR_facts hok
  have hat : ∀ i, i < m → ∃ e, res[i]? = some e := fun i hi => ⟨_, List.getElem?_eq_getElem (by omega)⟩
  have hne : ∀ (i j : Nat) (o o' : Oper) (d : Nat), i ≠ j → ol[i]? = some o → ol[j]? = some o' → o.dst = some d → o'.dst ≠ some d := fun i j o o' d hij ho ho' hd hd' => by
    rcases Nat.lt_or_ge i j with a | a
    · exact (F j o' d ho' hd').2.2 i o a ho hd
    · exact (F i o d ho hd).2.2 j o' (by omega) ho' hd'
  have henv : ∀ i o, i < m → ol[i]? = some o → ∀ t S, (t, S) ∈ env → o.dst ≠ some t := fun i o hi ho t S ht e => by
    have a := hall i hi
    rw [opA_eq ho, e] at a
    have := a.1
    simp only at this
    rw [← Bool.not_eq_true, memN_iff] at this
    exact this (List.mem_map.2 ⟨_, ht, rfl⟩)
  refine WT.draw (K := fun ρ w => run X.c.round P X.T k .normal (mkX X.c n ρ) w) hnd ?_ fun _ _ x => x
  intro t
  unfold Region.schedule Region.linearise
  rw [hmix]
  simp only [Bool.true_or, if_true]
  generalize hw1 : ({ wi with drawn := _ } : World) = w1
  have sy0 : Sy X.h0 X.w0 loc env B ρ0 h1 w1 := by
    subst hw1
    exact si.grow ((Gr.refl si.gr.sat).drew _ (Nat.le_succ _))
  obtain ⟨ls, hl, hwp⟩ := lin_inv (P := P) (n := n) (m := m) (ops := ol.toArray) (Q := onlyN fun ρ w => run X.c.round P X.T k .normal (mkX X.c n ρ) w) (fun D ρ w => ∃ (h : PH), (Gr X.h0 X.w0 h w ∧ h1.le h) ∧ OwnB X.w0 (bSt p B B2 D) h w ∧
      (∀ i q, D i → res[i]? = some (some q) → den h q.2 (ρ q.1)) ∧ (∀ s, (∀ k o, D k → ol[k]? = some o → o.dst ≠ some s) → ρ s = ρ0 s)) (by simpa [← hm0] using hlen)
    (fun i o ho j hj => by
      have := List.all_eq_true.1 (htl i o (by simpa using ho)).1 j hj
      rw [blt_eq] at this; exact of_decide_eq_true this)
    (fun i o ho hmi j hj => by
      have ho : ol[i]? = some o := by simpa using ho
      have := (htl i o ho).2
      rw [Nat.ble_eq_true_of_le hmi] at this
      have := List.all_eq_true.1 this j (List.mem_range.2 hj)
      obtain ⟨x, hx, hxx⟩ := List.any_eq_true.1 this
      have hx := List.mem_range.1 hx
      have hsz := (List.getElem?_eq_some_iff.1 ho).1
      have ho' : ol[i - x]? = some (ol[i - x]'(by omega)) := List.getElem?_eq_getElem (by omega)
      rw [opA_eq ho'] at hxx
      exact ⟨i - x, ol[i - x]'(by omega), by omega, by omega, by rw [List.getElem?_toArray]; exact ho', by simpa using hxx⟩)
    (by
      rintro D ρ w i o ho him hi hd hcl hD ⟨h, hg, how, hF, hold⟩
      have ho : ol[i]? = some o := by simpa using ho
      have hcl : ∀ (k : Nat) (o : Oper), ol[k]? = some o → D k → ∀ j ∈ deps o, D j := fun k o hk => hcl k o (by simpa using hk)
      have fx0 : ∀ x ∈ looks ol o, ∀ t S, x = .tmp t → ((t, S) ∈ lcs (res.take i) ++ [] ∨ (t, S) ∈ env) → den h S (ρ t) := fun x hx t S hxt hmem => by
        subst hxt
        rcases hmem with hmem | hmem
        · rw [List.append_nil, List.mem_reverse, List.mem_filterMap] at hmem
          obtain ⟨qo, hqm, hent⟩ := hmem
          have hent : qo = some (t, S) := hent
          subst hent
          obtain ⟨j, hj⟩ := List.getElem?_of_mem hqm
          have hji : j < i := by
            rcases Nat.lt_or_ge j i with a | a
            · exact a
            · rw [List.getElem?_eq_none (by simp; omega)] at hj; cases hj
          rw [List.getElem?_take, if_pos hji] at hj
          obtain ⟨oj, hoj, _, hsj, _⟩ := hr j _ hj
          have hr2 := (hall i him).2
          unfold rdOk at hr2
          rw [opA_eq ho] at hr2
          have h2 := List.all_eq_true.1 hr2 _ hx
          simp only at h2
          have h3 := List.all_eq_true.1 h2 j (List.mem_range.2 hji)
          rw [opA_eq hoj, hsj] at h3
          simp only [beq_self, Bool.not_true, Bool.false_or] at h3
          exact hF j _ (hd j (by simpa using h3)) hj
        · rw [hold t fun k o' hk hok' => henv k o' (hD k hk) hok' t S hmem]
          exact (sy0.en.mem hmem).mono hg.2
      have sx : Sx X.h0 X.w0 (lcs (res.take i) ++ []) env (bSt p B B2 D) (looks ol o) ρ h w := ⟨hg.1, fx0, how⟩
      obtain ⟨e, he⟩ := hat i him
      obtain ⟨o', ho', ev⟩ := hr i e he
      rw [ho] at ho'; cases ho'
      have hbw : i ≠ p → bSt p B B2 (fun k => k = i ∨ D k) = bSt p B B2 D := fun hip => by
        unfold bSt
        by_cases hDp : D p
        · rw [if_pos (.inr hDp), if_pos hDp]
        · rw [if_neg (fun x => x.elim (fun e => hip e.symm) hDp), if_neg hDp]
      have hrs : ∀ (d : Nat) (v : Value) (h' : PH), h.le h' → o.dst = some d → (∀ j q, D j → res[j]? = some (some q) → den h' q.2 (upd ρ d v q.1)) ∧ (∀ sl, (∀ k o', (k = i ∨ D k) → ol[k]? = some o' → o'.dst ≠ some sl) → upd ρ d v sl = ρ0 sl) := fun d v h' hle hod => by
        refine ⟨fun j q hDj hq => ?_, fun sl hs' => ?_⟩
        · have hji : i ≠ j := fun e => hi (e ▸ hDj)
          obtain ⟨oj, hoj, _, hsj, _⟩ := hr j _ hq
          rw [upd_ne _ _ fun e => hne i j o oj d hji ho hoj hod (by rw [hsj, e])]
          exact (hF j q hDj hq).mono hle
        · rw [upd_ne _ _ fun e => hs' i o (.inl rfl) ho (by rw [e]; exact hod)]
          exact hold sl fun k o' hk hok' => hs' k o' (.inr hk) hok'
      cases e with
      | some q =>
        obtain ⟨hip, hdq, hT1, hT2⟩ := ev
        have hTT : TriP P n X env (bSt p B B2 D) ol (lcs (res.take i) ++ []) o q.1 q.2 := by
          unfold bSt
          split
          · exact hT2
          · exact hT1
        refine (hTT ρ h w sx).mono ?_
        rintro ρ' w' ⟨v, h', rfl, gr, hv⟩
        obtain ⟨r1, r2⟩ := hrs q.1 v h' gr.le hdq
        refine ⟨h', ⟨hg.1.trans gr, hg.2.trans gr.le⟩, (by rw [hbw hip]; exact how.grow gr), fun j q' hj hq' => ?_, r2⟩
        by_cases hji : j = i
        · subst hji; rw [he] at hq'; cases hq'; rw [upd_at]; exact hv
        · exact r1 j q' (hj.resolve_left hji) hq'
      | none =>
        obtain ⟨rfl, hdq, hT1⟩ := ev
        have hbw1 : bSt i B B2 D = B := by unfold bSt; exact if_neg hi
        have hbw2 : bSt i B B2 (fun k => k = i ∨ D k) = B2 := by unfold bSt; exact if_pos (Or.inl rfl)
        rw [hbw1] at how sx
        refine (hT1 ρ h w ⟨hg.1, sx.fx, how⟩).mono ?_
        rintro ρ' w' ⟨v, h', ⟨rfl, hv⟩, hgr, hle, _, _, hob⟩
        refine ⟨h', ⟨hgr, hg.2.trans hle⟩, (by rw [hbw2]; exact hob), fun j q hj hq => ?_, fun sl hs' => hold sl fun k o' hk hok' => hs' k o' (.inr hk) hok'⟩
        have hji : j ≠ i := fun e => by rw [e, he] at hq; cases hq
        exact (hF j q (hj.resolve_left hji) hq).mono hle)
    (by
      rintro D D' ρ w hDD ⟨h, a, b, c⟩
      have : D = D' := funext fun k => propext (hDD k)
      subst this
      exact ⟨h, a, b, c⟩)
    (by
      rintro D ρ w hall2 hD ⟨h, hg, how, hF, hold⟩
      have hlo : ∀ l : List (Option (Nat × SV)), (∀ q, some q ∈ l → den h q.2 (ρ q.1)) → EnvOk h ρ (l.filterMap id) := fun l => by
        induction l with
        | nil => exact fun _ => trivial
        | cons q l ih =>
          cases q with
          | none => exact fun a => by simpa using ih fun q hq => a q (List.mem_cons_of_mem _ hq)
          | some q =>
            intro a
            show EnvOk h ρ (q :: l.filterMap id)
            exact ⟨a q (List.mem_cons_self ..), ih fun q hq => a q (List.mem_cons_of_mem _ hq)⟩
      have hloc : EnvOk h ρ (lcs res ++ []) := by
        rw [List.append_nil]
        have : lcs res = (res.reverse.filterMap id) := by rw [List.filterMap_reverse]
        rw [this]
        refine hlo _ fun q hq => ?_
        obtain ⟨i, hi⟩ := List.getElem?_of_mem (List.mem_reverse.1 hq)
        have him : i < m := by rw [← hm0]; exact (List.getElem?_eq_some_iff.1 hi).1
        exact hF i q (hall2 i him) hi
      have hen : EnvOk h ρ env := (sy0.en.mono hg.2).ext fun p hp => (hold p.1 fun k o' hk hok' => henv k o' (hD k hk) hok' p.1 p.2 hp).symm
      have hds : ∀ (ex : List Nat), (∀ e ∈ ex, ∃ j o, j < m ∧ ol[j]? = some o ∧ o.dst = some e) → okR (ol.drop m) (ex ++ (lcs res).map (·.1)) (env.map (·.1)) = true := fun ex hex =>
        okR_tail hok (fun e he => by
          rcases List.mem_append.1 he with x | x
          · exact hex e x
          · obtain ⟨q, hq, rfl⟩ := List.mem_map.1 x
            rw [List.mem_reverse, List.mem_filterMap] at hq
            obtain ⟨qo, hqm, hq2⟩ := hq
            have hq2 : qo = some q := hq2
            subst hq2
            obtain ⟨j, hj⟩ := List.getElem?_of_mem hqm
            obtain ⟨o, ho, _, hod, _⟩ := hr j _ hj
            exact ⟨j, o, by rw [← hm0]; exact (List.getElem?_eq_some_iff.1 hj).1, ho, hod⟩)
      have close : ∀ {L : EL} {Bx : List Res}, GO P n X ms L env Bx ol (ol.drop res.length) k → okR (ol.drop m) (L.map (·.1)) (env.map (·.1)) = true → EnvOk h ρ L → OwnB X.w0 Bx h w → wpOps P ol.toArray (toQ n (onlyN fun ρ w => run X.c.round P X.T k .normal (mkX X.c n ρ) w)) (List.range' m (ol.toArray.size - m)) (mk n ρ) w := fun {L Bx} hgo hk hL hB => by
        have hG := hgo.p (by rw [hm0]; exact hk) ρ h w ⟨hg.1, hL, hen, hB⟩
        rw [hm0] at hG
        have := wpList_of_Ops (Q := onlyN fun ρ w => run X.c.round P X.T k .normal (mkX X.c n ρ) w) (fun _ _ h => h) (ol.drop m) ρ w hG
        rw [← wpOps_eq_wpList (ol.drop m) m (by intro j; simp)] at this
        simpa using this
      have hDp := hall2 p hpm
      have hbw : bSt p B B2 D = B2 := by unfold bSt; exact if_pos hDp
      rw [hbw] at how
      refine close hend ?_ hloc how
      have := hds [] fun e he => by cases he
      simpa using this)
    ol.toArray.size t (Array.replicate ol.toArray.size false) [] (by simp) (by intro i o ho hi; simp [Array.getElem?_replicate] at hi) (by intro i hi; simp [Array.getElem?_replicate] at hi)
    (by unfold left; exact Nat.le_trans (List.length_filter_le _ _) (by simp))
  rw [hl]
  simp only [List.reverse_nil, List.nil_append]
  have hD0 : ∀ i, ¬ (Array.replicate ol.toArray.size false)[i]? = some true := fun i => by rw [Array.getElem?_replicate]; split <;> simp
  refine hwp ρ0 w1 ⟨h1, ⟨sy0.gr, PH.le.refl h1⟩, by
    have e2 : bSt p B B2 (fun i => (Array.replicate ol.toArray.size false)[i]? = some true) = B := by
      unfold bSt
      exact if_neg (hD0 p)
    rw [e2]; exact sy0.ow, (fun i q hi => absurd hi (hD0 i)), fun _ _ => rfl⟩⟩
theorem gWst (sz p m : Nat) (B2 : List Res) {idn : Nat} {loc : EL} [mx : MixO P] (hs : Nat.beq ol.length sz = true) (c : (dagC ol m (env.map (·.1)) && ol.all noDefer && Nat.blt p m) = true) (g : GWst P n X ms env ol B k p m B2 [] 0 ol) : GW P n X ms loc env B (.region idn ol.toArray true) k := by
  simp only [Bool.and_eq_true] at c
  exact wst_sound mx.h c.1.1 c.1.2 (ltZ c.2) g
section
variable {L loc : EL} {i d : Nat} {op : Op} {t et : TypeId} {ty : TypeId} {pos : String} {af : Array Edge} {rest : List Oper} {sd : Prop} {S : SV} {x o2 : Operand}
instance [e1 : RflE (Nat.beq i p) false] [st : St P n true L env B ms d op sd S] [st2 : St P n true L env B2 ms d op sd S] : Nx (GWst P n X ms env ol B k p m B2 L i (⟨some d, op, ty, pos, af, none⟩ :: rest)) sd (GWst P n X ms env ol B k p m B2 ((d, S) :: L) (i + 1) rest) := ⟨fun hs g => .pure (d, S) ⟨neZ e1.h, rfl, triQ (st := st) hs, triQ (st := st2) hs⟩ g⟩
theorem gWstS {T : SV} {v : Value} {o sz : Nat} {l l' cs : List SV} {e : TypeId} {B' : List Res} {o1 : Operand} [lx : Lu n true L env o1 T] [pl : Pl T B v o] [pv : PV B v l e B'] [ly : Lu n true L env o2 (.ag cs)] [oc : O1L cs] [sp : Spl l o cs l'] [tz : TZ P t sz] [ml : RflE cs.length sz] (hp : i = p) (g : GWst P n X ms env ol B k p m (rV v l' e :: B') L (i + 1) rest) : GWst P n X ms env ol B k p m (rV v l' e :: B') L i (⟨none, .store t o1 o2, ty, pos, af, none⟩ :: rest) := .ev ⟨hp, rfl, fun ρ h w s => by
  have hx := lx.h rfl ((s.sub (os' := [o1]) (fun x hx => by simp [looks, Op.operands] at hx ⊢; exact .inl hx) (fun _ h => h)).fx o1 (by simp))
  obtain ⟨vs, hy, uc⟩ := ly.h rfl ((s.sub (os' := [o2]) (fun x hx => by simp [looks, Op.operands] at hx ⊢; exact .inr hx) (fun _ h => h)).fx o2 (by simp))
  have ow := pv.h.own s.ow
  obtain ⟨b, arr, ev_, hb, ud⟩ := (ow.at 0 rfl).1
  have hsz := ud.length
  simp only [Array.length_toList] at hsz
  have hfit := sp.h.2
  have hc := uc.length
  have hm := ml.h
  have hfb := (ow.at 0 rfl).2 b ev_
  obtain ⟨y, hy2, hyf⟩ := pv.h.fp _ (List.mem_cons_self ..) b ev_
  have sy : Sy X.h0 X.w0 [] [] (rV v l e :: B') ρ h w := ⟨s.gr, trivial, trivial, ow⟩
  refine OpG.plain (OpW.storeA tz.h (by omega) (pl.h hx ev_) hy (uc.one oc.h) hb (by omega) fun w' p => ?_)
  obtain ⟨h', e1, e2, e3, e4, e5, e6⟩ := triM_put (B2 := rV v l' e :: B') s p hfb.1 (hfb.2.1 rfl) ⟨y, hy2, hyf⟩ (own_put (r' := rV v l' e) rfl sy p ⟨b, _, ev_, p.at_, splice_den ud uc sp.h.1 sp.h.2⟩ ev_ fun i hi => hi).ow
  exact ⟨undef, h', ⟨rfl, rfl⟩, e2, e3, fun _ => e4 rfl, fun _ => e5 rfl, e6⟩⟩ g
theorem gWstE (h : i = m) (g : GO P n X ms L env B2 ol rest k) : GWst P n X ms env ol B k p m B2 L i rest := by
  subst h
  exact .fin g
end
end
end Go.E3
set_option linter.unusedVariables false
set_option maxRecDepth 20000
set_option maxHeartbeats 4000000
set_option synthInstance.maxSize 1000
namespace Go.E3
open Go Go.Ear Go.Proofs
instance part_c {n d : Int} : Ct Tryz.prog 54 [iv n, iv d] (-9223372036854775808 ≤ n ∧ n ≤ 9223372036854775807 ∧ -9223372036854775808 ≤ d ∧ d ≤ 9223372036854775807 ∧ d ≠ 0) (kk ((n : Rat) / (d : Rat))) := by
  refine (ctI Tryz.call54 Tryz.func54 Tryz.ntmps54 rfl Tryz.results54 rfl [4] fun h0 w0 h => ?_)
  repeat first | refine nx ?_ | intro _
  exact ⟨trivial, trivial, trivial⟩
abbrev qx (n d : Int) : Rat := (n : Rat) / (d : Rat)
@[reducible] def exL : List En := [⟨⟨#[97]⟩, [1], frK (qx 1 2)⟩, ⟨⟨#[97]⟩, [2], frK (qx 1 2)⟩, ⟨⟨#[98]⟩, [3], frK (qx 1 1)⟩]
@[reducible] def exR : List Rw := [⟨[1], [4], [], [3], frK (qx 1 3)⟩]
instance example_c : Ct Tryz.prog 52 [] True (.tp [.ag [lv rE exL], lv rR exR]) := by
  refine (ctI Tryz.call52 Tryz.func52 Tryz.ntmps52 rfl Tryz.results52 rfl [0, 2] fun h0 w0 h => ?_)
  iterate 26 (first | refine nx ?_ | intro _)
  rename_i v0 v2
  refine gWst 9 7 8 [rV v0 [lv rE exL] 24, rV v2 [lv rE exL] 24] (by rfl) (by kernel_rfl) ?_
  repeat first | refine nx ?_ | intro _
  refine gWstS (v := v0) (o := 0) (e := 24) (sz := 1) (B' := [rV v2 [lv rE exL] 24]) rfl ?_
  refine gWstE rfl ?_
  repeat first | refine nx ?_ | intro _
  exact ⟨trivial, trivial⟩
theorem ex_val : valB exL = true := by decide +kernel
theorem ex_rul : rulB exR = true := by decide +kernel
def wA : ByteArray := ⟨#[97]⟩
def wB : ByteArray := ⟨#[98]⟩
def exC : List (List En) := chs (owns exL [wA, wB])
def exP : List Fo := [⟨[2, 3], frK (qx 1 2)⟩, ⟨[1, 3], frK (qx 1 3)⟩, ⟨[4, 3], frK (qx 1 6)⟩]
def exA : List Fo := [⟨[1, 3], frK (qx 2 3)⟩, ⟨[4, 3], frK (qx 1 3)⟩]
theorem ex_pr : sfB (prL exL exR [wA, wB]) exP = true := by decide +kernel
theorem ex_prE : prE exL exR [wA, wB] = 0 := by decide +kernel
theorem ex_ap : sfB (appL exR [1, 3]) exA = true := by decide +kernel
theorem ex_apE : appE exR [1, 3] = 0 := by decide +kernel
theorem ex_wg : sameF (frK (wgT exL exR [wA, wB] [4, 3])) (frK (qx 1 6)) = true := by decide +kernel
theorem ex_wgE : wgE exL exR [wA, wB] [4, 3] = 0 := by decide +kernel
theorem ex_rd : (rdL exL exR [4, 3] 2).length = 1 := by decide +kernel
theorem ex_rdw : ordS ((rdL exL exR [4, 3] 2).getD 0 rg0).ws [wA, wB] = 0 := by decide +kernel
theorem ex_rdE : rdE exL exR [4, 3] = 0 := by decide +kernel
theorem ex_wk : wkI exL [3] = 3 := by decide +kernel
theorem ex_wkE : wkE exL [3] = 0 := by decide +kernel
end Go.E3
set_option linter.unusedVariables false
set_option maxRecDepth 20000
set_option maxHeartbeats 4000000
set_option synthInstance.maxSize 1000
namespace Go.E3
open Go Go.Ear Go.Proofs
theorem ex_lx : LxS exL := ⟨by decide, fun e he => by
  have ft := fun q => (inferInstance : FtF (frK q)).h
  have h : ∀ e ∈ exL, (e.w.size ≤ 1000000 ∧ e.ph.length ≤ 1000000) ∧ bf e.f ≤ 1000 := by decide +kernel
  have h2 : ∀ e ∈ exL, ∃ q, e.f = frK q := by
    intro e he
    rcases List.mem_cons.1 he with rfl | he
    · exact ⟨_, rfl⟩
    · rcases List.mem_cons.1 he with rfl | he
      · exact ⟨_, rfl⟩
      · rcases List.mem_cons.1 he with rfl | he
        · exact ⟨_, rfl⟩
        · exact (List.not_mem_nil he).elim
  obtain ⟨q, hq⟩ := h2 e he
  exact ⟨(h e he).1, (h e he).2, by rw [hq]; exact ft q⟩⟩
theorem ex_rw : exR.length ≤ 1000000 ∧ ∀ x ∈ exR, RwS x ∧ bf x.f ≤ 1000 := ⟨by decide, fun x hx => by
  have ft := fun q => (inferInstance : FtF (frK q)).h
  rcases List.mem_cons.1 hx with rfl | hx
  · exact ⟨⟨by decide, by decide, by decide, by decide, by decide +kernel, ft _⟩, by decide +kernel⟩
  · exact (List.not_mem_nil hx).elim⟩
theorem ex_pn : PnS exL exR [wA, wB] := ⟨ex_lx, ex_rw, .inl (by decide), by decide, by decide⟩
theorem ex_re : ReS exL exR [4, 3] 2 := ⟨ex_lx, ex_rw, by decide, by decide, by decide, .inl (by decide)⟩
theorem fol_K {b : Bag (List Int)} (h : ∀ p, hasB b p → p.length ≤ 1099511627776 ∧ bq (tot b p) ≤ 60000000) (hn : cnt b ≤ 1000000) : FoL (srtF b) := ⟨by
  unfold srtF
  rw [(srtS_perm (c := cmpFo) (fosB b)).length_eq]
  unfold fosB
  rw [List.length_map]
  exact Nat.le_trans hn (by decide), fun x hx => FoS_fos h x ((srtS_perm (c := cmpFo) (fosB b)).mem_iff.1 hx)⟩
instance Read_i {l : List En} {r : List Rw} {q : List Int} {most : Nat} {k : Int} {S T U : SV} {B : List Res} [x : IN k most] [i : Vw lxv S l] [j : Vw (lv rR) T r] [m : Vw (lv rI) U q] [hg : HG B] : CtB Tryz.prog 26 [S, T, U, iv k] B (ReS l r q most) (.tp [lv rRg (rdL l r q most), iv (rdE l r q)]) := by
  rw [x.e]
  exact Read_c
theorem fol_lit (l : List (List Int × Rat)) (hl : l.length ≤ 1000) (h : ∀ x ∈ l, x.1.length ≤ 1000 ∧ bq x.2 ≤ 1000) : FoL (l.map fun x => ⟨x.1, frK x.2⟩) := ⟨by rw [List.length_map]; omega, fun e he => by
  obtain ⟨x, hx, rfl⟩ := List.mem_map.1 he
  have ft := (inferInstance : FtF (frK x.2)).h
  have h1 := h x hx
  exact ⟨by show x.1.length ≤ _; omega, by show bf (frK x.2) ≤ _; rw [bf_frK]; omega, ft⟩⟩
theorem fol_P : FoL exP := fol_lit [([2, 3], qx 1 2), ([1, 3], qx 1 3), ([4, 3], qx 1 6)] (by decide) (by decide +kernel)
theorem fol_A : FoL exA := fol_lit [([1, 3], qx 2 3), ([4, 3], qx 1 3)] (by decide) (by decide +kernel)
theorem fol_bag {b : Bag (List Int)} (h : ∀ x ∈ b, x.1.length ≤ 1000 ∧ bq (tot b x.1) ≤ 1000) (hn : cnt b ≤ 1000) : FoL (srtF b) := fol_K (fun p ⟨w, hp⟩ => by have h1 : p.length ≤ 1000 ∧ bq (tot b p) ≤ 1000 := h _ hp; omega) (by omega)
theorem prL_eq : prL exL exR [wA, wB] = srtF (prB exR exC) := if_pos (by decide +kernel)
theorem appL_eq : appL exR [1, 3] = srtF (ats exR [1, 3] 2 2) := if_pos (by decide +kernel)
theorem fol_pr : FoL (prL exL exR [wA, wB]) := by
  rw [prL_eq]
  exact fol_bag (by decide +kernel) (by decide +kernel)
theorem fol_ap : FoL (appL exR [1, 3]) := by
  rw [appL_eq]
  exact fol_bag (by decide +kernel) (by decide +kernel)
instance known_c {B : List Res} [hg : HG B] : CtB Tryz.prog 17 [] B True (bv true) := by
  refine (ctB Tryz.call17 Tryz.func17 Tryz.ntmps17 rfl Tryz.results17 rfl [1, 11] fun h0 w0 _ => ?_)
  have h1 := ex_pn
  have h2 := ex_re
  have h3 := ex_lx
  have h4 := ex_rw
  have h6 : exR.length ≤ 1000000 ∧ ([1, 3] : List Int).length ≤ 25 ∧ ∀ x ∈ exR, RwS x ∧ bf x.f ≤ 1000 := ⟨ex_rw.1, by decide, ex_rw.2⟩
  have h7 : LxS exL ∧ ([3] : List Int).length ≤ 1000000 := ⟨ex_lx, by decide⟩
  have h8 : PnS exL exR [wA, wB] ∧ ([4, 3] : List Int).length ≤ 1000000 := ⟨ex_pn, by decide⟩
  have h9 : exR.length ≤ 1099511627776 ∧ ∀ x ∈ exR, RwS x := ⟨by decide, fun x hx => (ex_rw.2 x hx).1⟩
  have h5 := fun x hx => (ex_rw.2 x hx).1
  repeat first | refine nx ?_ | intro _
  refine gIf (fun c => ?_) fun c => ?_
  · exfalso
    have e1 := ex_prE
    have e2 := ex_apE
    have e3 := ex_rdE
    have e4 := ex_wkE
    have e5 := ex_wgE
    have e6 := ex_val
    have e7 := ex_rul
    exact c.elim (fun c => c.elim (fun c => c.elim (fun c => c.elim (fun c => c.elim (fun c => c.elim (fun c => c e1) fun c => c e2) fun c => c e3) fun c => c e4) fun c => c e5) fun c => c e6) fun c => c e7
  · have f1 : FoL (prL exL exR [wA, wB]) ∧ FoL exP := ⟨fol_pr, fol_P⟩
    have f2 : FoL (appL exR [1, 3]) ∧ FoL exA := ⟨fol_ap, fol_A⟩
    have f3 : ((rdL exL exR [4, 3] 2).getD 0 rg0).ws.length ≤ 1099511627776 ∧ ([wA, wB] : List ByteArray).length ≤ 1099511627776 := by decide +kernel
    have f4 : bq (wgT exL exR [wA, wB] [4, 3]) ≤ 1000 := by decide +kernel
    have f5 : bf (frK (wgT exL exR [wA, wB] [4, 3])) ≤ 1000 := by rw [bf_frK]; exact f4
    have f6 : bq (qx 1 6) ≤ 1000 := by decide +kernel
    repeat first | refine gDs 47 46 (by rfl) (by kernel_rfl) ?_ | refine nx ?_ | intro _
    refine nx ?_ (fun _ => ⟨Nat.le_trans f4 (by decide), Nat.le_trans f6 (by decide)⟩)
    repeat first | refine nx ?_ | intro _
    have g : (sfB (prL exL exR [wA, wB]) exP && sfB (appL exR [1, 3]) exA && decide ((rdL exL exR [4, 3] 2).length = 1) && decide (ordS ((rdL exL exR [4, 3] 2).getD 0 rg0).ws [wA, wB] = 0) && decide (wkI exL [3] = 3) && sameF (frK (wgT exL exR [wA, wB] [4, 3])) (frK (qx 1 6))) = true := by
      rw [ex_pr, ex_ap, decide_eq_true ex_rd, decide_eq_true ex_rdw, decide_eq_true ex_wk, ex_wg]; rfl
    exact g
end Go.E3
