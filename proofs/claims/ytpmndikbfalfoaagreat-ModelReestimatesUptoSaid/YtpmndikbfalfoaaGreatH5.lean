/- H5: a part of the proofs about package model: how the program's functions run, and what they compute, for every input. -/
import Derived.Test.YtpmndikbfalfoaaGreatK11
set_option linter.all false
set_option linter.unusedVariables false
set_option maxRecDepth 20000
set_option maxHeartbeats 4000000
set_option synthInstance.maxSize 1000
namespace Go.E3
open Go Go.Ear Go.Proofs
structure POk (m : Md) (o path : List Int) : Prop where
  l : path.length = o.length
  i : ∀ k, k < o.length → 0 ≤ path.getD k 0 ∧ (path.getD k 0).toNat < m.start.length
def gW (t : Tr) (p : List Int) (k : Nat) : Fr := if k = 0 then t.m.start.getD (Go.Ear.pa p 0) fr0 else frK (wF t p k)
theorem gW_zero (t : Tr) (p : List Int) : gW t p 0 = t.m.start.getD (p.getD 0 0).toNat fr0 := rfl
theorem gW_pos (t : Tr) (p : List Int) {k : Nat} (h : 0 < k) : gW t p k = frK (wF t p k) := if_neg (by omega)
theorem wF_step {t : Tr} {p : List Int} {k : Nat} (h : 0 < k) : wF t p k * ((t.m.move.getD (p.getD (k - 1) 0).toNat []).getD (p.getD k 0).toNat fr0).rat * ((t.m.say.getD (p.getD k 0).toNat []).getD (t.o.getD k 0).toNat fr0).rat = wF t p (k + 1) := by
  obtain ⟨j, rfl⟩ : ∃ j, k = j + 1 := ⟨k - 1, by omega⟩
  rfl
theorem wF_first (t : Tr) (p : List Int) : (t.m.start.getD (p.getD 0 0).toNat fr0).rat * ((t.m.say.getD (p.getD 0 0).toNat []).getD (t.o.getD 0 0).toNat fr0).rat = wF t p 1 := rfl
theorem wF_bq {t : Tr} {p : List Int} {W : Nat} (w : MdW W t.m) (hW : 1 ≤ W) : ∀ k, bq (wF t p k) ≤ (2 * k + 1) * W
  | 0 => by have := w.st (Go.Ear.pa p 0); show bq ((t.m.start.getD (Go.Ear.pa p 0) fr0).rat) ≤ _; omega
  | 1 => by
    have h1 := w.st (Go.Ear.pa p 0); have h2 := w.sy (Go.Ear.pa p 0) (t.o.getD 0 0).toNat
    have := bq_mul (t.m.start.getD (Go.Ear.pa p 0) fr0).rat (sayT t (Go.Ear.pa p 0) 0)
    show bq (_ * _) ≤ _
    unfold sayT at *; omega
  | k + 2 => by
    have h1 := wF_bq w hW (t := t) (p := p) (k + 1); have h2 := w.sy (Go.Ear.pa p (k + 1)) (t.o.getD (k + 1) 0).toNat; have h3 := w.mv (Go.Ear.pa p k) (Go.Ear.pa p (k + 1))
    have h4 := bq_mul (wF t p (k + 1) * moveT t (Go.Ear.pa p k) (Go.Ear.pa p (k + 1))) (sayT t (Go.Ear.pa p (k + 1)) (k + 1))
    have h5 := bq_mul (wF t p (k + 1)) (moveT t (Go.Ear.pa p k) (Go.Ear.pa p (k + 1)))
    show bq (_ * _ * _) ≤ _
    unfold sayT moveT at *
    rw [show 2 * (k + 2) + 1 = (2 * (k + 1) + 1) + 2 by omega, Nat.add_mul]
    omega
section
variable {m : Md} {o path : List Int} {S T U : SV}
instance rWeight_c [i : VM S m] [j : Vw (lv rI) T o] [k : Vw (lv rI) U path] : Ct Tryz.prog 27 [S, T, U] (TOk ⟨m, o⟩ ∧ POk m o path ∧ MdW 100 m ∧ MdB 100000 m) (kk (weightT ⟨m, o⟩ path)) := by
  haveI := i.t
  refine ct3 i.v j k (ctI Tryz.call27 Tryz.func27 Tryz.ntmps27 rfl Tryz.results27 rfl [] fun h0 w0 ⟨tk, pk, hw, hb⟩ => ?_)
  have hn := tk.n
  have hmv := tk.mv
  have hfn := tk.fin
  have hsl := tk.say
  have hpl := pk.l
  dsimp only at hn hmv hfn hsl
  repeat first | refine nx ?_ | intro _
  refine gIf (fun c => ?_) fun c => ?_
  · repeat first | refine nx ?_ | intro _
    unfold weightT; rw [if_pos c, frK_zero]; (repeat' (first | refine And.intro ?_ ?_ | trivial | rfl | omega))
  have hp0 := pk.i 0 (by omega)
  have hwf := fun k => wF_bq (t := ⟨m, o⟩) (p := path) hw (by decide) k
  repeat first | refine nx ?_ | intro _
  rename_i ν
  have gmv := ge_of hmv
  have gfn := ge_of hfn
  have gsl := ge_of hsl
  have gpl := ge_of hpl
  clear hmv hfn hsl hpl
  refine gLp (fun k : Nat => [(8, iv k)]) (fun k => [rV (ν 7).v [bv (gW ⟨m, o⟩ path k).neg, lv rU (gW ⟨m, o⟩ path k).n, lv rU (gW ⟨m, o⟩ path k).d] 31]) (fun k => k ≤ o.length) (fun k => o.length - k) 0 (Nat.zero_le _) (fun k hk => ?_) (h2 := by rw [gW_zero]; (repeat' (first | refine And.intro ?_ ?_ | trivial | rfl | omega)))
  repeat first | refine nx ?_ | intro _
  refine gIf (fun c1 => ?_) fun c1 => ?_
  · have hpk := pk.i k c1
    have hsi := tk.sayi _ k hpk.2 c1
    have hws := hb.syb (path.getD k 0).toNat (o.getD k 0).toNat
    dsimp only at hsi
    repeat first | refine nx ?_ | intro _
    refine gIf (fun c2 => ?_) fun c2 => ?_
    · have hpj := pk.i (k - 1) (by omega)
      have hmi := ge_of (tk.mvi _ hpj.2)
      have hwm := hb.mvb (path.getD (k - 1) 0).toNat (path.getD k 0).toNat
      have hwk := hwf k
      have hst := wF_step (t := ⟨m, o⟩) (p := path) (k := k) c2
      have hmq := bq_mul (wF ⟨m, o⟩ path k) ((m.move.getD (path.getD (k - 1) 0).toNat []).getD (path.getD k 0).toNat fr0).rat
      have hm2 := hw.mv (path.getD (k - 1) 0).toNat (path.getD k 0).toNat
      dsimp only at hmi hst
      rw [gW_pos ⟨m, o⟩ path c2]
      repeat first | refine nx ?_ | intro _
      rw [hst, ← gW_pos ⟨m, o⟩ path (Nat.succ_pos k)]
      exact gBk (k + 1) (by omega) (by omega)
    · have hk0 : k = 0 := by omega
      subst hk0
      have hsb := hb.sb (path.getD 0 0).toNat
      rw [gW_zero]
      dsimp only
      repeat first | refine nx ?_ | intro _
      have hst := wF_first ⟨m, o⟩ path
      dsimp only at hst
      rw [hst, ← gW_pos ⟨m, o⟩ path Nat.zero_lt_one]
      exact gBk 1 (by omega) (by omega)
  · have e : k = o.length := by omega
    subst e
    have hpj := pk.i (o.length - 1) (by omega)
    have hwk := hwf o.length
    have hfb := hb.fb (path.getD (o.length - 1) 0).toNat
    rw [gW_pos ⟨m, o⟩ path (by omega)]
    repeat first | refine nx ?_ | intro _
    unfold weightT; rw [if_neg c]; (repeat' (first | refine And.intro ?_ ?_ | trivial | rfl | omega))
end
theorem POk.of {m : Md} {o p : List Int} (h : p ∈ pathsL m.start.length o.length) : POk m o p := by
  have hl := paths_len h
  refine ⟨hl, fun k hk => ?_⟩
  have := paths_all h (p.getD k 0) (getD_mem' p 0 (by omega))
  omega
theorem MdW.up {a b : Nat} {m : Md} (w : MdW a m) (h : a ≤ b) : MdW b m := ⟨fun i => Nat.le_trans (w.st i) h, fun i j => Nat.le_trans (w.mv i j) h, fun i => Nat.le_trans (w.fi i) h, fun i j => Nat.le_trans (w.sy i j) h⟩
theorem weightT_bq {t : Tr} {p : List Int} {W : Nat} (w : MdW W t.m) (hW : 1 ≤ W) : bq (weightT t p) ≤ (2 * t.o.length + 2) * W := by
  unfold weightT
  split
  · rw [bq_zero]; exact Nat.mul_pos (by omega) hW
  · have h1 := wF_bq w hW (t := t) (p := p) t.o.length
    have h2 := w.fi (Go.Ear.pa p (t.o.length - 1))
    have h3 := bq_mul (wF t p t.o.length) (t.m.fin.getD (Go.Ear.pa p (t.o.length - 1)) fr0).rat
    rw [show 2 * t.o.length + 2 = (2 * t.o.length + 1) + 1 by omega, Nat.add_mul]; omega
theorem fair_all' {m : Md} {o : List Int} {s f : Nat} (ft : FtM m) (h : fairB m o s f = true) : Good m s ∧ o.length ≤ f ∧ checkE [m] [o] = 0 := by
  have := fair_all h
  exact ⟨Good.of ft this.1 this.2.2, this.2.1, this.2.2⟩
end Go.E3
