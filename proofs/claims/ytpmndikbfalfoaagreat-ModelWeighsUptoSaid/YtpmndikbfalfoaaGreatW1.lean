/- W1: a part of the proofs about package model: how the program's functions run, and what they compute, for every input. -/
import Derived.Test.YtpmndikbfalfoaaGreatH15
import Derived.Test.YtpmndikbfalfoaaGreatP8
set_option linter.all false
set_option linter.unusedVariables false
set_option maxRecDepth 20000
set_option maxHeartbeats 8000000
set_option synthInstance.maxSize 1000
namespace Go.E3
open Go Go.Ear Go.Proofs
def badP (m : Md) (o p : List Int) : Prop := p.length ≠ o.length ∨ p.any (offS (m.start.length : Int)) = true
instance {m : Md} {o p : List Int} : Decidable (badP m o p) := inferInstanceAs (Decidable (_ ∨ _))
def wgtE (m : Md) (o p : List Int) : Int := if checkE [m] [o] ≠ 0 then checkE [m] [o] else if badP m o p then 2 else 0
def wgtM (m : Md) (o p : List Int) : Rat := if wgtE m o p = 0 then weightT ⟨m, o⟩ p else 0
theorem POk.of_bad {m : Md} {o p : List Int} (h : ¬ badP m o p) : POk m o p := by
  have h1 : p.length = o.length := Classical.byContradiction fun e => h (.inl e)
  have h2 : ¬ p.any (offS (m.start.length : Int)) = true := fun e => h (.inr e)
  refine ⟨h1, fun k hk => ?_⟩
  have h3 := not_any_at 0 (i := k) (by omega) h2
  unfold offS at h3
  rw [Bool.or_eq_false_iff, decide_eq_false_iff_not, decide_eq_false_iff_not] at h3
  omega
section
variable {m : Md} {o path : List Int} {S T U : SV}
instance wgt1_c {q : Int} : Ct Tryz.prog 129 [iv q, mdK m] True (bv (offS (m.start.length : Int) q)) := by
  refine (ctI Tryz.call129 Tryz.func129 Tryz.ntmps129 rfl Tryz.results129 rfl [] fun h0 w0 _ => ?_)
  repeat first | refine nx ?_ | intro _
  unfold offS; rfl
instance Weight_c [i : VM S m] [j : Vw (lv rI) T o] [k : Vw (lv rI) U path] : Ct Tryz.prog 63 [S, T, U] ((o.length ≤ 1048576 ∧ path.length ≤ 1048576 ∧ MdB 10000000 m) ∧ (checkE [m] [o] = 0 → MdW 100 m ∧ MdB 100000 m)) (.tp [kk (wgtM m o path), iv (wgtE m o path)]) := by
  haveI := i.t
  refine ct3 i.v j k (ctI Tryz.call63 Tryz.func63 Tryz.ntmps63 rfl Tryz.results63 rfl [] fun h0 w0 ⟨⟨h1, hpl0, h2⟩, hW⟩ => ?_)
  have hx := one_mdb h2
  have ho := one_len (show o.length ≤ 1099511627776 by omega)
  repeat first | refine nx ?_ | intro _
  refine gIf (fun c => ?_) fun c => ?_
  · repeat first | refine nx ?_ | intro _
    have e1 : wgtE m o path = checkE [m] [o] := if_pos c
    have e2 : wgtM m o path = 0 := if_neg (by rw [e1]; exact c)
    rw [e1, e2, frK_zero]; (repeat' (first | refine And.intro ?_ ?_ | trivial | rfl | omega))
  have hE : checkE [m] [o] = 0 := Classical.not_not.1 c
  have ⟨hw, hb⟩ := hW hE
  have tk := checkE_TOk hE
  repeat first | refine nx ?_ | intro _
  refine gIf (fun c2 => ?_) fun c2 => ?_
  · repeat first | refine nx ?_ | intro _
    have e1 : wgtE m o path = 2 := by unfold wgtE; rw [if_neg (fun e => e hE), if_pos (show badP m o path from c2)]
    have e2 : wgtM m o path = 0 := if_neg (by rw [e1]; decide)
    rw [e1, e2, frK_zero]; (repeat' (first | refine And.intro ?_ ?_ | trivial | rfl | omega))
  have e1 : wgtE m o path = 0 := by unfold wgtE; rw [if_neg (fun e => e hE), if_neg (show ¬ badP m o path from c2)]
  have e2 : wgtM m o path = weightT ⟨m, o⟩ path := if_pos e1
  have pk := POk.of_bad (show ¬ badP m o path from c2)
  rw [e1, e2]
  clear c2 c e1 e2 hx ho hW
  have hn := tk.n
  have hmv := tk.mv
  have hfn := tk.fin
  have hsl := tk.say
  have hpl := pk.l
  dsimp only at hn hmv hfn hsl
  repeat first | refine nx ?_ | intro _
  refine gIf (fun c => ?_) fun c => ?_
  · repeat first | refine nx ?_ | intro _
    unfold weightT; rw [if_pos c, frK_zero]; (repeat' (first | refine And.intro ?_ ?_ | trivial | rfl | omega))
  have hp0 := pk.i 0 (by omega)
  have hwf := fun k => wF_bq (t := ⟨m, o⟩) (p := path) hw (by decide) k
  repeat first | refine gDz 9 8 (by rfl) (by kernel_rfl) ?_ | refine nx ?_ | intro _
  rename_i ν
  have gmv := ge_of hmv
  have gfn := ge_of hfn
  have gsl := ge_of hsl
  have gpl := ge_of hpl
  clear hmv hfn hsl
  refine gLp (fun k : Nat => [(45, iv k)]) (fun k => [rV (ν 9).v [bv (gW ⟨m, o⟩ path k).neg, lv rU (gW ⟨m, o⟩ path k).n, lv rU (gW ⟨m, o⟩ path k).d] 31]) (fun k => k ≤ path.length) (fun k => path.length - k) 0 (Nat.zero_le _) (fun k hk => ?_) (h2 := by rw [gW_zero]; (repeat' (first | refine And.intro ?_ ?_ | trivial | rfl | omega)))
  repeat first | refine nx ?_ | intro _
  refine gIf (fun c1 => ?_) fun c1 => ?_
  · have c1' : k < o.length := by omega
    have hpk := pk.i k c1'
    have hsi := tk.sayi _ k hpk.2 c1'
    have hws := hb.syb (path.getD k 0).toNat (o.getD k 0).toNat
    dsimp only at hsi
    repeat first | refine nx ?_ | intro _
    refine gIf (fun c2 => ?_) fun c2 => ?_
    · have c2' : 0 < k := by omega
      have hpj := pk.i (k - 1) (by omega)
      have hmi := ge_of (tk.mvi _ hpj.2)
      have hwm := hb.mvb (path.getD (k - 1) 0).toNat (path.getD k 0).toNat
      have hwk := hwf k
      have hst := wF_step (t := ⟨m, o⟩) (p := path) (k := k) c2'
      have hmq := bq_mul (wF ⟨m, o⟩ path k) ((m.move.getD (path.getD (k - 1) 0).toNat []).getD (path.getD k 0).toNat fr0).rat
      have hm2 := hw.mv (path.getD (k - 1) 0).toNat (path.getD k 0).toNat
      dsimp only at hmi hst
      rw [gW_pos ⟨m, o⟩ path c2']
      repeat first | refine gDz 15 14 (by rfl) (by kernel_rfl) ?_ | refine gDz 14 13 (by rfl) (by kernel_rfl) ?_ | refine nx ?_ | intro _
      rw [hst, ← gW_pos ⟨m, o⟩ path (Nat.succ_pos k)]
      exact gBk (k + 1) (by omega) (by omega)
    · have hk0 : k = 0 := by omega
      subst hk0
      have hsb := hb.sb (path.getD 0 0).toNat
      rw [gW_zero]
      dsimp only
      repeat first | refine gDz 14 13 (by rfl) (by kernel_rfl) ?_ | refine nx ?_ | intro _
      have hst := wF_first ⟨m, o⟩ path
      dsimp only at hst
      rw [hst, ← gW_pos ⟨m, o⟩ path Nat.zero_lt_one]
      exact gBk 1 (by omega) (by omega)
  · have e : k = path.length := by omega
    subst e
    have hpj := pk.i (path.length - 1) (by omega)
    have hwk := hwf path.length
    have hfb := hb.fb (path.getD (path.length - 1) 0).toNat
    rw [gW_pos ⟨m, o⟩ path (by omega)]
    repeat first | refine gDz 14 12 (by rfl) (by kernel_rfl) ?_ | refine nx ?_ | intro _
    have hq : wF ⟨m, o⟩ path path.length * (m.fin.getD (path.getD (path.length - 1) 0).toNat fr0).rat = weightT ⟨m, o⟩ path := by rw [hpl]; unfold weightT; rw [if_neg c]; rfl
    rw [hq]; (repeat' (first | refine And.intro ?_ ?_ | trivial | rfl | omega))
abbrev Sp := Int × Int × Int
def rS : Rp Sp := mkRp 3 (fun x => [iv x.1, iv x.2.1, iv x.2.2]) (fun _ => rfl) (fun _ => rfl)
end
end Go.E3
