/- K34: a part of the proof about training through the decoder: how the program's functions run, and what they compute, for every input. -/
import Derived.Test.YtdciabokggfpbaaGreatK33
import Derived.Test.YtdciabokggfpbaaGreatK31
set_option linter.all false
namespace Go.E3
open Go Go.Ear
theorem inv_mul2 (a b : Rat) : (a * b)⁻¹ = a⁻¹ * b⁻¹ := by
 by_cases ha : a = 0
 · rw [ha,Rat.zero_mul,Rat.inv_zero,Rat.zero_mul]
 · by_cases hb : b = 0
   · rw [hb,Rat.mul_zero,Rat.inv_zero,Rat.mul_zero]
   · have h1 := Rat.mul_inv_cancel _ ha
     have h2 := Rat.mul_inv_cancel _ hb
     have h0 : a * b ≠ 0 := fun e => ha (mul_z e hb)
     have h3 := Rat.mul_inv_cancel _ h0
     have h4 : (a * b) * (a⁻¹ * b⁻¹) = 1 := by
      have : (a * b) * (a⁻¹ * b⁻¹) = (a * a⁻¹) * (b * b⁻¹) := by grind
      rw [this,h1,h2,Rat.mul_one]
     calc (a * b)⁻¹ = (a * b)⁻¹ * ((a * b) * (a⁻¹ * b⁻¹)) := by rw [h4,Rat.mul_one]
      _ = ((a * b) * (a * b)⁻¹) * (a⁻¹ * b⁻¹) := by grind
      _ = a⁻¹ * b⁻¹ := by rw [h3,Rat.one_mul]
theorem div3 (a b c d e f : Rat) : a * b * c / (d * e * f) = a / d * (b / e * (c / f)) := by
 rw [Rat.div_def,Rat.div_def,Rat.div_def,Rat.div_def,inv_mul2,inv_mul2]; grind
structure Two (t u : Tr) (N : Nat) : Prop where
 o : u.o = t.o
 s : u.m.start.length = t.m.start.length
 nn : Nn t.m
 nu : Nn u.m
 h : lk t ≠ 0
 ok : TOk t
 np : 0 < N
 y : ∀ i k,k < t.o.length -> Wh N (pY t i k)
 m : ∀ i k j,k + 1 < t.o.length -> Wh N (pM t i k j)
 sr : ∀ i x k,k <= t.o.length -> Wh N ((sayRow t i k).getD x 0)
 mr : ∀ i j k,k < t.o.length -> Wh N ((mvRow t i k).getD j 0)
def eY (t : Tr) (N i k : Nat) : Nat := whN N (pY t i k)
def eM (t : Tr) (N i k j : Nat) : Nat := whN N (pM t i k j)
section
variable {t u : Tr} {N : Nat} (w : Two t u N)
include w
theorem eY_eq {i k : Nat} (hk : k < t.o.length) : pY t i k * (N : Rat) = ((eY t N i k : Nat) : Rat) := whN_eq (w.y i k hk) (pY_nn w.nn i k)
theorem eM_eq {i k j : Nat} (hk : k + 1 < t.o.length) : pM t i k j * (N : Rat) = ((eM t N i k j : Nat) : Rat) := whN_eq (w.m i k j hk) (pM_nn w.nn i k j)
theorem sumMi {i k : Nat} (hk : k + 1 < t.o.length) (hi : i < t.m.start.length) : sumNat (eM t N i k) t.m.start.length = eY t N i k := by
 unfold eY
 have h1 := whN_sum (D := N) (f := pM t i k) (n := t.m.start.length) (fun j _ => w.m i k j hk) fun j _ => pM_nn w.nn i k j
 have e : sumTo (pM t i k) t.m.start.length = pY t i k := by
  show sumTo (fun j => wM t i k j / lk t) _ = _
  rw [sumTo_divc,sum_wM hk hi]; rfl
 rw [e] at h1; exact h1
theorem sumMj {j k : Nat} (hk : k + 1 < t.o.length) (hj : j < t.m.start.length) : sumNat (fun i => eM t N i k j) t.m.start.length = eY t N j (k + 1) := by
 unfold eY
 have h1 := whN_sum (D := N) (f := fun i => pM t i k j) (n := t.m.start.length) (fun i _ => w.m i k j hk) fun i _ => pM_nn w.nn i k j
 have e : sumTo (fun i => pM t i k j) t.m.start.length = pY t j (k + 1) := by
  show sumTo (fun i => wM t i k j / lk t) _ = _
  rw [sumTo_divc]
  unfold pY
  rw [<- fwd_succ hj,Rat.mul_assoc,Rat.mul_comm (sayT t j (k + 1)), <- sumTo_mulR, <- sumTo_mulR]
  congr 1
  refine sumTo_congr _ fun i _ => ?_
  unfold wM; grind
 rw [e] at h1; exact h1
def uS (t u : Tr) (i : Nat) : Rat := (u.m.start.getD i fr0).rat / (t.m.start.getD i fr0).rat
def uM (t u : Tr) (i j : Nat) : Rat := moveT u i j / moveT t i j
def uX (t u : Tr) (i x : Nat) : Rat := ((u.m.say.getD i []).getD x fr0).rat / ((t.m.say.getD i []).getD x fr0).rat
def uY (t u : Tr) (i k : Nat) : Rat := sayT u i k / sayT t i k
def uB (t u : Tr) (d i : Nat) : Rat := (bwd u d).getD i 0 / (bwd t d).getD i 0
omit w in
theorem div_nn {a b : Rat} (ha : 0 <= a) (hb : 0 <= b) : 0 <= a / b := by rw [Rat.div_def]; exact Rat.mul_nonneg ha (inv_nn hb)
theorem uS_nn (i : Nat) : 0 <= uS t u i := div_nn (w.nu.st i) (w.nn.st i)
theorem uM_nn (i j : Nat) : 0 <= uM t u i j := div_nn (w.nu.mv i j) (w.nn.mv i j)
theorem uX_nn (i x : Nat) : 0 <= uX t u i x := div_nn (w.nu.sy i x) (w.nn.sy i x)
theorem uY_nn (i k : Nat) : 0 <= uY t u i k := div_nn (w.nu.sy i _) (w.nn.sy i _)
theorem uB_nn (d i : Nat) : 0 <= uB t u d i := div_nn (bwd_nn w.nu d i) (bwd_nn w.nn d i)
theorem uY_eq (i k : Nat) : uY t u i k = uX t u i (t.o.getD k 0).toNat := by
 unfold uY uX sayT; rw [w.o]
theorem em_row {i k : Nat} (hk : k + 1 < t.o.length) (hi : i < t.m.start.length) : prodTo (fun j => (uM t u i j * (uY t u j (k + 1) * uB t u (t.o.length - 1 - (k + 1)) j)) ^ eM t N i k j) t.m.start.length <= uB t u (t.o.length - 1 - k) i ^ eY t N i k := by
 have e : ∀ v : Tr,v.o.length = t.o.length -> v.m.start.length = t.m.start.length -> sumTo (fun j => moveT v i j * sayT v j (k + 1) * (bwd v (t.o.length - 1 - (k + 1))).getD j 0) t.m.start.length = (bwd v (t.o.length - 1 - k)).getD i 0 := fun v ho hs => by
  have := bwd_succ (t := v) (i := i) (k := t.o.length - 1 - (k + 1)) (by omega)
  rw [ho,hs,show t.o.length - 1 - (k + 1) + 1 = t.o.length - 1 - k by omega,show t.o.length - 1 - (t.o.length - 1 - (k + 1)) = k + 1 by omega] at this
  exact this
 have h1 := jensen (y := fun j => moveT u i j * sayT u j (k + 1) * (bwd u (t.o.length - 1 - (k + 1))).getD j 0) (p := fun j => moveT t i j * sayT t j (k + 1) * (bwd t (t.o.length - 1 - (k + 1))).getD j 0) (w := eM t N i k) (n := t.m.start.length) (W := eY t N i k) (q := (bwd t (t.o.length - 1 - k)).getD i 0) (Z := (bwd u (t.o.length - 1 - k)).getD i 0) (sumMi w hk hi)
  (fun j _ => Rat.mul_nonneg (Rat.mul_nonneg (w.nu.mv i j) (w.nu.sy j _)) (bwd_nn w.nu _ j))
  (fun j _ => Rat.mul_nonneg (Rat.mul_nonneg (w.nn.mv i j) (w.nn.sy j _)) (bwd_nn w.nn _ j))
  (fun hne => by
   have h0 := whN_nz hne
   have h2 := bwd_nn w.nn (t.o.length - 1 - k) i
   have h3 : (bwd t (t.o.length - 1 - k)).getD i 0 ≠ 0 := fun e => h0 (by unfold pY; rw [e,Rat.mul_zero,Rat.div_def,Rat.zero_mul])
   grind)
  (fun j _ => by
   rw [<- eM_eq w hk, <- eY_eq w (show k < t.o.length by omega)]
   unfold pM pY wM
   rw [Rat.div_def,Rat.div_def]; grind)
  (by rw [e u (by rw [w.o]) w.s]; exact Rat.le_refl)
 refine Rat.le_trans ?_ h1
 rw [prodTo_congr _ fun j _ => ?_]
 · exact Rat.le_refl
 · show _ = (moveT u i j * sayT u j (k + 1) * (bwd u (t.o.length - 1 - (k + 1))).getD j 0 / (moveT t i j * sayT t j (k + 1) * (bwd t (t.o.length - 1 - (k + 1))).getD j 0)) ^ eM t N i k j
   rw [div3]; rfl
theorem em_start (h0 : 0 < t.o.length) : prodTo (fun i => (uS t u i * (uY t u i 0 * uB t u (t.o.length - 1) i)) ^ eY t N i 0) t.m.start.length <= (lk u / lk t) ^ N := by
 have e : ∀ v : Tr,v.o.length = t.o.length -> v.m.start.length = t.m.start.length -> sumTo (fun i => (v.m.start.getD i fr0).rat * sayT v i 0 * (bwd v (t.o.length - 1)).getD i 0) t.m.start.length = lk v := fun v ho hs => by
  have := lk_both' (t := v) (k := 0) (by omega)
  rw [ho,hs,Nat.sub_zero] at this
  rw [<- this]
  exact sumTo_congr _ fun i hi => by rw [<- fwd_zero (by omega)]
 have hl := lk_gt w.nn w.h
 have h1 := jensen (y := fun i => (u.m.start.getD i fr0).rat * sayT u i 0 * (bwd u (t.o.length - 1)).getD i 0) (p := fun i => (t.m.start.getD i fr0).rat * sayT t i 0 * (bwd t (t.o.length - 1)).getD i 0) (w := fun i => eY t N i 0) (n := t.m.start.length) (W := N) (q := lk t) (Z := lk u)
  (by
   have h2 := whN_sum (D := N) (f := fun i => pY t i 0) (n := t.m.start.length) (fun i _ => w.y i 0 h0) fun i _ => pY_nn w.nn i 0
   rw [sum_pY w.h h0] at h2
   have h3 : whN N (1 : Rat) = N := by unfold whN; rw [Rat.one_mul, <- Rat.intCast_natCast,Rat.num_intCast]; rfl
   rw [h3] at h2; exact h2)
  (fun i _ => Rat.mul_nonneg (Rat.mul_nonneg (w.nu.st i) (w.nu.sy i _)) (bwd_nn w.nu _ i))
  (fun i _ => Rat.mul_nonneg (Rat.mul_nonneg (w.nn.st i) (w.nn.sy i _)) (bwd_nn w.nn _ i))
  (fun _ => hl)
  (fun i hi => by
   rw [<- eY_eq w h0]
   unfold pY
   rw [<- fwd_zero hi,Nat.sub_zero,Rat.div_def]
   have := Rat.inv_mul_cancel _ w.h
   grind)
  (by rw [e u (by rw [w.o]) w.s]; exact Rat.le_refl)
 refine Rat.le_trans ?_ h1
 rw [prodTo_congr _ fun i _ => ?_]
 · exact Rat.le_refl
 · show _ = ((u.m.start.getD i fr0).rat * sayT u i 0 * (bwd u (t.o.length - 1)).getD i 0 / ((t.m.start.getD i fr0).rat * sayT t i 0 * (bwd t (t.o.length - 1)).getD i 0)) ^ eY t N i 0
   rw [div3]; rfl
omit w in
theorem prodTo_upd {f g : Nat -> Rat} {c : Nat} {q : Rat} : ∀ {n : Nat},c < n -> (∀ i,i ≠ c -> g i = f i) -> g c = f c * q -> prodTo g n = prodTo f n * q
 | n + 1,h,h1,h2 => by
   rw [prodTo,prodTo]
   by_cases e : c = n
   · subst e
     rw [h2,prodTo_congr c fun i hi => h1 i (by omega),Rat.mul_assoc]
   · rw [prodTo_upd (n := n) (by omega) h1 h2,h1 n (Ne.symm e)]; grind
def sY (t u : Tr) (N k : Nat) : Rat := prodTo (fun i => prodTo (fun x => uX t u i x ^ whN N ((sayRow t i k).getD x 0)) (symb t.m)) t.m.start.length
def sM (t u : Tr) (N k : Nat) : Rat := prodTo (fun i => prodTo (fun j => uM t u i j ^ whN N ((mvRow t i k).getD j 0)) t.m.start.length) t.m.start.length
omit w in
theorem sY_zero : sY t u N 0 = 1 := by
 unfold sY
 refine prodTo_one _ fun i _ => prodTo_one _ fun x _ => ?_
 have : (sayRow t i 0).getD x 0 = 0 := by
  rw [sayRow,List.getD_eq_getElem?_getD,List.getElem?_replicate]; split <;> rfl
 rw [this,whN_zero,Rat.pow_zero]
omit w in
theorem sM_zero : sM t u N 0 = 1 := by
 unfold sM
 refine prodTo_one _ fun i _ => prodTo_one _ fun x _ => ?_
 have : (mvRow t i 0).getD x 0 = 0 := by
  rw [mvRow,List.getD_eq_getElem?_getD,List.getElem?_replicate]; split <;> rfl
 rw [this,whN_zero,Rat.pow_zero]
theorem sY_succ {k : Nat} (hk : k < t.o.length) : sY t u N (k + 1) = sY t u N k * prodTo (fun i => uY t u i k ^ eY t N i k) t.m.start.length := by
 unfold sY
 rw [<- prodTo_mul]
 refine prodTo_congr _ fun i hi => ?_
 have hx := (w.ok.sy0 hk).2
 have hl := sayRow_len t i k
 refine prodTo_upd (c := (t.o.getD k 0).toNat) hx (fun x hx => ?_) ?_
 · rw [sayRow,getD_set_ne' (fun e => hx e.symm)]
 · rw [sayRow,getD_set_is (by omega),whN_add (w.sr i _ k (by omega)) (w.y i k hk) (sayRow_nn w.nn i _ k) (pY_nn w.nn i k),pw_add,uY_eq w]; rfl
theorem sM_succ {k : Nat} (hk : k + 1 < t.o.length) : sM t u N (k + 1) = sM t u N k * prodTo (fun i => prodTo (fun j => uM t u i j ^ eM t N i k j) t.m.start.length) t.m.start.length := by
 unfold sM
 rw [<- prodTo_mul]
 refine prodTo_congr _ fun i hi => ?_
 rw [<- prodTo_mul]
 refine prodTo_congr _ fun j hj => ?_
 rw [<- mvRow_at hj,whN_add (w.mr i j k (by omega)) (w.m i k j hk) (mvRow_nn w.nn i j k) (pM_nn w.nn i k j),pw_add]; rfl
theorem em_frame {k : Nat} (hk : k + 1 < t.o.length) : prodTo (fun i => prodTo (fun j => uM t u i j ^ eM t N i k j) t.m.start.length) t.m.start.length * (prodTo (fun j => uY t u j (k + 1) ^ eY t N j (k + 1)) t.m.start.length * prodTo (fun j => uB t u (t.o.length - 1 - (k + 1)) j ^ eY t N j (k + 1)) t.m.start.length) <= prodTo (fun i => uB t u (t.o.length - 1 - k) i ^ eY t N i k) t.m.start.length := by
 have h1 := prodTo_le t.m.start.length (f := fun i => prodTo (fun j => (uM t u i j * (uY t u j (k + 1) * uB t u (t.o.length - 1 - (k + 1)) j)) ^ eM t N i k j) t.m.start.length) (g := fun i => uB t u (t.o.length - 1 - k) i ^ eY t N i k) fun i hi => ⟨prodTo_nn _ fun j _ => Rat.pow_nonneg (Rat.mul_nonneg (uM_nn w i j) (Rat.mul_nonneg (uY_nn w j _) (uB_nn w _ j))),em_row w hk hi⟩
 refine Rat.le_trans ?_ h1
 have e : prodTo (fun i => prodTo (fun j => (uM t u i j * (uY t u j (k + 1) * uB t u (t.o.length - 1 - (k + 1)) j)) ^ eM t N i k j) t.m.start.length) t.m.start.length = prodTo (fun i => prodTo (fun j => uM t u i j ^ eM t N i k j) t.m.start.length) t.m.start.length * prodTo (fun j => (uY t u j (k + 1) * uB t u (t.o.length - 1 - (k + 1)) j) ^ eY t N j (k + 1)) t.m.start.length := by
  have e1 : prodTo (fun j => (uY t u j (k + 1) * uB t u (t.o.length - 1 - (k + 1)) j) ^ eY t N j (k + 1)) t.m.start.length = prodTo (fun i => prodTo (fun j => (uY t u j (k + 1) * uB t u (t.o.length - 1 - (k + 1)) j) ^ eM t N i k j) t.m.start.length) t.m.start.length := by
   rw [prodTo_swap]
   refine prodTo_congr _ fun j hj => ?_
   rw [pow_sumNat (w := fun i => eM t N i k j),sumMj w hk hj]
  rw [e1, <- prodTo_mul]
  refine prodTo_congr _ fun i _ => ?_
  rw [<- prodTo_mul]
  exact prodTo_congr _ fun j _ => pw_mul _ _ _
 rw [e]
 have e2 : prodTo (fun j => (uY t u j (k + 1) * uB t u (t.o.length - 1 - (k + 1)) j) ^ eY t N j (k + 1)) t.m.start.length = prodTo (fun j => uY t u j (k + 1) ^ eY t N j (k + 1)) t.m.start.length * prodTo (fun j => uB t u (t.o.length - 1 - (k + 1)) j ^ eY t N j (k + 1)) t.m.start.length := by
  rw [<- prodTo_mul]; exact prodTo_congr _ fun j _ => pw_mul _ _ _
 rw [e2]; exact Rat.le_refl
def sS (t u : Tr) (N : Nat) : Rat := prodTo (fun i => uS t u i ^ eY t N i 0) t.m.start.length
theorem em_inv : ∀ k,k < t.o.length -> sS t u N * sY t u N (k + 1) * sM t u N k * prodTo (fun i => uB t u (t.o.length - 1 - k) i ^ eY t N i k) t.m.start.length <= (lk u / lk t) ^ N
 | 0,h0 => by
   refine Rat.le_trans ?_ (em_start w h0)
   rw [sM_zero,sY_succ w h0,sY_zero,Rat.one_mul,Rat.mul_one]
   unfold sS
   rw [<- prodTo_mul, <- prodTo_mul,Nat.sub_zero,prodTo_congr _ fun i _ => ?_]
   · exact Rat.le_refl
   · show _ = (uS t u i * (uY t u i 0 * uB t u (t.o.length - 1) i)) ^ eY t N i 0
     rw [pw_mul,pw_mul,Rat.mul_assoc]
 | k + 1,hk => by
   have ih := em_inv k (by omega)
   refine Rat.le_trans ?_ ih
   rw [sY_succ w hk,sM_succ w hk]
   have hn : 0 <= sS t u N * sY t u N (k + 1) * sM t u N k := by
    refine Rat.mul_nonneg (Rat.mul_nonneg ?_ ?_) ?_
    · exact prodTo_nn _ fun i _ => Rat.pow_nonneg (uS_nn w i)
    · exact prodTo_nn _ fun i _ => prodTo_nn _ fun x _ => Rat.pow_nonneg (uX_nn w i x)
    · exact prodTo_nn _ fun i _ => prodTo_nn _ fun x _ => Rat.pow_nonneg (uM_nn w i x)
   have h1 := Rat.mul_le_mul_of_nonneg_left (em_frame w hk) hn
   refine Rat.le_trans ?_ h1
   generalize prodTo (fun i => prodTo (fun j => uM t u i j ^ eM t N i k j) t.m.start.length) t.m.start.length = A
   generalize prodTo (fun j => uY t u j (k + 1) ^ eY t N j (k + 1)) t.m.start.length = B
   generalize prodTo (fun j => uB t u (t.o.length - 1 - (k + 1)) j ^ eY t N j (k + 1)) t.m.start.length = C
   generalize sS t u N = D
   generalize sY t u N (k + 1) = E
   generalize sM t u N k = F
   have : D * (E * B) * (F * A) * C = D * E * F * (A * (B * C)) := by grind
   rw [this]; exact Rat.le_refl
end
def phi (m v : Md) (N : Nat) (C : Go.Ear.Ct) : Rat :=
 prodTo (fun i => ((v.start.getD i fr0).rat / (m.start.getD i fr0).rat) ^ whN N (C.start.getD i 0)) m.start.length *
 prodTo (fun i => prodTo (fun j => (((v.move.getD i []).getD j fr0).rat / ((m.move.getD i []).getD j fr0).rat) ^ whN N ((C.move.getD i []).getD j 0)) m.start.length) m.start.length *
 prodTo (fun i => ((v.fin.getD i fr0).rat / (m.fin.getD i fr0).rat) ^ whN N (C.fin.getD i 0)) m.start.length *
 prodTo (fun i => prodTo (fun x => (((v.say.getD i []).getD x fr0).rat / ((m.say.getD i []).getD x fr0).rat) ^ whN N ((C.say.getD i []).getD x 0)) (symb m)) m.start.length
theorem em_one {t u : Tr} {N : Nat} (w : Two t u N) : phi t.m u.m N (cntT t) <= (lk u / lk t) ^ N := by
 have h0 := lk_pos w.h
 have h1 := em_inv w (t.o.length - 1) (by omega)
 rw [show t.o.length - 1 + 1 = t.o.length by omega,Nat.sub_self] at h1
 refine Rat.le_trans ?_ h1
 have qS : prodTo (fun i => ((u.m.start.getD i fr0).rat / (t.m.start.getD i fr0).rat) ^ whN N ((cntT t).start.getD i 0)) t.m.start.length = sS t u N := prodTo_congr _ fun i hi => by
  show _ ^ whN N ((cntS t).getD i 0) = uS t u i ^ whN N (pY t i 0)
  rw [cntS,range_getD _ _ hi]; rfl
 have qM : prodTo (fun i => prodTo (fun j => (((u.m.move.getD i []).getD j fr0).rat / ((t.m.move.getD i []).getD j fr0).rat) ^ whN N (((cntT t).move.getD i []).getD j 0)) t.m.start.length) t.m.start.length = sM t u N (t.o.length - 1) := prodTo_congr _ fun i hi => prodTo_congr _ fun j hj => by
  show _ ^ whN N (((cntM t).getD i []).getD j 0) = _
  rw [cntM,range_getD _ _ hi]; rfl
 have qY : prodTo (fun i => prodTo (fun x => (((u.m.say.getD i []).getD x fr0).rat / ((t.m.say.getD i []).getD x fr0).rat) ^ whN N (((cntT t).say.getD i []).getD x 0)) (symb t.m)) t.m.start.length = sY t u N t.o.length := prodTo_congr _ fun i hi => prodTo_congr _ fun j hj => by
  show _ ^ whN N (((cntY t).getD i []).getD j 0) = _
  rw [cntY,range_getD _ _ hi]; rfl
 have qF : prodTo (fun i => ((u.m.fin.getD i fr0).rat / (t.m.fin.getD i fr0).rat) ^ whN N ((cntT t).fin.getD i 0)) t.m.start.length = prodTo (fun i => uB t u 0 i ^ eY t N i (t.o.length - 1)) t.m.start.length := prodTo_congr _ fun i hi => by
  show _ ^ whN N ((cntE t).getD i 0) = uB t u 0 i ^ whN N (pY t i (t.o.length - 1))
  rw [cntE,range_getD _ _ hi,pE_pY hi]
  unfold uB
  rw [<- bwd_zero (t := u) (by rw [w.s]; exact hi), <- bwd_zero hi]
 unfold phi
 rw [qS,qM,qY,qF]
 generalize prodTo (fun i => uB t u 0 i ^ Go.E3.eY t N i (t.o.length - 1)) t.m.start.length = A
 generalize sS t u N = D
 generalize sY t u N t.o.length = E
 generalize sM t u N (t.o.length - 1) = F
 have : D * F * A * E = D * E * F * A := by grind
 rw [this]; exact Rat.le_refl
end Go.E3
