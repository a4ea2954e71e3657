/- K51: a part of the proof about training through the decoder: how the program's functions run, and what they compute, for every input. -/
import Derived.Test.YtdciabokggfpbaaGreatRows
import Derived.ProofKit
import Derived.OpenShut
import Derived.JoinedCond
import Derived.Deep.Slices
import Derived.Lib.SmallJoins
import Derived.Carry
import Derived.Test.YtdciabokggfpbaaGreatK50
set_option linter.all false
set_option maxRecDepth 20000
set_option maxHeartbeats 8000000
set_option synthInstance.maxSize 1000
namespace Go.E3
open Go Go.Ear Go.Proofs
def fewB (f : Fr) : Bool := !bigW f
def rowB (r : List Fr) : Bool := decide (r.length <= 4) && r.all fewB
theorem slim_f1 {m : Md} (h : 10 < (rowsM m).length) : slimB m = false := by
 unfold slimB; rw [decide_eq_false (by omega)]; rfl
theorem slim_eq {m : Md} (h : ¬ 10 < (rowsM m).length) : slimB m = (rowsM m).all rowB := by
 unfold slimB; rw [decide_eq_true (by omega)]; rfl
theorem slim_row {m : Md} {i : Nat} (h : ¬ 10 < (rowsM m).length) (hi : i < (rowsM m).length) (hr : rowB ((rowsM m).getD i []) = false) : slimB m = false := by
 rw [slim_eq h]
 cases hx : (rowsM m).all rowB with
 | false => rfl
 | true => rw [List.all_eq_true.1 hx _ (getD_in [] hi)] at hr; cases hr
theorem row_f {r : List Fr} {k : Nat} (hk : k < r.length) (h : 3 < k \/ bigW (r.getD k fr0) = true) : rowB r = false := by
 unfold rowB
 rcases h with h | h
 · rw [decide_eq_false (by omega)]; rfl
 · cases hx : r.all fewB with
   | false => rw [Bool.and_false]
   | true =>
     have := List.all_eq_true.1 hx _ (getD_in fr0 hk)
     unfold fewB at this
     rw [h] at this; cases this
theorem row_t {r : List Fr} (h4 : r.length <= 4) (h : ∀ j,j < r.length -> bigW (r.getD j fr0) = false) : rowB r = true := by
 unfold rowB
 rw [decide_eq_true h4,Bool.true_and]
 refine List.all_eq_true.2 fun f hf => ?_
 obtain ⟨i,hi,rfl⟩ := List.getElem_of_mem hf
 have := h i hi
 rw [List.getD_eq_getElem?_getD,List.getElem?_eq_getElem hi] at this
 unfold fewB
 rw [show bigW r[i] = false from this]; rfl
theorem slim_t {m : Md} (h : ¬ 10 < (rowsM m).length) (hr : ∀ j,j < (rowsM m).length -> rowB ((rowsM m).getD j []) = true) : slimB m = true := by
 rw [slim_eq h]
 refine List.all_eq_true.2 fun r hf => ?_
 obtain ⟨i,hi,rfl⟩ := List.getElem_of_mem hf
 have := hr i hi
 rw [List.getD_eq_getElem?_getD,List.getElem?_eq_getElem hi] at this
 exact this
class PreF : Prop where
 t : True
instance (priority := 100000) bslF_q {P : Program} {n : Nat} {c : Bool} {ms : List Nat} {loc env : EL} {B : List Res} {d : Nat} {α : Type} {r : Rp α} {bb : Nat} {d0 : α} {q : List α} {t e : TypeId} {len : Nat} {xs : List (Nat × Operand)} {ps : List (Nat × SV)} [PreF] [nn : NotIn d ms] [lx : Lup n c loc env xs ps] [ts : TS P t e] [rt : RT P e α r bb d0] [f : Els r 0 ps q] : St P n c loc env B ms d (.buildSlice t len xs.toArray) (q.length = len /\ Nat.ble (len * r.k) 16777216 = true) (flv r q) := bslF
section
variable {m : Md} {l : Lg} {S T : SV}
theorem slim_c [ft : FtM m] : Ct Tryz.prog 4 [mv m] (m.move.length + m.say.length <= 1048576) (bv (slimB m)) := by
 haveI : PreF := ⟨trivial⟩
 refine (ctI Tryz.call4 Tryz.func4 Tryz.ntmps4 rfl Tryz.results4 rfl [] fun h0 w0 hb => ?_)
 have hb2 : (m.move ++ m.say).length <= 1048576 := by rw [List.length_append]; exact hb
 repeat first | refine gDw 13 7 10 11 (by rfl) (by kernel_rfl) ?_ | refine nx ?_ | intro _
 rename_i v13 v16
 refine gFzG v16 ?_
 by_cases he : m.move ++ m.say = []
 · have hrow : rowsM m = [m.start,m.fin] := by unfold rowsM; rw [he,List.append_nil]
   refine gApE (r := rL rF) [] he ?_
   rw [<- hrow]
   repeat first | refine nx ?_ | intro _
   refine gIf (fun c0 => ?_) fun c0 => ?_
   · repeat first | refine nx ?_ | intro _
     exact (slim_f1 c0).symm
   repeat first | refine nx ?_ | intro _
   refine gLp (fun i : Nat => [(4,iv i)]) (fun _ => []) (fun i => i <= (rowsM m).length /\ ∀ j,j < i -> rowB ((rowsM m).getD j []) = true) (fun i => (rowsM m).length - i) 0 ⟨Nat.zero_le _,fun j hj => absurd hj (Nat.not_lt_zero _)⟩ fun i ⟨hi,hI⟩ => ?_
   repeat first | refine nx ?_ | intro _
   refine gIf (fun c1 => ?_) fun c1 => ?_
   · repeat first | refine nx ?_ | intro _
     refine gLp (fun k : Nat => [(5,iv k)]) (fun _ => []) (fun k => (k <= ((rowsM m).getD i []).length /\ k <= 4) /\ ∀ j,j < k -> bigW (((rowsM m).getD i []).getD j fr0) = false) (fun k => ((rowsM m).getD i []).length - k) 0 ⟨⟨Nat.zero_le _,Nat.zero_le _⟩,fun j hj => absurd hj (Nat.not_lt_zero _)⟩ fun k ⟨⟨hk,hk4⟩,hK⟩ => ?_
     repeat first | refine nx ?_ | intro _
     refine gIf (fun c2 => ?_) fun c2 => ?_
     · repeat first | refine nx ?_ | intro _
       refine gIf (fun c3 => ?_) fun c3 => ?_
       · repeat first | refine nx ?_ | intro _
         refine (slim_row c0 c1 (row_f c2 ?_)).symm
         unfold bigW
         simp only [Bool.or_eq_true,decide_eq_true_eq]
         omega
       · repeat first | refine nx ?_ | intro _
         refine gBk (k + 1) ⟨⟨by omega,by omega⟩,fun j hj => ?_⟩ (by omega)
         by_cases e : j < k
         · exact hK j e
         · obtain rfl : j = k := by omega
           unfold bigW
           simp only [Bool.or_eq_false_iff,decide_eq_false_iff_not]
           omega
     · repeat first | refine nx ?_ | intro _
       refine gBk (i + 1) ⟨by omega,fun j hj => ?_⟩ (by omega)
       by_cases e : j < i
       · exact hI j e
       · obtain rfl : j = i := by omega
         exact row_t (by omega) fun j hj => hK j (by omega)
   · repeat first | refine nx ?_ | intro _
     exact (slim_t c0 fun j hj => hI j (by omega)).symm
 · have hp : 1 <= (m.move ++ m.say).length := by
    cases hx : m.move ++ m.say with
    | nil => exact absurd hx he
    | cons a l => simp
   repeat first | refine nx ?_ | intro _
   rename_i v17
   refine gFz v17 ?_
   rw [show [m.start,m.fin] ++ (m.move ++ m.say) = rowsM m from rfl]
   refine gIf (fun c0 => ?_) fun c0 => ?_
   · repeat first | refine nx ?_ | intro _
     exact (slim_f1 c0).symm
   repeat first | refine nx ?_ | intro _
   refine gLp (fun i : Nat => [(4,iv i)]) (fun _ => []) (fun i => i <= (rowsM m).length /\ ∀ j,j < i -> rowB ((rowsM m).getD j []) = true) (fun i => (rowsM m).length - i) 0 ⟨Nat.zero_le _,fun j hj => absurd hj (Nat.not_lt_zero _)⟩ fun i ⟨hi,hI⟩ => ?_
   repeat first | refine nx ?_ | intro _
   refine gIf (fun c1 => ?_) fun c1 => ?_
   · repeat first | refine nx ?_ | intro _
     refine gLp (fun k : Nat => [(5,iv k)]) (fun _ => []) (fun k => (k <= ((rowsM m).getD i []).length /\ k <= 4) /\ ∀ j,j < k -> bigW (((rowsM m).getD i []).getD j fr0) = false) (fun k => ((rowsM m).getD i []).length - k) 0 ⟨⟨Nat.zero_le _,Nat.zero_le _⟩,fun j hj => absurd hj (Nat.not_lt_zero _)⟩ fun k ⟨⟨hk,hk4⟩,hK⟩ => ?_
     repeat first | refine nx ?_ | intro _
     refine gIf (fun c2 => ?_) fun c2 => ?_
     · repeat first | refine nx ?_ | intro _
       refine gIf (fun c3 => ?_) fun c3 => ?_
       · repeat first | refine nx ?_ | intro _
         refine (slim_row c0 c1 (row_f c2 ?_)).symm
         unfold bigW
         simp only [Bool.or_eq_true,decide_eq_true_eq]
         omega
       · repeat first | refine nx ?_ | intro _
         refine gBk (k + 1) ⟨⟨by omega,by omega⟩,fun j hj => ?_⟩ (by omega)
         by_cases e : j < k
         · exact hK j e
         · obtain rfl : j = k := by omega
           unfold bigW
           simp only [Bool.or_eq_false_iff,decide_eq_false_iff_not]
           omega
     · repeat first | refine nx ?_ | intro _
       refine gBk (i + 1) ⟨by omega,fun j hj => ?_⟩ (by omega)
       by_cases e : j < i
       · exact hI j e
       · obtain rfl : j = i := by omega
         exact row_t (by omega) fun j hj => hK j (by omega)
   · repeat first | refine nx ?_ | intro _
     exact (slim_t c0 fun j hj => hI j (by omega)).symm
end
set_option maxHeartbeats 16000000
theorem slim_plain {m : Md} (h : slimB m = true) : plainM m = true /\ m.move.length <= 10 /\ m.say.length <= 10 := by
 unfold slimB at h
 simp only [Bool.and_eq_true,decide_eq_true_eq,List.all_eq_true] at h
 obtain ⟨h1,h2⟩ := h
 have hl : (rowsM m).length = 2 + (m.move.length + m.say.length) := by unfold rowsM; simp; omega
 refine ⟨?_,by omega,by omega⟩
 have hb : ∀ r ∈ rowsM m, ∀ f ∈ r,bigW f = false := fun r hr f hf => by
  have := (h2 r hr).2 f hf
  simpa using this
 unfold plainM
 rw [Bool.not_eq_true',List.any_eq_false]
 intro f hf
 rw [Bool.not_eq_true]
 unfold allW at hf
 simp only [List.mem_append,List.mem_flatten] at hf
 rcases hf with ((hf | hf) | ⟨r,hr,hf⟩) | ⟨r,hr,hf⟩
 · exact hb m.start (by unfold rowsM; simp) f hf
 · exact hb m.fin (by unfold rowsM; simp) f hf
 · exact hb r (by unfold rowsM; simp [hr]) f hf
 · exact hb r (by unfold rowsM; simp [hr]) f hf
theorem good_slim {m : Md} (ft : FtM m) (h : slimB m = true) (h2 : m.start.length <= 2) (hy : symb m <= 3) {data : List (List Int)} (hc : checkE [m] data = 0) : Good m 3 := by
 obtain ⟨a,b,c⟩ := slim_plain h
 refine Good.of ft ?_ hc
 unfold smallB
 rw [decide_eq_true (show m.start.length <= 3 by omega),decide_eq_true (show m.move.length <= 50 by omega),decide_eq_true (show m.say.length <= 50 by omega),decide_eq_true (show symb m <= 70 by omega),a]; rfl
structure UpL (l : Lg) : Prop where
 t : TbS l.t
 f : FtF l.am
 m : l.mix.length <= 1099511627776
 n : l.am.n.length <= 1099511627776 /\ l.am.d.length <= 1099511627776
instance slim_i {m : Md} [ft : FtM m] : Ct Tryz.prog 4 [mv m] (m.move.length + m.say.length <= 1048576) (bv (slimB m)) := slim_c
noncomputable def cL (l : Lg) : Rat := cQ l.t.order.toNat l.t.list l.by_ l.am.rat
instance total_l {m : Md} {l : Lg} {o : List Int} : Ct Tryz.prog 11 [tkV m (frK 1) l,lv rI o] (∃ x : Nat,o = [(x : Int)] /\ ToS m l l.t.order.toNat l.t.list l.by_ l.am x /\ Nn m) (.tp [kk (cL l * lk ⟨m,o⟩),iv 0]) := ⟨Tryz.call11,fun ⟨x,e,h,nn⟩ => by
 subst e
 rw [show cL l * lk ⟨m,[(x : Int)]⟩ = totQ m l.t.order.toNat l.t.list l.by_ l.am.rat x from (tot_lk nn).symm]
 exact total_b.h h⟩
theorem cL_b {l : Lg} (hg : LgS l) (hE : lgE l = 0) (hw : l.t.words = 1) (hl : l.t.list.length <= 10) : bq (cL l) <= 4000000 := by
 have s0 := (sy_of (h := ⟨0,0,0,0⟩) hg hE hw hl (by decide)).2
 have s1 := (sy_of (h := nxH (l.t.order.toNat - 1)) hg hE hw hl (nxH_b _)).2
 have b0 : bq (wtQ l.t.order.toNat l.t.list l.by_ l.am.rat) <= 2000000 := (rwQ_can s0 1).2
 have b1 : bq (enQ l.t.order.toNat l.t.list l.by_ l.am.rat) <= 2000000 := (rwQ_can s1 0).2
 have b2 := bq_mul (wtQ l.t.order.toNat l.t.list l.by_ l.am.rat) (enQ l.t.order.toNat l.t.list l.by_ l.am.rat)
 unfold cL cQ
 split
 · omega
 · exact bq0 (by decide)
noncomputable def toQ (l : Lg) (m : Md) (R : List (List Int)) (k : Nat) : Rat := cL l * lk ⟨m,R.getD k []⟩
theorem tP_yes {f g : Nat -> Rat} {k : Nat} (h : 0 < sgQ (f k)) : tP f g (k + 1) = tP f g k * g k := by rw [tP,if_pos (sgQ_pos.1 h)]
theorem tP_no {f g : Nat -> Rat} {k : Nat} (h : ¬ 0 < sgQ (f k)) : tP f g (k + 1) = tP f g k := by rw [tP,if_neg fun e => h (sgQ_pos.2 e)]
theorem topTrained_c {m : Md} {l : Lg} {data : List Int} (up : UpK m) (ul : UpL l) (ud : data.length <= 1048576 /\ I64s data) : Ct Tryz.prog 3 [mv m,lgV l,lv rI data] True (bv true) := by
 refine (ctI Tryz.call3 Tryz.func3 Tryz.ntmps3 rfl Tryz.results3 rfl [9,11,12,14,16] fun h0 w0 _ => ?_)
 have ft := up.t
 have hb := up.b.r
 have hw := up.w
 have hdl := ud.1
 repeat first | refine nx ?_ | intro _
 refine nx ?g1 ?g2
 case g2 =>
  refine ⟨by kernel_rfl,fun h => ?_⟩
  simp only [not_or,Nat.not_lt] at h
  obtain ⟨⟨⟨_,hn⟩,hd⟩,hm⟩ := h
  have hmx : l.mix = [] := List.length_eq_zero_iff.1 (by omega)
  exact ⟨⟨ul.t,hmx⟩,Nat.le_trans (bf_le hn hd (by decide)) (by decide),ul.f.h⟩
 case g1 =>
  repeat first | refine nx ?_ | intro _
  refine gIf (fun c => ?_) fun c => ?_
  · repeat first | refine nx ?_ | intro _
    trivial
  simp only [not_or,Nat.not_lt,Classical.not_not,ne_eq] at c
  obtain ⟨⟨⟨⟨⟨⟨⟨⟨⟨⟨c1,c2⟩,c3⟩,c4⟩,c5⟩,c6⟩,c7⟩,c8⟩,c9⟩,c10⟩,c11⟩ := c
  have hmx : l.mix = [] := List.length_eq_zero_iff.1 (by omega)
  have hLg : LgS l := ⟨⟨ul.t,hmx⟩,Nat.le_trans (bf_le c8 c9 (by decide)) (by decide),ul.f.h⟩
  have hE0 : checkE [m] [] = 0 := by omega
  have hlE : lgE l = 0 := by omega
  have hwd : l.t.words = 1 := by omega
  have g0 := good_slim ft c3 c1 (by omega) hE0
  repeat first | refine nx ?_ | intro _
  refine gNl (rL rI) 35 ?_
  refine gLp (fun s : Nat × Value => [(8,iv s.1),(7,ov s.2)]) (fun s => [rA (rL rI) 35 s.2 ((data.take s.1).map fun x => [x])]) (fun s => s.1 <= data.length /\ ∀ j,j < s.1 -> 0 <= data.getD j 0 /\ data.getD j 0 < symb m) (fun s => data.length - s.1) (0,.slice none 0 0) ⟨Nat.zero_le _,fun j hj => absurd hj (Nat.not_lt_zero _)⟩ (fun ⟨k,v⟩ ⟨hk,hI⟩ => ?_)
  dsimp only at hk hI ⊢
  repeat first | refine nx ?_ | intro _
  refine gIf (fun d1 => ?_) fun d1 => ?_
  · repeat first | refine nx ?_ | intro _
    refine gIf (fun d2 => ?_) fun d2 => ?_
    · repeat first | refine nx ?_ | intro _
      trivial
    have hl4 : ((data.take k).map fun x => [x]).length <= 4 := by rw [List.length_map]; exact Nat.le_trans (List.length_take_le' _ _) c2
    repeat first | refine nx ?_ | intro _
    rename_i v2
    have hsn : (data.take k).map (fun x => [x]) ++ [[data.getD k 0]] = (data.take (k + 1)).map fun x => [x] := by rw [take_snoc 0 d1,List.map_append]; rfl
    rw [hsn]
    refine gBk (k + 1,v2) ⟨by dsimp only; omega,fun j hj => ?_⟩ (by dsimp only; omega)
    by_cases e : j < k
    · exact hI j e
    · obtain rfl : j = k := by dsimp only at hj; omega
      omega
  · have ek : k = data.length := by omega
    subst ek
    rw [List.take_length]
    refine gFz v ?_
    have hRl : (data.map fun x => [x]).length = data.length := List.length_map ..
    have hR1 : ∀ o ∈ data.map fun x => [x],o.length <= 1 := fun o ho => by
     obtain ⟨x,_,rfl⟩ := List.mem_map.1 ho
     exact Nat.le_refl _
    have hRx : ∀ k,k < (data.map fun x => [x]).length -> ∃ x : Nat,(data.map fun x => [x]).getD k [] = [(x : Int)] /\ x < symb m := fun k hk => by
     rw [hRl] at hk
     obtain ⟨a,b⟩ := hI k hk
     refine ⟨(data.getD k 0).toNat, ?_,by omega⟩
     rw [show (((data.getD k 0).toNat : Nat) : Int) = data.getD k 0 by omega,List.getD_eq_getElem?_getD,List.getElem?_map,List.getD_eq_getElem?_getD,List.getElem?_eq_getElem hk]
     rfl
    have hcR : checkE [m] (data.map fun x => [x]) = 0 := by
     refine check_good (by rw [g0.l]; decide) (by omega) ?_ g0.v ?_
     · rw [List.any_eq_false]
       intro o ho
       have := hR1 o ho
       unfold longO
       simp only [decide_eq_true_eq]
       omega
     · rw [List.any_eq_false]
       intro o ho
       obtain ⟨k,hk,rfl⟩ := List.getElem_of_mem ho
       obtain ⟨x,e,hx⟩ := hRx k hk
       rw [List.getD_eq_getElem?_getD,List.getElem?_eq_getElem hk] at e
       rw [heardM1,show (data.map fun x => [x])[k] = [(x : Int)] from e,List.any_cons,List.any_nil]
       unfold offS
       simp
       omega
    have hR4 : (data.map fun x => [x]).length <= 4 := by omega
    generalize (data.map fun x => [x]) = R at *
    obtain ⟨ok,iff⟩ := improves_ok1 g0 hcR hR1 hR4
    have hv := g0.v
    have rm : RwM 2600000 m := RwM.of hv g0.l (g0.mB (K := 2600000))
    have rm2 : RwM 2000000 m := RwM.of hv g0.l (g0.mB (K := 2000000))
    have f1 : ((R.length <= 1048576 /\ ∀ o ∈ R,o.length <= 1048576) /\ MdB 10000000 m /\ checkE [m] R = 0 /\ RwM 2600000 m) /\ (-9223372036854775808 <= (0 : Int) /\ (0 : Int) <= 9223372036854775807) /\ (0 <= (1 : Int) -> (1 : Int) <= 20 -> 0 <= (0 : Int) -> ∀ k,k < (1 : Int).toNat -> Rnd (trS m 0 R k) 0 R) := ⟨⟨⟨by omega,fun o ho => Nat.le_trans (hR1 o ho) (by decide)⟩,hw,hcR,rm⟩,⟨by decide,by decide⟩,fun _ _ _ k hk => by
     have : k = 0 := by have : (1 : Int).toNat = 1 := rfl; omega
     subst this; exact ok.rnd⟩
    have e1 : trR m 1 0 R = reeM (canM m) (cntK (cntD (canM m) R)) := rfl
    have e2 : trE 1 0 = 0 := rfl
    generalize hV : reeM (canM m) (cntK (cntD (canM m) R)) = V at *
    haveI : FtM V := by rw [<- hV]; infer_instance
    iterate 14 (first | refine nx ?_ | intro _)
    rw [e1,e2]
    have okv := ok.v
    have okl := ok.l
    have oks := ok.s
    have oky := ok.y
    have okR := ok.R
    have wV : MdB 10000000 V := (okR.weak (by decide)).mdb
    have hc0 : checkE [V] [] = 0 := check_good (by rw [okl]; decide) (by decide) rfl okv rfl
    clear f1 e1 e2
    repeat first | refine nx ?_ | intro _
    refine gIf (fun c => absurd rfl c) fun c => ?_
    have hbc := cL_b hLg hlE hwd c7
    have hbF : ∀ k,k < R.length -> bq (toQ l m R k) <= 6000000 := fun k hk => by
     have b1 := ok.lm k hk
     have b2 : bq (lk ⟨m,R.getD k []⟩) <= 1000000 := b1
     have b3 := bq_mul (cL l) (lk ⟨m,R.getD k []⟩)
     unfold toQ; omega
    have hbG : ∀ k,k < R.length -> bq (toQ l V R k) <= 6000000 := fun k hk => by
     have b1 := ok.lv k hk
     have b2 : bq (lk ⟨V,R.getD k []⟩) <= 1000000 := b1
     have b3 := bq_mul (cL l) (lk ⟨V,R.getD k []⟩)
     unfold toQ; omega
    have hpF : ∀ k,k <= R.length -> bq (tP (toQ l m R) (toQ l m R) k) <= 30000000 := fun k hk => by
     have := tP_bq (f := toQ l m R) hbF k hk
     have := Nat.mul_le_mul_right 6000000 (show k <= 4 by omega)
     omega
    have hpG : ∀ k,k <= R.length -> bq (tP (toQ l m R) (toQ l V R) k) <= 30000000 := fun k hk => by
     have := tP_bq (f := toQ l m R) hbG k hk
     have := Nat.mul_le_mul_right 6000000 (show k <= 4 by omega)
     omega
    have hTm : ∀ k,k < R.length -> ∃ x : Nat,R.getD k [] = [(x : Int)] /\ ToS m l l.t.order.toNat l.t.list l.by_ l.am x /\ Nn m := fun k hk => by
     obtain ⟨x,e,hx⟩ := hRx k hk
     exact ⟨x,e,to_of hLg hlE hwd c7 hw rm2 hE0 hv (by omega) hx,Nn.of hv⟩
    have hTv : ∀ k,k < R.length -> ∃ x : Nat,R.getD k [] = [(x : Int)] /\ ToS V l l.t.order.toNat l.t.list l.by_ l.am x /\ Nn V := fun k hk => by
     obtain ⟨x,e,hx⟩ := hRx k hk
     exact ⟨x,e,to_of hLg hlE hwd c7 wV (okR.weak (by decide)) hc0 okv (by omega) (by omega),Nn.of okv⟩
    have hle : tP (toQ l m R) (toQ l m R) R.length <= tP (toQ l m R) (toQ l V R) R.length := tP_le (Nn.of hv) iff ok.le
    repeat first | refine nx ?_ | intro _
    rename_i v11 v12
    refine gLp (fun k : Nat => [(13,iv k)]) (fun k => [rV v11 [bv (frK (tP (toQ l m R) (toQ l m R) k)).neg,lv rU (frK (tP (toQ l m R) (toQ l m R) k)).n,lv rU (frK (tP (toQ l m R) (toQ l m R) k)).d] 32,rV v12 [bv (frK (tP (toQ l m R) (toQ l V R) k)).neg,lv rU (frK (tP (toQ l m R) (toQ l V R) k)).n,lv rU (frK (tP (toQ l m R) (toQ l V R) k)).d] 32]) (fun k => k <= R.length) (fun k => R.length - k) 0 (Nat.zero_le _) (fun k hk => ?_) (h2 := ?_)
    · repeat first | refine nx ?_ | intro _
      refine gIf (fun e1 => ?_) fun e1 => ?_
      · have hT1 := hTm k e1
        have hT2 := hTv k e1
        have b1 := hbF k e1
        have b2 := hbG k e1
        have b3 := hpF k hk
        have b4 := hpG k hk
        unfold toQ at b1 b2
        repeat first | refine gDs 14 13 (by rfl) (by kernel_rfl) ?_ | refine nx ?_ | intro _
        refine gIf (fun e2 => absurd e2 (by rintro (h | h) <;> exact h rfl)) fun e2 => ?_
        repeat first | refine nx ?_ | intro _
        refine gIf (fun e3 => ?_) fun e3 => ?_
        · have y1 : tP (toQ l m R) (toQ l m R) (k + 1) = tP (toQ l m R) (toQ l m R) k * toQ l m R k := tP_yes e3
          have y2 : tP (toQ l m R) (toQ l V R) (k + 1) = tP (toQ l m R) (toQ l V R) k * toQ l V R k := tP_yes e3
          repeat first | refine nx ?_ | intro _
          refine gBk (k + 1) (by omega) (by omega) (h2 := ?_)
          rw [y1,y2]
          repeat' (first | rfl | trivial | refine And.intro ?_ ?_)
        · have y1 : tP (toQ l m R) (toQ l m R) (k + 1) = tP (toQ l m R) (toQ l m R) k := tP_no e3
          have y2 : tP (toQ l m R) (toQ l V R) (k + 1) = tP (toQ l m R) (toQ l V R) k := tP_no e3
          repeat first | refine nx ?_ | intro _
          refine gBk (k + 1) (by omega) (by omega) (h2 := ?_)
          rw [y1,y2]
          repeat' (first | rfl | trivial | refine And.intro ?_ ?_)
      · have ek : k = R.length := by omega
        subst ek
        have b3 := hpF R.length (Nat.le_refl _)
        have b4 := hpG R.length (Nat.le_refl _)
        repeat first | refine nx ?_ | intro _
        rw [Bool.and_true]
        refine decide_eq_true (Int.not_lt.1 fun h => ?_)
        have := sgQ_neg.1 h
        grind
    · exact ⟨⟨rfl,rfl,rfl⟩,⟨rfl,rfl,rfl⟩,trivial⟩
end Go.E3
namespace Go.E3
open Go.Ear
open Go.ChangeShapes Go.RowKit Go.Joins Go.Deep Go.ChangeAt
section
open Go.Proofs.YtdciabokggfpbaaGreat
abbrev bulk {H : Type} (d : DataW H) : Nat := Rows.uptoBulk d
theorem bulk_one {H : Type} (d : DataW H) : 1 <= bulk d := by
 unfold bulk
 cases d with
 | lit l => cases l <;> simp [Rows.uptoBulk]
 | _ => simp [Rows.uptoBulk]
theorem bulk_agg {H : Type} (l : List (DataW H)) : bulk (.agg l) = Rows.uptoBulkAll l + 1 := by unfold bulk; simp only [Rows.uptoBulk]
end
def PHof (w : World) : PH := fun b => w.heap[b]?
theorem PHof.sat (w : World) : Sat (PHof w) w := fun _ _ e => e
theorem sameAt_of {w w' : World} (g : Ext w w') {p : MemPlace} (hp : p.block < w.heap.size) : w.sameAt w' p := by
 cases p with
 | cell b off => show w'.cell? _ = w.cell? _; unfold World.cell?; rw [g.block b hp]
 | map b => exact g.block b hp
theorem keptBut_of {w w' : World} (g : Ext w w') (may : MemPlace -> Prop) : w.keptBut w' may := by
 refine ⟨g.os,g.output,fun i hi => ?_⟩
 rw [g.block i hi]
 cases h : w.heap[i]? with
 | none => trivial
 | some o => cases o <;> simp
theorem frozen_of {w w' : World} (g : Ext w w') {b off : Nat} (hb : b < w.heap.size) : w'.frozen? ⟨b,off,none⟩ = w.frozen? ⟨b,off,none⟩ := by
 unfold World.frozen?; show (match w'.heap[b]? with | some (.cells _ _ (lo,hi)) => _ | _ => _) = _; rw [g.block b hb]; rfl
open Go.Proofs.YtdciabokggfpbaaGreat
section
variable {H : Type} {enc : TypeId × Value -> H} {P : Program}
theorem trodAll_stays (hl : laidOutB P = true) {W W' : World} {sp : Nat -> Bool} : ∀ {ts : List TypeId} {vs : List Value} {ds : List (DataW H)} {ps : List MemPlace},
 (∀ t ∈ ts,P.readableRec t = true /\ t < P.types.size) -> DataW.TrodAll enc P W 0 (fun _ => true) true ts vs ds ps -> (∀ p ∈ ps,W.sameAt W' p) -> (∀ p ∈ ps,sp p.block = true) ->
 DataW.TrodAll enc P W' 0 sp true ts vs ds ps
 | [],vs,ds,ps,_,h,_,_ => by obtain ⟨rfl,rfl,rfl⟩ := trodAll_nil h; exact trodAll_mk0
 | t :: ts,vs,ds,ps,ht,h,hs,hp => by
   obtain ⟨v,vs',d,ds',p,q,rfl,rfl,rfl,h0,h1⟩ := trodAll_cons h
   exact trodAll_cons_mk (WideElems.Trod_stays hl (ht t (by simp)).1 (ht t (by simp)).2 h0 (fun x hx => hs x (by simp [hx])) (fun x hx => hp x (by simp [hx])))
    (trodAll_stays hl (fun t' h' => ht t' (by simp [h'])) h1 (fun x hx => hs x (by simp [hx])) (fun x hx => hp x (by simp [hx])))
theorem law_post (hl : laidOutB P = true) {tb : TypeId} (hb : P.underlying tb = some .bool) {f : Func} {s : ChangeSpec} {apart fresh handsOn again : Bool} {W W' : World} {args : Array Value} {ds : List (DataW H)} {before : List MemPlace}
 (hts : ∀ t ∈ f.params.toList,P.readableRec t = true /\ t < P.types.size) (hrt : f.resultTypes = #[tb]) (hv : s.vars = [])
 (hr : (s.fn H (ds ++ [])).results = [.lit (.bool true)]) (ha : (s.fn H (ds ++ [])).args = ds) (hvs : (s.fn H (ds ++ [])).vars = [])
 (hW : DataW.Whole enc P f.params.toList s.vars apart W args.toList ds [] before) (g : Ext W W') : s.post enc P f apart fresh handsOn again W args (.bool true) W' := by
 have hlt : ∀ x ∈ before,x.block < W.heap.size := fun x hx => by simpa using hW.lt x hx
 have hW' := hW
 obtain ⟨p,q,hA,hV,hpq,hz,hn⟩ := hW
 rw [hv] at hV
 obtain ⟨_,rfl⟩ := trodVars_none hV
 rw [List.append_nil] at hpq
 subst hpq
 have hres : ∀ (b : Nat) (sp : Nat -> Bool) (hd : Bool),DataW.TrodAll enc P W' b sp hd f.resultTypes.toList ((Value.bool true).resultList f.resultTypes.size) (s.fn H (ds ++ [])).results [] := fun b sp hd => by
  rw [hrt,hr]; exact trodAll_mk1 (shut_bool hb true)
 have hargs : ∀ sp : Nat -> Bool,(∀ p ∈ before,sp p.block = true) -> DataW.TrodAll enc P W' 0 sp true f.params.toList args.toList (s.fn H (ds ++ [])).args before := fun sp h => by
  rw [ha]; exact trodAll_stays hl hts hA (fun x hx => sameAt_of g (hlt x hx)) h
 have hvars : ∀ sp : Nat -> Bool,DataW.TrodVars enc P W' sp s.vars (s.fn H (ds ++ [])).vars [] := fun sp => by rw [hv,hvs]; rfl
 refine ⟨ds,[],before,[],before,[],hW',hres _ _ _,hargs _ (fun x hx => by simpa using hlt x hx),hvars _,keptBut_of g _,fun _ => ?_⟩
 refine ⟨ok_one hrt rfl (okWide_bool_mk hb true),_,_,([] ++ before) ++ [],⟨[] ++ before,[],trodAll_append (hargs _ (fun _ _ => rfl)) (hres _ _ _),hvars _,rfl, ?_, ?_⟩, ?_⟩
 · intro b off hp
   have hp' : MemPlace.cell b off ∈ before := by simpa using hp
   rw [frozen_of g (show b < W.heap.size from hlt _ hp')]
   exact hz b off hp'
 · intro h; simpa using hn h
 · intro x hx _; simpa using hx
theorem openLR {α : Type} {r : Rp α} {Q : α -> Prop} (μ : α -> Nat) (d0 : α) (hk0 : 0 < r.k) {t t1 : TypeId} {W : World} {fuel : Nat} {cs0 : List Value} {x : DataW H × List MemPlace} (htl : P.underlying t = some (.slice t1)) (hC : P.cellsOf t1 = r.k)
 (hel : ∀ (n : Nat) (cs : List Value) (y : DataW H × List MemPlace),DataW.trod enc P W 0 (fun _ => true) true n t1 cs = some y -> ∃ a,cs.length = r.k /\ r.R (PHof W) cs a /\ μ a <= bulk y.1 /\ Q a)
 (h : DataW.trod enc P W 0 (fun _ => true) true fuel t cs0 = some x) : ∃ v l,cs0 = [v] /\ LR r (PHof W) v l /\ (l.map μ).sum + 1 <= bulk x.1 /\ ∀ a ∈ l,Q a := by
 rcases open_slice htl h with ⟨hcs,hxx⟩ | ⟨a,len,cap,m,n,D,Pl,hcs,_,hlc,_,hm,hxx,hx⟩
 · exact ⟨_,[],hcs,LR.nil r _ _ _,by rw [hxx]; simp [bulk,Rows.uptoBulk],fun a ha => by cases ha⟩
 · simp only [if_true] at hm
   subst hm
   rw [hC] at hx
   have hx' : ∀ i, ∃ (cs : List Value) (f : α),i < len -> W.cells? 0 (a.add (i * r.k)) r.k = some cs /\ cs.length = r.k /\ r.R (PHof W) cs f /\ μ f <= bulk (D i) /\ Q f := fun i => by
    by_cases hi : i < len
    · obtain ⟨cs,g1,g2⟩ := hx i (by omega)
      obtain ⟨f,g3,g4,g5,g6⟩ := hel _ _ _ g2
      exact ⟨cs,f,fun _ => ⟨g1,g3,g4,g5,g6⟩⟩
    · exact ⟨[],d0,fun h => absurd h hi⟩
   obtain ⟨css,hx2⟩ := Classical.axiomOfChoice hx'
   obtain ⟨fs,hx3⟩ := Classical.axiomOfChoice hx2
   have hrows : ∀ (is : List Nat),(∀ i ∈ is,i < len) -> Go.Ear.Rows r (PHof W) (is.map css) (is.map fs) := by
    intro is
    induction is with
    | nil => intro _; trivial
    | cons i is ih => intro hi; exact ⟨(hx3 i (hi i (by simp))).2.2.1,ih fun j hj => hi j (by simp [hj])⟩
   have hmu : ∀ (is : List Nat),(∀ i ∈ is,i < len) -> ((is.map fs).map μ).sum <= Rows.uptoBulkAll (is.map D) := by
    intro is
    induction is with
    | nil => intro _; simp [Rows.uptoBulkAll]
    | cons i is ih => intro hi; have h1 := (hx3 i (hi i (by simp))).2.2.2.1; have h2 := ih fun j hj => hi j (by simp [hj]); simp only [List.map_cons,List.sum_cons,Rows.uptoBulkAll]; unfold bulk at h1; omega
   refine ⟨_,(List.range len).map fs,hcs,⟨(List.range len).map css, ?_,hrows _ fun i hi => by simpa using hi⟩, ?_,fun a ha => by
    obtain ⟨i,hi,rfl⟩ := List.mem_map.1 ha
    exact (hx3 i (by simpa using hi)).2.2.2.2⟩
   rotate_left
   · have h1 := hmu (List.range len) fun i hi => by simpa using hi
     rw [hxx]
     show _ <= bulk (.slice ((List.range len).map D) _)
     unfold bulk
     simp only [Rows.uptoBulk]
     omega
   have hlen : ((List.range len).map css).length = len := by simp
   refine ⟨some a,m,by rw [hlen],by rw [hlen]; exact hlc, ?_, ?_⟩
   · intro cs hcs
     obtain ⟨i,hi,rfl⟩ := List.mem_map.1 hcs
     exact (hx3 i (by simpa using hi)).2.1
   · by_cases hz : len = 0
     · left; subst hz; rfl
     · right
       have c0 := (World.cells?_some (hx3 0 (by omega)).1).2.2
       obtain ⟨b,off,sp⟩ := a
       have l0 := (hx3 0 (by omega)).2.1
       have c00 := c0 0 (by omega)
       rw [show 0 * r.k = 0 from Nat.zero_mul _,show ((⟨b,off,sp⟩ : Addr).add 0).add 0 = ⟨b,off,sp⟩ from rfl] at c00
       rw [List.getElem?_eq_getElem (show 0 < (css 0).length by omega)] at c00
       have hbk : ∃ arr e fz,W.heap[b]? = some (.cells arr e fz) := by
        unfold World.cell? at c00
        rw [show (⟨b,off,sp⟩ : Addr).block = b from rfl] at c00
        cases hb : W.heap[b]? with
        | none => rw [hb] at c00; cases c00
        | some o =>
          cases o with
          | cells arr e fz => exact ⟨_,_,_,rfl⟩
          | _ => rw [hb] at c00; cases c00
       obtain ⟨arr,e',fz,hb⟩ := hbk
       have hsp : sp = none := by
        cases sp with
        | none => rfl
        | some y =>
          exfalso
          unfold World.cell? at c00
          rw [show (⟨b,off,some y⟩ : Addr).block = b from rfl,hb] at c00
          exact absurd c00 (by simp)
       subst hsp
       have hcl : ∀ i j,i < len -> j < r.k -> arr[off + i * r.k + j]? = (css i)[j]? := fun i j hi hj => by
        have h9 := (World.cells?_some (hx3 i hi).1).2.2 j hj
        rw [addr_add,addr_add] at h9
        unfold World.cell? at h9
        rw [show (⟨b,off + i * r.k + j,none⟩ : Addr).block = b from rfl,hb] at h9
        simpa using h9
       refine ⟨b,off,arr,e',fz,rfl,hb, ?_, ?_⟩
       · rw [hlen]
         have h9 := hcl (len - 1) (r.k - 1) (by omega) (by omega)
         have h8 := (hx3 (len - 1) (by omega)).2.1
         rw [List.getElem?_eq_getElem (show r.k - 1 < (css (len - 1)).length by omega)] at h9
         have := (Array.getElem?_eq_some_iff.1 h9).1
         have e1 : len * r.k = (len - 1) * r.k + r.k := by rw [<- Nat.succ_mul]; congr 1; omega
         omega
       · intro i cs hcs
         have hi : i < len := by have := (List.getElem?_eq_some_iff.1 hcs).1; simpa using this
         have hcs' : css i = cs := by
          rw [List.getElem?_map,List.getElem?_eq_getElem (by simpa using hi)] at hcs
          simpa using hcs
         subst hcs'
         have h8 := (hx3 i hi).2.1
         show cut arr (off + i * r.k) r.k = css i
         apply List.ext_getElem?
         intro j
         unfold cut
         rw [List.getElem?_take]
         split
         · rename_i hj
           rw [List.getElem?_drop, <- hcl i j hi hj]; simp
         · rw [List.getElem?_eq_none (by omega)]
end
end Go.E3
