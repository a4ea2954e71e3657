/- K22: a part of the proof about training through the decoder: how the program's functions run, and what they compute, for every input. -/
import Derived.Test.YtdciabokggfpbaaGreatK21
set_option linter.all false
set_option maxRecDepth 20000
set_option maxHeartbeats 2000000
set_option synthInstance.maxSize 1000
namespace Go.E3
open Go Go.Ear Go.Proofs
@[reducible] def mv (m : Md) : SV := .ag [lv rF m.start,lv (rL rF) m.move,lv rF m.fin,lv (rL rF) m.say]
def rM : Rp Md := mkRp 4 (fun m => [lv rF m.start,lv (rL rF) m.move,lv rF m.fin,lv (rL rF) m.say]) (fun _ => rfl) (fun _ => rfl)
instance : RpC rM (fun m => [lv rF m.start,lv (rL rF) m.move,lv rF m.fin,lv (rL rF) m.say]) := ⟨Iff.rfl⟩
instance : Rk rM 4 := ⟨rfl⟩
instance : D0 Md md0 := ⟨trivial⟩
instance (priority := high) {m : Md} : Vw mv (.ag [lv rF m.start,lv (rL rF) m.move,lv rF m.fin,lv (rL rF) m.say]) m := ⟨fun u => u⟩
instance {S : SV} {m : Md} [i : Vw mv S m] : Rd rM S m := ⟨fun u => by
 obtain ⟨vs,e,d⟩ := i.h u
 subst e; exact d⟩
instance : RT Tryz.prog 25 Md rM 96 md0 := ⟨Tryz.sizeOf25,_,_,⟨Tryz.type25,rfl,rfl,rfl,rfl⟩,fun _ => ⟨nil_lv rfl,nil_lv rfl,nil_lv rfl,nil_lv rfl,trivial⟩⟩
instance : RT Tryz.prog 35 (List Int) (rL rI) 24 [] := ⟨Tryz.sizeOf35,_,_,⟨Tryz.type35,rfl,rfl,rfl,rfl⟩,fun _ => ⟨nil_lv rfl,trivial⟩⟩
instance : MR Tryz.prog 22 24 := ⟨_,⟨Tryz.type22,rfl,rfl,rfl,rfl⟩⟩
class FtM (m : Md) : Prop where h : FtS m.start /\ FtR m.move /\ FtS m.fin /\ FtR m.say
instance {m : Md} [i : FtM m] : FtS m.start := i.h.1
instance {m : Md} [i : FtM m] : FtR m.move := i.h.2.1
instance {m : Md} [i : FtM m] : FtS m.fin := i.h.2.2.1
instance {m : Md} [i : FtM m] : FtR m.say := i.h.2.2.2
instance {a c : List Fr} {b d : List (List Fr)} [i : FtS a] [j : FtR b] [k : FtS c] [l : FtR d] : FtM ⟨a,b,c,d⟩ := ⟨i,j,k,l⟩
class VM (S : SV) (m : outParam Md) : Prop where
 v : Vw mv S m
 t : FtM m
instance {S : SV} {m : Md} [v : Vw mv S m] [t : FtM m] : VM S m := ⟨v,t⟩
class FtX (l : List Md) : Prop where h : ∀ m ∈ l,FtM m
instance : FtX [] := ⟨fun f hf => (List.not_mem_nil hf).elim⟩
instance {f : Md} {l : List Md} [a : FtM f] [b : FtX l] : FtX (f :: l) := ⟨fun g hg => by rcases List.mem_cons.1 hg with rfl | hg; exact a; exact b.h g hg⟩
class VX (S : SV) (l : outParam (List Md)) : Prop where
 v : Vw (lv rM) S l
 t : FtX l
instance {S : SV} {l : List Md} [v : Vw (lv rM) S l] [t : FtX l] : VX S l := ⟨v,t⟩
instance {a b : List Fr} [i : FtS a] [j : FtS b] : FtS (a ++ b) := ⟨fun f hf => (List.mem_append.1 hf).elim (i.h f) (j.h f)⟩
theorem cB1 {α : Type} {v : α -> SV} {x : α} {P : Program} {f : FuncId} {sd : Prop} {S R : SV} {l : List SV} {B : List Res} (i : Vw v S x) (c : CtB P f (v x :: l) B sd R) : CtB P f (S :: l) B sd R := ⟨c.fn,fun a w0 h w vs s o u => by
 match vs,u with
 | _ :: _,u => exact c.h a s o ⟨i.h u.1,u.2⟩⟩
theorem cB2 {α β : Type} {v : α -> SV} {x : α} {v2 : β -> SV} {y : β} {P : Program} {f : FuncId} {sd : Prop} {S T R : SV} {l : List SV} {B : List Res} (i : Vw v S x) (j : Vw v2 T y) (c : CtB P f (v x :: v2 y :: l) B sd R) : CtB P f (S :: T :: l) B sd R := ⟨c.fn,fun a w0 h w vs s o u => by
 match vs,u with
 | _ :: _ :: _,u => exact c.h a s o ⟨i.h u.1,j.h u.2.1,u.2.2⟩⟩
instance long_c {m : Md} {S : SV} [i : Vw mv S m] : Ct Tryz.prog 60 [S] True (bv (longM m)) := by
 refine ct1 i (ctI Tryz.call60 Tryz.func60 Tryz.ntmps60 rfl Tryz.results60 rfl [] fun h0 w0 _ => ?_)
 repeat first | refine nx ?_ | intro _
 rfl
instance cloneF_c {l : List Fr} {S : SV} [j : VL S l] : CtO Tryz.prog 118 [S] (l.length <= 1000000000000) (fun g => [rA rF 32 g.v l]) := by
 refine cO1 j.v (ctO Tryz.call118 Tryz.func118 Tryz.ntmps118 rfl Tryz.results118 rfl [5] fun h0 w0 hl => ?_)
 repeat first | refine nx ?_ | intro _
 rename_i b hb
 refine gIf (fun c => ?_) fun c => ?_ <;> repeat first | refine nx ?_ | intro _
 · exact hb c
 · rfl
instance leaving_c {l : List Fr} {a : Fr} {x : Rat} {A : Nat} {S T : SV} [j : VL S l] [i : VF T a x A] : Ct Tryz.prog 71 [S,T] (wts l <= 100000000) (lv rF (l ++ [a])) := by
 haveI := j.t
 refine ct2 j.v i.v (ctI Tryz.call71 Tryz.func71 Tryz.ntmps71 rfl Tryz.results71 rfl [6] fun h0 w0 hl => ?_)
 have hb7 := len_wts l
 repeat first | refine nx ?_ | intro _
 trivial
instance valid_c {m : Md} {S : SV} [i : VM S m] : Ct Tryz.prog 64 [S] (MdB 10000000 m) (bv (validM m)) := by
 haveI := i.t
 refine ct1 i.v (ctI Tryz.call64 Tryz.func64 Tryz.ntmps64 rfl Tryz.results64 rfl [] fun h0 w0 hb => ?_)
 have hbs := hb.start
 have hbf := hb.fin
 have hls := len_wts m.start
 repeat first | refine nx ?_ | intro _
 refine gIf (fun c => ?_) fun c => ?_ <;> repeat first | refine nx ?_ | intro _
 · rcases c with c | c
   · exact (valid_no1 (by omega)).symm
   · exact (valid_no2 c).symm
 have hc : (m.start.length < 1 \/ m.fin.length ≠ m.start.length \/ m.move.length ≠ m.start.length \/ m.say.length ≠ m.start.length) -> False := fun h => c (.inl (by omega))
 have hd : distF m.start = true := Classical.not_not.1 fun e => c (.inr e)
 refine gLp (fun k : Nat => [(44,iv k)]) (fun _ => []) (fun k => k <= m.start.length /\ (List.range k).all (rowM m) = true) (fun k => m.start.length - k) 0 ⟨Nat.zero_le _,rfl⟩ fun k ⟨hk,ha⟩ => ?_
 have hbm := hb.mv k
 have hby := hb.sy k
 have hbl : wts (m.move.getD k [] ++ [m.fin.getD k fr0]) <= _ := hb.lv k
 have hbe := bf_getD m.fin k
 repeat first | refine nx ?_ | intro _
 refine gIf (fun c2 => ?_) fun c2 => ?_ <;> repeat first | refine nx ?_ | intro _
 · refine gIf (fun c3 => ?_) fun c3 => ?_ <;> repeat first | refine nx ?_ | intro _
   · exact (valid_no3 c2 (rowM_no1 (by omega))).symm
   refine gIf (fun c4 => ?_) fun c4 => ?_ <;> repeat first | refine nx ?_ | intro _
   · exact (valid_no3 c2 (c4.elim rowM_no2 rowM_no3)).symm
   · exact gBk (k + 1) ⟨by omega,rows_succ ha (rowM_ok (by omega) (by omega) (by omega) (Classical.not_not.1 fun e => c4 (.inl e)) (Classical.not_not.1 fun e => c4 (.inr e)))⟩ (by omega)
 · exact (valid_ok (by omega) ha (by omega) hd).symm
instance chk1_c {o : List Int} {S : SV} [i : Vw (lv rI) S o] : Ct Tryz.prog 62 [S] True (bv (longO o)) := by
 refine ct1 i (ctI Tryz.call62 Tryz.func62 Tryz.ntmps62 rfl Tryz.results62 rfl [] fun h0 w0 _ => ?_)
 repeat first | refine nx ?_ | intro _
 unfold longO; rfl
instance chk2_c {m : Md} {S : SV} [i : VM S m] : Ct Tryz.prog 63 [S] (MdB 10000000 m) (bv (notV m)) := by
 haveI := i.t
 refine ct1 i.v (ctI Tryz.call63 Tryz.func63 Tryz.ntmps63 rfl Tryz.results63 rfl [] fun h0 w0 hb => ?_)
 repeat first | refine nx ?_ | intro _
 rfl
instance (priority := low) chk2s_c {m : Md} : Ct Tryz.prog 63 [mv m] (FtM m /\ MdB 10000000 m) (bv (notV m)) := ⟨Tryz.call63,fun ⟨f,b⟩ => (chk2_c (m := m) (S := mv m)).h b⟩
instance chk3_c {x k : Int} {v : Value} {t : TypeId} {B : List Res} [hv : HV B v [iv k] t] : CtB Tryz.prog 66 [iv x,ov v] B True (bv (offS k x)) := by
 refine (ctB Tryz.call66 Tryz.func66 Tryz.ntmps66 rfl Tryz.results66 rfl [] fun h0 w0 _ => ?_)
 repeat first | refine nx ?_ | intro _
 unfold offS; rfl
theorem getD_in {α : Type} {l : List α} {k : Nat} (d : α) (h : k < l.length) : l.getD k d ∈ l := by rw [List.getD_eq_getElem?_getD,List.getElem?_eq_getElem h]; exact List.getElem_mem h
instance idxM_c {l : List Md} {S F : SV} {B : List Res} {sd : Md -> Prop} {p : Md -> Bool} [j : VX S l] [fv : ∀ m : Md,Fv Tryz.prog F [mv m] B (sd m) (bv (p m))] : CtB Tryz.prog 113 [S,F] B (l.length <= 1099511627776 /\ ∀ m ∈ l,sd m) (iv (idxP p l)) := by
 haveI := j.t
 refine cB2 j.v (v2 := fun _ : Unit => F) ⟨fun u => u⟩ (ctB Tryz.call113 Tryz.func113 Tryz.ntmps113 rfl Tryz.results113 rfl [] fun h0 w0 ⟨hb,hs⟩ => ?_) (y := ())
 repeat first | refine nx ?_ | intro _
 refine gLp (fun k : Nat => [(8,iv k)]) (fun _ => []) (fun k => k <= l.length /\ (l.take k).any p = false) (fun k => l.length - k) 0 ⟨Nat.zero_le _,rfl⟩ fun k ⟨hk,hn⟩ => ?_
 repeat first | refine nx ?_ | intro _
 refine gIf (fun c => ?_) fun c => ?_
 · have hsd := hs _ (getD_in md0 c)
   repeat first | refine nx ?_ | intro _
   refine gIf (fun c2 => ?_) fun c2 => ?_ <;> repeat first | refine nx ?_ | intro _
   · exact (idx_found md0 c hn c2).symm
   · exact gBk (k + 1) ⟨by omega,any_take_succ md0 c hn (Bool.eq_false_iff.2 c2)⟩ (by omega)
 · repeat first | refine nx ?_ | intro _
   exact (idx_none (by omega) hn).symm
instance cntM_c {l : List Md} {S F : SV} {B : List Res} {sd : Md -> Prop} {p : Md -> Bool} [j : VX S l] [fv : ∀ m : Md,Fv Tryz.prog F [mv m] B (sd m) (bv (p m))] : CtB Tryz.prog 59 [S,F] B (l.length <= 1099511627776 /\ ∀ m ∈ l,sd m) (bv (l.any p)) := by
 haveI := j.t
 refine cB2 j.v (v2 := fun _ : Unit => F) ⟨fun u => u⟩ (ctB Tryz.call59 Tryz.func59 Tryz.ntmps59 rfl Tryz.results59 rfl [] fun h0 w0 ⟨hb,hs⟩ => ?_) (y := ())
 repeat first | refine nx ?_ | intro _
 exact idx_any
instance idxO_c {l : List (List Int)} {S F : SV} {B : List Res} {sd : (List Int) -> Prop} {p : (List Int) -> Bool} [j : Vw (lv (rL rI)) S l] [fv : ∀ (m : (List Int)),Fv Tryz.prog F [lv rI m] B (sd m) (bv (p m))] : CtB Tryz.prog 114 [S,F] B (l.length <= 1099511627776 /\ ∀ m ∈ l,sd m) (iv (idxP p l)) := by
 refine cB2 j (v2 := fun _ : Unit => F) ⟨fun u => u⟩ (ctB Tryz.call114 Tryz.func114 Tryz.ntmps114 rfl Tryz.results114 rfl [] fun h0 w0 ⟨hb,hs⟩ => ?_) (y := ())
 repeat first | refine nx ?_ | intro _
 refine gLp (fun k : Nat => [(8,iv k)]) (fun _ => []) (fun k => k <= l.length /\ (l.take k).any p = false) (fun k => l.length - k) 0 ⟨Nat.zero_le _,rfl⟩ fun k ⟨hk,hn⟩ => ?_
 repeat first | refine nx ?_ | intro _
 refine gIf (fun c => ?_) fun c => ?_
 · have hsd := hs _ (getD_in [] c)
   repeat first | refine nx ?_ | intro _
   refine gIf (fun c2 => ?_) fun c2 => ?_ <;> repeat first | refine nx ?_ | intro _
   · exact (idx_found [] c hn c2).symm
   · exact gBk (k + 1) ⟨by omega,any_take_succ [] c hn (Bool.eq_false_iff.2 c2)⟩ (by omega)
 · repeat first | refine nx ?_ | intro _
   exact (idx_none (by omega) hn).symm
instance cntO_c {l : List (List Int)} {S F : SV} {B : List Res} {sd : (List Int) -> Prop} {p : (List Int) -> Bool} [j : Vw (lv (rL rI)) S l] [fv : ∀ (m : (List Int)),Fv Tryz.prog F [lv rI m] B (sd m) (bv (p m))] : CtB Tryz.prog 61 [S,F] B (l.length <= 1099511627776 /\ ∀ m ∈ l,sd m) (bv (l.any p)) := by
 refine cB2 j (v2 := fun _ : Unit => F) ⟨fun u => u⟩ (ctB Tryz.call61 Tryz.func61 Tryz.ntmps61 rfl Tryz.results61 rfl [] fun h0 w0 ⟨hb,hs⟩ => ?_) (y := ())
 repeat first | refine nx ?_ | intro _
 exact idx_any
instance idxI_c {l : List Int} {S F : SV} {B : List Res} {sd : Int -> Prop} {p : Int -> Bool} [j : Vw (lv rI) S l] [fv : ∀ (m : Int),Fv Tryz.prog F [iv m] B (sd m) (bv (p m))] : CtB Tryz.prog 116 [S,F] B (l.length <= 1099511627776 /\ ∀ m ∈ l,sd m) (iv (idxP p l)) := by
 refine cB2 j (v2 := fun _ : Unit => F) ⟨fun u => u⟩ (ctB Tryz.call116 Tryz.func116 Tryz.ntmps116 rfl Tryz.results116 rfl [] fun h0 w0 ⟨hb,hs⟩ => ?_) (y := ())
 repeat first | refine nx ?_ | intro _
 refine gLp (fun k : Nat => [(8,iv k)]) (fun _ => []) (fun k => k <= l.length /\ (l.take k).any p = false) (fun k => l.length - k) 0 ⟨Nat.zero_le _,rfl⟩ fun k ⟨hk,hn⟩ => ?_
 repeat first | refine nx ?_ | intro _
 refine gIf (fun c => ?_) fun c => ?_
 · have hsd := hs _ (getD_in 0 c)
   repeat first | refine nx ?_ | intro _
   refine gIf (fun c2 => ?_) fun c2 => ?_ <;> repeat first | refine nx ?_ | intro _
   · exact (idx_found 0 c hn c2).symm
   · exact gBk (k + 1) ⟨by omega,any_take_succ 0 c hn (Bool.eq_false_iff.2 c2)⟩ (by omega)
 · repeat first | refine nx ?_ | intro _
   exact (idx_none (by omega) hn).symm
instance cntI_c {l : List Int} {S F : SV} {B : List Res} {sd : Int -> Prop} {p : Int -> Bool} [j : Vw (lv rI) S l] [fv : ∀ (m : Int),Fv Tryz.prog F [iv m] B (sd m) (bv (p m))] : CtB Tryz.prog 65 [S,F] B (l.length <= 1099511627776 /\ ∀ m ∈ l,sd m) (bv (l.any p)) := by
 refine cB2 j (v2 := fun _ : Unit => F) ⟨fun u => u⟩ (ctB Tryz.call65 Tryz.func65 Tryz.ntmps65 rfl Tryz.results65 rfl [] fun h0 w0 ⟨hb,hs⟩ => ?_) (y := ())
 repeat first | refine nx ?_ | intro _
 exact idx_any
instance check_c {ms : List Md} {data : List (List Int)} {S T : SV} [i : VX S ms] [j : Vw (lv (rL rI)) T data] : Ct Tryz.prog 26 [S,T] (ms.length <= 1099511627776 /\ data.length <= 1099511627776 /\ (∀ m ∈ ms,MdB 10000000 m) /\ (data.length = 0 \/ 0 < ms.length) /\ ∀ o ∈ data,o.length <= 1099511627776) (iv (checkE ms data)) := by
 haveI := i.t
 refine ct2 i.v j (ctI Tryz.call26 Tryz.func26 Tryz.ntmps26 rfl Tryz.results26 rfl [] fun h0 w0 ⟨h1,h2,h3,h4,h5⟩ => ?_)
 have hx : ∀ m ∈ ms,FtM m /\ MdB 10000000 m := fun m hm => ⟨i.t.h m hm,h3 m hm⟩
 repeat first | refine nx ?_ | intro _
 refine gIf (fun c => ?_) fun c => ?_ <;> repeat first | refine nx ?_ | intro _
 · exact checkE_long (by rcases c with (c | c) | c; exact .inl c; exact .inr (.inl c); exact .inr (.inr c))
 have k1 : ¬ ms.any longM = true := fun e => c (.inl (.inl e))
 have k2 : ¬ 200 < data.length := fun e => c (.inl (.inr e))
 have k3 : ¬ data.any longO = true := fun e => c (.inr e)
 refine gIf (fun c2 => ?_) fun c2 => ?_ <;> repeat first | refine nx ?_ | intro _
 · exact checkE_bad k1 k2 k3 c2
 refine gLp (fun k : Nat => [(23,iv k)]) (fun _ => []) (fun k => k <= data.length /\ (data.take k).any (heardM ms) = false) (fun k => data.length - k) 0 ⟨Nat.zero_le _,rfl⟩ fun k ⟨hk,hn⟩ => ?_
 repeat first | refine nx ?_ | intro _
 refine gIf (fun c3 => ?_) fun c3 => ?_
 · have hv := valid_first c2 (by omega)
   have hvl := valid_len hv
   have hod := h5 _ (getD_in [] c3)
   repeat first | refine nx ?_ | intro _
   refine gIf (fun c4 => ?_) fun c4 => ?_ <;> repeat first | refine nx ?_ | intro _
   · exact checkE_off k1 k2 k3 c2 (any_at [] c3 c4)
   · exact gBk (k + 1) ⟨by omega,any_take_succ [] c3 hn (Bool.eq_false_iff.2 c4)⟩ (by omega)
 · repeat first | refine nx ?_ | intro _
   exact checkE_ok k1 k2 k3 c2 (by rw [<- hn,List.take_of_length_le (by omega)])
instance Check_c {m : Md} {S : SV} [i : VM S m] : Ct Tryz.prog 134 [S] (MdB 10000000 m) (iv (checkE [m] [])) := by
 haveI := i.t
 refine ct1 i.v (ctI Tryz.call134 Tryz.func134 Tryz.ntmps134 rfl Tryz.results134 rfl [] fun h0 w0 hb => ?_)
 have h1 : ∀ x ∈ [m],MdB 10000000 x := fun x hx => by rw [List.mem_singleton.1 hx]; exact hb
 repeat first | refine nx ?_ | intro _
 trivial
end Go.E3
