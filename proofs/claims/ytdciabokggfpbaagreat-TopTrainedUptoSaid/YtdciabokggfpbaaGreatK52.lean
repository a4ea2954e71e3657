/- K52: a part of the proof about training through the decoder: how the program's functions run, and what they compute, for every input. -/
import Derived.Stop.LaidErr
import Derived.Test.YtdciabokggfpbaaGreatK51
set_option linter.all false
namespace Go.E3
open Go.Ear
set_option maxRecDepth 100000
open Go.ChangeShapes Go.WideShapes Go.RowKit Go.Joins Go.Deep Go.ChangeAt Go.Proofs Go.Proofs.YtdciabokggfpbaaGreat
theorem laidOut : laidOutB Tryz.prog = true := by kernel_rfl
theorem ownGodebug : ownKnob Tryz.prog.godebug = none := by kernel_rfl
theorem parOk : ∀ t,t = 25 \/ t = 34 \/ t = 35 -> Tryz.prog.readableRec t = true /\ t < Tryz.prog.types.size := by
 rintro t (rfl | rfl | rfl) <;> exact ⟨by kernel_rfl,of_decide_eq_true (by kernel_rfl)⟩
theorem cells31 : Tryz.prog.cellsOf 32 = 3 := by kernel_rfl
theorem cells175 : Tryz.prog.cellsOf 134 = 1 := by kernel_rfl
theorem cells22 : Tryz.prog.cellsOf 22 = 1 := by kernel_rfl
theorem cells26 : Tryz.prog.cellsOf 35 = 1 := by kernel_rfl
theorem cellsT3 : Tryz.prog.cellsOf 3 = 1 := by kernel_rfl
theorem cells25 : Tryz.prog.cellsOf 25 = 4 := by kernel_rfl
theorem cells105 : Tryz.prog.cellsOf 105 = 2 := by kernel_rfl
theorem cells28 : Tryz.prog.cellsOf 28 = 3 := by kernel_rfl
theorem cells29 : Tryz.prog.cellsOf 29 = 1 := by kernel_rfl
theorem cells34 : Tryz.prog.cellsOf 34 = 8 := by kernel_rfl
theorem cellsG : Tryz.prog.cellsOf 26 = 1 := by kernel_rfl
theorem i64_of_wf {n : Int} (h : (Lit.int .i64 n).wf = true) : -9223372036854775808 <= n /\ n <= 9223372036854775807 := by
 unfold Lit.wf at h
 rw [Bool.and_eq_true,decide_eq_true_iff,decide_eq_true_iff] at h
 exact h
theorem u32_of_wf {n : Int} (h : (Lit.int .u32 n).wf = true) : 0 <= n /\ n < 4294967296 := by
 unfold Lit.wf at h
 rw [Bool.and_eq_true,decide_eq_true_iff,decide_eq_true_iff] at h
 have e1 : IntKind.min .u32 = 0 := rfl
 have e2 : IntKind.max .u32 = 4294967295 := rfl
 omega
theorem sum_mem {α : Type} {f : α -> Nat} : ∀ {l : List α} {x : α},x ∈ l -> f x <= (l.map f).sum
 | y :: l,x,h => by
   rw [List.map_cons,List.sum_cons]
   rcases List.mem_cons.1 h with rfl | h
   · omega
   · have := sum_mem (f := f) h; omega
theorem sum_len {α : Type} {f : α -> Nat} (hf : ∀ x,1 <= f x) : ∀ (l : List α),l.length <= (l.map f).sum
 | [] => Nat.le_refl _
 | y :: l => by rw [List.map_cons,List.sum_cons,List.length_cons]; have := sum_len hf l; have := hf y; omega
theorem sum_one {α : Type} : ∀ (l : List α),(l.map fun _ => 1).sum = l.length
 | [] => rfl
 | _ :: l => by rw [List.map_cons,List.sum_cons,List.length_cons,sum_one l]; omega
section
variable {H : Type} {enc : TypeId × Value -> H} {W : World}
theorem el_U (n : Nat) (cs : List Value) (y : DataW H × List MemPlace) (h : DataW.trod enc Tryz.prog W 0 (fun _ => true) true n 134 cs = some y) : ∃ z : Nat,cs.length = rU.k /\ rU.R (PHof W) cs z /\ 1 <= bulk y.1 /\ z < 4294967296 := by
 obtain ⟨z,rfl,_,w⟩ := DataW.trod_int Tryz.underlying134 h
 have := u32_of_wf w
 exact ⟨z.toNat,rfl,show den _ (.cv (.int .u32 ((z.toNat : Nat) : Int))) _ /\ True from ⟨by show _ = _; rw [Int.toNat_of_nonneg this.1],trivial⟩,bulk_one _,by omega⟩
theorem openU {n : Nat} {cs : List Value} {y : DataW H × List MemPlace} (h : DataW.trod enc Tryz.prog W 0 (fun _ => true) true n 30 cs = some y) : ∃ v l,cs = [v] /\ LR rU (PHof W) v l /\ l.length + 1 <= bulk y.1 /\ Fit l := by
 obtain ⟨v,l,e,u,b,q⟩ := openLR (r := rU) (fun _ => 1) 0 (by decide) Tryz.underlying30 cells175 el_U h
 rw [sum_one] at b
 exact ⟨v,l,e,u,b,q⟩
theorem el_F_of {t : TypeId} {f0 f1 f2 : Field} (hs : Tryz.prog.underlying t = some (.struct #[f0,f1,f2])) (hone : oneCellFields Tryz.prog #[f0,f1,f2] = true) (hC : Tryz.prog.cellsOf t = 3) (t0 : f0.type = 4) (t1 : f1.type = 30) (t2 : f2.type = 30)
 {n : Nat} {cs : List Value} {y : DataW H × List MemPlace} (h : DataW.trod enc Tryz.prog W 0 (fun _ => true) true n t cs = some y) : ∃ f : Fr,cs.length = rF.k /\ rF.R (PHof W) cs f /\ bf f + 1 <= bulk y.1 /\ FtF f := by
 obtain ⟨y0,y1,y2,m,hx,hl,g0,g1,g2⟩ := trod_struct3 hs h
 obtain ⟨o0,k0⟩ := hone_of hone 0 f0 rfl
 obtain ⟨o1,k1⟩ := hone_of hone 1 f1 rfl
 obtain ⟨o2,k2⟩ := hone_of hone 2 f2 rfl
 rw [hC] at hl
 match cs,hl with
 | [c0,c1,c2],_ =>
   rw [o0,k0,t0] at g0; rw [o1,k1,t1] at g1; rw [o2,k2,t2] at g2
   obtain ⟨s,e0,_⟩ := DataW.trod_bool Tryz.underlying4 g0
   cases e0
   obtain ⟨v1,l1,e1,u1,b1,q1⟩ := openU g1
   obtain ⟨v2,l2,e2,u2,b2,q2⟩ := openU g2
   cases e1; cases e2
   refine ⟨⟨s,l1,l2⟩,rfl,⟨rfl,u1,u2,trivial⟩, ?_,⟨q1,q2⟩⟩
   rw [hx]
   have b0 := bulk_one y0.1
   show _ <= bulk (.agg [y0.1,y1.1,y2.1])
   have := bulk_agg [y0.1,y1.1,y2.1]
   simp only [Rows.uptoBulkAll] at this
   unfold bf; dsimp only
   unfold bulk at *; omega
theorem el_F (n : Nat) (cs : List Value) (y : DataW H × List MemPlace) (h : DataW.trod enc Tryz.prog W 0 (fun _ => true) true n 32 cs = some y) : ∃ f : Fr,cs.length = rF.k /\ rF.R (PHof W) cs f /\ bf f + 1 <= bulk y.1 /\ FtF f :=
 el_F_of Tryz.underlying32 (by kernel_rfl) cells31 rfl rfl rfl h
theorem openLF {n : Nat} {cs : List Value} {y : DataW H × List MemPlace} (h : DataW.trod enc Tryz.prog W 0 (fun _ => true) true n 22 cs = some y) : ∃ v l,cs = [v] /\ LR rF (PHof W) v l /\ wts l + 1 <= bulk y.1 /\ FtS l := by
 obtain ⟨v,l,e,u,b,q⟩ := openLR (r := rF) (fun f => bf f + 1) fr0 (by decide) Tryz.underlying22 cells31 el_F h
 exact ⟨v,l,e,u,b,⟨q⟩⟩
theorem el_LF (n : Nat) (cs : List Value) (y : DataW H × List MemPlace) (h : DataW.trod enc Tryz.prog W 0 (fun _ => true) true n 22 cs = some y) : ∃ l : List Fr,cs.length = (rL rF).k /\ (rL rF).R (PHof W) cs l /\ wts l + 1 <= bulk y.1 /\ FtS l := by
 obtain ⟨v,l,rfl,u,b,q⟩ := openLF h
 exact ⟨l,rfl,⟨u,trivial⟩,b,q⟩
theorem openLLF {n : Nat} {cs : List Value} {y : DataW H × List MemPlace} (h : DataW.trod enc Tryz.prog W 0 (fun _ => true) true n 23 cs = some y) : ∃ v l,cs = [v] /\ LR (rL rF) (PHof W) v l /\ (l.map fun r => wts r + 1).sum + 1 <= bulk y.1 /\ FtR l := by
 obtain ⟨v,l,e,u,b,q⟩ := openLR (r := rL rF) (fun r => wts r + 1) [] (by decide) Tryz.underlying23 cells22 el_LF h
 exact ⟨v,l,e,u,b,⟨q⟩⟩
theorem rows_tot : ∀ (l : List (List Fr)),totL l + l.length <= (l.map fun r => wts r + 1).sum
 | [] => Nat.le_refl _
 | y :: l => by
   rw [List.map_cons,List.sum_cons,List.length_cons]
   have := rows_tot l; have h2 := len_wts y
   have : totL (y :: l) = y.length + totL l := by unfold totL; rw [List.flatten_cons,List.length_append]
   omega
theorem rows_wts {l : List (List Fr)} {r : List Fr} (h : r ∈ l) : wts r + 1 <= (l.map fun r => wts r + 1).sum := sum_mem (f := fun r => wts r + 1) h
theorem upK_of {m : Md} (h : wts m.start + (m.move.map fun r => wts r + 1).sum + wts m.fin + (m.say.map fun r => wts r + 1).sum <= 1048576) (t : FtM m) : UpK m := by
 have h1 := len_wts m.start; have h2 := len_wts m.fin; have h3 := rows_tot m.move; have h4 := rows_tot m.say
 exact ⟨⟨by omega,by omega⟩,⟨by omega,fun r hr => by have := rows_wts hr; omega,by omega,fun r hr => by have := rows_wts hr; omega⟩,t⟩
theorem openModel {r : Reach} {b0 : Nat} {v : Value} {d : DataW H} {p : List MemPlace} (hv : Value.okWide Tryz.prog W r b0 25 v) (h : DataW.Trod enc Tryz.prog W 0 (fun _ => true) true 25 v d p) (hb : bulk d <= 1048576) : ∃ m,den (PHof W) (mv m) v /\ UpK m := by
 obtain ⟨v0,v1,v2,v3,y0,y1,y2,y3,n,rfl,rfl,rfl,g0,g1,g2,g3⟩ := open_agg4 Tryz.underlying25 (by kernel_rfl) cells25 hv h
 obtain ⟨_,l0,e0,u0,b0,q0⟩ := openLF g0
 obtain ⟨_,l1,e1,u1,b1,q1⟩ := openLLF g1
 obtain ⟨_,l2,e2,u2,b2,q2⟩ := openLF g2
 obtain ⟨_,l3,e3,u3,b3,q3⟩ := openLLF g3
 cases e0; cases e1; cases e2; cases e3
 rw [bulk_agg] at hb
 simp only [Rows.uptoBulkAll] at hb
 exact ⟨⟨l0,l1,l2,l3⟩,⟨[v0,v1,v2,v3],rfl,u0,u1,u2,u3,trivial⟩,upK_of (by dsimp only; unfold bulk at *; omega) ⟨q0,q1,q2,q3⟩⟩
theorem el_I (n : Nat) (cs : List Value) (y : DataW H × List MemPlace) (h : DataW.trod enc Tryz.prog W 0 (fun _ => true) true n 3 cs = some y) : ∃ z : Int,cs.length = rI.k /\ rI.R (PHof W) cs z /\ 1 <= bulk y.1 /\ (-9223372036854775808 <= z /\ z <= 9223372036854775807) := by
 obtain ⟨z,rfl,_,w⟩ := DataW.trod_int Tryz.underlying3 h
 exact ⟨z,rfl,⟨rfl,trivial⟩,bulk_one _,i64_of_wf w⟩
theorem openLI {n : Nat} {cs : List Value} {y : DataW H × List MemPlace} (h : DataW.trod enc Tryz.prog W 0 (fun _ => true) true n 35 cs = some y) : ∃ v l,cs = [v] /\ LR rI (PHof W) v l /\ l.length + 1 <= bulk y.1 /\ ∀ z ∈ l, -9223372036854775808 <= z /\ z <= 9223372036854775807 := by
 obtain ⟨v,l,e,u,b,q⟩ := openLR (r := rI) (fun _ => 1) 0 (by decide) Tryz.underlying35 cellsT3 el_I h
 rw [sum_one] at b
 exact ⟨v,l,e,u,b,q⟩
theorem openInts {r : Reach} {b0 : Nat} {v : Value} {d : DataW H} {p : List MemPlace} (hv : Value.okWide Tryz.prog W r b0 35 v) (h : DataW.Trod enc Tryz.prog W 0 (fun _ => true) true 35 v d p) (hb : bulk d <= 1048576) : ∃ l,den (PHof W) (lv rI l) v /\ l.length <= 1048576 /\ I64s l := by
 obtain ⟨a0,len,cap,rfl⟩ := okWide_slice Tryz.underlying35 hv
 obtain ⟨fuel,hf⟩ := h
 obtain ⟨_,l,e,u,b,q⟩ := openLI hf
 cases e
 exact ⟨l,u,by dsimp only at b; omega,q⟩
theorem el_G (n : Nat) (cs : List Value) (y : DataW H × List MemPlace) (h : DataW.trod enc Tryz.prog W 0 (fun _ => true) true n 105 cs = some y) : ∃ g : Gm,cs.length = rGm.k /\ rGm.R (PHof W) cs g /\ g.ws.length + 1 <= bulk y.1 /\ True := by
 obtain ⟨y0,y1,m,hx,hl,g0,g1⟩ := trod_struct2 Tryz.underlying105 h
 rw [cells105] at hl
 match cs,hl with
 | [c0,c1],_ =>
   have g0 : DataW.trod enc Tryz.prog W 0 (fun _ => true) true m 35 [c0] = some y0 := by simpa [cells26] using g0
   have g1 : DataW.trod enc Tryz.prog W 0 (fun _ => true) true m 3 [c1] = some y1 := by simpa [cellsT3] using g1
   obtain ⟨v,l,e,u,b,_⟩ := openLI g0
   cases e
   obtain ⟨z,e1,_,w⟩ := DataW.trod_int Tryz.underlying3 g1
   cases e1
   refine ⟨⟨l,z⟩,rfl,⟨u,rfl,trivial⟩, ?_,trivial⟩
   rw [hx]
   have := bulk_agg [y0.1,y1.1]
   simp only [Rows.uptoBulkAll] at this
   show _ <= bulk (.agg [y0.1,y1.1])
   unfold bulk at *; dsimp only at *; omega
theorem openLG {n : Nat} {cs : List Value} {y : DataW H × List MemPlace} (h : DataW.trod enc Tryz.prog W 0 (fun _ => true) true n 26 cs = some y) : ∃ v l,cs = [v] /\ LR rGm (PHof W) v l /\ (l.map fun g => g.ws.length + 1).sum + 1 <= bulk y.1 := by
 obtain ⟨v,l,e,u,b,q⟩ := openLR (r := rGm) (fun g => g.ws.length + 1) gm0 (by decide) Tryz.underlying26 cells105 el_G h
 exact ⟨v,l,e,u,b⟩
theorem openLang {r : Reach} {b0 : Nat} {v : Value} {d : DataW H} {p : List MemPlace} (hv : Value.okWide Tryz.prog W r b0 34 v) (h : DataW.Trod enc Tryz.prog W 0 (fun _ => true) true 34 v d p) (hb : bulk d <= 1048576) : ∃ l,den (PHof W) (lgV l) v /\ UpL l := by
 obtain ⟨cs,rfl,hsz⟩ := okWide_struct Tryz.underlying34 hv
 have hsz : cs.toList.length = 8 := by rw [Array.length_toList]; exact hsz.trans cells34
 obtain ⟨fuel,hf⟩ := h
 obtain ⟨y0,y1,y2,y3,n,hx,_,g0,g1,g2,g3⟩ := trod_struct4 Tryz.underlying34 hf
 obtain ⟨l,hl⟩ : ∃ l,cs.toList = l := ⟨_,rfl⟩
 have hcs : (Value.agg cs).cells.toList = l := hl
 rw [hcs] at g0 g1 g2 g3
 rw [hl] at hsz
 match l,hsz,hl with
 | [c0,c1,c2,c3,c4,c5,c6,c7],_,hl =>
   have g0 : DataW.trod enc Tryz.prog W 0 (fun _ => true) true n 28 [c0,c1,c2] = some y0 := by simpa [cells28] using g0
   have g1 : DataW.trod enc Tryz.prog W 0 (fun _ => true) true n 29 [c3] = some y1 := by simpa [cells29] using g1
   have g2 : DataW.trod enc Tryz.prog W 0 (fun _ => true) true n 32 [c4,c5,c6] = some y2 := by simpa [cells31] using g2
   have g3 : DataW.trod enc Tryz.prog W 0 (fun _ => true) true n 22 [c7] = some y3 := by simpa [cells22] using g3
   obtain ⟨z0,z1,z2,k,hx2,_,k0,k1,k2⟩ := trod_struct3 Tryz.underlying28 g0
   have k0 : DataW.trod enc Tryz.prog W 0 (fun _ => true) true k 3 [c0] = some z0 := by simpa [cellsT3] using k0
   have k1 : DataW.trod enc Tryz.prog W 0 (fun _ => true) true k 3 [c1] = some z1 := by simpa [cellsT3] using k1
   have k2 : DataW.trod enc Tryz.prog W 0 (fun _ => true) true k 26 [c2] = some z2 := by simpa [cellsG] using k2
   obtain ⟨q0,e0,_,_⟩ := DataW.trod_int Tryz.underlying3 k0
   obtain ⟨q1,e1,_,_⟩ := DataW.trod_int Tryz.underlying3 k1
   obtain ⟨q3,e3,_,_⟩ := DataW.trod_int Tryz.underlying29 g1
   cases e0; cases e1; cases e3
   obtain ⟨_,gs,e2,ug,bg⟩ := openLG k2
   cases e2
   obtain ⟨f,_,uf,bf1,ff⟩ := el_F n _ y2 g2
   obtain ⟨_,mx,e7,um,bm,fm⟩ := openLF g3
   cases e7
   have hx1 : d = .agg [y0.1,y1.1,y2.1,y3.1] := congrArg Prod.fst hx
   subst hx1
   have hx2 : y0.1 = .agg [z0.1,z1.1,z2.1] := congrArg Prod.fst hx2
   have b4 := bulk_agg [y0.1,y1.1,y2.1,y3.1]
   have b3 := bulk_agg [z0.1,z1.1,z2.1]
   rw [<- hx2] at b3
   simp only [Rows.uptoBulkAll] at b3 b4
   have hlen := sum_len (f := fun g : Gm => g.ws.length + 1) (fun x => by omega) gs
   have hmx := len_wts mx
   have hn := bf_n f
   have hd := bf_d f
   obtain ⟨w1,w2,w3,_⟩ := uf
   have ecs : cs = #[.int .i64 q0,.int .i64 q1,c2,.int .i64 q3,c4,c5,c6,c7] := Array.toList_inj.1 hl
   refine ⟨⟨⟨q0,q1,gs⟩,q3,f,mx⟩,⟨[.int .i64 q0,.int .i64 q1,c2,.int .i64 q3,c4,c5,c6,c7],by rw [ecs],rfl,rfl,ug,rfl,w1,w2,w3,um,trivial⟩,⟨⟨?_,fun g hg => ?_⟩,ff, ?_, ?_, ?_⟩⟩
   · dsimp only; unfold bulk at *; dsimp only at *; omega
   · have := sum_mem (f := fun g : Gm => g.ws.length + 1) hg
     dsimp only at this; unfold bulk at *; dsimp only at *; omega
   · dsimp only; unfold bulk at *; dsimp only at *; omega
   · dsimp only; unfold bulk at *; dsimp only at *; omega
   · dsimp only; unfold bulk at *; dsimp only at *; omega
end
end Go.E3
