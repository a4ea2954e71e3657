/- K27: a part of the proof about training through the decoder: how the program's functions run, and what they compute, for every input. -/
import Derived.Test.YtdciabokggfpbaaGreatK26
set_option linter.all false
namespace Go.E3
open Go Go.Ear
structure MidW where
 d : Nat
 S : Value -> SV
 B2 : Value -> List Res
section
variable (P : Program) (n : Nat) (X : Fix) (ms : List Nat) (env : EL) (ol : List Oper)
end
section
variable {P : Program} {n : Nat} {X : Fix} {ms : List Nat} {env : EL} {ol : List Oper} {B : List Res} {k : Kt} {p m : Nat}
abbrev lcs (res : List (Option (Nat × SV))) : EL := (res.filterMap id).reverse
theorem lcs_some (q : Nat × SV) (res : List (Option (Nat × SV))) (L : EL) : lcs (some q :: res) ++ L = lcs res ++ (q :: L) := by simp [lcs]
theorem lcs_none (res : List (Option (Nat × SV))) : lcs (none :: res) = lcs res := by simp [lcs]
open Classical in
end
theorem ltf {a b : Nat} (h : Nat.ble a b = false) : b < a := by
 rcases Nat.lt_or_ge b a with x | x
 · exact x
 · rw [Nat.ble_eq_true_of_le x] at h; cases h
theorem Sb.tl (r : Res) (B : List Res) : Sb (r :: B) B := ⟨fun o => o.2.2.2,fun r' hr i hi => ⟨r',List.mem_cons_of_mem _ hr,hi⟩⟩
section
variable {P : Program} {n : Nat} {X : Fix} {ms : List Nat} {loc env : EL} {B Bm B1 : List Res} {k : Kt} {ol rest : List Oper} {d p m i : Nat} {op : Op} {ty : TypeId} {pos : String} {af : Array Edge} {sd : Prop} {S : SV} {t e : TypeId}
theorem TriP.sb {o : Oper} (sb : Sb B B1) (h : TriP P n X env B1 ol loc o d S) : TriP P n X env B ol loc o d S := fun ρ h1 w s => h ρ h1 w ⟨s.gr,s.fx,sb.own s.ow⟩
end
structure MidV where
 d1 : Nat
 S1 : Value -> SV
 B1 : Value -> List Res
 d2 : Nat
 S2 : Value -> SV
 B2 : Value -> Value -> List Res
section
variable (P : Program) (n : Nat) (X : Fix) (ms : List Nat) (env : EL) (ol : List Oper)
end
section
variable {P : Program} {n : Nat} {X : Fix} {ms : List Nat} {env : EL} {ol : List Oper} {B : List Res} {k : Kt} {p r m : Nat} {w : MidV}
open Classical in
noncomputable def bV (w : MidV) (p r : Nat) (B : List Res) (D : Nat -> Prop) (ρ : Env) : List Res := if D r then w.B2 (ρ w.d1) (ρ w.d2) else if D p then w.B1 (ρ w.d1) else B
end
section
class OnlyV (B : List Res) (B' : outParam (List Res)) : Prop where h : Sb B B'
instance : OnlyV [] [] := ⟨.refl _⟩
instance {v : Value} {q : List SV} {t : TypeId} {B B' : List Res} [i : OnlyV B B'] : OnlyV (rV v q t :: B) (rV v q t :: B') := ⟨i.h.cons _⟩
instance (priority := low) {r : Res} {B B' : List Res} [i : OnlyV B B'] : OnlyV (r :: B) B' := ⟨(Sb.tl r B).trans i.h⟩
variable {P : Program} {n : Nat} {X : Fix} {ms : List Nat} {loc env : EL} {B Bm : List Res} {k : Kt} {ol rest : List Oper} {d p r m i d1 d2 : Nat} {op : Op} {ty : TypeId} {pos : String} {af : Array Edge} {sd : Prop} {S : SV} {t e : TypeId} {S1 S2 : Value -> SV} {B1 : Value -> List Res} {B2 : Value -> Value -> List Res}
theorem app_triv {B C : List Res} {loc' : EL} {α : Type} {rp : Rp α} {bb : Nat} {d0 : α} {q q' : List α} {v : Value} {o1 o2 : Operand} [ts : TS P t e] [rt : RT P e α rp bb d0] (lx : ∀ {h ρ},Fx loc' env h ρ o1 -> ev n ρ o1 = v) (pa : ∀ {w0 h w},OwnB w0 B h w -> OwnB w0 (rA rp e v q :: C) h w) [ly : Lu n true loc env o2 (lv rp q')] (ql : ∀ e ∈ loc,e ∈ loc') (hs : q.length + q'.length <= 9223372036854775807 /\ (q.length + q'.length) * bb <= 140737488355328) : TriV P n X env B ol loc' ⟨some d,.call ⟨.builtin .append,[o1,o2].toArray,[t,t].toArray⟩,ty,pos,af,none⟩ (some (d,ov)) (fun v' => rA rp e v' (q ++ q') :: C) := fun ρ h w s => by
 obtain ⟨z,ti,el,hz⟩ := rt.e
 have s' : Sx X.h0 X.w0 loc' env B [o1,o2] ρ h w := s.sub (fun x hx => by simp [looks,Op.operands,Call.operands] at hx ⊢; exact hx) (fun _ h => h)
 have s2 : Sx X.h0 X.w0 loc env B [o1,o2] ρ h w := s'.sub (fun _ h => h) ql
 have hx := lx (s'.fx o1 (by simp))
 have hy := ly.h rfl (s2.fx o2 (by simp))
 have sb : Sy X.h0 X.w0 [] [] (rA rp e v q :: C) ρ h w := ⟨s.gr,trivial,trivial,pa s.ow⟩
 refine OpG.plain (OpW.appendL (lo := 0) ts.h el.hi el.hz el.hc el.hk s.gr.sat (Nat.zero_le _) hx rfl (sb.ow.at 0 rfl).1 hy hs.1 (by rw [el.hb]; exact hs.2) fun v' w' own ow hbl => ?_)
 have sn := own_app sb own ow hbl
 exact ⟨v',h,⟨rfl,rfl,own_one own⟩,sn.gr,PH.le.refl h,(fun e => by cases e),(fun e => by cases e),sn.ow⟩
end
section
variable {P : Program} {n : Nat} {X : Fix} {ms : List Nat} {loc env : EL} {B : List Res} {ol : List Oper} {k : Kt}
theorem gDs (sz m : Nat) {id : Nat} [mx : MixO P] (hs : Nat.beq ol.length sz = true) (c : (dagC ol m (env.map (·.1)) && ol.all noDefer) = true) (g : GE P n X ms [] env B ol ol k (fun _ => false) m 0 (fun _ => []) []) : GW P n X ms loc env B (.region id ol.toArray true) k := gDr m c g
theorem gDsL (sz : Nat) (lt : Nat -> Bool) (m : Nat) {id : Nat} [mx : MixO P] (hs : Nat.beq ol.length sz = true) (c : (dagC ol m (env.map (·.1)) && ol.all noDefer) = true) (g : GE P n X ms [] env B ol ol k lt m 0 (fun _ => []) []) : GW P n X ms loc env B (.region id ol.toArray true) k := gDrL lt m c g
end
theorem _root_.Go.Ear.LR.cap {α : Type} {r : Rp α} {h : PH} {base : Option Addr} {len cap c : Nat} {l : List α} (u : LR r h (.slice base len cap) l) (hc : l.length <= c) : LR r h (.slice base len c) l := by
 obtain ⟨css,⟨b0,cp,e,h1,h2,h3⟩,b⟩ := u
 cases e
 exact ⟨css,⟨base,c,rfl,by rw [b.length]; exact hc,h2,h3⟩,b⟩
theorem OpW.sliceCap {P : Program} {n : Nat} {d : Nat} {ty : TypeId} {pos : String} {af : Array Edge} {g : Option (Nat × Bool)} {ρ : Env} {w : World} {K : Env -> World -> Prop} {t e : TypeId} {x y z : Operand} {k k2 : IntKind} {a : Option Addr} {l c m : Nat} {sz : Nat} (ht : IsUnd P t (.slice e)) (hs : IsSize P e sz) (hx : ev n ρ x = .slice a l c) (hy : ev n ρ y = .int k m) (hz : ev n ρ z = .int k2 m) (hm : m <= c)
 (hk : K (upd ρ d (.slice a m m)) w) : OpW P n ⟨some d,.slice t x none (some y) (some z),ty,pos,af,g⟩ ρ w K := by
 refine OpW.slice hx ?_ hk
 have hmm : (0 : Int) <= (m : Int) /\ (m : Int) <= (c : Int) := by omega
 have hm2 : (0 : Int) <= (m : Int) /\ (m : Int) <= (m : Int) := by omega
 have ha : (if m = 0 then a else a.map (·.add (0 * sz))) = a := by
  split
  · rfl
  · cases a <;> simp [Addr.add]
 simp only [Instr.sliceAt,Sem.run_bind,ht.run w,Result.andThen,Option.map_none,Option.map_some,hy,hz,Instr.slice,Instr.sliceBounds,Instr.sliceBound,asIntOf,Sem.run_pure,hmm,hm2,and_self,if_true,hs w,Int.toNat_natCast,Nat.sub_zero,ha]
section
variable {P : Program} {n : Nat} {c : Bool} {loc env : EL} {B : List Res} {ms : List Nat} {d : Nat} {t e : TypeId} {m : Nat} {x y z : Operand} {k k2 : IntKind} {i i2 : Int} {a b : Nat}
instance {α : Type} {r : Rp α} {q : List α} [ts : TS P t e] [tz : TZ P e m] [lx : Lu n c loc env x (lv r q)] [ly : Lu n c loc env y (.cv (.int k i))] [lz : Lu n c loc env z (.cv (.int k2 i2))] {sd sd2 : Prop} [tn : TN i a sd] [tn2 : TN i2 b sd2] : St P n c loc env B ms d (.slice t x none (some y) (some z)) ((sd /\ sd2) /\ a = b /\ a <= q.length) (lv r (q.take a)) := .p fun qc hsd _ _ _ _ _ s _ _ _ _ _ kk => by
 have u : LR r _ _ q := lx.h qc (s.f x)
 obtain ⟨base,cp,e,hc⟩ := u.shape
 rw [e] at u
 obtain ⟨⟨s1,s2⟩,s3,s4⟩ := hsd
 subst s3
 exact OpW.sliceCap ts.h tz.h e ((cvE (ly.h qc (s.f y))).trans (by rw [tn.e s1])) ((cvE (lz.h qc (s.f z))).trans (by rw [tn2.e s2])) (Nat.le_trans s4 hc) (kk _ ((u.take a s4).cap (by simp; omega)))
instance {u : TypeId} {s1 s2 : ByteArray} [lx : Lu n c loc env x (.cv (.string s1))] [ly : Lu n c loc env y (.cv (.string s2))] : St P n c loc env B ms d (.binOp .eql t x y u) True (.cv (.bool (decide (s1.data.toList = s2.data.toList)))) := .p fun q _ _ _ _ _ _ s _ _ _ _ _ kk => OpW.eqlS (cvE (lx.h q (s.f x))) (cvE (ly.h q (s.f y))) (by
 rw [ByteArray.toList_eq,ByteArray.toList_eq,Bool.eq_iff_iff]; simp) (kk _ rfl)
end
section
variable {P : Program} {n : Nat} {X : Fix} {ms : List Nat} {loc env env' : EL} {B : List Res} {ol : List Oper} {k : Kt} {a b y : Code}
instance (priority := high) {id : Nat} [ap : AppL loc env env'] : Nx (GO P n X ms loc env B ol [] (.seq (.block id (.seq a b)) k)) True (GX P n X ms [] env' B .normal (.seq (.block id (.seq a b)) k)) := ⟨fun _ a => ⟨fun _ ρ h w s => Ops.nil (a.p ρ h w ⟨s.gr,trivial,by rw [<- ap.h]; exact s.lo.app s.en,s.ow⟩)⟩⟩
end
end Go.E3
