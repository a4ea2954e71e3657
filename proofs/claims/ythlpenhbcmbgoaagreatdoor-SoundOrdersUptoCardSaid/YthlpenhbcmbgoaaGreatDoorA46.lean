/- A46: a part of the proofs about what is clipped and stored: how the program's functions run, and what they compute, for every input. -/
import Derived.Test.YthlpenhbcmbgoaaGreatDoorA45
import Derived.Test.YthlpenhbcmbgoaaGreatDoorA38
import Derived.Test.YthlpenhbcmbgoaaGreatDoorK10
set_option linter.all false
set_option linter.unusedVariables false
set_option maxRecDepth 20000
set_option maxHeartbeats 4000000
set_option synthInstance.maxSize 1000
namespace Go.E3
open Go Go.Ear Go.Proofs
structure NdO where
  phone : Int
  parent : Int
  v : Value
  f : Fr
def ndo0 : NdO := ⟨0, 0, vnil, fr0⟩
@[reducible] def ndoS (e : NdO) : List SV := [iv e.phone, iv e.parent, ov e.v, bv e.f.neg, lv rU e.f.n, lv rU e.f.d]
def rNO : Rp NdO := mkRp 6 ndoS (fun _ => rfl) (fun _ => rfl)
theorem rtNO : RT Tryz.prog 80 NdO rNO 96 ndo0 := ⟨Tryz.sizeOf80, _, _, ⟨Tryz.type80, rfl, rfl, rfl, rfl⟩, fun _ => ⟨rfl, rfl, ⟨rfl, rfl⟩, rfl, nil_lv rfl, nil_lv rfl, trivial⟩⟩
def zipN : List NdO → List (List Int) → List Nd
  | o :: os, e :: ls => ⟨o.phone, o.parent, e, o.f⟩ :: zipN os ls
  | _, _ => []
theorem rows_zipN {h : PH} : ∀ {css : List (List Value)} {os : List NdO} {ls : List (List Int)}, Go.Ear.Rows rNO h css os → os.length = ls.length → (∀ t, LR rI h ((os.map NdO.v).getD t vnil) (ls.getD t [])) → Go.Ear.Rows rN h css (zipN os ls)
  | [], [], [], _, _, _ => trivial
  | cs :: css, o :: os, e :: ls, u, hl, z => ⟨by
    have z0 : LR rI h o.v e := z 0
    match cs, u.1 with
    | [x1, x2, x3, x4, x5, x6], ⟨u1, u2, u3, u4, u5, u6, _⟩ =>
      refine ⟨u1, u2, ?_, u4, u5, u6, trivial⟩
      show LR rI h x3 e
      rw [show x3 = _ from u3.1]; exact z0, rows_zipN u.2 (by simpa using hl) fun t => z (t + 1)⟩
theorem LR.zipN {h : PH} {v : Value} {os : List NdO} {ls : List (List Int)} (u : LR rNO h v os) (hl : os.length = ls.length) (z : ∀ t, LR rI h ((os.map NdO.v).getD t vnil) (ls.getD t [])) : LR rN h v (zipN os ls) := by
  obtain ⟨css, a, b⟩ := u
  exact ⟨css, a, rows_zipN b hl z⟩
section
variable {P : Program} {n : Nat} {X : Fix} {ms : List Nat} {loc env env' : EL} {B B1 B2 B3 : List Res} {k : Kt} {c : Code} {e : Exit}
end
section
variable {P : Program} {n : Nat} {X : Fix} {ms : List Nat} {env : EL} {ol : List Oper} {B : List Res} {k : Kt} {p m : Nat}
variable {L loc : EL} {i d : Nat} {t : TypeId} {ty : TypeId} {pos : String} {af : Array Edge} {rest : List Oper} {x o2 : Operand}
end
theorem put_putIn {arr : Array Value} {p m o : Nat} {vs : List Value} (hf : p + m ≤ arr.size) (ho : o + vs.length ≤ m) : putIn arr (p + o) vs = putIn arr p ((cut arr p m).take o ++ vs ++ (cut arr p m).drop (o + vs.length)) := by
  have hl : (cut arr p m).length = m := by unfold cut; rw [List.length_take, List.length_drop, Array.length_toList]; omega
  have hl2 : arr.toList.length = arr.size := Array.length_toList
  have hn : ((cut arr p m).take o ++ vs ++ (cut arr p m).drop (o + vs.length)).length = m := by
    rw [List.length_append, List.length_append, List.length_take, List.length_drop, hl]; omega
  apply Array.toList_inj.1
  rw [putIn_toList _ _ _ (by omega), putIn_toList _ _ _ (by rw [hn]; exact hf), hn]
  unfold cut
  have e1 : arr.toList.take (p + o) = arr.toList.take p ++ ((arr.toList.drop p).take m).take o := by
    rw [List.take_take, Nat.min_eq_left (by omega), List.take_add]
  have e2 : arr.toList.drop (p + o + vs.length) = ((arr.toList.drop p).take m).drop (o + vs.length) ++ arr.toList.drop (p + m) := by
    rw [List.drop_take, List.drop_drop, show p + (o + vs.length) = p + o + vs.length by omega]
    have h := List.take_append_drop (m - (o + vs.length)) (arr.toList.drop (p + o + vs.length))
    rw [List.drop_drop, show p + o + vs.length + (m - (o + vs.length)) = p + m by omega] at h
    exact h.symm
  rw [e1, e2]
  simp only [List.append_assoc]
class RdM {α : Type} (r : Rp α) (o : Nat) (S : SV) (m : outParam Nat) (f : outParam (α → α)) : Prop where
  h : ∀ {h cs x v}, r.R h cs x → den h S v → ∃ ys, v = .agg ys.toArray ∧ o + m ≤ r.k ∧ ys.length = m ∧ (∀ c ∈ ys, c.oneCell' = true) ∧ r.R h (cs.take o ++ ys ++ cs.drop (o + m)) (f x)
theorem frl_one (g : Fr) : (frl g).all SV.one = true := rfl
section
variable {P : Program} {n : Nat} {X : Fix} {ms : List Nat} {loc env : EL} {B : List Res} {k : Kt} {ol rest : List Oper} {a m o sz : Nat} {ty : TypeId} {pos : String} {af : Array Edge} {t e : TypeId} {α : Type} {v : Value} {r : Rp α} {q : List α} {S : SV} {o1 o2 : Operand} {f : α → α} {d0 : α}
instance (priority := low) {mk : List α → List Res} [D0 α d0] [lx : Lu n true loc env o1 (pa v m a o)] [ua : UA B v α r e q mk] [rk : Rk r m] [ly : Lu n true loc env o2 S] [rd : RdM r o S sz f] [tz : TZ P t sz] : Nx (GO P n X ms loc env B ol (⟨none, .store t o1 o2, ty, pos, af, none⟩ :: rest) k) (a < q.length) (GO P n X ms loc env (mk (q.set a (f (q.getD a d0)))) ol rest k) := ⟨fun hj g => ⟨fun ok ρ h w s => by
  have hx := lx.h rfl ((s.x [o1]).fx o1 (by simp))
  have hy := ly.h rfl ((s.x [o2]).fx o2 (by simp))
  obtain ⟨b, cap, arr, ev_, _, hnb, hb, hle, ur⟩ := OwnL.block (ua.own s.ow).1 (by intro e; rw [e] at hj; cases hj)
  obtain ⟨b', l', c', e1, e2⟩ := hx
  rw [ev_] at e1; cases e1
  obtain ⟨cs, hc, hs, hr⟩ := ur.at d0 hj
  obtain ⟨ys, h0, h1, h2, h3, h4⟩ := rd.h hr hy
  have hk := rk.h
  rw [hk] at hc hs h1
  refine Ops.cons (OpW.storeA tz.h h2 e2 h0 h3 hb (by omega) fun w' p => g.p (okR_none rfl ok) _ _ _ (own_elem ua s hj hk h4 ev_ hb ?_))
  rw [put_putIn hs (by rw [h2]; exact h1), hc, h2] at p; exact p⟩⟩
end
end Go.E3
