/- K10: a part of the proofs about package model: how the program's functions run, and what they compute, for every input. -/
import Derived.Test.YtpmndikbfalfoaaGreatK7
import Derived.Test.YtpmndikbfalfoaaGreatK9
set_option linter.all false
set_option linter.unusedVariables false
namespace Go.E3
open Go Go.Ear
class It (P : Program) (F : SV) (idx : outParam (Nat → Int)) (len : outParam Nat) (sd : outParam Prop) : Prop where
  h : sd → ∀ {h x}, den h F x → ∃ (gf : FuncId) (lb : Array Value), x = .func (.func gf) #[] lb ∧ IsFn P gf ∧ IterK P gf lb (fun k => .int .i64 (idx k)) len (Sat h)
section
variable {P : Program} {n : Nat} {X : Fix} {ms : List Nat} {loc env kept : EL} {B kb : List Res} {x y : Code} {k : Kt} {σ : Type} {s1 s2 : Prop}
theorem gMe {E : σ → EL} {Bs : σ → List Res} {I : σ → Prop} (s' : σ) [me : MtE env (E s') s1] [mb : MtB B (Bs s') s2 kb] (hI : I s') (h1 : s1 := by first | trivial | ((try dsimp only); (try simp only [List.length_replicate, List.length_set]); repeat' (first | refine And.intro ?_ ?_ | rfl | trivial | omega))) (h2 : s2 := by first | trivial | ((try dsimp only); (try simp only [List.length_replicate, List.length_set]); repeat' (first | refine And.intro ?_ ?_ | rfl | trivial | omega))) :
    GX P n X ms loc env B .normal (.cut (Me X.c n X.h0 X.w0 E Bs I) k) := ⟨fun ρ h w sy => ⟨⟨ρ, rfl, s', hI, h, sy.gr, trivial, me.h h1 sy.en, ((mb.h h2).own sy.ow).left⟩⟩⟩
theorem OwnB.obj {w0 : World} {h : PH} {w w' : World} {b : Nat} {o o' : Obj} {B : List Res} (ob : OwnB w0 (rO b o :: B) h w) (p : Put w w' b o') : OwnB w0 (rO b o' :: B) h w' :=
  ⟨p.at_, fun i hi => ⟨(ob.2.1 i hi).1, (ob.2.1 i hi).2.1, by rw [p.size]; exact (ob.2.1 i hi).2.2⟩, ob.2.2.1, OwnB.after p ob.2.2.2 fun r hr q => ob.2.2.1 r hr b rfl q⟩
theorem Gr.base {h0 hi h : PH} {w0 w w' : World} (a : Gr h0 w0 hi w) (b : Gr h0 w0 h w') (l : hi.le h) : Gr hi w0 h w' := ⟨b.sat, b.ext, l, fun i e => (b.fresh i e).imp (fun q e2 => q (by
  cases x : h0 i with
  | none => rfl
  | some o => rw [a.le i o x] at e2; cases e2)) id⟩
theorem Gr.unbase {h0 hi h : PH} {w0 w w' : World} (a : Gr h0 w0 hi w) (b : Gr hi w0 h w') : Gr h0 w0 h w' := ⟨b.sat, b.ext, a.le.trans b.le, fun i e => (b.fresh i e).elim (a.fresh i) .inr⟩
theorem gRg {g : Operand} {p : Tmp} {assign body : Code} {F : SV} {idx : Nat → Int} {len : Nat} {sdI : Prop} {T : Exit → Act → World → Prop} {h0 : PH} {w0 : World} (I : Nat → σ → Prop) (rs : Nat → σ → List Res) (s0 : σ) [lg : Lu n true loc env g F] [it : It P F idx len sdI]
    [mb : MtB B (rs 0 s0) s2 kb] {Bs : Nat → σ → List Res} [ab : ∀ k s, AppL (rs k s) kb (Bs k s)] (hI : I 0 s0) (hp : nIn p env = true)
    (round : ∀ hr k s l o o' D, k < len → I k s → GW P n ⟨fun _ _ _ => False, hr, w0, ⟨some l, []⟩⟩ ms [] ((p, .cv (.int .i64 (idx k))) :: env) (rO l o :: rO D (.deferred (some [])) :: Bs k s) assign (.asg l o o' body (.cut (Me ⟨some l, []⟩ n hr w0 (fun _ => []) (fun s => rO l o' :: rO D (.deferred (some [])) :: Bs (k + 1) s) (I (k + 1))) .fin)))
    (after : ∀ D s, I len s → GX P n ⟨T, h0, w0, ⟨none, [{ target := .collected D, args := #[] }]⟩⟩ ms [] env (rO D (.deferred (some [])) :: Bs len s) .normal k)
    (hs : sdI := by first | trivial | (repeat' (first | refine And.intro ?_ ?_ | rfl | trivial | omega))) (h2 : s2 := by first | trivial | ((try dsimp only); (try simp only [List.length_replicate, List.length_set]); repeat' (first | refine And.intro ?_ ?_ | rfl | trivial | omega))) :
    GW P n ⟨T, h0, w0, X0⟩ ms loc env B (.rangeFunc g #[p] assign body) k := ⟨fun ρ hi w sy => by
  obtain ⟨gf, lb, hg, eg, hit⟩ := it.h hs (lg.h rfl ((sy.x [g]).fx g (by simp)))
  have ow0 : OwnB w0 (Bs 0 s0) hi w := by rw [← (ab 0 s0).h]; exact (mb.h h2).own sy.ow
  refine wpIn_rangeFunc ?_
  intro fn hfn
  obtain ⟨rec, hrec⟩ : ∃ rec : LoopState → Option Code → Loop, rec = fun st pe => { state := st, pending := pe, fn, tmps := (mkX X0 n ρ).tmps, params := #[p], assign, body, defers := w.heap.size } := ⟨_, rfl⟩
  obtain ⟨W1, hW1⟩ : ∃ W1, newW (newW w (.deferred (some []))) (.loop (rec .ready none)) = W1 := ⟨_, rfl⟩
  have s1 := Gr.new sy.gr.sat (.deferred (some []))
  have s2 := Gr.new s1.sat (.loop (rec .ready none))
  have gr1 : Gr hi w hi W1 := by rw [← hW1]; exact s1.trans s2
  have hsz : (newW w (.deferred (some []))).heap.size = w.heap.size + 1 := by unfold newW; simp
  have hsz2 : W1.heap.size = w.heap.size + 2 := by rw [← hW1]; unfold newW; simp
  have hK1 : W1.heap[w.heap.size]? = some (.deferred (some [])) := by rw [← hW1]; exact s2.ext.keep (newW_at w _)
  have hL1 : W1.heap[w.heap.size + 1]? = some (.loop (rec .ready none)) := by
    have := newW_at (newW w (.deferred (some []))) (.loop (rec .ready none))
    rw [hsz] at this
    rw [← hW1]; exact this
  have hw0 : w0.heap.size ≤ w.heap.size := sy.gr.ext.size
  have n1 : hi w.heap.size = none := sy.gr.sat.fresh
  have n2 : hi (w.heap.size + 1) = none := by have := s1.sat.fresh; rwa [hsz] at this
  let J : Nat → World → Prop := fun k W => ∃ s h, I k s ∧ hi.le h ∧ Gr h0 w0 h W ∧ OwnB w0 (rO (w.heap.size + 1) (.loop (rec .ready none)) :: rO w.heap.size (.deferred (some [])) :: Bs k s) h W
  have hJ0 : J 0 W1 := by
    refine ⟨s0, hi, hI, PH.le.refl hi, sy.gr.trans gr1, hL1, fun i e => by cases e; exact ⟨n2, fun _ => by omega, by omega⟩, fun r hr i e => ?_, hK1, fun i e => by cases e; exact ⟨n1, fun _ => sy.gr.ext.size, by omega⟩, fun r hr i e q => ?_, ow0.grow gr1⟩
    · cases e
      rcases List.mem_cons.1 hr with rfl | hr
      · intro e; have : w.heap.size + 1 = w.heap.size := e; omega
      · intro q; have := (ow0.foot r hr _ q).2.2; omega
    · cases e; have := (ow0.foot r hr _ q).2.2; omega
  refine ⟨w.heap.size + 1, [{ target := .collected w.heap.size, args := #[] }], W1, { target := .fn (.func gf) lb, args := #[.func (.yield (w.heap.size + 1)) #[] #[]] }, W1, gf,
    #[.func (.yield (w.heap.size + 1)) #[] #[]] ++ lb, W1, ?_, ?_, fun _ _ => trivial, ?_, (fun h => by cases h), ?_⟩
  · rw [← hW1, hrec]; exact run_enterLoop_outer _ _ _ _ _
  · simp only [resolve, eval_mkX, hg]
    simp [go_sem, ev]
  · simp [invoke, go_sem]
    exact eg _ _
  · have hc := hit (w.heap.size + 1) J W1 (fun k W ⟨s, h, _, le, gr, _⟩ => fun b o e => gr.sat b o (le b o e)) ?_ hJ0
    · refine CallsIn.mono (F := FX X0) hc ?_
      rintro e W2 ⟨⟨v, rfl⟩, s, h2, hi2, le, gr, ob⟩
      have hend := run_endLoop (P := P) ob.1 (by rw [hrec]; simp)
      refine ⟨_, _, hend, ?_⟩
      have hlt := (ob.2.1 _ rfl).2.2
      have hpt : Put W2 (W2.putObj (w.heap.size + 1) (.loop { rec .ready none with state := .exhausted })) _ _ := Put.obj hlt
      have ob2 := ob.obj hpt
      have hf := ob.2.1 (w.heap.size + 1) rfl
      subst hrec
      exact (after w.heap.size s hi2).p ρ h2 _ ⟨gr.put hpt hf.1 (hf.2.1 rfl), trivial, sy.en.mono le, ob2.2.2.2⟩
    · rintro k W hk ⟨s, h, hI, le, gr, ob⟩
      have hy := run_yield (P := P) (args := #[.int .i64 (idx k)]) ob.1 (by rw [hrec]; rfl)
      refine ⟨_, _, _, _, hy, ?_⟩
      rw [hrec]
      refine roundIn_of_wpIn (F := Fence.wide) trivial ?_
      have hact : ((#[p].zip #[Value.int .i64 (idx k)]).foldl (fun tmps (x : Tmp × Value) => tmps.setIfInBounds x.1 x.2) (mkX X0 n ρ).tmps) = (mkX ⟨some (w.heap.size + 1), []⟩ n (upd ρ p (.int .i64 (idx k)))).tmps := by
        have := put_mkX (X := X0) (n := n) (ρ := ρ) (d := some p) (v := .int .i64 (idx k))
        have := congrArg Act.tmps this
        refine Eq.trans ?_ this
        simp [Act.put]
      have hr := (round hi k s (w.heap.size + 1) (.loop (rec .ready none)) (.loop { rec .ready none with state := .busy }) w.heap.size hk hI).p (upd ρ p (.int .i64 (idx k))) h W ⟨Gr.base sy.gr gr le, trivial, ⟨by rw [upd_at]; rfl, (sy.en.mono le).upd hp⟩, ob⟩
      have e : (⟨_, []⟩ : Act) = mkX ⟨some (w.heap.size + 1), []⟩ n (upd ρ p (.int .i64 (idx k))) := congrArg (fun t => (⟨t, []⟩ : Act)) hact
      refine wpIn_mono (F := FX ⟨some (w.heap.size + 1), []⟩) (by rw [e]; exact hr) ?_
      rintro e a Wa hq
      cases e with
      | normal =>
        obtain ⟨hla, hq⟩ := hq
        have hlt := blk_lt hla
        refine ⟨_, run_beginRound hla (by rw [hrec]), ?_⟩
        have hp2 := Put.obj (o := .loop { rec .ready none with state := .busy }) hlt
        refine wpIn_mono (hq _ hp2 rfl) ?_
        rintro e a3 W3 hq
        cases e with
        | normal =>
          obtain ⟨ρ3, rfl, s3, hI3, h3, sy3⟩ := Me.p hq
          have ob3 := sy3.ow
          have hlt3 := blk_lt ob3.1
          refine ⟨_, _, run_endRound none ob3.1, rfl, ?_⟩
          have hp3 := Put.obj (o := .loop (rec .ready none)) hlt3
          have he2 : ({ { rec .ready none with state := .busy } with state := if (none : Option Code).isNone then .ready else .done, pending := none } : Loop) = rec .ready none := by rw [hrec]; rfl
          rw [he2]
          have hf := ob3.2.1 (w.heap.size + 1) rfl
          exact ⟨s3, h3, hI3, sy3.gr.le, (Gr.unbase sy.gr sy3.gr).put hp3 hf.1 (hf.2.1 rfl), ob3.obj hp3⟩
        | _ => exact hq.elim
      | _ => exact hq.elim⟩
end
section
variable {α : Type} {r : Rp α} {e : TypeId} {x : Value} {q : List α} {us us2 : List Value} {ls ls2 : List (List α)} {B : List Res} {a : Nat}
theorem Sb.zset (ha : a < us.length) : Sb (rA r e x q :: rZ r e us ls :: B) (rZ r e (us.set a x) (ls.set a q) :: B) := by
  have hz : ∀ (t b : Nat), Value.blk ((us.set a x).getD t vnil) = some b → (t = a ∧ Value.blk x = some b) ∨ (t ≠ a ∧ Value.blk (us.getD t vnil) = some b) := fun t b hb => by
    rw [getD_set' ha] at hb
    by_cases e : t = a
    · rw [if_pos e] at hb; exact .inl ⟨e, hb⟩
    · rw [if_neg e] at hb; exact .inr ⟨e, hb⟩
  refine ⟨fun {w0 h w} o => ?_, fun r' hr' i hi => ?_⟩
  · obtain ⟨o1, f1, d1, ⟨l1, g1, c1⟩, f2, d2, g2⟩ := o
    have hd : ∀ b t, Value.blk x = some b → Value.blk (us.getD t vnil) ≠ some b := fun b t h1 h2 => d1 _ (List.mem_cons_self ..) b h1 ⟨t, h2⟩
    refine ⟨⟨by rw [List.length_set, List.length_set]; exact l1, fun t => ?_, fun t u b h1 h2 => ?_⟩, fun i ⟨t, ht⟩ => ?_, fun r' hr' i ⟨t, ht⟩ => ?_, g2⟩
    · rw [getD_set' ha, getD_set' (by omega)]
      by_cases e : t = a
      · rw [if_pos e, if_pos e]; exact o1
      · rw [if_neg e, if_neg e]; exact g1 t
    · rcases hz t b h1 with ⟨e1, e2⟩ | ⟨e1, e2⟩ <;> rcases hz u b h2 with ⟨e3, e4⟩ | ⟨e3, e4⟩
      · omega
      · exact (hd b u e2 e4).elim
      · exact (hd b t e4 e2).elim
      · exact c1 t u b e2 e4
    · rcases hz t i ht with ⟨_, e2⟩ | ⟨_, e2⟩
      · exact f1 i e2
      · exact f2 i ⟨t, e2⟩
    · rcases hz t i ht with ⟨_, e2⟩ | ⟨_, e2⟩
      · exact d1 r' (List.mem_cons_of_mem _ hr') i e2
      · exact d2 r' hr' i ⟨t, e2⟩
  · rcases List.mem_cons.1 hr' with rfl | hr'
    · obtain ⟨t, ht⟩ := hi
      rcases hz t i ht with ⟨_, e2⟩ | ⟨_, e2⟩
      · exact ⟨_, List.mem_cons_self .., e2⟩
      · exact ⟨_, List.mem_cons_of_mem _ (List.mem_cons_self ..), t, e2⟩
    · exact ⟨r', List.mem_cons_of_mem _ (List.mem_cons_of_mem _ hr'), hi⟩
theorem getD_snoc {β : Type _} {l : List β} {y d : β} {t : Nat} : (l ++ [y]).getD t d = if t = l.length then y else l.getD t d := by
  simp only [List.getD_eq_getElem?_getD]
  by_cases h : t < l.length
  · rw [List.getElem?_append_left h, if_neg (by omega)]
  · rw [List.getElem?_append_right (by omega)]
    by_cases e : t = l.length
    · subst e; simp
    · rw [if_neg e, List.getElem?_eq_none (by simp; omega), List.getElem?_eq_none (by omega)]
theorem Sb.zapp : Sb (rA r e x q :: rZ r e us ls :: B) (rZ r e (us ++ [x]) (ls ++ [q]) :: B) := by
  have hz : ∀ (t b : Nat), Value.blk ((us ++ [x]).getD t vnil) = some b → (t = us.length ∧ Value.blk x = some b) ∨ (t ≠ us.length ∧ Value.blk (us.getD t vnil) = some b) := fun t b hb => by
    rw [getD_snoc] at hb
    by_cases e : t = us.length
    · rw [if_pos e] at hb; exact .inl ⟨e, hb⟩
    · rw [if_neg e] at hb; exact .inr ⟨e, hb⟩
  refine ⟨fun {w0 h w} o => ?_, fun r' hr' i hi => ?_⟩
  · obtain ⟨o1, f1, d1, ⟨l1, g1, c1⟩, f2, d2, g2⟩ := o
    have hd : ∀ b t, Value.blk x = some b → Value.blk (us.getD t vnil) ≠ some b := fun b t h1 h2 => d1 _ (List.mem_cons_self ..) b h1 ⟨t, h2⟩
    refine ⟨⟨by simp [l1], fun t => ?_, fun t u b h1 h2 => ?_⟩, fun i ⟨t, ht⟩ => ?_, fun r' hr' i ⟨t, ht⟩ => ?_, g2⟩
    · rw [getD_snoc, getD_snoc, ← l1]
      by_cases e : t = us.length
      · rw [if_pos e, if_pos e]; exact o1
      · rw [if_neg e, if_neg e]; exact g1 t
    · rcases hz t b h1 with ⟨e1, e2⟩ | ⟨e1, e2⟩ <;> rcases hz u b h2 with ⟨e3, e4⟩ | ⟨e3, e4⟩
      · omega
      · exact (hd b u e2 e4).elim
      · exact (hd b t e4 e2).elim
      · exact c1 t u b e2 e4
    · rcases hz t i ht with ⟨_, e2⟩ | ⟨_, e2⟩
      · exact f1 i e2
      · exact f2 i ⟨t, e2⟩
    · rcases hz t i ht with ⟨_, e2⟩ | ⟨_, e2⟩
      · exact d1 r' (List.mem_cons_of_mem _ hr') i e2
      · exact d2 r' hr' i ⟨t, e2⟩
  · rcases List.mem_cons.1 hr' with rfl | hr'
    · obtain ⟨t, ht⟩ := hi
      rcases hz t i ht with ⟨_, e2⟩ | ⟨_, e2⟩
      · exact ⟨_, List.mem_cons_self .., e2⟩
      · exact ⟨_, List.mem_cons_of_mem _ (List.mem_cons_self ..), t, e2⟩
    · exact ⟨r', List.mem_cons_of_mem _ (List.mem_cons_of_mem _ hr'), hi⟩
theorem Rows.rL {h : PH} : ∀ {css : List (List Value)} {us : List Value} {ls : List (List α)}, Go.Ear.Rows rW h css us → us.length = ls.length → (∀ t, LR r h (us.getD t vnil) (ls.getD t [])) → Go.Ear.Rows (rL r) h css ls
  | [], [], [], _, _, _ => trivial
  | [_] :: css, x :: us, l :: ls, u, e, z => ⟨⟨by have := z 0; rw [u.1.1.1]; exact this, trivial⟩, Rows.rL u.2 (by simpa using e) fun t => z (t + 1)⟩
  | [] :: _, _ :: _, _ :: _, u, _, _ => u.1.elim
  | (_ :: _ :: _) :: _, _ :: _, _ :: _, u, _, _ => u.1.2.elim
theorem LR.rL {h : PH} {v : Value} (u : LR rW h v us) (hl : us.length = ls.length) (z : ∀ t, LR r h (us.getD t vnil) (ls.getD t [])) : LR (rL r) h v ls := by
  obtain ⟨css, a, b⟩ := u
  exact ⟨css, a, Rows.rL b hl z⟩
end
section
variable {P : Program} {n : Nat} {X : Fix} {ms : List Nat} {loc env env' : EL} {B B' : List Res} {c x y : Code} {k : Kt} {ol rest : List Oper} {d : Nat} {op : Op} {ty : TypeId} {pos : String} {af : Array Edge} {sd : Prop} {S : SV} {a b m : Nat} {t e : TypeId} {o1 o2 : Operand}
section
variable {α : Type} {r : Rp α} {bb bb2 : Nat} {d0 : α} {q : List α} {v z : Value} {vs us : List Value} {ls : List (List α)} {e2 ew : TypeId} {kx ky : IntKind} {i j : Int} {B1 B2 B3 : List Res}
instance (priority := high) [ts : TS P t e] [ts2 : TS P e e2] [mr : MR P e bb2] [rt : RT P e2 α r bb d0] [lx : Lu n true loc env o1 (.cv (.int kx i))] [ly : Lu n true loc env o2 (.cv (.int ky j))] [a1 : IN i a] [b1 : IN j b] : Nx (GO P n X ms loc env B ol (⟨some d, .makeSlice t o1 o2, ty, pos, af, none⟩ :: rest) k) (a = b ∧ bb2 * a ≤ 281474976710656 ∧ a ≤ 9223372036854775807) (∀ v, GO P n X ms ((d, ov v) :: loc) env (rA rW e v (List.replicate a vnil) :: rZ r e2 (List.replicate a vnil) (List.replicate a []) :: B) ol rest k) := ⟨fun hs f => ⟨fun ok ρ h w s => by
  obtain ⟨h1, h2, h3⟩ := okR_some rfl ok
  obtain ⟨ti, el⟩ := mr.h
  obtain ⟨rfl, s2, s3⟩ := hs
  have hx := cvE (lx.h rfl ((s.x [o1]).fx o1 (by simp)))
  have hy := cvE (ly.h rfl ((s.x [o2]).fx o2 (by simp)))
  rw [a1.e] at hx; rw [b1.e] at hy
  refine Ops.cons (OpW.makeO s.gr.sat ts.h el.hi el.hz hx hy (Nat.le_refl _) (by rw [el.hb]; exact s2) s3 rfl fun b w' g hn hlo hb => ?_)
  have sv := s.put (v := .slice (some ⟨b, 0, none⟩) a a) (S := ov (.slice (some ⟨b, 0, none⟩) a a)) g ⟨rfl, rfl⟩ h1 (h2 rfl)
  exact (f _).p h3 _ _ _ ⟨sv.gr, sv.lo, sv.en, OwnB.join (own_rows (w0 := w) el hn hb hlo r e2) s.gr.ext.size s.ow g (NB.h)⟩⟩⟩
theorem store_z (hB : Sb B (rA rW ew v (vs.set a z) :: B')) (f : GO P n X ms loc env (rA rW ew v (vs.set a z) :: B') ol rest k) : GO P n X ms loc env B ol rest k := ⟨fun ok ρ h w s => f.p ok ρ h w (s.sb hB)⟩
instance (priority := high) [lx : Lu n true loc env o1 (pa v 1 a 0)] [ly : Lu n true loc env o2 (ov z)] [p1 : PA B z α r e2 q B1] [p2 : PA B1 v Value rW ew vs B2] [p3 : PZ B2 vs α r e2 ls B3] [tz : TZ P t 1] : Nx (GO P n X ms loc env B ol (⟨none, .store t o1 o2, ty, pos, af, none⟩ :: rest) k) (a < vs.length) (GO P n X ms loc env (rA rW ew v (vs.set a z) :: rZ r e2 (vs.set a z) (ls.set a q) :: B3) ol rest k) := ⟨fun hj f => by
  have sb : Sb B (rA rW ew v vs :: rA r e2 z q :: rZ r e2 vs ls :: B3) := (p1.h.trans ((p2.h.cons _).trans (.perm (.swap ..)))).trans (((p3.h.cons _)).cons _)
  refine ⟨fun ok ρ h w s => ?_⟩
  have g : GO P n X ms loc env (rA rW ew v vs :: rA r e2 z q :: rZ r e2 vs ls :: B3) ol (⟨none, .store t o1 o2, ty, pos, af, none⟩ :: rest) k :=
    Nx.h (self := inferInstance) hj (store_z ((Sb.zset hj).cons _) f)
  exact g.p ok ρ h w (s.sb sb)⟩
instance (priority := high) [lx : Lu n true loc env o1 (pa v 1 a 0)] [ly : Lu n true loc env o2 (ov z)] [p1 : PA B z α r e2 q B1] [p2 : PA B1 v Value rW ew vs B2] [p3 : PZ B2 (vs.set a vnil) α r e2 ls B3] [tz : TZ P t 1] : Nx (GO P n X ms loc env B ol (⟨none, .store t o1 o2, ty, pos, af, none⟩ :: rest) k) (a < vs.length) (GO P n X ms loc env (rA rW ew v (vs.set a z) :: rZ r e2 (vs.set a z) (ls.set a q) :: B3) ol rest k) := ⟨fun hj f => by
  have sb : Sb B (rA rW ew v vs :: rA r e2 z q :: rZ r e2 (vs.set a vnil) ls :: B3) := (p1.h.trans ((p2.h.cons _).trans (.perm (.swap ..)))).trans (((p3.h.cons _)).cons _)
  refine ⟨fun ok ρ h w s => ?_⟩
  have hz : Sb (rA r e2 z q :: rZ r e2 (vs.set a vnil) ls :: B3) (rZ r e2 (vs.set a z) (ls.set a q) :: B3) := by
    have := Sb.zset (r := r) (e := e2) (x := z) (q := q) (us := vs.set a vnil) (ls := ls) (B := B3) (a := a) (by rw [List.length_set]; exact hj)
    rwa [List.set_set] at this
  have g : GO P n X ms loc env (rA rW ew v vs :: rA r e2 z q :: rZ r e2 (vs.set a vnil) ls :: B3) ol (⟨none, .store t o1 o2, ty, pos, af, none⟩ :: rest) k :=
    Nx.h (self := inferInstance) hj (store_z (hz.cons _) f)
  exact g.p ok ρ h w (s.sb sb)⟩
instance (priority := high) [ts : TS P t ew] [mr : MR P ew bb2] [lx : Lu n true loc env o1 (ov v)] [ly : Lu n true loc env o2 (lv rW [z])] [p1 : PA B z α r e2 q B1] [p2 : PA B1 v Value rW ew vs B2] [p3 : PZ B2 vs α r e2 ls B3] : Nx (GO P n X ms loc env B ol (⟨some d, .call ⟨.builtin .append, [o1, o2].toArray, [t, t].toArray⟩, ty, pos, af, none⟩ :: rest) k) (vs.length + 1 ≤ 9223372036854775807 ∧ (vs.length + 1) * bb2 ≤ 140737488355328) (∀ v', GO P n X ms ((d, ov v') :: loc) env (rA rW ew v' (vs ++ [z]) :: rZ r e2 (vs ++ [z]) (ls ++ [q]) :: B3) ol rest k) := ⟨fun hs f => ⟨fun ok ρ h w s0 => by
  have sb : Sb B (rA rW ew v vs :: rA r e2 z q :: rZ r e2 vs ls :: B3) := (p1.h.trans ((p2.h.cons _).trans (.perm (.swap ..)))).trans (((p3.h.cons _)).cons _)
  have s := s0.sb sb
  obtain ⟨h1, h2, h3⟩ := okR_some rfl ok
  obtain ⟨ti, el⟩ := mr.h
  have hx := lx.h rfl ((s.x [o1]).fx o1 (by simp))
  have hy := ly.h rfl ((s.x [o2]).fx o2 (by simp))
  refine Ops.cons (OpW.appendL (lo := 0) ts.h el.hi el.hz el.hc el.hk s.gr.sat (Nat.zero_le _) hx.1 rfl (s.ow.at 0 rfl).1 hy hs.1 (by rw [el.hb]; exact hs.2) fun v' w' own ow hbl => ?_)
  exact (f v').p h3 _ _ _ (((own_app s own ow hbl).sb ((Sb.zapp).cons _)).set ⟨rfl, own_one own⟩ h1 (h2 rfl))⟩⟩
theorem gNm (r : Rp α) (ew e2 : TypeId) (g : GW P n X ms loc env (rA rW ew vnil [] :: rZ r e2 [] [] :: B) c k) : GW P n X ms loc env B c k := ⟨fun ρ h w s => g.p ρ h w ⟨s.gr, s.lo, s.en, OwnL.nil rW 0 h w ew, (fun i hi => by cases hi), (fun r' hr' i hi => by cases hi), ⟨rfl, (fun t => by simpa [vnil] using OwnL.nil r 0 h w e2), (fun t u b hb => by simp [blk_nil] at hb)⟩, (fun i ⟨t, ht⟩ => by simp [blk_nil] at ht), (fun r' hr' i ⟨t, ht⟩ => by simp [blk_nil] at ht), s.ow⟩⟩
instance (priority := high) [ma : MA B v Value rW ew vs] [mz : MZ B vs α r e2 ls] : Fz B (ov v) (lv (rL r) ls) := ⟨fun {h h'} le z x u => by
  have z1 : LR rW h' v vs := z _ ma.h
  have z2 : vs.length = ls.length ∧ ∀ t, LR r h' (vs.getD t vnil) (ls.getD t []) := z _ mz.h
  rw [u.1]; exact LR.rL z1 z2.1 z2.2⟩
theorem Sy.fzM {loc' : EL} {h0 : PH} {w0 : World} {ρ : Env} {h : PH} {w : World} [p1 : PA B v Value rW ew vs B1] [p2 : PZ B1 vs α r e2 ls B2] [sl : SbE v (lv (rL r) ls) loc loc'] [se : SbE v (lv (rL r) ls) env env'] [sb : SbB v (lv (rL r) ls) B2 B3] (s : Sy h0 w0 loc env B ρ h w) : ∃ h', Sy h0 w0 loc' env' B3 ρ h' w := by
  have s' := s.sb (p1.h.trans (p2.h.cons _))
  obtain ⟨h1, g1, le1, z1, o1⟩ := OwnB.freeze (j := 0) s'.gr s'.ow rfl
  obtain ⟨h2, g2, le2, z2, o2⟩ := OwnB.freeze (j := 0) g1 o1 rfl
  have z1' : LR rW h2 v vs := (show LR rW h1 v vs from z1).mono le2
  have z2' : vs.length = ls.length ∧ ∀ t, LR r h2 (vs.getD t vnil) (ls.getD t []) := z2
  have zz := LR.rL z1' z2'.1 z2'.2
  have key : ∀ x, x = v → den h2 (lv (rL r) ls) x := fun x e => by subst e; exact zz
  exact ⟨h2, g2, sl.h key (s.lo.mono (le1.trans le2)), se.h key (s.en.mono (le1.trans le2)), (sb.h (fun h3 l3 x e => by subst e; exact zz.mono l3) o2).1⟩
theorem gFzM (v : Value) {vs : List Value} {r : Rp α} {ls : List (List α)} {loc' : EL} [p1 : PA B v Value rW ew vs B1] [p2 : PZ B1 vs α r e2 ls B2] [sl : SbE v (lv (rL r) ls) loc loc'] [se : SbE v (lv (rL r) ls) env env'] [sb : SbB v (lv (rL r) ls) B2 B3] (g : GW P n X ms loc' env' B3 c k) : GW P n X ms loc env B c k := ⟨fun ρ h w s => by
  obtain ⟨h', s'⟩ := s.fzM (v := v) (p1 := p1) (p2 := p2) (sl := sl) (se := se) (sb := sb)
  exact g.p ρ h' w s'⟩
instance (priority := 60) {loc' : EL} {f : Operand} {xs : List Operand} {ts : Array TypeId} {Ss : List SV} [lx : Lus n true loc env xs Ss] [fo : FO Ss v] [p1 : PA B v Value rW ew vs B1] [p2 : PZ B1 vs α r e2 ls B2] [sl : SbE v (lv (rL r) ls) loc loc'] [se : SbE v (lv (rL r) ls) env env'] [sb : SbB v (lv (rL r) ls) B2 B3] [d1 : SameDom loc loc'] [d2 : SameDom env env'] :
    Nx (GO P n X ms loc env B ol (⟨some d, .call ⟨.value f, xs.toArray, ts⟩, ty, pos, af, none⟩ :: rest) k) True (GO P n X ms loc' env' B3 ol (⟨some d, .call ⟨.value f, xs.toArray, ts⟩, ty, pos, af, none⟩ :: rest) k) := ⟨fun _ g => ⟨fun ok ρ h w s => by
  obtain ⟨h', s'⟩ := s.fzM (v := v) (p1 := p1) (p2 := p2) (sl := sl) (se := se) (sb := sb)
  exact g.p (by rw [d1.h, d2.h]; exact ok) ρ h' w s'⟩⟩
end
instance (priority := 5) {x : Res} {l rest : List Res} [i : MtB B l sd rest] : MtB (x :: B) l sd (x :: rest) := ⟨fun q => ((i.h q).cons x).trans (.perm (List.perm_middle.symm))⟩
class CtR (P : Program) (f : FuncId) (args : List SV) (B : List Res) (side : outParam Prop) (σ : outParam Type) (S : outParam (σ → SV)) (B' : outParam (σ → List Res)) : Prop where
  fn : IsFn P f
  h : side → ∀ {h0 w0 h w vs}, Gr h0 w0 h w → OwnB w0 B h w → denL h args vs → Calls P f vs.toArray w fun e w' => ∃ v, e = .returned v ∧ ∃ (h' : PH) (s : σ), Gr h0 w0 h' w' ∧ h.le h' ∧ OwnB w0 (B' s) h' w' ∧ den h' (S s) v
def fR {σ : Type} (P : Program) (n : Nat) (rs : List ResultVar) (h0 : PH) (w0 : World) (S : σ → SV) (B' : σ → List Res) (ρ : Env) (w : World) : Prop := ∃ vs h' s, resL P n ρ w rs vs ∧ Gr h0 w0 h' w ∧ OwnB w0 (B' s) h' w ∧ den h' (S s) (res1 vs)
theorem ctR {σ : Type} {S : σ → SV} {B' : σ → List Res} {f : FuncId} {fn : Func} {args : List SV} {rs : List ResultVar} (call : IsFn P f) (hf : P.funcs[f]? = some fn) (hn : fn.ntmps = n) (hb : fn.body = some c) (hr : fn.results = rs.toArray) (hl : Nat.ble args.length n = true) [ae : ArgE 0 args env] (ms : List Nat) (body : ∀ h0 w0, sd → GW P n ⟨fE n (fR P n rs h0 w0 S B'), h0, w0, X0⟩ ms [] env B c .fin) : CtR P f args B sd σ S B' := ⟨call, fun hs h0 w0 h w vs gr ow u => by
  subst hn
  refine (callsE hf hb (by rw [u.length]; exact hl) ((body h w0 hs).p (env0 0 vs) h w ⟨Gr.base gr gr (PH.le.refl h), trivial, ae.h u, ow⟩) (R' := fun v w' => ∃ h' s, Gr h w0 h' w' ∧ OwnB w0 (B' s) h' w' ∧ den h' (S s) v) ?_).mono ?_
  · rintro ρ w' ⟨vs, h', s, hres, x⟩
    exact ⟨_, res_run hr hres, h', s, x⟩
  · rintro e w' ⟨v, rfl, h', s, g, o, d⟩
    exact ⟨v, rfl, h', s, Gr.unbase gr g, g.le, o, d⟩⟩
theorem gEr {σ : Type} {S : σ → SV} {B1 : σ → List Res} {rs : List ResultVar} {h0 : PH} {w0 : World} {R0 : Exit → Act → World → Prop} {C : Ctx} {kb : List Res} {Ss : List SV} {T : SV} {s1 s2 : Prop} (s : σ) [fi : Fin ⟨R0, h0, w0, C⟩ n (fR P n rs h0 w0 S B1) P loc env B B'] [r : Rs P n loc env B' rs Ss] [oo : OneOf Ss T] [eq : EqS T (S s) s1] [mb : MtB B' (B1 s) s2 kb] {e : Exit} (h1 : s1 := by first | trivial | ((try dsimp only); repeat' (first | refine And.intro ?_ ?_ | rfl | trivial | omega))) (h2 : s2 := by first | trivial | ((try dsimp only); repeat' (first | refine And.intro ?_ ?_ | rfl | trivial | omega))) (he : e = .normal ∨ e = .ret := by first | exact .inl rfl | exact .inr rfl) : GX P n ⟨R0, h0, w0, C⟩ ms loc env B e .fin := ⟨fun ρ h w sy => fi.h (fun ρ h w sy => by
  obtain ⟨vs, a, b⟩ := r.h sy
  refine ⟨vs, h, s, a, sy.gr, ((mb.h h2).own sy.ow).left, eq.h h1 ?_⟩
  rw [← oo.h]
  match Ss, vs, b with
  | [], [], _ => exact ⟨[], rfl, trivial⟩
  | [S], [v], d => exact d.1
  | S :: T :: Ss, v :: u :: vs, d => exact ⟨v :: u :: vs, rfl, d⟩) e he ρ h w sy⟩
theorem callR {σ : Type} {S : σ → SV} {B' : σ → List Res} {h0 : PH} {w0 : World} {ρ : Env} {h : PH} {w : World} {K : Env → World → Prop} {dd : Option Tmp} {f : FuncId} {xs : List Operand} {ts : Array TypeId} {Ss : List SV} (ct : CtR P f Ss B sd σ S B') (hs : sd) (s : Sy h0 w0 loc env B ρ h w) (hx : denL h Ss (xs.map (ev n ρ))) (hk : ∀ v h' s w', Gr h0 w0 h' w' → h.le h' → OwnB w0 (B' s) h' w' → den h' (S s) v → K (updO ρ dd v) w') : OpW P n ⟨dd, .call ⟨.value (.func f), xs.toArray, ts⟩, ty, pos, af, none⟩ ρ w K := by
  refine OpW.enter (f := f) (args := (xs.map (ev n ρ)).toArray) (w' := w) ?_ (ct.h hs s.gr s.ow hx) ?_
  · simp only [execOp, resolve, ev, Deferred.ofValue, Sem.run_bind, Sem.run_pure, Result.andThen, invoke, List.map_toArray]
    have := ct.fn (#[] ++ (xs.map (ev n ρ)).toArray ++ #[]) w
    simpa using this
  · rintro e w'' ⟨v, rfl, h', s, g, le, o, d⟩
    exact ⟨v, rfl, hk v h' s w'' g le o d⟩
instance {σ : Type} {S : σ → SV} {B' : σ → List Res} {f : FuncId} {xs : List Operand} {ts : Array TypeId} {Ss : List SV} [lx : Lus n true loc env xs Ss] [ct : CtR P f Ss B sd σ S B'] : Nx (GO P n X ms loc env B ol (⟨some d, .call ⟨.value (.func f), xs.toArray, ts⟩, ty, pos, af, none⟩ :: rest) k) sd (∀ s : σ, GO P n X ms ((d, S s) :: loc) env (B' s) ol rest k) := ⟨fun hs g => ⟨fun ok ρ h w sy => by
  obtain ⟨h1, h2, h3⟩ := okR_some rfl ok
  exact Ops.cons (callR ct hs sy (lx.h rfl fun x hx => (sy.x [x]).fx x (by simp)) fun v h' s w' gr le o u => (g s).p h3 _ _ _ ⟨gr, ⟨by show den h' (S s) (upd ρ d v d); rw [upd_at]; exact u, (sy.lo.upd (nIn_of h1)).mono le⟩, (sy.en.upd (nIn_of (h2 rfl))).mono le, o⟩)⟩⟩
instance {σ : Type} {S : σ → SV} {B' : σ → List Res} {f : FuncId} {xs : List Operand} {ts : Array TypeId} {Ss : List SV} [lx : Lus n true loc env xs Ss] [ct : CtR P f Ss B sd σ S B'] : Nx (GO P n X ms loc env B ol (⟨none, .call ⟨.value (.func f), xs.toArray, ts⟩, ty, pos, af, none⟩ :: rest) k) sd (∀ s : σ, GO P n X ms loc env (B' s) ol rest k) := ⟨fun hs g => ⟨fun ok ρ h w sy => by
  exact Ops.cons (callR ct hs sy (lx.h rfl fun x hx => (sy.x [x]).fx x (by simp)) fun v h' s w' gr le o u => (g s).p (okR_none rfl ok) _ _ _ ⟨gr, sy.lo.mono le, sy.en.mono le, o⟩)⟩⟩
class FpS (B' B : List Res) : Prop where h : ∀ r ∈ B', ∀ i, r.fp i → ∃ r ∈ B, r.fp i
instance {α : Type} {r : Rp α} {e : TypeId} {v : Value} {q q' : List α} {B1 : List Res} [pa : PA B v α r e q B1] : FpS (rA r e v q' :: B1) B := ⟨fun r' hr' i hi => by
  rcases List.mem_cons.1 hr' with rfl | hr'
  · exact pa.h.fp _ (List.mem_cons_self ..) i hi
  · exact pa.h.fp _ (List.mem_cons_of_mem _ hr') i hi⟩
instance {i t d : Nat} {Ls : EL} {lt : Nat → Bool} {L : (Nat → Gh) → EL} {S : Unit → SV} {B' : Unit → List Res} {f : FuncId} {xs : List Operand} {ts : Array TypeId} {Ss : List SV} [lf : Lu n true Ls env (.tmp t) (.cv (.func (.func f) #[] #[]))] [lx : Lus n true Ls env xs Ss] [ct : CtR P f Ss B sd Unit S B'] [fs : FpS (B' ()) B] :
    Nx (GE P n X ms Ls env B ol (⟨some d, .call ⟨.value (.tmp t), xs.toArray, ts⟩, ty, pos, af, none⟩ :: rest) k lt 1 i L []) (((List.range i).all fun j => reach ol 9 i j || lt j) = true ∧ sd) (∀ ν, GO P n X ms ((d, S ()) :: L ν) env (B' ()) ol rest k) := ⟨fun hs g => ⟨fun ql => .stm (some (d, S ())) (B' ()) rfl (.inr rfl) (fun ν ρ h w s => by
  have hfv := cvE (lf.h rfl ((s.sub (os' := [.tmp t]) (fun x hx => by simp [looks, Op.operands, Call.operands] at hx ⊢; exact .inl hx) (ql ν)).fx (.tmp t) (by simp)))
  have s' : Sx X.h0 X.w0 Ls env B xs ρ h w := s.sub (fun x hx => by simp [looks, Op.operands, Call.operands, hx]) (ql ν)
  have hx : denL h Ss (xs.map (ev n ρ)) := lx.h rfl fun x hx => s'.fx x hx
  refine OpG.plain (OpW.enter (f := f) (args := (xs.map (ev n ρ)).toArray) (w' := w) ?_ (ct.h hs.2 s.gr s.ow hx) ?_)
  · have := ct.fn (#[] ++ (xs.map (ev n ρ)).toArray ++ #[]) w
    simp only [execOp, resolve, hfv, Deferred.ofValue, Sem.run_bind, Sem.run_pure, Result.andThen, invoke, List.map_toArray]
    simpa using this
  · rintro e w'' ⟨v, rfl, h', s1, g', le, o, dd⟩
    exact ⟨v, rfl, h', ⟨v, rfl, dd⟩, g', le, (fun e => by cases e), (fun e => by cases e), o⟩) (fun j hj => by
  have := List.all_eq_true.1 hs.1 j (List.mem_range.2 hj)
  simpa using this) fs.h fun ν => by simpa [rv, xLc] using g ν⟩⟩
instance {i d : Nat} {Ls : EL} {lt : Nat → Bool} {L : (Nat → Gh) → EL} {S : Unit → SV} {B' : Unit → List Res} {f : FuncId} {xs : List Operand} {ts : Array TypeId} {Ss : List SV} [lx : Lus n true Ls env xs Ss] [ct : CtR P f Ss B sd Unit S B'] [fs : FpS (B' ()) B] :
    Nx (GE P n X ms Ls env B ol (⟨some d, .call ⟨.value (.func f), xs.toArray, ts⟩, ty, pos, af, none⟩ :: rest) k lt 1 i L []) (((List.range i).all fun j => reach ol 9 i j || lt j) = true ∧ sd) (∀ ν, GO P n X ms ((d, S ()) :: L ν) env (B' ()) ol rest k) := ⟨fun hs g => ⟨fun ql => .stm (some (d, S ())) (B' ()) rfl (.inr rfl) (fun ν ρ h w s => by
  have s' : Sx X.h0 X.w0 Ls env B xs ρ h w := s.sub (fun x hx => by simp [looks, Op.operands, Call.operands, hx]) (ql ν)
  have hx : denL h Ss (xs.map (ev n ρ)) := lx.h rfl fun x hx => s'.fx x hx
  refine OpG.plain (OpW.enter (f := f) (args := (xs.map (ev n ρ)).toArray) (w' := w) ?_ (ct.h hs.2 s.gr s.ow hx) ?_)
  · have := ct.fn (#[] ++ (xs.map (ev n ρ)).toArray ++ #[]) w
    simp only [execOp, resolve, ev, Deferred.ofValue, Sem.run_bind, Sem.run_pure, Result.andThen, invoke, List.map_toArray]
    simpa using this
  · rintro e w'' ⟨v, rfl, h', s1, g', le, o, dd⟩
    exact ⟨v, rfl, h', ⟨v, rfl, dd⟩, g', le, (fun e => by cases e), (fun e => by cases e), o⟩) (fun j hj => by
  have := List.all_eq_true.1 hs.1 j (List.mem_range.2 hj)
  simpa using this) fs.h fun ν => by simpa [rv, xLc] using g ν⟩⟩
end
end Go.E3
set_option linter.unusedVariables false
set_option maxRecDepth 20000
set_option maxHeartbeats 2000000
set_option synthInstance.maxSize 1000
namespace Go.E3
open Go Go.Ear Go.Proofs
theorem calls_iter {P : Program} {f : FuncId} {fn : Func} {c : Code} {vs : List Value} {w : World} {N : World → Prop}
    (hf : P.funcs[f]? = some fn) (hb : fn.body = some c) (hn : Nat.ble vs.length fn.ntmps = true) (hr : fn.results = #[])
    (hw : WpX X0 P fn.ntmps c (fun e _ w => match e with | .normal | .ret => N w | _ => False) (env0 0 vs) w) :
    CallsIn Fence.wide 0 P f vs.toArray w fun e w' => (∃ v, e = .returned v) ∧ N w' := by
  refine callsIn_of_wp hf hb trivial ?_
  have := mk_env0 (Nat.le_of_ble_eq_true hn)
  simp only [List.size_toArray]
  rw [this]
  refine wpIn_mono (F := Fence.wide) hw ?_
  rintro e a w' ⟨ρ, rfl, hq⟩
  cases e <;> first
    | exact ⟨rfl, .tuple #[], by simp [results, hr], ⟨_, rfl⟩, hq⟩
    | exact hq.elim
theorem nm {ρ : Env} {l : List (Nat × Value)} (h : l.map (fun p => ρ p.1) = l.map (·.2)) : ρ = upds ρ l := by
  refine named ?_
  induction l with
  | nil => trivial
  | cons p l ih => simp only [List.map_cons, List.cons.injEq] at h; exact ⟨h.1, ih h.2⟩
section
variable {P : Program} {n : Nat} {ρ : Env} {w : World} {K : Env → World → Prop} {ops : Array Oper} {rest : List Oper} {d : Tmp} {ty : TypeId} {pos : String} {af : Array Edge}
theorem omv {x : Operand} (h : Ops P n ops K rest (upd ρ d (ev n ρ x)) w) : Ops P n ops K (⟨some d, .move x, ty, pos, af, none⟩ :: rest) ρ w := Ops.cons (OpW.move rfl h)
theorem oas {x : Operand} (h : Ops P n ops K rest (upd ρ d (ev n ρ x)) w) : Ops P n ops K (⟨some d, .assign x, ty, pos, af, none⟩ :: rest) ρ w := Ops.cons (OpW.assign rfl h)
theorem WpX.sr {X : Ctx} {Q : Exit → Env → World → Prop} {id : Nat} {l : List Oper} {y : Code} (hd : l.all noDefer = true) (h : Ops P n l.toArray (WpX X P n y Q) l ρ w) : WpX X P n (.seq (.region id l.toArray false) y) Q ρ w := WpX.seq (WpX.region hd h)
end
theorem frames_iter {n : Nat} {back : Bool} {vn vb : Value} {B : World → Prop} (hn : n ≤ 1099511627776) (h1 : ∀ W, B W → ∃ b o arr t fz, vn = .pointer (some ⟨b, o, none⟩) ∧ W.heap[b]? = some (.cells arr t fz) ∧ arr[o]? = some (.int .i64 ((n : Nat) : Int))) (h2 : ∀ W, B W → ∃ b o arr t fz, vb = .pointer (some ⟨b, o, none⟩) ∧ W.heap[b]? = some (.cells arr t fz) ∧ arr[o]? = some (.bool back)) :
    IterK Tryz.prog 153 #[vn, vb] (fun k => .int .i64 (((if back then n - 1 - k else k) : Nat) : Int)) n B := by
  intro l J W hB hY h0
  refine calls_iter (vs := [.func (.yield l) #[] #[], vn, vb]) Tryz.func153 rfl rfl rfl ?_
  refine WpX.sr rfl ?_
  obtain ⟨b, o, arr, t, fz, hv, hb, ha⟩ := h1 W (hB 0 W h0)
  refine Ops.cons (OpW.load1 (v := .int .i64 ((n : Nat) : Int)) Tryz.isAgg3 hv hb ha ?_)
  refine omv ?_
  refine Ops.nil ?_
  refine WpX.block ?_
  refine WpX.loop (σ := Nat) (fun k ρ w' => ∃ ρb, ρ = upds ρb [(0, .func (.yield l) #[] #[]), (1, vn), (2, vb), (5, .int .i64 ((n : Nat) : Int)), (6, .int .i64 ((k : Nat) : Int))] ∧ k ≤ n ∧ J k w') (fun k => n - k) 0 ⟨_, nm rfl, by omega, h0⟩ ?_
  rintro k ρ w' ⟨ρb, rfl, hk, hJ⟩
  refine WpX.sr rfl ?_
  refine Ops.cons (OpW.lss (a := ((k : Nat) : Int)) (b := ((n : Nat) : Int)) (r := decide (k < n)) rfl rfl (decide_eq_decide.2 (by omega)) ?_)
  refine Ops.nil ?_
  refine WpX.seq ?_
  refine WpX.cond (t := decide (k < n)) rfl (fun c1 => ?_) (fun c1 => ?_)
  · have c1 := of_decide_eq_true c1
    refine WpX.skip ?_
    refine WpX.seq ?_
    refine WpX.block ?_
    refine WpX.sr rfl ?_
    refine omv ?_
    refine oas ?_
    refine Ops.nil ?_
    refine WpX.seq ?_
    refine WpX.cut (fun ρ' w'' => w' = w'' ∧ ∃ ρb, ρ' = upds ρb [(0, .func (.yield l) #[] #[]), (1, vn), (2, vb), (4, .int .i64 (((if back then n - 1 - k else k) : Nat) : Int)), (5, .int .i64 ((n : Nat) : Int)), (6, .int .i64 ((k : Nat) : Int))]) ?_ ?_
    · refine WpX.sr rfl ?_
      obtain ⟨b, o, arr, t, fz, hv2, hb, ha⟩ := h2 w' (hB k w' hJ)
      refine Ops.cons (OpW.load1 (v := .bool back) Tryz.isAgg4 hv2 hb ha ?_)
      refine Ops.nil ?_
      refine WpX.cond (t := back) rfl (fun c2 => ?_) (fun c2 => ?_)
      · refine WpX.region rfl ?_
        obtain ⟨b, o, arr, t, fz, hv, hb, ha⟩ := h1 w' (hB k w' hJ)
        refine Ops.cons (OpW.load1 (v := .int .i64 ((n : Nat) : Int)) Tryz.isAgg3 hv hb ha ?_)
        refine Ops.cons (OpW.sub (a := ((n : Nat) : Int)) (b := ((1 : Nat) : Int)) (r := ((n - 1 : Nat) : Int)) rfl rfl ((in_i64 (by omega)).trans (by omega)) ?_)
        refine omv ?_
        refine Ops.cons (OpW.sub (a := ((n - 1 : Nat) : Int)) (b := ((k : Nat) : Int)) (r := ((n - 1 - k : Nat) : Int)) rfl rfl ((in_i64 (by omega)).trans (by omega)) ?_)
        refine oas ?_
        refine Ops.nil ?_
        subst c2
        exact ⟨rfl, _, nm rfl⟩
      · refine WpX.skip ?_
        subst c2
        exact ⟨rfl, _, nm rfl⟩
    rintro ρ2 w2 ⟨rfl, ρb2, rfl⟩
    refine WpX.seq ?_
    refine WpX.yield (l := l) (x := .int .i64 (((if back then n - 1 - k else k) : Nat) : Int)) rfl rfl rfl rfl rfl (hY k w' c1 hJ) ?_
    rintro e w2 ⟨rfl, hJ2⟩
    refine ⟨_, rfl, ?_⟩
    refine Ops.cons (OpW.notB (a := true) (r := false) rfl rfl ?_)
    refine Ops.nil ?_
    refine WpX.cond_f rfl ?_
    refine WpX.skip ?_
    refine WpX.region rfl ?_
    refine Ops.cons (OpW.add (a := ((k : Nat) : Int)) (b := ((1 : Nat) : Int)) (r := ((k + 1 : Nat) : Int)) rfl rfl ((in_i64 (by omega)).trans (by omega)) ?_)
    refine omv ?_
    refine Ops.nil ?_
    exact ⟨k + 1, ⟨_, nm rfl, by omega, hJ2⟩, by omega⟩
  · have c1 := of_decide_eq_false c1
    refine WpX.exit ?_
    show J n w'
    rw [show n = k by omega]; exact hJ
theorem pk1 {h : PH} {x v : Value} (u : den h (.pk [.cv x] 0) v) {W : World} (s : Sat h W) : ∃ b o arr t fz, v = .pointer (some ⟨b, o, none⟩) ∧ W.heap[b]? = some (.cells arr t fz) ∧ arr[o]? = some x := by
  obtain ⟨b, off, arr, t, fz, a1, a2, a3, a4⟩ := u
  refine ⟨b, off, arr, t, fz, by simpa using a2, s _ _ a1, ?_⟩
  match hc : cut arr off [SV.cv x].length, a4 with
  | [y], a4 =>
    have hy : y = x := a4.1
    subst hy
    have := cut_cell hc 0 (by simp) (c := y) rfl
    simpa using this
instance frames_it {n : Nat} {back : Bool} : It Tryz.prog (fnv (.func 153) [] [.pk [iv n] 0, .pk [bv back] 0]) (fun k => (((if back then n - 1 - k else k) : Nat) : Int)) n (n ≤ 1099511627776) := ⟨fun hn {h x} u => by
  obtain ⟨us, vs, e, a, b⟩ := u
  match us, vs, a, b with
  | [], [vn, vb], _, ⟨b1, b2, _⟩ =>
    exact ⟨153, #[vn, vb], e, Tryz.call153, frames_iter hn (fun W s => pk1 b1 s) fun W s => pk1 b2 s⟩⟩
instance frames_c {n : Int} {b : Bool} : Ct Tryz.prog 84 [iv n, bv b] True (fnv (.func 153) [] [.pk [iv n] 0, .pk [bv b] 0]) := by
  refine (ctI Tryz.call84 Tryz.func84 Tryz.ntmps84 rfl Tryz.results84 rfl [] fun h0 w0 _ => ?_)
  repeat first | refine nx ?_ | intro _
  trivial
theorem getD_K (l : List Rat) (i : Nat) : (l.map frK).getD i fr0 = frK (l.getD i 0) := by
  rw [List.getD_eq_getElem?_getD, List.getD_eq_getElem?_getD, List.getElem?_map]
  cases l[i]? with
  | none => exact frK_zero.symm
  | some x => rfl
instance {l : List Rat} {i : Nat} : Rt ((l.map frK).getD i fr0) (l.getD i 0) := ⟨by rw [getD_K, frK_rat]⟩
instance {l : List Rat} {i : Nat} : Bfe ((l.map frK).getD i fr0) (bq (l.getD i 0)) := ⟨by rw [getD_K, bf_frK]⟩
section
variable {P : Program} {n : Nat} {c : Bool} {loc env : EL} {B : List Res} {ms : List Nat} {d : Nat} {x : Operand} {t u e : TypeId} {l lc l2 : Nat} {b : Option Addr}
instance (priority := high) [ts : TS P t e] [lx : Lu n c loc env x (.cv (.slice none l l2))] : St P n c loc env B ms d (.binOp .eql t x (.const (.slice none 0 lc)) u) True (.cv (.bool true)) := .p fun q _ _ _ _ _ _ s _ _ _ _ _ k => OpW.eqlNil ts.h (cvE (lx.h q (s.f x))) rfl rfl (k _ rfl)
instance [ts : TS P t e] [lx : Lu n c loc env x (.cv (.slice b l l2))] : St P n c loc env B ms d (.binOp .eql t x (.const (.slice none 0 lc)) u) True (.cv (.bool b.isNone)) := .p fun q _ _ _ _ _ _ s _ _ _ _ _ k => OpW.eqlNil ts.h (cvE (lx.h q (s.f x))) rfl rfl (k _ rfl)
end
instance open_c {r : Value} {a b c d e : SV} {t i : Int} {B : List Res} [hc : HC B r [a, b, c, d, e, .cv (.slice none 0 0)]] : CtB Tryz.prog 158 [ov r, iv t, iv i] B True (bv true) := by
  refine (ctB Tryz.call158 Tryz.func158 Tryz.ntmps158 rfl Tryz.results158 rfl [] fun h0 w0 _ => ?_)
  repeat first | refine nx ?_ | intro _
  trivial
instance sumF_c {F : SV} {n : Nat} {B : List Res} {sd : Nat → Prop} {q : Nat → Rat} [fv : ∀ i : Nat, Fv Tryz.prog F [iv (i : Int)] B (sd i) (kk (q i))] : CtB Tryz.prog 156 [iv (n : Int), F] B (n ≤ 1048576 ∧ (∀ i, i < n → sd i) ∧ ∃ b, (∀ i, i < n → bq (q i) ≤ b) ∧ n * (b + 1) ≤ 60000000) (kk (sumTo q n)) := by
  refine (ctB Tryz.call156 Tryz.func156 Tryz.ntmps156 rfl Tryz.results156 rfl [] fun h0 w0 ⟨hn, hs, b, hb, hB⟩ => ?_)
  have hB1 := fun k hk => bq_sumTo (q := q) (B := b) k (fun i hi => hb i (Nat.lt_of_lt_of_le hi hk))
  repeat first | refine nx ?_ | intro _
  rename_i u v
  refine gLp (fun k : Nat => [(10, iv k)]) (fun k => [rV v [bv (frK (sumTo q k)).neg, lv rU (frK (sumTo q k)).n, lv rU (frK (sumTo q k)).d] 31]) (fun k => k ≤ n) (fun k => n - k) 0 (Nat.zero_le _) (fun k hk => ?_) (h2 := by rw [show sumTo q 0 = 0 from rfl, frK_zero]; exact ⟨⟨rfl, rfl, rfl⟩, trivial⟩)
  have hb1 := hB1 k hk
  have hb2 := Nat.mul_le_mul_right (b + 1) hk
  repeat first | refine nx ?_ | intro _
  refine gIf (fun c => ?_) fun c => ?_
  · have hsk := hs k c
    have hbk := hb k c
    have hb4 : b + 1 ≤ n * (b + 1) := Nat.le_mul_of_pos_left _ (by omega)
    repeat first | refine nx ?_ | intro _
    refine gIf (fun d => ?_) fun d => ?_ <;> repeat first | refine nx ?_ | intro _
    · rw [← sumTo_succ]; exact gBk (k + 1) (by omega) (by omega)
    · have hz : q k = 0 := sgQ_zero.1 (Classical.not_not.1 d)
      rw [← sumTo_skip hz]; exact gBk (k + 1) (by omega) (by omega)
  · repeat first | refine nx ?_ | intro _
    rw [show k = n by omega]; exact ⟨rfl, rfl, rfl⟩
end Go.E3
set_option linter.unusedVariables false
set_option maxRecDepth 20000
set_option maxHeartbeats 4000000
set_option synthInstance.maxSize 1000
namespace Go.E3
open Go Go.Ear Go.Proofs
section
variable {P : Program} {n : Nat} {X : Fix} {ms : List Nat} {loc env : EL} {B : List Res} {k : Kt} {x y : Code}
instance (priority := high) {o : Operand} [l : Lu n true loc env o (.cv (.bool (!false)))] : Nx (GW P n X ms loc env B (.cond o x y) k) True (GW P n X ms [] env B x k) := ⟨fun _ a => gIf (b := !false) (p := True) (tp := ⟨by decide⟩) (fun _ => a) fun q => absurd trivial q⟩
instance (priority := high) {o : Operand} [l : Lu n true loc env o (.cv (.bool (!true)))] : Nx (GW P n X ms loc env B (.cond o x y) k) True (GW P n X ms [] env B y k) := ⟨fun _ a => gIf (b := !true) (p := False) (tp := ⟨by decide⟩) (fun q => q.elim) fun _ => a⟩
end
class HZ (B : List Res) (vs : List Value) (α : outParam Type) (r : outParam (Rp α)) (e : outParam TypeId) (ls : outParam (List (List α))) : Prop where h : ∀ {w0 h w}, OwnB w0 B h w → vs.length = ls.length ∧ ∀ t, OwnL r 0 h w e (vs.getD t vnil) (ls.getD t [])
section
variable {α : Type} {B : List Res} {vs : List Value} {r : Rp α} {e : TypeId} {ls : List (List α)} {x : Res} {k : Nat}
instance : HZ (rZ r e vs ls :: B) vs α r e ls := ⟨fun o => ⟨o.1.1, o.1.2.1⟩⟩
instance : HZ (bo (rZ r e vs ls) :: B) vs α r e ls := ⟨fun o => ⟨o.1.1, o.1.2.1⟩⟩
instance (priority := low) [i : HZ B vs α r e ls] : HZ (x :: B) vs α r e ls := ⟨fun o => i.h o.2.2.2⟩
instance [i : HZ B vs α r e ls] : HZ (B.map bo) vs α r e ls := ⟨fun o => i.h o.unbo⟩
instance (priority := 10) [i : HZ B vs α r e ls] : HA B (vs.getD k vnil) α r e (ls.getD k []) := ⟨fun o => (i.h o).2 k⟩
end
@[reducible] def kkL (l : List Rat) : SV := lv rF (l.map frK)
@[reducible] def kkR (l : List (List Rat)) : SV := lv (rL rF) (l.map (·.map frK))
instance {l : List Rat} : Vw kkL (lv rF (l.map frK)) l := ⟨fun u => u⟩
instance {l : List (List Rat)} : Vw kkR (lv (rL rF) (l.map (·.map frK))) l := ⟨fun u => u⟩
theorem getD_KR (l : List (List Rat)) (i : Nat) : (l.map (·.map frK)).getD i [] = (l.getD i []).map frK := by
  rw [List.getD_eq_getElem?_getD, List.getD_eq_getElem?_getD, List.getElem?_map]
  cases l[i]? <;> rfl
instance {l : List (List Rat)} {i j : Nat} : Rt (((l.map (·.map frK)).getD i []).getD j fr0) ((l.getD i []).getD j 0) := ⟨by rw [getD_KR, getD_K, frK_rat]⟩
instance {l : List (List Rat)} {i j : Nat} : Bfe (((l.map (·.map frK)).getD i []).getD j fr0) (bq ((l.getD i []).getD j 0)) := ⟨by rw [getD_KR, getD_K, bf_frK]⟩
theorem len_KR (l : List (List Rat)) (i : Nat) : ((l.map (·.map frK)).getD i []).length = (l.getD i []).length := by rw [getD_KR, List.length_map]
section
variable {B : List Res} {r : Value} {m : Md} {o : List Int} {K : SV}
instance lik1_c {i : Nat} {f : List (List Rat)} {vn : Value} [FtM m] [hn : HC B vn [iv (f.length : Int)]] [hc : HC B r [lv rF m.start, lv (rL rF) m.move, lv rF m.fin, lv (rL rF) m.say, lv rI o, K]] : CtB Tryz.prog 157 [iv (i : Int), .pk [lv (rL rF) (f.map (·.map frK))] 0, ov vn, .pk [ov r] 0] B ((1 ≤ f.length ∧ f.length ≤ 1048576) ∧ i < (f.getD (f.length - 1) []).length ∧ i < m.fin.length ∧ bq ((f.getD (f.length - 1) []).getD i 0) + bf (m.fin.getD i fr0) ≤ 60000000) (kk ((f.getD (f.length - 1) []).getD i 0 * (m.fin.getD i fr0).rat)) := by
  refine (ctB Tryz.call157 Tryz.func157 Tryz.ntmps157 rfl Tryz.results157 rfl [] fun h0 w0 ⟨h1, h2, h3, h4⟩ => ?_)
  have hl := len_KR f (f.length - 1)
  have hm : (f.map (·.map frK)).length = f.length := List.length_map _
  repeat first | refine nx ?_ | intro _
  exact ⟨trivial, trivial, trivial⟩
instance lik_c {f : List (List Rat)} [FtM m] [hc : HC B r [lv rF m.start, lv (rL rF) m.move, lv rF m.fin, lv (rL rF) m.say, lv rI o, K]] : CtB Tryz.prog 92 [ov r, lv (rL rF) (f.map (·.map frK))] B (f.length ≤ 1048576 ∧ m.start.length ≤ 1048576 ∧ m.fin.length = m.start.length ∧ (f.length = 0 ∨ (f.getD (f.length - 1) []).length = m.start.length) ∧ ∃ b, (∀ i, i < m.start.length → bq ((f.getD (f.length - 1) []).getD i 0) + bf (m.fin.getD i fr0) ≤ b) ∧ m.start.length * (b + 1) ≤ 60000000) (kk (likT ⟨m, o⟩ f)) := by
  refine (ctB Tryz.call92 Tryz.func92 Tryz.ntmps92 rfl Tryz.results92 rfl [] fun h0 w0 ⟨h1, h2, h3, h4, b, h5, h6⟩ => ?_)
  have hm : (f.map (·.map frK)).length = f.length := List.length_map _
  repeat first | refine nx ?_ | intro _
  rw [hm]
  refine gIf (fun c => ?_) fun c => ?_
  · repeat first | refine nx ?_ | intro _
    unfold likT; rw [if_pos c, frK_zero]; exact ⟨rfl, rfl, rfl⟩
  · have hft : FtM m := inferInstance
    have hb : ∀ i, i < m.start.length → (1 ≤ f.length ∧ f.length ≤ 1048576) ∧ i < (f.getD (f.length - 1) []).length ∧ i < m.fin.length ∧ bq ((f.getD (f.length - 1) []).getD i 0) + bf (m.fin.getD i fr0) ≤ 60000000 := fun i hi => ⟨by omega, by omega, by omega, Nat.le_trans (h5 i hi) (le_of_mul (by omega) h6)⟩
    have hq : ∃ b, (∀ i, i < m.start.length → bq ((f.getD (f.length - 1) []).getD i 0 * (m.fin.getD i fr0).rat) ≤ b) ∧ m.start.length * (b + 1) ≤ 60000000 := ⟨b, fun i hi => Nat.le_trans (bq_mul _ _) (Nat.le_trans (Nat.add_le_add_left (hft.h.2.2.1.bqg i) _) (h5 i hi)), h6⟩
    repeat first | refine nx ?_ | intro _
    unfold likT; rw [if_neg c]; exact ⟨rfl, rfl, rfl⟩
theorem wts3 (a b c : Fr) : wts [a, b, c] = bf a + bf b + bf c + 3 := by rw [wts_cons, wts_cons, wts_cons, wts_nil]; omega
section
variable {vi vt vo out : Value} {vs : List Value} {ls : List (List Fr)} {t : Nat} {i : Nat} {e : TypeId} {row : List Rat}
instance p1_c {j : Nat} [FtM m] [FtR ls] [hi : HC B vi [iv (i : Int)]] [ht : HC B vt [iv (t : Int)]] [ho : HC B vo [ov out]] [ha : HA B out Value rW e vs] [hz : HZ B vs Fr rF 31 ls] [hc : HC B r [lv rF m.start, lv (rL rF) m.move, lv rF m.fin, lv (rL rF) m.say, lv rI o, K]] :
    CtB Tryz.prog 159 [iv (j : Int), .pk [ov r] 0, ov vi, ov vt, ov vo] B (TOk ⟨m, o⟩ ∧ MdB 100000 m ∧ i < m.start.length ∧ j < m.start.length ∧ t + 1 < o.length ∧ t + 1 < vs.length ∧ j < (ls.getD (t + 1) []).length ∧ bf ((ls.getD (t + 1) []).getD j fr0) ≤ 300000) (kk (moveT ⟨m, o⟩ i j * sayT ⟨m, o⟩ j (t + 1) * ((ls.getD (t + 1) []).getD j fr0).rat)) := by
  refine (ctB Tryz.call159 Tryz.func159 Tryz.ntmps159 rfl Tryz.results159 rfl [] fun h0 w0 ⟨tk, hb, hil, hj, h1, h2, h3, h4⟩ => ?_)
  have hmv := tk.mv
  have hsy := tk.say
  have hn := tk.n
  have hmi := tk.mvi i hil
  have hsi := tk.sayi j (t + 1) hj h1
  dsimp only at hmv hsy hn hmi hsi
  have hwm := hb.mvb i j
  have hws := hb.syb j (o.getD (t + 1) 0).toNat
  have hw := wts3 ((m.move.getD i []).getD j fr0) ((m.say.getD j []).getD (o.getD (t + 1) 0).toNat fr0) ((ls.getD (t + 1) []).getD j fr0)
  repeat first | refine nx ?_ | intro _
  rw [prodF3]; exact ⟨rfl, rfl, rfl⟩
instance p2_c {j : Nat} [FtM m] [FtR ls] [hi : HC B vi [iv (i : Int)]] [ht : HC B vt [iv (t : Int)]] [ho : HC B vo [ov out]] [ha : HA B out Value rW e vs] [hz : HZ B vs Fr rF 31 ls] [hc : HC B r [lv rF m.start, lv (rL rF) m.move, lv rF m.fin, lv (rL rF) m.say, lv rI o, K]] :
    CtB Tryz.prog 160 [iv (j : Int), ov vo, ov vt, .pk [ov r] 0, ov vi] B (TOk ⟨m, o⟩ ∧ MdB 100000 m ∧ i < m.start.length ∧ j < m.start.length ∧ (1 ≤ t ∧ t ≤ 1000) ∧ t ≤ vs.length ∧ j < (ls.getD (t - 1) []).length ∧ bf ((ls.getD (t - 1) []).getD j fr0) ≤ 300000) (kk (((ls.getD (t - 1) []).getD j fr0).rat * moveT ⟨m, o⟩ j i)) := by
  refine (ctB Tryz.call160 Tryz.func160 Tryz.ntmps160 rfl Tryz.results160 rfl [] fun h0 w0 ⟨tk, hb, hil, hj, h1, h2, h3, h4⟩ => ?_)
  have hmv := tk.mv
  have hmi := tk.mvi j hj
  dsimp only at hmv hmi
  have hwm := hb.mvb j i
  repeat first | refine nx ?_ | intro _
  exact ⟨rfl, rfl, rfl⟩
end
theorem rows_all {f : Nat → List Fr} {n : Nat} {ls : List (List Fr)} (hl : ls.length = n) (h : ∀ j, j < n → ls.getD j [] = f j) : ls = (List.range n).map f := by
  apply List.ext_getElem?
  intro j
  rcases Nat.lt_or_ge j n with hj | hj
  · have := h j hj
    rw [List.getD_eq_getElem?_getD, List.getElem?_eq_getElem (by omega)] at this
    rw [List.getElem?_eq_getElem (by omega), List.getElem?_map, List.getElem?_range hj]
    simpa using this
  · rw [List.getElem?_eq_none (by omega), List.getElem?_eq_none (by simp; omega)]
theorem FtS.set {l : List Fr} (i : FtS l) {x : Fr} (hx : FtF x) (k : Nat) : FtS (l.set k x) := ⟨fun f hf => (List.mem_or_eq_of_mem_set hf).elim (i.h f) fun e => e ▸ hx⟩
theorem FtR.set {l : List (List Fr)} (i : FtR l) {x : List Fr} (hx : FtS x) (k : Nat) : FtR (l.set k x) := ⟨fun f hf => (List.mem_or_eq_of_mem_set hf).elim (i.h f) fun e => e ▸ hx⟩
instance {n : Nat} : FtS (List.replicate n fr0) := ⟨fun f hf => by rw [(List.mem_replicate.1 hf).2]; infer_instance⟩
instance {n : Nat} : FtR (List.replicate n []) := ⟨fun f hf => by rw [(List.mem_replicate.1 hf).2]; infer_instance⟩
theorem getD_set {α : Type} (l : List α) (d x : α) {j k : Nat} (hk : k < l.length) : (l.set k x).getD j d = if j = k then x else l.getD j d := by
  rw [List.getD_eq_getElem?_getD, List.getElem?_set]
  by_cases h : j = k
  · subst h; simp [hk]
  · rw [if_neg (Ne.symm h), if_neg h, List.getD_eq_getElem?_getD]
structure PI (N S : Nat) (p : Nat) (before : Nat → Prop) (f : Nat → List Rat) (ls : List (List Fr)) (i : Nat) : Prop where
  il : i ≤ S
  l : ls.length = N
  b : ∀ j, before j → ls.getD j [] = (f j).map frK
  r : ls.getD p [] = Go.Ear.rowAt ((f p).map frK) fr0 S i
  t : FtR ls
theorem PI.start {N S p : Nat} {before : Nat → Prop} {f : Nat → List Rat} {ls : List (List Fr)} (hl : ls.length = N) (hp : p < N) (hb : ∀ j, before j → ls.getD j [] = (f j).map frK) (hn : ¬ before p) (ht : FtR ls) : PI N S p before f (ls.set p (List.replicate S fr0)) 0 :=
  ⟨Nat.zero_le _, by simp [hl], fun j hj => by rw [getD_set _ _ _ (by omega), if_neg (fun e : j = p => hn (e ▸ hj))]; exact hb j hj, by rw [getD_set _ _ _ (by omega), if_pos rfl, Go.Ear.rowAt_zero], ht.set inferInstance _⟩
theorem PI.next {N S p : Nat} {before : Nat → Prop} {f : Nat → List Rat} {ls : List (List Fr)} {i : Nat} (h : PI N S p before f ls i) (hp : p < N) (hn : ¬ before p) (hi : i < S) (hf : (f p).length = S) {x : Rat} (hx : x = (f p).getD i 0) : PI N S p before f (ls.set p ((ls.getD p []).set i (frK x))) (i + 1) :=
  ⟨hi, by simp [h.l], fun j hj => by rw [getD_set _ _ _ (by rw [h.l]; exact hp), if_neg (fun e : j = p => hn (e ▸ hj))]; exact h.b j hj, by rw [getD_set _ _ _ (by rw [h.l]; exact hp), if_pos rfl, h.r]; exact Go.Ear.rowAt_set (by simp [hf]) hi (by rw [hx, getD_K]), h.t.set ((h.t.getD p).set inferInstance i) _⟩
theorem twOf {t : Tr} [ft : FtM t.m] (hb : MdB 100000 t.m) : TW t := by
  refine ⟨fun i j => ?_, fun i k => ?_⟩
  · exact Nat.le_trans ((ft.h.2.1.getD i).bqg j) (hb.mvb i j)
  · exact Nat.le_trans ((ft.h.2.2.2.getD i).bqg _) (hb.syb i _)
instance passF_c [FtM m] [hc : HC B r [lv rF m.start, lv (rL rF) m.move, lv rF m.fin, lv (rL rF) m.say, lv rI o, .cv (.slice none 0 0)]] : CtB Tryz.prog 93 [ov r, bv false] B (TOk ⟨m, o⟩ ∧ MdB 100000 m ∧ FwB ⟨m, o⟩) (lv (rL rF) ((fwdAll ⟨m, o⟩).map (·.map frK))) := by
  refine (ctB Tryz.call93 Tryz.func93 Tryz.ntmps93 rfl Tryz.results93 rfl [] fun h0 w0 ⟨tk, hb, hf⟩ => ?_)
  have hs1 := tk.s1
  have hs40 := tk.s40
  have hn := tk.n
  have hmv := tk.mv
  have hfn := tk.fin
  have hsy := tk.say
  dsimp only at hs1 hs40 hn hmv hfn hsy
  repeat first | refine gDr 14 (by kernel_rfl) ?_ | refine nx ?_ | intro _
  rename_i ν out vo
  refine gRg (σ := List Value × List (List Fr)) (fun k s => s.1.length = o.length ∧ s.2.length = o.length ∧ (∀ j, j < k → s.2.getD j [] = (fwd ⟨m, o⟩ j).map frK) ∧ FtR s.2) (fun k s => [rA rW 22 out s.1, rZ rF 31 s.1 s.2]) (List.replicate o.length vnil, List.replicate o.length []) ⟨by simp, by simp, fun j hj => by omega, inferInstance⟩ rfl (fun hr k s l od od' D hk hI => ?_) (fun D s hI => ?_)
  · obtain ⟨vs, ls⟩ := s
    obtain ⟨hi1, hi2, hi3, hi4⟩ := hI
    simp only [Bool.false_eq_true, if_false] at hi1 hi2 hi3 hi4 ⊢
    repeat first | refine nx ?_ | intro _
    rename_i vt ν2
    refine gLp (fun s : Nat × List (List Fr) => [(33, iv s.1)]) (fun s => [rZ rF 31 (vs.set k (ν2 30).v) s.2]) (fun s => PI o.length m.start.length k (· < k) (fwd ⟨m, o⟩) s.2 s.1) (fun s => m.start.length - s.1) (0, ls.set k (List.replicate m.start.length fr0)) (.start hi2 hk hi3 (by omega) hi4) (fun ⟨i, ls2⟩ hI2 => ?_)
    dsimp only at hI2 ⊢
    have hI2i := hI2.il
    have hft := hI2.t
    repeat first | refine nx ?_ | intro _
    refine gIf (fun c => ?_) fun c => ?_
    · have hsi := tk.sayi i k c hk
      have hwm := hb.sb i
      have hws := hb.syb i (o.getD k 0).toNat
      dsimp only at hsi
      repeat first | refine nx ?_ | intro _
      have hq : ls2.getD k [] = _ := hI2.r
      have hql : (ls2.getD k []).length = m.start.length := by rw [hq]; exact Go.Ear.rowAt_len (by simp [fwd_len]) hI2i
      refine gIf (fun c0 => ?_) fun c0 => ?_
      · have hz := fwd_z (t := ⟨m, o⟩) c0 c
        dsimp only at hz
        repeat first | refine nx ?_ | intro _
        exact gBk (i + 1, ls2.set k ((ls2.getD k []).set i (frK ((m.start.getD i fr0).rat * ((m.say.getD i []).getD (o.getD k 0).toNat fr0).rat)))) (hI2.next hk (by omega) c (fwd_len _ _) hz) (by dsimp only; omega)
      · have hpr := hI2.b (k - 1) (by omega)
        have tw : TW ⟨m, o⟩ := twOf hb
        have hpb := fun j => hf (k - 1) j (show k - 1 < o.length by omega)
        have hpl := fwd_len ⟨m, o⟩ (k - 1)
        have hz := fwd_s (t := ⟨m, o⟩) (i := i) (k := k) (by omega) c
        have hsb := bq_sumF' tk tw hpb i
        have hbk := bq_f2 tw hpb
        dsimp only at hz hpl hsb
        generalize fwd ⟨m, o⟩ (k - 1) = pr at hpr hpb hpl hz hsb hbk
        have hsd : ∀ j, j < m.start.length → TOk ⟨m, o⟩ ∧ MdB 100000 m ∧ i < m.start.length ∧ j < m.start.length ∧ (1 ≤ k ∧ k ≤ 1000) ∧ k ≤ (vs.set k (ν2 30).v).length ∧ j < (ls2.getD (k - 1) []).length ∧ bf ((ls2.getD (k - 1) []).getD j fr0) ≤ 300000 := fun j hj => ⟨tk, hb, c, hj, by omega, by simp; omega, by rw [hpr]; simp; omega, by rw [hpr, getD_K, bf_frK]; exact hpb j⟩
        have hq2 : (fun j => ((ls2.getD (k - 1) []).getD j fr0).rat * moveT ⟨m, o⟩ j i) = fun j => pr.getD j 0 * moveT ⟨m, o⟩ j i := by funext j; rw [hpr, getD_K, frK_rat]
        have hbb : ∃ b, (∀ j, j < m.start.length → bq (((ls2.getD (k - 1) []).getD j fr0).rat * moveT ⟨m, o⟩ j i) ≤ b) ∧ m.start.length * (b + 1) ≤ 60000000 := ⟨500000, fun j _ => by rw [congrFun hq2 j]; exact hbk j i, by omega⟩
        rw [← hq2] at hz hsb
        repeat first | refine nx ?_ | intro _
        exact gBk (i + 1, ls2.set k ((ls2.getD k []).set i (frK (((m.say.getD i []).getD (o.getD k 0).toNat fr0).rat * sumTo (fun j => ((ls2.getD (k - 1) []).getD j fr0).rat * moveT ⟨m, o⟩ j i) m.start.length)))) (hI2.next hk (by omega) c (fwd_len _ _) hz) (by dsimp only; omega)
    · repeat first | refine nx ?_ | intro _
      have ei : i = m.start.length := by omega
      refine gMe (vs.set k (ν2 30).v, ls2) ⟨by simp [hi1], hI2.l, fun j hj => ?_, hft⟩
      rcases Nat.lt_or_ge j k with hjk | hjk
      · exact hI2.b j hjk
      · have : j = k := by omega
        subst this; rw [hI2.r]; exact Go.Ear.rowAt_end (by simp [fwd_len]) (by omega)
  · obtain ⟨vs, ls⟩ := s
    obtain ⟨hi1, hi2, hi3, _⟩ := hI
    dsimp only at hi1 hi2 hi3 ⊢
    have hall := rows_all hi2 hi3
    repeat first | refine nx ?_ | intro _
    rw [hall]; unfold fwdAll; rw [List.map_map]; rfl
end
end Go.E3
set_option linter.unusedVariables false
set_option maxRecDepth 20000
set_option maxHeartbeats 4000000
set_option synthInstance.maxSize 1000
namespace Go.E3
open Go Go.Ear Go.Proofs
section
variable {B : List Res} {r : Value} {m : Md} {o : List Int} {K : SV}
instance passB_c [FtM m] [hc : HC B r [lv rF m.start, lv (rL rF) m.move, lv rF m.fin, lv (rL rF) m.say, lv rI o, .cv (.slice none 0 0)]] : CtB Tryz.prog 93 [ov r, bv true] B (TOk ⟨m, o⟩ ∧ MdB 100000 m ∧ BwB ⟨m, o⟩) (lv (rL rF) ((bwdAll ⟨m, o⟩).map (·.map frK))) := by
  refine (ctB Tryz.call93 Tryz.func93 Tryz.ntmps93 rfl Tryz.results93 rfl [] fun h0 w0 ⟨tk, hb, hf⟩ => ?_)
  have hs1 := tk.s1
  have hs40 := tk.s40
  have hn := tk.n
  have hmv := tk.mv
  have hfn := tk.fin
  have hsy := tk.say
  dsimp only at hs1 hs40 hn hmv hfn hsy
  repeat first | refine gDr 14 (by kernel_rfl) ?_ | refine nx ?_ | intro _
  rename_i ν out vo
  refine gRg (σ := List Value × List (List Fr)) (fun k s => s.1.length = o.length ∧ s.2.length = o.length ∧ (∀ j, j < o.length ∧ o.length ≤ j + k → s.2.getD j [] = (bwd ⟨m, o⟩ (o.length - 1 - j)).map frK) ∧ FtR s.2) (fun k s => [rA rW 22 out s.1, rZ rF 31 s.1 s.2]) (List.replicate o.length vnil, List.replicate o.length []) ⟨by simp, by simp, fun j hj => by omega, inferInstance⟩ rfl (fun hr k s l od od' D hk hI => ?_) (fun D s hI => ?_)
  · obtain ⟨vs, ls⟩ := s
    obtain ⟨hi1, hi2, hi3, hi4⟩ := hI
    simp only [if_true] at hi1 hi2 hi3 hi4 ⊢
    have hp := show o.length - 1 - k < o.length by omega
    have hkp : o.length - 1 - (o.length - 1 - k) = k := by omega
    have hnx : ∀ j, j < o.length → o.length ≤ j + (k + 1) → o.length ≤ j + k ∨ j = o.length - 1 - k := fun j _ hj => by omega
    have hnb : ¬ (o.length - 1 - k < o.length ∧ o.length ≤ o.length - 1 - k + k) := by omega
    have hpb : 1 ≤ k → o.length - 1 - k + 1 < o.length ∧ o.length ≤ o.length - 1 - k + 1 + k ∧ o.length - 1 - (o.length - 1 - k + 1) = k - 1 := by omega
    have hk0 : o.length - 1 - k = o.length - 1 ↔ k = 0 := by omega
    generalize hpe : o.length - 1 - k = p at *
    repeat first | refine nx ?_ | intro _
    rename_i vt ν2
    refine gLp (fun s : Nat × List (List Fr) => [(33, iv s.1)]) (fun s => [rZ rF 31 (vs.set p (ν2 30).v) s.2]) (fun s => PI o.length m.start.length p (fun j => j < o.length ∧ o.length ≤ j + k) (fun j => bwd ⟨m, o⟩ (o.length - 1 - j)) s.2 s.1) (fun s => m.start.length - s.1) (0, ls.set p (List.replicate m.start.length fr0)) (.start hi2 hp hi3 hnb hi4) (fun ⟨i, ls2⟩ hI2 => ?_)
    dsimp only at hI2 ⊢
    have hI2i := hI2.il
    have hft := hI2.t
    repeat first | refine nx ?_ | intro _
    refine gIf (fun c => ?_) fun c => ?_
    · have hwm := hb.fb i
      have hq : ls2.getD p [] = _ := hI2.r
      have hql : (ls2.getD p []).length = m.start.length := by rw [hq]; exact Go.Ear.rowAt_len (by simp [bwd_len]) hI2i
      repeat first | refine nx ?_ | intro _
      refine gIf (fun c0 => ?_) fun c0 => ?_
      · have hz := bwd_z (t := ⟨m, o⟩) (hk0.1 (by omega)) c
        dsimp only at hz
        repeat first | refine nx ?_ | intro _
        exact gBk (i + 1, ls2.set p ((ls2.getD p []).set i (frK (m.fin.getD i fr0).rat))) (hI2.next hp hnb c (bwd_len _ _) (by rw [hkp]; exact hz)) (by dsimp only; omega)
      · have hk1 : 1 ≤ k := Nat.pos_of_ne_zero fun e => c0 ⟨trivial, by have := hk0.2 e; omega⟩
        obtain ⟨hp1, hp2, hp3⟩ := hpb hk1
        have hpr := hI2.b (p + 1) ⟨hp1, hp2⟩
        rw [hp3] at hpr
        have tw : TW ⟨m, o⟩ := twOf hb
        have hpb := fun j => hf (k - 1) j (show k - 1 < o.length by omega)
        have hpl := bwd_len ⟨m, o⟩ (k - 1)
        have hz := bwd_s (t := ⟨m, o⟩) (i := i) hk1 hk c
        dsimp only at hz
        rw [hpe] at hz
        have hsb := bq_sumB tk tw hpb i (p + 1)
        have hbk := bq_b3 tw hpb
        dsimp only at hpl hsb
        generalize bwd ⟨m, o⟩ (k - 1) = pr at hpr hpb hpl hz hsb hbk
        have hsd : ∀ j, j < m.start.length → TOk ⟨m, o⟩ ∧ MdB 100000 m ∧ i < m.start.length ∧ j < m.start.length ∧ p + 1 < o.length ∧ p + 1 < (vs.set p (ν2 30).v).length ∧ j < (ls2.getD (p + 1) []).length ∧ bf ((ls2.getD (p + 1) []).getD j fr0) ≤ 300000 := fun j hj => ⟨tk, hb, c, hj, by omega, by simp; omega, by rw [hpr]; simp; omega, by rw [hpr, getD_K, bf_frK]; exact hpb j⟩
        have hq2 : (fun j => moveT ⟨m, o⟩ i j * sayT ⟨m, o⟩ j (p + 1) * ((ls2.getD (p + 1) []).getD j fr0).rat) = fun j => moveT ⟨m, o⟩ i j * sayT ⟨m, o⟩ j (p + 1) * pr.getD j 0 := by funext j; rw [hpr, getD_K, frK_rat]
        have hbb : ∃ b, (∀ j, j < m.start.length → bq (moveT ⟨m, o⟩ i j * sayT ⟨m, o⟩ j (p + 1) * ((ls2.getD (p + 1) []).getD j fr0).rat) ≤ b) ∧ m.start.length * (b + 1) ≤ 60000000 := ⟨600000, fun j _ => by rw [congrFun hq2 j]; exact hbk i j (p + 1), by omega⟩
        rw [← hq2] at hz hsb
        repeat first | refine nx ?_ | intro _
        exact gBk (i + 1, ls2.set p ((ls2.getD p []).set i (frK (sumTo (fun j => moveT ⟨m, o⟩ i j * sayT ⟨m, o⟩ j (p + 1) * ((ls2.getD (p + 1) []).getD j fr0).rat) m.start.length)))) (hI2.next hp hnb c (bwd_len _ _) (by rw [hkp]; exact hz)) (by dsimp only; omega)
    · repeat first | refine nx ?_ | intro _
      have ei : i = m.start.length := by omega
      refine gMe (vs.set p (ν2 30).v, ls2) ⟨by simp [hi1], hI2.l, fun j hj => ?_, hft⟩
      rcases hnx j hj.1 hj.2 with h | h
      · exact hI2.b j ⟨hj.1, h⟩
      · subst h; rw [hI2.r]; exact Go.Ear.rowAt_end (by simp [bwd_len]) (by omega)
  · obtain ⟨vs, ls⟩ := s
    obtain ⟨hi1, hi2, hi3, _⟩ := hI
    dsimp only at hi1 hi2 hi3 ⊢
    have hall := rows_all hi2 (fun j hj => hi3 j ⟨hj, by omega⟩)
    repeat first | refine nx ?_ | intro _
    rw [hall]; unfold bwdAll; rw [List.map_map]; rfl
end
end Go.E3
set_option linter.unusedVariables false
set_option maxRecDepth 20000
set_option maxHeartbeats 4000000
set_option synthInstance.maxSize 1000
namespace Go.E3
open Go Go.Ear Go.Proofs
section
variable {m : Md} {o : List Int} {S T : SV}
@[reducible] def trK (m : Md) (o : List Int) : SV := .pk [lv rF m.start, lv (rL rF) m.move, lv rF m.fin, lv (rL rF) m.say, lv rI o, .cv (.slice none 0 0)] 0
instance passF_k [FtM m] : Ct Tryz.prog 93 [trK m o, bv false] (TOk ⟨m, o⟩ ∧ MdB 100000 m ∧ FwB ⟨m, o⟩) (lv (rL rF) ((fwdAll ⟨m, o⟩).map (·.map frK))) := ctK fun v => passF_c
instance passB_k [FtM m] : Ct Tryz.prog 93 [trK m o, bv true] (TOk ⟨m, o⟩ ∧ MdB 100000 m ∧ BwB ⟨m, o⟩) (lv (rL rF) ((bwdAll ⟨m, o⟩).map (·.map frK))) := ctK fun v => passB_c
instance lik_k {f : List (List Rat)} [FtM m] : Ct Tryz.prog 92 [trK m o, lv (rL rF) (f.map (·.map frK))] (f.length ≤ 1048576 ∧ m.start.length ≤ 1048576 ∧ m.fin.length = m.start.length ∧ (f.length = 0 ∨ (f.getD (f.length - 1) []).length = m.start.length) ∧ ∃ b, (∀ i, i < m.start.length → bq ((f.getD (f.length - 1) []).getD i 0) + bf (m.fin.getD i fr0) ≤ b) ∧ m.start.length * (b + 1) ≤ 60000000) (kk (likT ⟨m, o⟩ f)) := ctK fun v => lik_c
theorem MdB.up {a b : Nat} {m : Md} (h : MdB a m) (hab : a ≤ b) : MdB b m := ⟨Nat.le_trans h.start hab, fun l hl => Nat.le_trans (h.move l hl) hab, Nat.le_trans h.fin hab, fun l hl => Nat.le_trans (h.say l hl) hab⟩
theorem one_mdb {K : Nat} {m : Md} (h : MdB K m) : ∀ x ∈ [m], MdB K x := fun x hx => by rw [List.mem_singleton.1 hx]; exact h
theorem one_len {o : List Int} {n : Nat} (h : o.length ≤ n) : ∀ x ∈ [o], x.length ≤ n := fun x hx => by rw [List.mem_singleton.1 hx]; exact h
instance Forward_c [i : VM S m] [j : Vw (lv rI) T o] : Ct Tryz.prog 39 [S, T] (o.length ≤ 1099511627776 ∧ MdB 10000000 m ∧ (checkE [m] [o] = 0 → MdB 100000 m ∧ FwB ⟨m, o⟩)) (.tp [kkR (fwdM m o), iv (checkE [m] [o])]) := by
  haveI := i.t
  refine ct2 i.v j (ctI Tryz.call39 Tryz.func39 Tryz.ntmps39 rfl Tryz.results39 rfl [] fun h0 w0 ⟨h1, h2, h3⟩ => ?_)
  have hx := one_mdb h2
  have ho := one_len h1
  repeat first | refine nx ?_ | intro _
  refine gIf (fun c => ?_) fun c => ?_
  · repeat first | refine nx ?_ | intro _
    unfold fwdM; rw [if_neg c]; trivial
  · have hE : checkE [m] [o] = 0 := Classical.not_not.1 c
    have tk := checkE_TOk hE
    obtain ⟨hb, hf⟩ := h3 hE
    repeat first | refine nx ?_ | intro _
    unfold fwdM; rw [if_pos hE]; exact ⟨rfl, hE.symm⟩
instance Backward_c [i : VM S m] [j : Vw (lv rI) T o] : Ct Tryz.prog 40 [S, T] (o.length ≤ 1099511627776 ∧ MdB 10000000 m ∧ (checkE [m] [o] = 0 → MdB 100000 m ∧ BwB ⟨m, o⟩)) (.tp [kkR (bwdM m o), iv (checkE [m] [o])]) := by
  haveI := i.t
  refine ct2 i.v j (ctI Tryz.call40 Tryz.func40 Tryz.ntmps40 rfl Tryz.results40 rfl [] fun h0 w0 ⟨h1, h2, h3⟩ => ?_)
  have hx := one_mdb h2
  have ho := one_len h1
  repeat first | refine nx ?_ | intro _
  refine gIf (fun c => ?_) fun c => ?_
  · repeat first | refine nx ?_ | intro _
    unfold bwdM; rw [if_neg c]; trivial
  · have hE : checkE [m] [o] = 0 := Classical.not_not.1 c
    have tk := checkE_TOk hE
    obtain ⟨hb, hf⟩ := h3 hE
    repeat first | refine nx ?_ | intro _
    unfold bwdM; rw [if_pos hE]; exact ⟨rfl, hE.symm⟩
instance Likelihood_c [i : VM S m] [j : Vw (lv rI) T o] : Ct Tryz.prog 25 [S, T] (o.length ≤ 1099511627776 ∧ MdB 10000000 m ∧ (checkE [m] [o] = 0 → MdB 100000 m ∧ FwB ⟨m, o⟩)) (.tp [kk (likM m o), iv (checkE [m] [o])]) := by
  haveI := i.t
  refine ct2 i.v j (ctI Tryz.call25 Tryz.func25 Tryz.ntmps25 rfl Tryz.results25 rfl [] fun h0 w0 ⟨h1, h2, h3⟩ => ?_)
  have hx := one_mdb h2
  have ho := one_len h1
  repeat first | refine nx ?_ | intro _
  refine gIf (fun c => ?_) fun c => ?_
  · repeat first | refine nx ?_ | intro _
    unfold likM; rw [if_neg c, frK_zero]; trivial
  · have hE : checkE [m] [o] = 0 := Classical.not_not.1 c
    have tk := checkE_TOk hE
    obtain ⟨hb, hf⟩ := h3 hE
    have a1 : (fwdAll ⟨m, o⟩).length ≤ 1048576 := by rw [fwdAll_len]; have := tk.n; dsimp only at *; omega
    have a2 : m.start.length ≤ 1048576 := by have := tk.s40; dsimp only at *; omega
    have a3 := tk.fin
    have a4 := lik_len ⟨m, o⟩
    have a5 : ∃ b, (∀ i, i < m.start.length → bq (((fwdAll ⟨m, o⟩).getD ((fwdAll ⟨m, o⟩).length - 1) []).getD i 0) + bf (m.fin.getD i fr0) ≤ b) ∧ m.start.length * (b + 1) ≤ 60000000 := ⟨400001, fun i _ => lik_bd hf hb i, by have := tk.s40; dsimp only at *; omega⟩
    repeat first | refine nx ?_ | intro _
    unfold likM; rw [if_pos hE]; exact ⟨⟨rfl, rfl, rfl⟩, hE.symm⟩
end
end Go.E3
set_option linter.unusedVariables false
set_option maxRecDepth 20000
set_option maxHeartbeats 4000000
set_option synthInstance.maxSize 1000
namespace Go.E3
open Go Go.Ear Go.Proofs
instance greatF_c {F : SV} {n : Nat} {B : List Res} {sd : Nat → Prop} {q : Nat → Rat} [fv : ∀ i : Nat, Fv Tryz.prog F [iv (i : Int)] B (sd i) (kk (q i))] : CtB Tryz.prog 85 [iv (n : Int), F] B ((1 ≤ n ∧ n ≤ 1048576) ∧ (∀ i, i < n → sd i) ∧ ∀ i, i < n → bq (q i) ≤ 60000000) (.tp [kk (q (argN q n)), iv (argN q n)]) := by
  refine (ctB Tryz.call85 Tryz.func85 Tryz.ntmps85 rfl Tryz.results85 rfl [] fun h0 w0 ⟨hn, hs, hb⟩ => ?_)
  have hs0 := hs 0 (by omega)
  repeat first | refine nx ?_ | intro _
  rename_i u v
  refine gLp (fun k : Nat => [(8, iv k), (7, iv (argN q k))]) (fun k => [rV v [bv (frK (q (argN q k))).neg, lv rU (frK (q (argN q k))).n, lv rU (frK (q (argN q k))).d] 31]) (fun k => (1 ≤ k ∧ k ≤ n) ∧ argN q k < k) (fun k => n - k) 1 ⟨⟨by omega, by omega⟩, argN_lt (by omega)⟩ (fun k ⟨hk, ha⟩ => ?_) (h1 := by rw [argN_one]; (repeat' (first | refine And.intro ?_ ?_ | trivial | rfl | omega))) (h2 := by rw [argN_one]; (repeat' (first | refine And.intro ?_ ?_ | trivial | rfl | omega)))
  repeat first | refine nx ?_ | intro _
  refine gIf (fun c => ?_) fun c => ?_
  · have hsk := hs k c
    have hbk := hb k c
    have hbn := hb (argN q k) (by omega)
    repeat first | refine nx ?_ | intro _
    refine gIf (fun d => ?_) fun d => ?_ <;> repeat first | refine nx ?_ | intro _
    · have hg : q (argN q k) < q k := rat_sub_pos.1 (sgQ_pos.1 d)
      exact gBk (k + 1) ⟨by omega, argN_lt (by omega)⟩ (by omega) (h1 := by rw [argN_t hg]; (repeat' (first | refine And.intro ?_ ?_ | trivial | rfl | omega))) (h2 := by rw [argN_t hg]; (repeat' (first | refine And.intro ?_ ?_ | trivial | rfl | omega)))
    · have hg : ¬ q (argN q k) < q k := fun e => d (sgQ_pos.2 (rat_sub_pos.2 e))
      exact gBk (k + 1) ⟨by omega, argN_lt (by omega)⟩ (by omega) (h1 := by rw [argN_f hg]; (repeat' (first | refine And.intro ?_ ?_ | trivial | rfl | omega))) (h2 := by rw [argN_f hg]; (repeat' (first | refine And.intro ?_ ?_ | trivial | rfl | omega)))
  · repeat first | refine nx ?_ | intro _
    rw [show k = n by omega]; exact ⟨⟨rfl, rfl, rfl⟩, rfl⟩
section
variable {m : Md} {o : List Int} {vo out : Value} {vs : List Value} {ls : List (List Fr)} {t i : Nat} {e : TypeId} {B : List Res}
@[reducible] def mdK (m : Md) : SV := .pk [lv rF m.start, lv (rL rF) m.move, lv rF m.fin, lv (rL rF) m.say] 0
instance best1_c {S T U : SV} {x y : Int} : Ct Tryz.prog 81 [iv x, iv y, S, T, U] True (fnv (.func 82) [] [S, .pk [iv y] 0, T, .pk [iv x] 0, U]) := by
  refine (ctI Tryz.call81 Tryz.func81 Tryz.ntmps81 rfl Tryz.results81 rfl [] fun h0 w0 _ => ?_)
  repeat first | refine nx ?_ | intro _
  trivial
instance best11_c {j : Nat} [FtM m] [FtR ls] [ho : HC B vo [ov out]] [ha : HA B out Value rW e vs] [hz : HZ B vs Fr rF 31 ls] :
    CtB Tryz.prog 82 [iv (j : Int), mdK m, .pk [iv (i : Int)] 0, .pk [lv rI o] 0, .pk [iv (t : Int)] 0, ov vo] B (TOk ⟨m, o⟩ ∧ MdB 100000 m ∧ i < m.start.length ∧ j < m.start.length ∧ t + 1 < o.length ∧ t + 1 < vs.length ∧ j < (ls.getD (t + 1) []).length ∧ bf ((ls.getD (t + 1) []).getD j fr0) ≤ 300000) (kk (rq ⟨m, o⟩ (ls.getD (t + 1) []) i (t + 1) j)) := by
  refine (ctB Tryz.call82 Tryz.func82 Tryz.ntmps82 rfl Tryz.results82 rfl [] fun h0 w0 ⟨tk, hb, hil, hj, h1, h2, h3, h4⟩ => ?_)
  have hmv := tk.mv
  have hsy := tk.say
  have hn := tk.n
  have hmi := tk.mvi i hil
  have hsi := tk.sayi j (t + 1) hj h1
  dsimp only at hmv hsy hn hmi hsi
  have hwm := hb.mvb i j
  have hws := hb.syb j (o.getD (t + 1) 0).toNat
  have hw := wts3 ((m.move.getD i []).getD j fr0) ((m.say.getD j []).getD (o.getD (t + 1) 0).toNat fr0) ((ls.getD (t + 1) []).getD j fr0)
  repeat first | refine gDr 30 (by kernel_rfl) ?_ | refine nx ?_ | intro _
  rw [prodF3]; exact ⟨rfl, rfl, rfl⟩
instance best2_c {j : Nat} [FtM m] [FtR ls] [ho : HC B vo [ov out]] [ha : HA B out Value rW e vs] [hz : HZ B vs Fr rF 31 ls] :
    CtB Tryz.prog 86 [iv (j : Int), mdK m, .pk [lv rI o] 0, ov vo] B (TOk ⟨m, o⟩ ∧ MdB 100000 m ∧ j < m.start.length ∧ 0 < o.length ∧ 0 < vs.length ∧ j < (ls.getD 0 []).length ∧ bf ((ls.getD 0 []).getD j fr0) ≤ 300000) (kk (rq0 ⟨m, o⟩ (ls.getD 0 []) j)) := by
  refine (ctB Tryz.call86 Tryz.func86 Tryz.ntmps86 rfl Tryz.results86 rfl [] fun h0 w0 ⟨tk, hb, hj, h1, h2, h3, h4⟩ => ?_)
  have hsy := tk.say
  have hsi := tk.sayi j 0 hj h1
  dsimp only at hsy hsi
  have hwm := hb.sb j
  have hws := hb.syb j (o.getD 0 0).toNat
  have hw := wts3 (m.start.getD j fr0) ((m.say.getD j []).getD (o.getD 0 0).toNat fr0) ((ls.getD 0 []).getD j fr0)
  repeat first | refine gDr 23 (by kernel_rfl) ?_ | refine nx ?_ | intro _
  rw [prodF3]; exact ⟨rfl, rfl, rfl⟩
structure PJ (N S : Nat) (p : Nat) (before : Nat → Prop) (f : Nat → List Fr) (ls : List (List Fr)) (i : Nat) : Prop where
  il : i ≤ S
  l : ls.length = N
  b : ∀ j, before j → ls.getD j [] = f j
  r : ls.getD p [] = Go.Ear.rowAt (f p) fr0 S i
  t : FtR ls
theorem PJ.start {N S p : Nat} {before : Nat → Prop} {f : Nat → List Fr} {ls : List (List Fr)} (hl : ls.length = N) (hp : p < N) (hb : ∀ j, before j → ls.getD j [] = f j) (hn : ¬ before p) (ht : FtR ls) : PJ N S p before f (ls.set p (List.replicate S fr0)) 0 :=
  ⟨Nat.zero_le _, by simp [hl], fun j hj => by rw [getD_set _ _ _ (by omega), if_neg (fun e : j = p => hn (e ▸ hj))]; exact hb j hj, by rw [getD_set _ _ _ (by omega), if_pos rfl, Go.Ear.rowAt_zero], ht.set inferInstance _⟩
theorem PJ.next {N S p : Nat} {before : Nat → Prop} {f : Nat → List Fr} {ls : List (List Fr)} {i : Nat} (h : PJ N S p before f ls i) (hp : p < N) (hn : ¬ before p) (hi : i < S) (hf : (f p).length = S) {x : Fr} [hxf : FtF x] (hx : x = (f p).getD i fr0) : PJ N S p before f (ls.set p ((ls.getD p []).set i x)) (i + 1) :=
  ⟨hi, by simp [h.l], fun j hj => by rw [getD_set _ _ _ (by rw [h.l]; exact hp), if_neg (fun e : j = p => hn (e ▸ hj))]; exact h.b j hj, by rw [getD_set _ _ _ (by rw [h.l]; exact hp), if_pos rfl, h.r]; exact Go.Ear.rowAt_set hf hi hx, h.t.set ((h.t.getD p).set hxf i) _⟩
instance mBest_c {S T : SV} [i : VM S m] [j : Vw (lv rI) T o] : Ct Tryz.prog 21 [S, T] (o.length ≤ 1099511627776 ∧ MdB 10000000 m ∧ (checkE [m] [o] = 0 → MdB 100000 m ∧ RsB ⟨m, o⟩)) (.tp [lv rI (bestP m o), kk (bestM m o), iv (bestE m o)]) := by
  haveI := i.t
  refine ct2 i.v j (ctI Tryz.call21 Tryz.func21 Tryz.ntmps21 rfl Tryz.results21 rfl [92] fun h0 w0 ⟨h1, h2, h3⟩ => ?_)
  have hx := one_mdb h2
  have ho := one_len h1
  repeat first | refine nx ?_ | intro _
  refine gIf (fun c => ?_) fun c => ?_
  · repeat first | refine nx ?_ | intro _
    have he := best_err c
    have hne : bestE m o ≠ 0 := by rw [he]; exact c
    rw [bestP_none hne, bestM_none hne, frK_zero]; exact ⟨rfl, ⟨rfl, rfl, rfl⟩, he.symm⟩
  have hE : checkE [m] [o] = 0 := Classical.not_not.1 c
  have tk := checkE_TOk hE
  obtain ⟨hb, hf⟩ := h3 hE
  have hs1 := tk.s1
  have hs40 := tk.s40
  have hn := tk.n
  have hmv := tk.mv
  have hfn := tk.fin
  have hsy := tk.say
  dsimp only at hs1 hs40 hn hmv hfn hsy
  repeat first | refine gDr 8 (by kernel_rfl) ?_ | refine nx ?_ | intro _
  refine gIf (fun c1 => ?_) fun c1 => ?_
  · repeat first | refine nx ?_ | intro _
    have he := best_none hE (.inl c1)
    have hne : bestE m o ≠ 0 := by rw [he]; decide
    rw [bestP_none hne, bestM_none hne, frK_zero]; exact ⟨rfl, ⟨rfl, rfl, rfl⟩, he.symm⟩
  have tw : TW ⟨m, o⟩ := twOf hb
  repeat first | refine nx ?_ | intro _
  rename_i vW ν out vo vf
  refine gRg (σ := List Value × List (List Fr)) (fun k s => s.1.length = o.length ∧ s.2.length = o.length ∧ (∀ j, j < o.length ∧ o.length ≤ j + k → s.2.getD j [] = rst ⟨m, o⟩ (o.length - 1 - j)) ∧ FtR s.2) (fun k s => [rA rW 22 out s.1, rZ rF 31 s.1 s.2]) (List.replicate o.length vnil, List.replicate o.length []) ⟨by simp, by simp, fun j hj => by omega, inferInstance⟩ rfl (fun hr k s l od od' D hk hI => ?_) (fun D s hI => ?_)
  · obtain ⟨vs, ls⟩ := s
    obtain ⟨hi1, hi2, hi3, hi4⟩ := hI
    simp only [if_true] at hi1 hi2 hi3 hi4 ⊢
    have hp := show o.length - 1 - k < o.length by omega
    have hkp : o.length - 1 - (o.length - 1 - k) = k := by omega
    have hnx : ∀ j, j < o.length → o.length ≤ j + (k + 1) → o.length ≤ j + k ∨ j = o.length - 1 - k := fun j _ hj => by omega
    have hnb : ¬ (o.length - 1 - k < o.length ∧ o.length ≤ o.length - 1 - k + k) := by omega
    have hpb : 1 ≤ k → o.length - 1 - k + 1 < o.length ∧ o.length ≤ o.length - 1 - k + 1 + k ∧ o.length - 1 - (o.length - 1 - k + 1) = k - 1 := by omega
    have hk0 : o.length - 1 - k = o.length - 1 ↔ k = 0 := by omega
    generalize hpe : o.length - 1 - k = p at *
    repeat first | refine nx ?_ | intro _
    rename_i ν2
    refine gLp (fun s : Nat × List (List Fr) => [(47, iv s.1)]) (fun s => [rZ rF 31 (vs.set p (ν2 44).v) s.2]) (fun s => PJ o.length m.start.length p (fun j => j < o.length ∧ o.length ≤ j + k) (fun j => rst ⟨m, o⟩ (o.length - 1 - j)) s.2 s.1) (fun s => m.start.length - s.1) (0, ls.set p (List.replicate m.start.length fr0)) (.start hi2 hp hi3 hnb hi4) (fun ⟨i, ls2⟩ hI2 => ?_)
    dsimp only at hI2 ⊢
    have hI2i := hI2.il
    have hft := hI2.t
    repeat first | refine nx ?_ | intro _
    refine gIf (fun c => ?_) fun c => ?_
    · have hwm := hb.fb i
      have hq : ls2.getD p [] = _ := hI2.r
      have hql : (ls2.getD p []).length = m.start.length := by rw [hq]; exact Go.Ear.rowAt_len (rst_len _ _) hI2i
      repeat first | refine nx ?_ | intro _
      refine gIf (fun c0 => ?_) fun c0 => ?_
      · have hz := rst_z (t := ⟨m, o⟩) (k := k) (hk0.1 (by omega)) c
        dsimp only at hz
        repeat first | refine nx ?_ | intro _
        exact gBk (i + 1, ls2.set p ((ls2.getD p []).set i (m.fin.getD i fr0))) (hI2.next hp hnb c (rst_len _ _) (by rw [hkp]; exact hz)) (by dsimp only; omega)
      · have hk1 : 1 ≤ k := Nat.pos_of_ne_zero fun e => c0 (by have := hk0.2 e; (repeat' (first | refine And.intro ?_ ?_ | trivial | rfl | omega)))
        obtain ⟨hp1, hp2, hp3⟩ := hpb hk1
        have hpr := hI2.b (p + 1) ⟨hp1, hp2⟩
        rw [hp3] at hpr
        have hpb := fun j => hf (k - 1) j (show k - 1 < o.length by omega)
        have hpl := rst_len ⟨m, o⟩ (k - 1)
        have hz := rst_s (t := ⟨m, o⟩) (i := i) hk1 hk c
        dsimp only at hz hpl
        rw [hpe] at hz
        rw [← hpr] at hz hpl hpb
        have hsd : ∀ j, j < m.start.length → TOk ⟨m, o⟩ ∧ MdB 100000 m ∧ i < m.start.length ∧ j < m.start.length ∧ p + 1 < o.length ∧ p + 1 < (vs.set p (ν2 44).v).length ∧ j < (ls2.getD (p + 1) []).length ∧ bf ((ls2.getD (p + 1) []).getD j fr0) ≤ 300000 := fun j hj => ⟨tk, hb, c, hj, by omega, by simp; omega, by omega, (hpb j).1⟩
        have hbb : ∀ j, j < m.start.length → bq (rq ⟨m, o⟩ (ls2.getD (p + 1) []) i (p + 1) j) ≤ 60000000 := fun j _ => bq_rq tw hpb i (p + 1) j
        refine gDrL (fun j => Nat.beq j 13) 16 (by kernel_rfl) ?_
        repeat first | refine nx ?_ | intro _
        exact gBk (i + 1, ls2.set p ((ls2.getD p []).set i (frK (rq ⟨m, o⟩ (ls2.getD (p + 1) []) i (p + 1) (argN (rq ⟨m, o⟩ (ls2.getD (p + 1) []) i (p + 1)) m.start.length))))) (hI2.next hp hnb c (rst_len _ _) (by rw [hkp]; exact hz)) (by dsimp only; omega)
    · repeat first | refine nx ?_ | intro _
      have ei : i = m.start.length := by omega
      refine gMe (vs.set p (ν2 44).v, ls2) ⟨by simp [hi1], hI2.l, fun j hj => ?_, hft⟩
      rcases hnx j hj.1 hj.2 with h | h
      · exact hI2.b j ⟨hj.1, h⟩
      · subst h; rw [hI2.r]; exact Go.Ear.rowAt_end (rst_len _ _) (by omega)
  · obtain ⟨vs, ls⟩ := s
    obtain ⟨hi1, hi2, hi3, hi4⟩ := hI
    dsimp only at hi1 hi2 hi3 hi4 ⊢
    have hi3 : ∀ j, j < o.length → ls.getD j [] = rst ⟨m, o⟩ (o.length - 1 - j) := fun j hj => hi3 j ⟨hj, by omega⟩
    have e0 : ls.getD 0 [] = rst ⟨m, o⟩ (o.length - 1) := hi3 0 (by omega)
    have hsb := fun i => Nat.le_trans (FtS.bqg (l := m.start) inferInstance i) (hb.sb i)
    have hsd : ∀ j, j < m.start.length → TOk ⟨m, o⟩ ∧ MdB 100000 m ∧ j < m.start.length ∧ 0 < o.length ∧ 0 < vs.length ∧ j < (ls.getD 0 []).length ∧ bf ((ls.getD 0 []).getD j fr0) ≤ 300000 := fun j hj => ⟨tk, hb, hj, by omega, by omega, by rw [e0, rst_len]; exact hj, by rw [e0]; exact (hf _ j (by dsimp only; omega)).1⟩
    have hpp := fun j => hf (o.length - 1) j (by dsimp only; omega)
    rw [← e0] at hpp
    have hbb : ∀ j, j < m.start.length → bq (rq0 ⟨m, o⟩ (ls.getD 0 []) j) ≤ 60000000 := fun j _ => bq_rq0 tw hsb hpp j
    have hb0 := hbb (argN (rq0 ⟨m, o⟩ (ls.getD 0 [])) m.start.length) (argN_lt (by omega))
    repeat first | refine nx ?_ | intro _
    have ew : rq0 ⟨m, o⟩ (ls.getD 0 []) (argN (rq0 ⟨m, o⟩ (ls.getD 0 [])) m.start.length) = bestW ⟨m, o⟩ := by rw [e0]; rfl
    have ea : argN (rq0 ⟨m, o⟩ (ls.getD 0 [])) m.start.length = atT ⟨m, o⟩ 0 := by rw [e0]; rfl
    rw [ew, ea]
    refine gIf (fun c2 => ?_) fun c2 => ?_
    · have he := best_none hE (.inr (sgQ_zero.1 c2))
      have hne : bestE m o ≠ 0 := by rw [he]; decide
      repeat first | refine nx ?_ | intro _
      rw [bestP_none hne, bestM_none hne, frK_zero]; exact ⟨rfl, ⟨rfl, rfl, rfl⟩, he.symm⟩
    have he := best_is hE c1 (fun e => c2 (sgQ_zero.2 e))
    repeat first | refine nx ?_ | intro _
    rename_i vw vp
    refine gLp (fun s : Nat × Value => [(17, iv s.1), (15, iv (atT ⟨m, o⟩ s.1)), (16, ov s.2)]) (fun s => [rA rI 3 s.2 (pathN ⟨m, o⟩ (s.1 + 1))]) (fun s => s.1 + 1 ≤ o.length) (fun s => o.length - s.1) (0, vp) (by dsimp only; omega) (fun ⟨k, v⟩ hk => ?_)
    dsimp only at hk ⊢
    have hpl := pathN_len ⟨m, o⟩ (k + 1)
    repeat first | refine nx ?_ | intro _
    refine gIf (fun c3 => ?_) fun c3 => ?_
    · have e1 := hi3 (k + 1) (by omega)
      have hat := atT_lt (t := ⟨m, o⟩) hs1 k
      dsimp only at hat
      have hpp := fun j => hf (o.length - 1 - (k + 1)) j (by dsimp only; omega)
      rw [← e1] at hpp
      have hpl2 : (ls.getD (k + 1) []).length = m.start.length := by rw [e1, rst_len]
      have hsd : ∀ j, j < m.start.length → TOk ⟨m, o⟩ ∧ MdB 100000 m ∧ atT ⟨m, o⟩ k < m.start.length ∧ j < m.start.length ∧ k + 1 < o.length ∧ k + 1 < vs.length ∧ j < (ls.getD (k + 1) []).length ∧ bf ((ls.getD (k + 1) []).getD j fr0) ≤ 300000 := fun j hj => ⟨tk, hb, hat, hj, by omega, by omega, by omega, (hpp j).1⟩
      have hbb : ∀ j, j < m.start.length → bq (rq ⟨m, o⟩ (ls.getD (k + 1) []) (atT ⟨m, o⟩ k) (k + 1) j) ≤ 60000000 := fun j _ => bq_rq tw hpp _ _ j
      have ea2 : argN (rq ⟨m, o⟩ (ls.getD (k + 1) []) (atT ⟨m, o⟩ k) (k + 1)) m.start.length = atT ⟨m, o⟩ (k + 1) := by rw [e1]; rfl
      repeat first | refine nx ?_ | intro _
      rename_i v2
      rw [ea2]
      exact gBk (k + 1, v2) (by dsimp only; omega) (by dsimp only; omega) (h2 := by rw [pathN_succ _ (k + 1)]; (repeat' (first | refine And.intro ?_ ?_ | trivial | rfl | omega)))
    · repeat first | refine gKp [5, 6, 14, 16, 2, 3] (gDr 3 (by kernel_rfl) ?_) | refine nx ?_ | intro _
      have e1 : k + 1 = o.length := by omega
      unfold bestP bestM; rw [if_pos he, if_pos he, e1, he]; exact ⟨rfl, ⟨rfl, rfl, rfl⟩, rfl⟩
end
end Go.E3
set_option linter.unusedVariables false
set_option maxRecDepth 20000
set_option maxHeartbeats 4000000
set_option synthInstance.maxSize 1000
namespace Go.E3
open Go Go.Ear Go.Proofs
structure RW {α : Type} (n i : Nat) (f : Nat → List α) (z : List α) (ls : List (List α)) : Prop where
  l : ls.length = n
  b : ∀ j, j < i → ls.getD j [] = f j
  z : ∀ j, i ≤ j → j < n → ls.getD j [] = z
theorem RW.start {α : Type} {n : Nat} {f : Nat → List α} {z : List α} : RW n 0 f z (List.replicate n z) := ⟨by simp, fun j hj => by omega, fun j _ hj => by rw [List.getD_eq_getElem?_getD, List.getElem?_replicate, if_pos hj]; rfl⟩
theorem RW.next {α : Type} {n i : Nat} {f : Nat → List α} {z x : List α} {ls : List (List α)} (h : RW n i f z ls) (hi : i < n) (hx : x = f i) : RW n (i + 1) f z (ls.set i x) := ⟨by simp [h.l], fun j hj => by
  rw [getD_set _ _ _ (by rw [h.l]; exact hi)]
  split
  · rename_i e; rw [hx, e]
  · exact h.b j (by omega), fun j h1 h2 => by rw [getD_set _ _ _ (by rw [h.l]; exact hi), if_neg (by omega)]; exact h.z j (by omega) h2⟩
theorem RW.all {α : Type} {n i : Nat} {f : Nat → List α} {z : List α} {ls : List (List α)} (h : RW n i f z ls) (hi : n ≤ i) : ls = (List.range n).map f := by
  apply List.ext_getElem?
  intro j
  rcases Nat.lt_or_ge j n with hj | hj
  · have := h.b j (by omega)
    rw [List.getD_eq_getElem?_getD, List.getElem?_eq_getElem (by rw [h.l]; exact hj)] at this
    rw [List.getElem?_eq_getElem (by rw [h.l]; exact hj), List.getElem?_map, List.getElem?_range hj]
    simpa using this
  · rw [List.getElem?_eq_none (by rw [h.l]; omega), List.getElem?_eq_none (by simp; omega)]
theorem map_rep {α : Type} (n : Nat) (x : α) : (List.range n).map (fun _ => x) = List.replicate n x := by
  induction n with
  | zero => rfl
  | succ n ih => rw [List.range_succ, List.map_append, ih, List.replicate_succ']; rfl
instance rows_c {n w : Nat} : CtO Tryz.prog 126 [iv (n : Int), iv (w : Int)] (n ≤ 1048576 ∧ w ≤ 1048576) (fun g => [rA rW 22 g.v g.l, rZ rF 31 g.l (List.replicate n (List.replicate w fr0))]) := by
  refine (ctO Tryz.call126 Tryz.func126 Tryz.ntmps126 rfl Tryz.results126 rfl [] fun h0 w0 ⟨h1, h2⟩ => ?_)
  repeat first | refine nx ?_ | intro _
  rename_i v
  refine gLp (fun s : Nat × List Value × List (List Fr) => [(11, iv s.1)]) (fun s => [rA rW 22 v s.2.1, rZ rF 31 s.2.1 s.2.2]) (fun s => s.1 ≤ n ∧ s.2.1.length = n ∧ RW n s.1 (fun _ => List.replicate w fr0) [] s.2.2) (fun s => n - s.1) (0, List.replicate n vnil, List.replicate n []) ⟨by dsimp only; omega, by simp, .start⟩ (fun ⟨i, vs, ls⟩ ⟨hi, hv, hr⟩ => ?_)
  dsimp only at hi hv hr ⊢
  have hl := hr.l
  have hrl : (List.replicate n vnil).length = n := by simp
  repeat first | refine nx ?_ | intro _
  refine gIf (fun c => ?_) fun c => ?_
  · repeat first | refine nx ?_ | intro _
    rename_i z
    exact gBk (i + 1, vs.set i z, ls.set i (List.replicate w fr0)) ⟨by dsimp only; omega, by simp [hv], hr.next (by omega) rfl⟩ (by dsimp only; omega)
  · repeat first | refine nx ?_ | intro _
    rw [hr.all (by omega), map_rep]
    exact gEo (T := fun g : Gh => [rA rW 22 g.v g.l, rZ rF 31 g.l (List.replicate n (List.replicate w fr0))]) ⟨v, vs⟩ (by (repeat' (first | refine And.intro ?_ ?_ | trivial | rfl | omega)))
theorem gZl {P : Program} {n : Nat} {X : Fix} {ms : List Nat} {loc env : EL} {B : List Res} {k : Kt} {x : Code} {α : Type} {r : Rp α} {e : TypeId} {ls : List (List α)} (vs : List Value) [hz : HZ B vs α r e ls] (g : vs.length = ls.length → GW P n X ms loc env B x k) : GW P n X ms loc env B x k := ⟨fun ρ h w s => (g (hz.h s.ow).1).p ρ h w s⟩
instance Of_one {n k : Nat} : FtS (List.replicate n (frK (eachQ k))) := ⟨fun f hf => by rw [(List.mem_replicate.1 hf).2]; infer_instance⟩
theorem bq_int1 {k : Int} (h : -9223372036854775808 ≤ k ∧ k ≤ 9223372036854775807) : bq ((1 : Int) / (k : Int) : Rat) ≤ 100 := by
  have := bq_div ((1 : Int) : Rat) (k : Rat); have := bq_intc (n := 1) (by decide) (by decide); have := bq_intc h.1 h.2; omega
theorem half_bq : bq halfQ ≤ 100 := bq_int1 (k := 2) (by decide)
instance Left_c {a b : Int} : Ct Tryz.prog 56 [iv a, iv b] True (.tp [mv (leftR a b), iv (leftE a b)]) := by
  refine (ctI Tryz.call56 Tryz.func56 Tryz.ntmps56 rfl Tryz.results56 rfl [41, 46] fun h0 w0 _ => ?_)
  repeat first | refine nx ?_ | intro _
  refine gIf (fun c => ?_) fun c => ?_
  · repeat first | refine nx ?_ | intro _
    have he : leftE a b = 2 := if_pos (by omega)
    unfold leftR; rw [he]; exact ⟨⟨rfl, rfl, rfl, rfl⟩, rfl⟩
  obtain ⟨n, rfl⟩ : ∃ n : Nat, a = n := ⟨a.toNat, by omega⟩
  obtain ⟨k, rfl⟩ : ∃ k : Nat, b = k := ⟨b.toNat, by omega⟩
  have hn : 1 ≤ n ∧ n ≤ 40 := by omega
  have hk : 1 ≤ k ∧ k ≤ 64 := by omega
  repeat first | refine nx ?_ | intro _
  rw [show ((1 : Int) : Rat) / ((2 : Int) : Rat) = halfQ from rfl, show ((1 : Int) : Rat) / ((k : Int) : Rat) = eachQ k from rfl]
  have hhq := half_bq
  have hkq : bq (eachQ k) ≤ 100 := bq_int1 (k := k) (by omega)
  refine gDb (fun ν => .ag [ov (ν 38).v, ov (ν 41).v, ov (ν 43).v, ov (ν 46).v]) [38, 41, 43, 46] ?_
  have hrl : ∀ x : Fr, (List.replicate n x).length = n := by simp
  have hrl2 : ∀ x : List Fr, (List.replicate n x).length = n := by simp
  repeat first | refine nx ?_ | intro _
  rename_i v4 v6 v8 ν ν2 ν3
  refine gZl (ν 41).l fun h41 => ?_
  refine gZl (ν 46).l fun h46 => ?_
  rw [hrl2] at h41 h46
  generalize hM : List.replicate n (List.replicate n fr0) = M0
  generalize hY : List.replicate n (List.replicate k fr0) = Y0
  refine gLp (fun s : Nat × List (List Fr) × List (List Fr) => [(60, iv s.1)]) (fun s => [rZ rF 31 (ν 41).l s.2.1, rZ rF 31 (ν 46).l s.2.2]) (fun s => s.1 ≤ n ∧ RW n s.1 (fun j => (leftRow n j).map frK) (List.replicate n fr0) s.2.1 ∧ RW n s.1 (fun j => List.replicate k (frK (eachQ k))) (List.replicate k fr0) s.2.2) (fun s => n - s.1) (0, M0, Y0) ⟨by dsimp only; omega, by rw [← hM]; exact .start, by rw [← hY]; exact .start⟩ (fun ⟨i, lm, ly⟩ ⟨hi, hm, hy⟩ => ?_)
  dsimp only at hi hm hy ⊢
  have hml := hm.l
  have hyl := hy.l
  repeat first | refine nx ?_ | intro _
  refine gIf (fun c => ?_) fun c => ?_
  · have hz := hm.z i (Nat.le_refl _) c
    have hzl : (lm.getD i []).length = n := by rw [hz, hrl]
    have hyz := hy.z i (Nat.le_refl _) c
    have hz1 : (lm.set i ((lm.getD i []).set i (frK halfQ))).getD i [] = (lm.getD i []).set i (frK halfQ) := by rw [getD_set _ _ _ (by omega), if_pos rfl]
    have hz2 : ((lm.set i ((lm.getD i []).set i (frK halfQ))).getD i []).length = n := by rw [hz1, List.length_set, hzl]
    repeat first | refine nx ?_ | intro _
    refine gIf (fun c2 => ?_) fun c2 => ?_
    all_goals repeat first | refine nx ?_ | intro _
    all_goals first
      | rw [show (lm.set i ((lm.getD i []).set i (frK halfQ))).set i (((lm.set i ((lm.getD i []).set i (frK halfQ))).getD i []).set (i + 1) (frK halfQ)) = lm.set i ((leftRow n i).map frK) by rw [hz1, List.set_set, hz]; unfold leftRow; rw [if_pos c2]; simp [List.map_set, frK_zero]]
      | rw [show lm.set i ((lm.getD i []).set i (frK halfQ)) = lm.set i ((leftRow n i).map frK) by rw [hz]; unfold leftRow; rw [if_neg c2]; simp [List.map_set, frK_zero]]
    all_goals
      have hm2 := hm.next c rfl
      generalize lm.set i ((leftRow n i).map frK) = lm2 at hm2 ⊢
      refine gLp (fun j : Nat => [(87, iv j)]) (fun j => [rZ rF 31 (ν 46).l (ly.set i (Go.Ear.rowAt (List.replicate k (frK (eachQ k))) fr0 k j))]) (fun j => j ≤ k) (fun j => k - j) 0 (Nat.zero_le _) (fun j hj => ?_) (h2 := ⟨by rw [Go.Ear.rowAt_zero, ← hyz]; exact set_getD.symm, trivial⟩)
      have hr1 : (ly.set i (Go.Ear.rowAt (List.replicate k (frK (eachQ k))) fr0 k j)).getD i [] = Go.Ear.rowAt (List.replicate k (frK (eachQ k))) fr0 k j := by rw [getD_set _ _ _ (by omega), if_pos rfl]
      have hr2 : ((ly.set i (Go.Ear.rowAt (List.replicate k (frK (eachQ k))) fr0 k j)).getD i []).length = k := by rw [hr1]; exact Go.Ear.rowAt_len (by simp) hj
      repeat first | refine nx ?_ | intro _
      refine gIf (fun c3 => ?_) fun c3 => ?_
      · repeat first | refine nx ?_ | intro _
        rw [set_row2 (by omega), Go.Ear.rowAt_set (q := frK (eachQ k)) (by simp) c3 (by rw [List.getD_eq_getElem?_getD, List.getElem?_replicate, if_pos c3]; rfl)]
        exact gBk (j + 1) (by omega) (by omega)
      · repeat first | refine nx ?_ | intro _
        rw [Go.Ear.rowAt_end (by simp) (by omega)]
        exact gBk (i + 1, lm2, ly.set i (List.replicate k (frK (eachQ k)))) ⟨by dsimp only; omega, hm2, hy.next c rfl⟩ (by dsimp only; omega)
  · repeat first | refine nx ?_ | intro _
    have he : leftE n k = 0 := if_neg (by omega)
    rw [hm.all (by omega), hy.all (by omega), he]
    unfold leftR
    rw [if_pos he]
    simp only [leftMd, Go.Ear.mdK, leftS, leftF, leftMv, leftY, List.map_set, List.map_replicate, frK_zero, map_rep, List.map_map, Int.toNat_natCast]
    exact ⟨⟨rfl, rfl, trivial, trivial⟩, trivial⟩
end Go.E3
set_option linter.unusedVariables false
set_option maxRecDepth 20000
set_option maxHeartbeats 4000000
set_option synthInstance.maxSize 1000
namespace Go.E3
open Go Go.Ear Go.Proofs
instance beg1_c {m : Md} {ms : List Md} : Ct Tryz.prog 174 [mv m, .pk [lv rM ms] 0] (0 < m.say.length ∧ 0 < ms.length ∧ 0 < (ms.getD 0 md0).say.length) (bv (symOff ms m)) := by
  refine (ctI Tryz.call174 Tryz.func174 Tryz.ntmps174 rfl Tryz.results174 rfl [] fun h0 w0 ⟨h1, h2, h3⟩ => ?_)
  repeat first | refine nx ?_ | intro _
  unfold symOff; rfl
instance begins_c {ms : List Md} {S : SV} [i : VX S ms] : Ct Tryz.prog 122 [S] (ms.length ≤ 1000 ∧ ∀ m ∈ ms, MdB 10000000 m) (.tp [lv rI (beginF ms), iv (beginN ms), iv (beginE ms)]) := by
  haveI := i.t
  refine ct1 i.v (ctI Tryz.call122 Tryz.func122 Tryz.ntmps122 rfl Tryz.results122 rfl [] fun h0 w0 ⟨h1, h2⟩ => ?_)
  have hnil : ∀ o ∈ ([] : List (List Int)), o.length ≤ 1099511627776 := fun o ho => by cases ho
  have hz : ([] : List (List Int)).length = 0 ∨ 0 < ms.length := .inl rfl
  repeat first | refine nx ?_ | intro _
  refine gIf (fun c => ?_) fun c => ?_
  · repeat first | refine nx ?_ | intro _
    have he := begin_err c
    have hz := begin_none (ms := ms) (by rw [he]; exact c)
    exact ⟨hz.1.symm, by rw [← hz.2]; rfl, he.symm⟩
  have hE : checkE ms [] = 0 := Classical.not_not.1 c
  have hok := checkE_MsOk hE (by omega) h2
  have hbp : ∀ m ∈ ms, 0 < m.say.length ∧ 0 < ms.length ∧ 0 < (ms.getD 0 md0).say.length := fun m hm => by
    have := begin_pre hE (fun e => by rw [List.length_eq_zero_iff.1 e] at hm; cases hm) m hm
    exact ⟨this.1, this.2.1, this.2.2.1⟩
  repeat first | refine nx ?_ | intro _
  refine gIf (fun c2 => ?_) fun c2 => ?_
  · repeat first | refine nx ?_ | intro _
    have he := begin_arg hE c2
    have hz := begin_none (ms := ms) (by rw [he]; decide)
    exact ⟨hz.1.symm, by rw [← hz.2]; rfl, he.symm⟩
  have he := begin_ok hE (fun e => c2 (.inl e)) (fun e => c2 (.inr e))
  repeat first | refine nx ?_ | intro _
  refine gNl rI 3 ?_
  refine gLp (fun s : Nat × Value => [(25, iv s.1), (7, iv (offN ms s.1)), (6, ov s.2)]) (fun s => [rA rI 3 s.2 (fromL ms s.1)]) (fun s => s.1 ≤ ms.length) (fun s => ms.length - s.1) (0, .slice none 0 0) (Nat.zero_le _) fun ⟨k, v⟩ hk => ?_
  dsimp only at hk ⊢
  have ho1 := offN_le hok.s k
  have ho2 := hok.s k
  have ho3 : offN ms (k + 1) = offN ms k + (ms.getD k md0).start.length := rfl
  unfold sz4 at ho2
  have hfl := fromL_len ms k
  repeat first | refine nx ?_ | intro _
  refine gIf (fun c3 => ?_) fun c3 => ?_
  · repeat first | refine nx ?_ | intro _
    rename_i vm v2
    rw [← ho3, ← fromL_succ]
    exact gBk (k + 1, v2) (by dsimp only; omega) (by dsimp only; omega)
  · repeat first | refine nx ?_ | intro _
    have ek : k = ms.length := by omega
    have hz := begin_some he
    subst ek
    exact ⟨hz.1, by rw [hz.2], he.symm⟩
end Go.E3
set_option linter.unusedVariables false
set_option maxRecDepth 20000
set_option maxHeartbeats 4000000
set_option synthInstance.maxSize 1000
namespace Go.E3
open Go Go.Ear Go.Proofs
theorem rtW {P : Program} {e : TypeId} {β : Type} {r0 : Rp β} {bb bb2 : Nat} {d0 : β} (rt0 : RT P e β r0 bb2 d0) (k1 : Rk r0 1) (mr : MR P e bb) : RT P e Value rW bb vnil := ⟨by have := rt0.k; rw [k1.h] at this; exact this, by
  obtain ⟨ti, el⟩ := mr.h
  exact ⟨_, ti, el, fun h => ⟨⟨rfl, rfl⟩, trivial⟩⟩⟩
instance (priority := high) {P : Program} {n : Nat} {c : Bool} {loc env : EL} {B : List Res} {ms : List Nat} {d : Nat} {o : Operand} {z : Value} {t e : TypeId} {β : Type} {r0 : Rp β} {bb bb2 : Nat} {d0 : β} [nn : NotIn d ms] [lx : Lup n c loc env [(0, o)] [(0, ov z)]] [ts : TS P t e] [rt0 : RT P e β r0 bb2 d0] [k1 : Rk r0 1] [mr : MR P e bb] : St P n c loc env B ms d (.buildSlice t 1 #[(0, o)]) True (lv rW [z]) :=
  haveI := rtW rt0 k1 mr
  haveI : St P n c loc env B ms d (.buildSlice t 1 [(0, o)].toArray) ([z].length = 1 ∧ Nat.ble (1 * rW.k) 16777216 = true) (lv rW [z]) := inferInstance
  ⟨fun q _ => this.h q ⟨rfl, rfl⟩⟩
theorem range_map {α β : Type} {l : List (List α)} {f : List α → β} {n : Nat} (h : l.length = n) : (List.range n).map (fun r => f (l.getD r [])) = l.map f := by
  subst h
  apply List.ext_getElem?
  intro j
  rcases Nat.lt_or_ge j l.length with hj | hj
  · rw [List.getElem?_map, List.getElem?_range hj, List.getElem?_map, List.getElem?_eq_getElem hj]
    simp [List.getD_eq_getElem?_getD, List.getElem?_eq_getElem hj]
  · rw [List.getElem?_eq_none (by simp; omega), List.getElem?_eq_none (by simp; omega)]
abbrev RwT := Value × Value × Value × Value × List Value × List Value
instance row_c {ms : List Md} [ft : FtX ms] {B : List Res} : CtR Tryz.prog 123 [lv rM ms, lv rI (fromL ms ms.length), iv (offN ms ms.length)] B (MsOk ms) RwT (fun s => .ag [ov s.1, ov s.2.1, ov s.2.2.1, ov s.2.2.2.1]) (fun s => rA rF 31 s.1 (List.replicate (offN ms ms.length) fr0) :: rA rW 22 s.2.1 s.2.2.2.2.1 :: rZ rF 31 s.2.2.2.2.1 ((bsM (offN ms ms.length) ms ms.length).map (·.map frK)) :: rA rF 31 s.2.2.1 (List.replicate (offN ms ms.length) fr0) :: rA rW 22 s.2.2.2.1 s.2.2.2.2.2 :: rZ rF 31 s.2.2.2.2.2 ((bsY ms ms.length).map (·.map frK)) :: B) := by
  refine (ctR Tryz.call123 Tryz.func123 Tryz.ntmps123 rfl Tryz.results123 rfl [20] fun h0 w0 hok => ?_)
  have hpn := hok.n
  have hpo := hok.off
  have hfl := fromL_len ms ms.length
  have hM := bsM_len (offN ms ms.length) ms ms.length
  have hfa : ∀ x, x < ms.length → (fromL ms ms.length).getD x 0 = ((offN ms x : Nat) : Int) := fun x hx => fromL_at hx
  have hoL : ∀ x, x < ms.length → offN ms x + sz4 ms x ≤ offN ms ms.length := fun x hx => offN_lt hx
  generalize hF : fromL ms ms.length = F at *
  generalize hN : offN ms ms.length = n at *
  have hrl : ∀ x : Fr, (List.replicate n x).length = n := by simp
  have hrl2 : ∀ x : List Fr, (List.replicate n x).length = n := by simp
  repeat first | refine nx ?_ | intro _
  refine gDb (fun ν => .ag [ov (ν 17).v, ov (ν 20).v, ov (ν 22).v, .cv (.slice none 0 0)]) [17, 20, 22] ?_
  repeat first | refine nx ?_ | intro _
  rename_i v6 ν
  refine gZl (ν 20).l fun h20 => ?_
  rw [hrl2] at h20
  refine gNm rF 22 31 ?_
  generalize hM0 : List.replicate n (List.replicate n fr0) = M0
  refine gLp (fun s : Nat × List (List Fr) × Value × List Value => [(26, iv s.1)]) (fun s => [rZ rF 31 (ν 20).l s.2.1, rV (ν 7).v [ov (ν 17).v, ov (ν 20).v, ov (ν 22).v, ov s.2.2.1] 25, rA rW 22 s.2.2.1 s.2.2.2, rZ rF 31 s.2.2.2 ((bsY ms s.1).map (·.map frK))]) (fun s => s.1 ≤ ms.length ∧ RW n (offN ms s.1) (fun r => ((bsM n ms ms.length).getD r []).map frK) (List.replicate n fr0) s.2.1) (fun s => ms.length - s.1) (0, M0, vnil, []) ⟨by dsimp only; omega, by rw [← hM0]; exact .start⟩ (fun ⟨x, lm, sv, vy⟩ ⟨hx, hm⟩ => ?_)
  dsimp only at hx hm ⊢
  repeat first | refine nx ?_ | intro _
  refine gIf (fun c => ?_) fun c => ?_
  · have hs40 := hok.s x
    have hol := hoL x c
    have hfx := hfa x c
    have hmb := hok.mb x
    unfold sz4 at hs40 hol
    repeat first | refine nx ?_ | intro _
    rename_i v9
    refine gLp (fun s : Nat × List (List Fr) × Value × List Value => [(34, iv s.1)]) (fun s => [rZ rF 31 (ν 20).l s.2.1, rV (ν 7).v [ov (ν 17).v, ov (ν 20).v, ov (ν 22).v, ov s.2.2.1] 25, rA rW 22 s.2.2.1 s.2.2.2, rZ rF 31 s.2.2.2 ((bsY ms x ++ sayI ms x s.1).map (·.map frK))]) (fun s => s.1 ≤ (ms.getD x md0).start.length ∧ RW n (offN ms x + s.1) (fun r => ((bsM n ms ms.length).getD r []).map frK) (List.replicate n fr0) s.2.1) (fun s => (ms.getD x md0).start.length - s.1) (0, lm, sv, vy) ⟨by dsimp only; omega, hm⟩ (fun ⟨i, lm, sv, vy⟩ ⟨hi, hm⟩ => ?_) (h2 := by dsimp only; rw [show bsY ms x ++ sayI ms x 0 = bsY ms x by unfold sayI; simp]; (repeat' (first | refine And.intro ?_ ?_ | trivial | rfl | omega)))
    dsimp only at hi hm ⊢
    refine gZl vy fun hvy => ?_
    rw [List.length_map, List.length_append, bsY_len, sayI_len] at hvy
    repeat first | refine nx ?_ | intro _
    refine gIf (fun c2 => ?_) fun c2 => ?_
    · have hmv := hok.mv x i c c2
      have hsy := hok.say x i c c2
      unfold sz4 at hmv
      repeat first | refine nx ?_ | intro _
      have hp : offN ms x + i < n := by omega
      have hz := hm.z _ (Nat.le_refl _) hp
      have hml := hm.l
      have hl0 : ∀ j, (rowP n ms x i j).length = n := fun j => rowP_len ..
      refine gLp (fun j : Nat => [(43, iv j)]) (fun j => [rZ rF 31 (ν 20).l (lm.set (offN ms x + i) ((rowP n ms x i j).map frK))]) (fun j => j ≤ (ms.getD x md0).start.length) (fun j => (ms.getD x md0).start.length - j) 0 (Nat.zero_le _) (fun j hj => ?_) (h2 := ⟨by rw [← rowP_zero, List.map_replicate, frK_zero, ← hz]; exact set_getD.symm, trivial⟩)
      have hr1 : (lm.set (offN ms x + i) ((rowP n ms x i j).map frK)).getD (offN ms x + i) [] = (rowP n ms x i j).map frK := by rw [getD_set _ _ _ (by omega), if_pos rfl]
      have hr2 : ((lm.set (offN ms x + i) ((rowP n ms x i j).map frK)).getD (offN ms x + i) []).length = n := by rw [hr1, List.length_map]; exact hl0 j
      repeat first | refine nx ?_ | intro _
      refine gIf (fun c3 => ?_) fun c3 => ?_
      · have hwm := hmb.mvb i j
        have ht : (F.getD x 0).toNat = offN ms x := by rw [hfx]; rfl
        have hr3 := hr2
        rw [← ht] at hr3
        have hr3' : ((lm.set (offN ms x + i) ((rowP n ms x i j).map frK)).getD ((F.getD x 0).toNat + i) []).length = n := by rw [ht]; exact hr2
        repeat first | refine nx ?_ | intro _
        rw [ht, hr1, List.set_set, ← List.map_set, show (((ms.getD x md0).move.getD i []).getD j fr0).rat = mvQ ms x i j from rfl, rowP_set (by omega)]
        exact gBk (j + 1) (by omega) (by omega)
      · repeat first | refine nx ?_ | intro _
        have ej : j = sz4 ms x := by unfold sz4; omega
        have hm2 := hm.next hp (x := (rowP n ms x i j).map frK) (by rw [bsM_at (by unfold sz4; exact c2) c, ej])
        generalize lm.set (offN ms x + i) ((rowP n ms x i j).map frK) = lm2 at hm2 ⊢
        refine gNl rF 31 ?_
        refine gLp (fun s : Nat × Value => [(74, iv s.1), (13, ov s.2)]) (fun s => [rA rF 31 s.2 ((sayC (ms.getD x md0) i s.1).map frK)]) (fun s => s.1 ≤ ((ms.getD x md0).say.getD i []).length) (fun s => ((ms.getD x md0).say.getD i []).length - s.1) (0, .slice none 0 0) (Nat.zero_le _) (fun ⟨j, v⟩ hj => ?_)
        dsimp only at hj ⊢
        have hcl : ((sayC (ms.getD x md0) i j).map frK).length = j := by rw [List.length_map, sayC_len]
        repeat first | refine nx ?_ | intro _
        refine gIf (fun c4 => ?_) fun c4 => ?_
        · have hws := hmb.syb i j
          repeat first | refine nx ?_ | intro _
          rename_i vw v2
          rw [show (sayC (ms.getD x md0) i j).map frK ++ [frK (((ms.getD x md0).say.getD i []).getD j fr0).rat] = (sayC (ms.getD x md0) i (j + 1)).map frK by rw [sayC_succ, List.map_append]; rfl]
          exact gBk (j + 1, v2) (by dsimp only; omega) (by dsimp only; omega)
        · repeat first | refine nx ?_ | intro _
          rename_i sv2
          have ej2 : j = ((ms.getD x md0).say.getD i []).length := by omega
          exact gBk (i + 1, lm2, sv2, vy ++ [v]) ⟨by dsimp only; omega, by dsimp only; rw [← Nat.add_assoc]; exact hm2⟩ (by dsimp only; omega) (h2 := by dsimp only; rw [sayI_succ, ← List.append_assoc, ej2]; simp only [List.map_append, List.map_cons, List.map_nil, true_and, and_true]; (repeat' (first | refine And.intro ?_ ?_ | trivial | rfl | omega)))
    · repeat first | refine nx ?_ | intro _
      have ei : i = sz4 ms x := by unfold sz4; omega
      exact gBk (x + 1, lm, sv, vy) ⟨by dsimp only; omega, by rw [ei] at hm; exact hm⟩ (by dsimp only; omega) (h2 := by dsimp only; rw [ei]; (repeat' (first | refine And.intro ?_ ?_ | trivial | rfl | omega)))
  · repeat first | refine nx ?_ | intro _
    have ex : x = ms.length := by omega
    subst ex
    rw [hN] at hm
    rw [hm.all (Nat.le_refl _), range_map hM]
    exact gEr (σ := RwT) ((ν 17).v, (ν 20).v, (ν 22).v, sv, (ν 20).l, vy)
end Go.E3
set_option linter.unusedVariables false
set_option maxRecDepth 20000
set_option maxHeartbeats 4000000
set_option synthInstance.maxSize 1000
namespace Go.E3
open Go Go.Ear Go.Proofs
instance Mix_c {ws : List Fr} {ms : List Md} {S T : SV} [j : VL S ws] [i : VX T ms] : Ct Tryz.prog 55 [S, T] (ms.length ≤ 1000 ∧ (∀ m ∈ ms, MdB 10000000 m) ∧ wts ws ≤ 10000000 ∧ ws.length ≤ 1048576) (.tp [mv (mixR ws ms), iv (mixE ws ms)]) := by
  haveI := i.t
  haveI := j.t
  refine ct2 j.v i.v (ctI Tryz.call55 Tryz.func55 Tryz.ntmps55 rfl Tryz.results55 rfl [] fun h0 w0 ⟨h1, h2, h3, h4⟩ => ?_)
  repeat first | refine nx ?_ | intro _
  refine gIf (fun c => ?_) fun c => ?_
  · repeat first | refine nx ?_ | intro _
    have he := mix_err (ws := ws) c
    have hn := mixR_none (ws := ws) (ms := ms) (by rw [he]; exact c)
    rw [hn, he]; exact ⟨⟨rfl, rfl, rfl, rfl⟩, rfl⟩
  have hE : beginE ms = 0 := Classical.not_not.1 c
  have hS := begin_some hE
  have hok := checkE_MsOk (begin_chk hE) h1 h2
  rw [← hS.1, ← hS.2]
  repeat first | refine nx ?_ | intro _
  refine gIf (fun c2 => ?_) fun c2 => ?_
  · repeat first | refine nx ?_ | intro _
    have he := mix_arg hE c2
    have hn := mixR_none (ws := ws) (ms := ms) (by rw [he]; decide)
    rw [hn, he]; exact ⟨⟨rfl, rfl, rfl, rfl⟩, rfl⟩
  have hwl : ws.length = ms.length := Classical.byContradiction fun e => c2 (.inl e)
  have hwd : distF ws = true := Classical.byContradiction fun e => c2 (.inr e)
  repeat first | refine nx ?_ | intro _
  refine gIf (fun c3 => ?_) fun c3 => ?_
  · repeat first | refine nx ?_ | intro _
    have he := mix_long hE hwl hwd (by omega)
    have hn := mixR_none (ws := ws) (ms := ms) (by rw [he]; decide)
    rw [hn, he]; exact ⟨⟨rfl, rfl, rfl, rfl⟩, rfl⟩
  have hS1 := mixS_len ws ms ms.length
  have hS2 := bsE_len ms ms.length
  have hoL : ∀ x, x < ms.length → offN ms x + sz4 ms x ≤ offN ms ms.length := fun x hx => offN_lt hx
  have he := mix_ok hE hwl hwd (by omega)
  have hfl := fromL_len ms ms.length
  have hfa : ∀ x, x < ms.length → (fromL ms ms.length).getD x 0 = ((offN ms x : Nat) : Int) := fun x hx => fromL_at hx
  repeat first | refine nx ?_ | intro _
  rename_i v4 s v9
  obtain ⟨s1, s2, s3, s4, vm, vy⟩ := s
  dsimp only
  generalize hF : fromL ms ms.length = F at *
  generalize hN : offN ms ms.length = n at *
  refine gLp (fun x : Nat => [(44, iv x)]) (fun x => [rA rF 31 s1 (Go.Ear.rowAt ((mixS ws ms ms.length).map frK) fr0 n (offN ms x)), rA rF 31 s3 (Go.Ear.rowAt ((bsE ms ms.length).map frK) fr0 n (offN ms x))]) (fun x => x ≤ ms.length) (fun x => ms.length - x) 0 (Nat.zero_le _) (fun x hx => ?_) (h2 := by rw [show offN ms 0 = 0 from rfl, Go.Ear.rowAt_zero, Go.Ear.rowAt_zero]; (repeat' (first | refine And.intro ?_ ?_ | trivial | rfl | omega)))
  repeat first | refine nx ?_ | intro _
  refine gIf (fun c4 => ?_) fun c4 => ?_
  · have hs40 := hok.s x
    have hol := hoL x c4
    have hfx := hfa x c4
    have hmb := hok.mb x
    unfold sz4 at hs40 hol
    have hfn := hok.fin x c4
    unfold sz4 at hfn
    repeat first | refine nx ?_ | intro _
    refine gLp (fun i : Nat => [(52, iv i)]) (fun i => [rA rF 31 s1 (Go.Ear.rowAt ((mixS ws ms ms.length).map frK) fr0 n (offN ms x + i)), rA rF 31 s3 (Go.Ear.rowAt ((bsE ms ms.length).map frK) fr0 n (offN ms x + i))]) (fun i => i ≤ (ms.getD x md0).start.length) (fun i => (ms.getD x md0).start.length - i) 0 (Nat.zero_le _) (fun i hi => ?_)
    have hl1 : (Go.Ear.rowAt ((mixS ws ms ms.length).map frK) fr0 n (offN ms x + i)).length = n := Go.Ear.rowAt_len (by rw [List.length_map, hS1]) (by omega)
    have hl2 : (Go.Ear.rowAt ((bsE ms ms.length).map frK) fr0 n (offN ms x + i)).length = n := Go.Ear.rowAt_len (by rw [List.length_map, hS2]) (by omega)
    repeat first | refine nx ?_ | intro _
    refine gIf (fun c5 => ?_) fun c5 => ?_
    · have hw1 := hmb.sb i
      have hw2 := hmb.fb i
      have hw3 := wts_bf h3 x
      have ht : (F.getD x 0).toNat = offN ms x := by rw [hfx]; rfl
      repeat first | refine nx ?_ | intro _
      rw [ht, Go.Ear.rowAt_set (by rw [List.length_map, hS1]) (by omega) (by rw [getD_K, mixS_at (by unfold sz4; exact c5) c4]), Go.Ear.rowAt_set (by rw [List.length_map, hS2]) (by omega) (by rw [getD_K, bsE_at (by unfold sz4; exact c5) c4])]
      exact gBk (i + 1) (by omega) (by omega)
    · repeat first | refine nx ?_ | intro _
      have ei : offN ms x + i = offN ms (x + 1) := by show _ = offN ms x + sz4 ms x; unfold sz4; omega
      rw [ei]
      exact gBk (x + 1) (by omega) (by omega)
  · repeat first | refine nx ?_ | intro _
    have ex : x = ms.length := by omega
    subst ex
    rw [hN, Go.Ear.rowAt_end (by rw [List.length_map, hS1]) (Nat.le_refl _), Go.Ear.rowAt_end (by rw [List.length_map, hS2]) (Nat.le_refl _), he]
    unfold mixR
    rw [if_pos he]
    unfold mixMd
    rw [← hS.2]
    exact ⟨⟨rfl, rfl, rfl, rfl⟩, rfl⟩
end Go.E3
