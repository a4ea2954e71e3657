/- H17: a part of the proofs about package model: how the program's functions run, and what they compute, for every input. -/
import Derived.Test.YtpmndikbfalfoaaGreatH16
import Derived.Test.YtpmndikbfalfoaaGreatEarT15
set_option linter.all false
set_option linter.unusedVariables false
set_option maxRecDepth 20000
set_option maxHeartbeats 16000000
set_option synthInstance.maxSize 1000
namespace Go.E3
open Go Go.Ear Go.Proofs
section
variable {t : Tr} {F G : Nat → List Rat}
theorem rbw_congr (h : ∀ k, k < t.o.length → F k = G k) : ∀ k, k < t.o.length → rbw t F k = rbw t G k
  | 0, _ => rfl
  | k + 1, hk => by
    rw [rbw, rbw, rbw_congr h k (by omega), h (t.o.length - 1 - k) (by omega)]
theorem rTot_congr (h : ∀ k, k < t.o.length → F k = G k) : rTot t F = rTot t G := by
  unfold rTot
  by_cases e : t.o.length = 0
  · rw [if_pos e, if_pos e]
  · rw [if_neg e, if_neg e, h _ (by omega)]
theorem rY_congr (h : ∀ k, k < t.o.length → F k = G k) {i k : Nat} (hk : k < t.o.length) : rY t F i k = rY t G i k := by
  unfold rY; rw [h k hk, rbw_congr h _ (by omega), rTot_congr h]
theorem rM_congr (h : ∀ k, k < t.o.length → F k = G k) {i k j : Nat} (hk : k + 1 < t.o.length) : Go.Ear.rM t F i k j = Go.Ear.rM t G i k j := by
  unfold Go.Ear.rM rWm; rw [h k (by omega), h (k + 1) hk, rbw_congr h _ (by omega), rTot_congr h]
theorem rSay_congr (h : ∀ k, k < t.o.length → F k = G k) {i : Nat} {a : List Rat} : ∀ k, k ≤ t.o.length → rSay t F i a k = rSay t G i a k
  | 0, _ => rfl
  | k + 1, hk => by rw [rSay, rSay, rSay_congr h k (by omega), rY_congr h (by omega)]
theorem rMov_congr (h : ∀ k, k < t.o.length → F k = G k) {i : Nat} {a : List Rat} : ∀ k, k < t.o.length → rMov t F i a k = rMov t G i a k
  | 0, _ => rfl
  | k + 1, hk => by
    rw [rMov, rMov, rMov_congr h k (by omega)]
    exact List.map_congr_left fun j _ => by rw [rM_congr h (by omega)]
theorem addCt_congr (h : ∀ k, k < t.o.length → F k = G k) (hn : 0 < t.o.length) (c : Go.Ear.Ct) : addCt t F c = addCt t G c := by
  unfold addCt
  rw [Go.Ear.Ct.mk.injEq]
  refine ⟨List.map_congr_left fun i _ => by rw [rY_congr h hn], List.map_congr_left fun i _ => rMov_congr h _ (by omega), List.map_congr_left fun i _ => by rw [rY_congr h (by omega)], List.map_congr_left fun i _ => rSay_congr h _ (Nat.le_refl _), rfl, rfl, rfl⟩
end
theorem fT_fwd {m : Md} {o : List Int} {k : Nat} (h : k < o.length) : fT m o (m.start.length : Int) k = fwd ⟨m, o⟩ k := by
  unfold fT; rw [show rfwN ⟨m, o⟩ (m.start.length : Int) o.length = fwdAll ⟨m, o⟩ from rfwN_fwd (t := ⟨m, o⟩) (Int.le_refl _)]; exact fwdAll_at h
theorem rTot_lk {m : Md} {o : List Int} : rTot ⟨m, o⟩ (fT m o (m.start.length : Int)) = lk ⟨m, o⟩ := (rTot_congr fun k hk => fT_fwd hk).trans (rTot_fwd _)
section
variable {m : Md} {o : List Int} {keep u n : Int} {C : Go.Ear.Ct}
instance radd_c [ft : FtM m] {c a mv' e y : Value} {vm vy : List Value} {B B0 B1 B2 B3 B4 B5 B6 : List Res} [pv : PV B c [ov a, ov mv', ov e, ov y, iv u, iv n] 48 B0] [p1 : PA B0 a Fr rF 31 (C.start.map frK) B1] [p2 : PA B1 mv' Value rW 22 vm B2] [p3 : PZ B2 vm Fr rF 31 (C.move.map (·.map frK)) B3] [p4 : PA B3 e Fr rF 31 (C.fin.map frK) B4] [p5 : PA B4 y Value rW 22 vy B5] [p6 : PZ B5 vy Fr rF 31 (C.say.map (·.map frK)) B6] :
    CtR Tryz.prog 97 [ov c, mv m, lv rI o, iv keep] B (TOk ⟨m, o⟩ ∧ MdB 100000 m ∧ MdW 5000 m ∧ RfB ⟨m, o⟩ keep ∧ AdB ⟨m, o⟩ (fT m o keep) C) Unit (fun _ => kk (rTot ⟨m, o⟩ (fT m o keep))) (fun _ => rV c [ov a, ov mv', ov e, ov y, iv u, iv n] 48 :: cnR (a, mv', e, y, vm, vy) ((if rTot ⟨m, o⟩ (fT m o keep) = 0 then C else addCt ⟨m, o⟩ (fT m o keep) C).start.map frK) ((if rTot ⟨m, o⟩ (fT m o keep) = 0 then C else addCt ⟨m, o⟩ (fT m o keep) C).move.map (·.map frK)) ((if rTot ⟨m, o⟩ (fT m o keep) = 0 then C else addCt ⟨m, o⟩ (fT m o keep) C).fin.map frK) ((if rTot ⟨m, o⟩ (fT m o keep) = 0 then C else addCt ⟨m, o⟩ (fT m o keep) C).say.map (·.map frK)) B6) :=
  (radd_b (z := (a, mv', e, y, vm, vy))).to (pv.h.trans ((p1.h.cons _).trans (((p2.h.cons _).cons _).trans ((((p3.h.cons _).cons _).cons _).trans (((((p4.h.cons _).cons _).cons _).cons _).trans ((((((p5.h.cons _).cons _).cons _).cons _).cons _).trans (((((((p6.h.cons _).cons _).cons _).cons _).cons _).cons _))))))))
theorem Fp.of {B B1 C1 : List Res} (h : Sb B B1) (e : ∀ r ∈ C1, ∃ r' ∈ B1, ∀ i, r.fp i → r'.fp i) : ∀ r ∈ C1, ∀ i, r.fp i → ∃ r ∈ B, r.fp i := fun r hr i hi => by
  obtain ⟨r', hr', hf⟩ := e r hr
  exact h.fp r' hr' i (hf i hi)
instance {c a mv' e y : Value} {vm vy : List Value} {u n u' n' : Int} {S E S' E' : List Fr} {M Y M' Y' : List (List Fr)} {B B0 B1 B2 B3 B4 B5 B6 : List Res} [pv : PV B c [ov a, ov mv', ov e, ov y, iv u, iv n] 48 B0] [p1 : PA B0 a Fr rF 31 S B1] [p2 : PA B1 mv' Value rW 22 vm B2] [p3 : PZ B2 vm Fr rF 31 M B3] [p4 : PA B3 e Fr rF 31 E B4] [p5 : PA B4 y Value rW 22 vy B5] [p6 : PZ B5 vy Fr rF 31 Y B6] : FpS (rV c [ov a, ov mv', ov e, ov y, iv u', iv n'] 48 :: cnR (a, mv', e, y, vm, vy) S' M' E' Y' B6) B := ⟨by
  refine Fp.of (pv.h.trans ((p1.h.cons _).trans (((p2.h.cons _).cons _).trans ((((p3.h.cons _).cons _).cons _).trans (((((p4.h.cons _).cons _).cons _).cons _).trans ((((((p5.h.cons _).cons _).cons _).cons _).cons _).trans (((((((p6.h.cons _).cons _).cons _).cons _).cons _).cons _)))))))) fun r hr => ?_
  simp only [cnR, List.mem_cons] at hr
  rcases hr with rfl | rfl | rfl | rfl | rfl | rfl | rfl | hr
  · exact ⟨_, List.mem_cons_self .., fun i h => h⟩
  · exact ⟨_, List.mem_cons_of_mem _ (List.mem_cons_self ..), fun i h => h⟩
  · exact ⟨_, List.mem_cons_of_mem _ (List.mem_cons_of_mem _ (List.mem_cons_self ..)), fun i h => h⟩
  · exact ⟨_, List.mem_cons_of_mem _ (List.mem_cons_of_mem _ (List.mem_cons_of_mem _ (List.mem_cons_self ..))), fun i h => h⟩
  · exact ⟨_, List.mem_cons_of_mem _ (List.mem_cons_of_mem _ (List.mem_cons_of_mem _ (List.mem_cons_of_mem _ (List.mem_cons_self ..)))), fun i h => h⟩
  · exact ⟨_, List.mem_cons_of_mem _ (List.mem_cons_of_mem _ (List.mem_cons_of_mem _ (List.mem_cons_of_mem _ (List.mem_cons_of_mem _ (List.mem_cons_self ..))))), fun i h => h⟩
  · exact ⟨_, List.mem_cons_of_mem _ (List.mem_cons_of_mem _ (List.mem_cons_of_mem _ (List.mem_cons_of_mem _ (List.mem_cons_of_mem _ (List.mem_cons_of_mem _ (List.mem_cons_self ..)))))), fun i h => h⟩
  · exact ⟨r, List.mem_cons_of_mem _ (List.mem_cons_of_mem _ (List.mem_cons_of_mem _ (List.mem_cons_of_mem _ (List.mem_cons_of_mem _ (List.mem_cons_of_mem _ (List.mem_cons_of_mem _ hr)))))), fun i h => h⟩⟩
end
def agL : Value → List Value
  | .agg a => a.toList
  | _ => []
@[reducible] def cnZ (l : List Value) : CnT := (l.getD 0 vnil, l.getD 1 vnil, l.getD 2 vnil, l.getD 3 vnil, agL (l.getD 4 vnil), agL (l.getD 5 vnil))
instance rEmpty_n {s k : Nat} : CtN Tryz.prog 96 [iv (s : Int), iv (k : Int)] (s ≤ 1048576 ∧ k ≤ 1048576) (fun g => .ag [ov (cnZ g.l).1, ov (cnZ g.l).2.1, ov (cnZ g.l).2.2.1, ov (cnZ g.l).2.2.2.1, iv 0, iv 0]) (fun g => cnR (cnZ g.l) (List.replicate s fr0) (List.replicate s (List.replicate s fr0)) (List.replicate s fr0) (List.replicate s (List.replicate k fr0)) []) :=
  CtN.of (rEmpty_c (B := [])) (fun z => [z.1, z.2.1, z.2.2.1, z.2.2.2.1, .agg z.2.2.2.2.1.toArray, .agg z.2.2.2.2.2.toArray]) (fun _ _ => rfl) (fun _ _ => rfl)
structure RDk (m : Md) (data : List (List Int)) : Prop where
  n : data.length ≤ 1048576
  s : m.start.length ≤ 40
  y : symb m ≤ 1048576
  sl : m.say.length ≤ 1048576
  b : MdB 100000 m
  w : MdW 5000 m
  nn : Nn m
  tok : ∀ k, k < data.length → TOk (Go.Ear.trK m data k)
  rf : ∀ k, k < data.length → RfB (Go.Ear.trK m data k) (m.start.length : Int)
  ad : ∀ k, k < data.length → AdB (Go.Ear.trK m data k) (fT m (data.getD k []) (m.start.length : Int)) (allT m data k)
theorem allT_end {m : Md} {data : List (List Int)} {k : Nat} (nn : Nn m) (ok : TOk (Go.Ear.trK m data k)) (h : ¬ rTot ⟨m, data.getD k []⟩ (fT m (data.getD k []) (m.start.length : Int)) = 0) :
    (addCt ⟨m, data.getD k []⟩ (fT m (data.getD k []) (m.start.length : Int)) (allT m data k)).start = (allT m data (k + 1)).start ∧ (addCt ⟨m, data.getD k []⟩ (fT m (data.getD k []) (m.start.length : Int)) (allT m data k)).move = (allT m data (k + 1)).move ∧
    (addCt ⟨m, data.getD k []⟩ (fT m (data.getD k []) (m.start.length : Int)) (allT m data k)).fin = (allT m data (k + 1)).fin ∧ (addCt ⟨m, data.getD k []⟩ (fT m (data.getD k []) (m.start.length : Int)) (allT m data k)).say = (allT m data (k + 1)).say := by
  rw [rTot_lk] at h
  have hp := lk_pos h
  rw [addCt_congr (t := ⟨m, data.getD k []⟩) (G := fwd ⟨m, data.getD k []⟩) (fun j hj => fT_fwd hj) hp]
  exact addCt_all nn ok h
section
variable {m : Md} {data : List (List Int)} {S T : SV}
instance rCount_c [i : VM S m] [j : Vw (lv (rL rI)) T data] : Ct Tryz.prog 32 [S, T] (RDk m data) (ctv (cntD m data)) := by
  haveI := i.t
  refine ct2 i.v j (ctI Tryz.call32 Tryz.func32 Tryz.ntmps32 rfl Tryz.results32 rfl [12] fun h0 w0 rd => ?_)
  have hn := rd.n
  have hs := rd.s
  have hy := rd.y
  have hsl := rd.sl
  repeat first | refine gDz 8 7 (by rfl) (by kernel_rfl) ?_ | refine nx ?_ | intro _
  rename_i v4 ν
  have cn : ∃ z : CnT, z = cnZ (ν 12).l := ⟨_, rfl⟩
  obtain ⟨⟨a, mm, e, y, vm, vy⟩, hz⟩ := cn
  rw [← hz]
  dsimp only
  generalize (ν 5).v = c
  refine gLp (fun k : Nat => [(6, iv k)]) (fun k => [rV c [ov a, ov mm, ov e, ov y, iv (allT m data k).used, iv (allT m data k).unused] 48, rA rF 31 a ((allT m data k).start.map frK), rA rW 22 mm vm, rZ rF 31 vm ((allT m data k).move.map (·.map frK)), rA rF 31 e ((allT m data k).fin.map frK), rA rW 22 y vy, rZ rF 31 vy ((allT m data k).say.map (·.map frK))]) (fun k => k ≤ data.length ∧ 0 ≤ (allT m data k).used ∧ (allT m data k).used ≤ k ∧ 0 ≤ (allT m data k).unused ∧ (allT m data k).unused ≤ k) (fun k => data.length - k) 0 ⟨Nat.zero_le _, Int.le_refl _, Int.le_refl _, Int.le_refl _, Int.le_refl _⟩ (fun k ⟨hk, hu1, hu2, hu3, hu4⟩ => ?_) (h2 := by
    rw [rep_KR, rep_KR, rep_K]; (repeat' (first | refine And.intro ?_ ?_ | trivial | rfl | omega)))
  repeat first | refine nx ?_ | intro _
  refine gIf (fun ck => ?_) fun ck => ?_
  · have tk := rd.tok k ck
    have hrf := rd.rf k ck
    have had := rd.ad k ck
    unfold Go.Ear.trK at tk hrf had
    have hw := rd.w
    have hb := rd.b
    have htq := had.tot
    repeat first | refine gDz 11 9 (by rfl) (by kernel_rfl) ?_ | refine nx ?_ | intro _
    by_cases hz : rTot ⟨m, data.getD k []⟩ (fT m (data.getD k []) (m.start.length : Int)) = 0
    · have hlk : lk (Go.Ear.trK m data k) = 0 := by rw [← hz]; exact rTot_lk.symm
      rw [if_pos hz]
      refine gIf (fun c0 => ?_) fun c0 => ?_
      · repeat first | refine nx ?_ | intro _
        refine gBk (k + 1) ?_ (by omega) (h2 := ?_)
        · rw [allT_t hlk]; dsimp only; omega
        · rw [allT_t hlk]; (repeat' (first | refine And.intro ?_ ?_ | trivial | rfl | omega))
      · exact absurd (sgQ_zero.2 hz) c0
    · have hlk : ¬ lk (Go.Ear.trK m data k) = 0 := fun e => hz (rTot_lk.trans e)
      have he := allT_end rd.nn (rd.tok k ck) hz
      rw [if_neg hz, he.1, he.2.1, he.2.2.1, he.2.2.2]
      refine gIf (fun c0 => ?_) fun c0 => ?_
      · exact absurd (sgQ_zero.1 c0) hz
      · repeat first | refine nx ?_ | intro _
        refine gBk (k + 1) ?_ (by omega) (h2 := ?_)
        · rw [allT_f hlk]; dsimp only; omega
        · rw [allT_f hlk]; (repeat' (first | refine And.intro ?_ ?_ | trivial | rfl | omega))
  · have ek : k = data.length := by omega
    subst ek
    refine gFz a ?_
    refine gFz e ?_
    refine gFzM mm ?_
    refine gFzM y ?_
    repeat first | refine nx ?_ | intro _
    exact ⟨rfl, rfl, rfl, rfl, rfl, rfl⟩
end
end Go.E3
