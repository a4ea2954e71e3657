/- K44: a part of the proof about training through the decoder: how the program's functions run, and what they compute, for every input. -/
import Derived.Test.YtdciabokggfpbaaGreatK43
import Derived.Test.YtdciabokggfpbaaGreatK40
set_option linter.all false
set_option maxRecDepth 20000
set_option maxHeartbeats 8000000
set_option synthInstance.maxSize 1000
namespace Go.E3
open Go Go.Ear Go.Proofs
noncomputable def tyQ (M : Cn) (p : Rat) (i : Nat) : Rat := ((cnt M i : Rat) + ((M.length : Int) : Rat) * p) / ((smM M + M.length : Int) : Rat)
noncomputable def tyR (ls : List Lv) (w : Nat) : Nat -> List Int -> List Fr
 | 0,_ => flatQ w
 | n + 1,h => if smM (mAt ls (n + 1) h) = 0 then tyR ls w n (h.drop 1) else (List.range w).map fun i => frK (tyQ (mAt ls (n + 1) h) ((tyR ls w n (h.drop 1)).getD i fr0).rat i)
def SeA (ls : List Lv) : Nat -> List Int -> Prop
 | 0,_ => True
 | n + 1,h => SeS ls (n + 1) h /\ SeA ls n (h.drop 1)
theorem tyR_len (ls : List Lv) (w : Nat) : ∀ n h,(tyR ls w n h).length = w
 | 0,h => by unfold tyR flatQ; rw [List.length_replicate]
 | n + 1,h => by
   unfold tyR
   split
   · exact tyR_len ls w n _
   · rw [List.length_map,List.length_range]
def Can (b : Nat) (l : List Fr) : Prop := ∀ f ∈ l,f = frK f.rat /\ bq f.rat <= b
theorem flat_can {w : Nat} (hw : w <= 1000000) : Can 10 (flatQ w) := fun f hf => by
 have e : f = frK ((1 : Int) / ((w : Int) : Rat)) := (List.mem_replicate.1 hf).2
 have h1 : bq ((1 : Int) : Rat) <= 2 := bq_intc (by decide) (by decide)
 have h2 : bq ((w : Int) : Rat) <= 2 := bq_intc (by omega) (by omega)
 have h3 := bq_div ((1 : Int) : Rat) ((w : Int) : Rat)
 rw [e,frK_rat]
 exact ⟨rfl,by omega⟩
theorem Can.getD {b : Nat} {l : List Fr} (h : Can b l) (hb : 1 <= b) (i : Nat) : bq (l.getD i fr0).rat <= b /\ FtF (l.getD i fr0) /\ bf (l.getD i fr0) <= b := by
 by_cases c : i < l.length
 · obtain ⟨h1,h2⟩ := h _ (getD_in fr0 c)
   exact ⟨h2,by rw [h1]; infer_instance,by rw [h1,bf_frK]; exact h2⟩
 · rw [List.getD_eq_getElem?_getD,List.getElem?_eq_none (by omega)]
   have h0 : bf fr0 <= 1 := by decide
   refine ⟨?_,inferInstanceAs (FtF fr0),by show bf fr0 <= b; omega⟩
   show bq fr0.rat <= b
   rw [fr0_rat,bq_zero]; exact hb
theorem tyR_can {ls : List Lv} {w : Nat} (hw : w <= 1000000) : ∀ {n h},SeA ls n h -> Can (10 * (n + 1)) (tyR ls w n h)
 | 0,h,_ => flat_can hw
 | n + 1,h,⟨s1,s2⟩ => by
   have ih := tyR_can hw s2
   unfold tyR
   split
   · exact fun f hf => ⟨(ih f hf).1,by have := (ih f hf).2; omega⟩
   · intro f hf
     obtain ⟨i,hi,rfl⟩ := List.mem_map.1 hf
     have hc := cnt_b s1.2.2 i
     have hs := smM_s s1.2.2
     have hl := s1.2.2.1
     rw [frK_rat]
     refine ⟨rfl, ?_⟩
     unfold tyQ
     have h1 : bq ((cnt (mAt ls (n + 1) h) i : Int) : Rat) <= 2 := bq_intc (by omega) (by omega)
     have h2 : bq (((mAt ls (n + 1) h).length : Int) : Rat) <= 2 := bq_intc (by omega) (by omega)
     have h3 : bq ((smM (mAt ls (n + 1) h) + (mAt ls (n + 1) h).length : Int) : Rat) <= 2 := bq_intc (by omega) (by omega)
     have h4 := (ih.getD (by omega) i).1
     have h5 := bq_mul (((mAt ls (n + 1) h).length : Int) : Rat) ((tyR ls w n (h.drop 1)).getD i fr0).rat
     have h6 := bq_add ((cnt (mAt ls (n + 1) h) i : Int) : Rat) ((((mAt ls (n + 1) h).length : Int) : Rat) * ((tyR ls w n (h.drop 1)).getD i fr0).rat)
     have h7 := bq_div (((cnt (mAt ls (n + 1) h) i : Int) : Rat) + (((mAt ls (n + 1) h).length : Int) : Rat) * ((tyR ls w n (h.drop 1)).getD i fr0).rat) ((smM (mAt ls (n + 1) h) + (mAt ls (n + 1) h).length : Int) : Rat)
     omega
theorem Can.fts {b : Nat} {l : List Fr} (h : Can b l) : FtS l := ⟨fun f hf => by rw [(h f hf).1]; infer_instance⟩
theorem typed_t (ls : List Lv) (w : Nat) : ∀ (n : Nat) (hist : List Int),n <= 4 -> CtO Tryz.prog 201 [coV ls w,iv (n : Int),lv rI hist] (SeA ls n hist /\ w <= 1000000) (fun g => [rA rF 32 g.v (tyR ls w n hist)])
 | 0,hist,_ => by
   refine (ctO Tryz.call201 Tryz.func201 Tryz.ntmps201 rfl Tryz.results201 rfl [16,25] fun h0 w0 ⟨hse,hw⟩ => ?_)
   repeat first | refine nx ?_ | intro _
   refine gIf (fun c => ?_) fun c => absurd rfl c
   repeat first | refine nx ?_ | intro _
   unfold tyR
   first | done | rfl
 | n + 1,hist,hn4 => by
   have ih := fun h => typed_t ls w n h (by omega)
   refine (ctO Tryz.call201 Tryz.func201 Tryz.ntmps201 rfl Tryz.results201 rfl [16,25] fun h0 w0 ⟨⟨hse,hse2⟩,hw⟩ => ?_)
   repeat first | refine nx ?_ | intro _
   refine gIf (fun c => absurd c (by omega)) fun c => ?_
   haveI ih2 : CtO Tryz.prog 201 [coV ls w,iv (((n + 1 : Nat) : Int) - 1),lv rI (hist.drop (min 1 hist.length))] (SeA ls n (hist.drop (min 1 hist.length)) /\ w <= 1000000) (fun g => [rA rF 32 g.v (tyR ls w n (hist.drop (min 1 hist.length)))]) := by
    rw [show (((n + 1 : Nat) : Int) - 1) = (n : Int) by omega]; exact ih _
   have hd : hist.drop (min 1 hist.length) = hist.drop 1 := by
    cases hist with
    | nil => rfl
    | cons x l => rw [List.length_cons,Nat.min_eq_left (by omega)]
   have hse3 : SeA ls n (hist.drop (min 1 hist.length)) /\ w <= 1000000 := ⟨by rw [hd]; exact hse2,hw⟩
   have hpl : hist.length <= 4 := hse.1.1
   repeat first | refine gDs 10 9 (by rfl) (by kernel_rfl) ?_ | refine nx ?_ | intro _
   rw [hd]
   have htl := tyR_len ls w n (hist.drop 1)
   have hcan := tyR_can hw hse2
   refine gIf (fun c2 => ?_) fun c2 => ?_
   · repeat first | refine nx ?_ | intro _
     rw [tyR,if_pos c2]
   · have hR : tyR ls w (n + 1) hist = (List.range w).map fun i => frK (tyQ (mAt ls (n + 1) hist) ((tyR ls w n (hist.drop 1)).getD i fr0).rat i) := by rw [tyR,if_neg c2]
     have hRl := tyR_len ls w (n + 1) hist
     have hcn := cnt_b hse.2.2
     have hsm := smM_s hse.2.2
     have hml := hse.2.2.1
     have hq1 : bq (((mAt ls (n + 1) hist).length : Int) : Rat) <= 2 := bq_intc (by omega) (by omega)
     have hq2 : bq ((smM (mAt ls (n + 1) hist) + (mAt ls (n + 1) hist).length : Int) : Rat) <= 2 := bq_intc (by omega) (by omega)
     have hRg : ∀ k,k < w -> (tyR ls w (n + 1) hist).getD k fr0 = frK (tyQ (mAt ls (n + 1) hist) ((tyR ls w n (hist.drop 1)).getD k fr0).rat k) := fun k hk => by
      rw [hR,List.getD_eq_getElem?_getD,List.getElem?_map,List.getElem?_range hk]; rfl
     generalize tyR ls w (n + 1) hist = R at *
     generalize tyR ls w n (hist.drop 1) = O at *
     repeat first | refine nx ?_ | intro _
     rename_i v25
     refine gLp (fun k : Nat => [(39,iv k)]) (fun k => [rA rF 32 (v25 25).v (Go.Ear.upTo R O k)]) (fun k => k <= w) (fun k => w - k) 0 (Nat.zero_le _) (fun k hk => ?_) (h2 := by rw [Go.Ear.upTo_zero]; repeat' (first | trivial | rfl | refine And.intro ?_ ?_))
     have hul : (Go.Ear.upTo R O k).length = w := by rw [Go.Ear.upTo_len (by omega)]; exact htl
     repeat first | refine nx ?_ | intro _
     refine gIf (fun c3 => ?_) fun c3 => ?_
     · have hug : (Go.Ear.upTo R O k).getD k fr0 = O.getD k fr0 := Go.Ear.upTo_get (by omega) (by omega)
       obtain ⟨g1,g2,g3⟩ := hcan.getD (by omega) k
       haveI : FtF ((Go.Ear.upTo R O k).getD k fr0) := by rw [hug]; exact g2
       have hb : bf ((Go.Ear.upTo R O k).getD k fr0) <= 10 * (n + 1) := by rw [hug]; exact g3
       have hbq : bq ((Go.Ear.upTo R O k).getD k fr0).rat <= 10 * (n + 1) := by rw [hug]; exact g1
       have hck : 0 <= (mget (mAt ls (n + 1) hist) (k : Int)).getD 0 /\ (mget (mAt ls (n + 1) hist) (k : Int)).getD 0 <= 1000000000000 := hcn k
       have hik : I64z (k : Int) := ⟨by omega,by omega⟩
       have hqc : bq (((mget (mAt ls (n + 1) hist) (k : Int)).getD 0 : Int) : Rat) <= 2 := bq_intc (by omega) (by omega)
       have hq5 := bq_mul (((mAt ls (n + 1) hist).length : Int) : Rat) ((Go.Ear.upTo R O k).getD k fr0).rat
       have hq6 := bq_add (((mget (mAt ls (n + 1) hist) (k : Int)).getD 0 : Int) : Rat) ((((mAt ls (n + 1) hist).length : Int) : Rat) * ((Go.Ear.upTo R O k).getD k fr0).rat)
       have hset := Go.Ear.upTo_set (d := fr0) (q := frK (tyQ (mAt ls (n + 1) hist) ((Go.Ear.upTo R O k).getD k fr0).rat k)) (show R.length = O.length by omega) (show k < O.length by omega) (by rw [hRg k (by omega),hug])
       repeat first | refine gDs 20 18 (by rfl) (by kernel_rfl) ?_ | refine nx ?_ | intro _
       unfold tyQ cnt at hset
       rw [hset]
       exact gBk (k + 1) (by omega) (by omega)
     · rw [Go.Ear.upTo_end (by omega) (by omega)]
       repeat first | refine nx ?_ | intro _
       trivial
noncomputable def rsQ (M : Cn) (O : List Fr) : Nat -> Rat
 | 0 => 0
 | k + 1 => if cnt M k = 0 then rsQ M O k + (O.getD k fr0).rat else rsQ M O k
noncomputable def dsQ (M : Cn) (O : List Fr) (w : Nat) (am : Rat) (i : Nat) : Rat :=
 if 0 < cnt M i then ((cnt M i : Rat) - am) / ((smM M : Int) : Rat) else (am * ((M.length : Int) : Rat) / ((smM M : Int) : Rat)) * (O.getD i fr0).rat / rsQ M O w
noncomputable def dsR (ls : List Lv) (w : Nat) (am : Rat) : Nat -> List Int -> List Fr
 | 0,_ => flatQ w
 | n + 1,h => if (mAt ls (n + 1) h).length = w then (List.range w).map fun i => frK ((cnt (mAt ls (n + 1) h) i : Rat) / ((smM (mAt ls (n + 1) h) : Int) : Rat))
   else if smM (mAt ls (n + 1) h) = 0 then dsR ls w am n (h.drop 1) else (List.range w).map fun i => frK (dsQ (mAt ls (n + 1) h) (dsR ls w am n (h.drop 1)) w am i)
theorem dsR_len (ls : List Lv) (w : Nat) (am : Rat) : ∀ n h,(dsR ls w am n h).length = w
 | 0,h => by unfold dsR flatQ; rw [List.length_replicate]
 | n + 1,h => by
   unfold dsR
   split
   · rw [List.length_map,List.length_range]
   · split
     · exact dsR_len ls w am n _
     · rw [List.length_map,List.length_range]
def bD : Nat -> Nat
 | 0 => 10
 | n + 1 => 11 * bD n + 1020
theorem bD_ge : ∀ n,10 <= bD n
 | 0 => Nat.le_refl _
 | n + 1 => by have := bD_ge n; unfold bD; omega
theorem bD_le {n : Nat} (h : n <= 4) : bD n <= 2000000 := by
 match n with
 | 0 => decide
 | 1 => decide
 | 2 => decide
 | 3 => decide
 | 4 => decide
 | n + 5 => omega
theorem rsQ_b {M : Cn} {O : List Fr} {b : Nat} (h : Can b O) (hb : 1 <= b) : ∀ k,bq (rsQ M O k) <= k * (b + 1) + 1
 | 0 => by show bq 0 <= _; rw [bq_zero]; omega
 | k + 1 => by
   have ih := rsQ_b (M := M) h hb k
   have h1 := (h.getD hb k).1
   have h2 := bq_add (rsQ M O k) (O.getD k fr0).rat
   rw [Nat.add_mul]
   unfold rsQ
   split <;> omega
theorem dsQ_b {M : Cn} (hc : CnS M) {O : List Fr} {b w : Nat} (h : Can b O) (hb : 1 <= b) (hw : w <= 10) {am : Rat} (ha : bq am <= 1000) (i : Nat) : bq (dsQ M O w am i) <= 11 * b + 1020 := by
 have h1 := cnt_b hc i
 have h2 := smM_s hc
 have h3 := hc.1
 have q1 : bq ((cnt M i : Int) : Rat) <= 2 := bq_intc (by omega) (by omega)
 have q2 : bq ((smM M : Int) : Rat) <= 2 := bq_intc (by omega) (by omega)
 have q3 : bq ((M.length : Int) : Rat) <= 2 := bq_intc (by omega) (by omega)
 have q4 := rsQ_b (M := M) h hb w
 have q5 : w * (b + 1) <= 10 * (b + 1) := Nat.mul_le_mul_right _ hw
 have q6 := (h.getD hb i).1
 unfold dsQ
 split
 · have a1 := bq_sub ((cnt M i : Int) : Rat) am
   have a2 := bq_div (((cnt M i : Int) : Rat) - am) ((smM M : Int) : Rat)
   omega
 · have a1 := bq_mul am ((M.length : Int) : Rat)
   have a2 := bq_div (am * ((M.length : Int) : Rat)) ((smM M : Int) : Rat)
   have a3 := bq_mul (am * ((M.length : Int) : Rat) / ((smM M : Int) : Rat)) (O.getD i fr0).rat
   have a4 := bq_div ((am * ((M.length : Int) : Rat) / ((smM M : Int) : Rat)) * (O.getD i fr0).rat) (rsQ M O w)
   omega
theorem dsR_can {ls : List Lv} {w : Nat} (hw : w <= 10) {am : Rat} (ha : bq am <= 1000) : ∀ {n h},SeA ls n h -> Can (bD n) (dsR ls w am n h)
 | 0,h,_ => flat_can (by omega)
 | n + 1,h,⟨s1,s2⟩ => by
   have ih := dsR_can hw ha s2
   have hbd := bD_ge n
   unfold dsR
   split
   · intro f hf
     obtain ⟨i,hi,rfl⟩ := List.mem_map.1 hf
     have hc := cnt_b s1.2.2 i
     have hs := smM_s s1.2.2
     have q1 : bq ((cnt (mAt ls (n + 1) h) i : Int) : Rat) <= 2 := bq_intc (by omega) (by omega)
     have q2 : bq ((smM (mAt ls (n + 1) h) : Int) : Rat) <= 2 := bq_intc (by omega) (by omega)
     have a2 := bq_div ((cnt (mAt ls (n + 1) h) i : Int) : Rat) ((smM (mAt ls (n + 1) h) : Int) : Rat)
     rw [frK_rat]
     exact ⟨rfl,by unfold bD; omega⟩
   · split
     · exact fun f hf => ⟨(ih f hf).1,by have := (ih f hf).2; unfold bD; omega⟩
     · intro f hf
       obtain ⟨i,hi,rfl⟩ := List.mem_map.1 hf
       rw [frK_rat]
       exact ⟨rfl,dsQ_b s1.2.2 ih (by omega) hw ha i⟩
@[reducible] def dsV (ls : List Lv) (w : Nat) (am : Fr) : SV := .ag [lv rLv ls,iv (w : Int),bv am.neg,lv rU am.n,lv rU am.d]
theorem disc_t (ls : List Lv) (w : Nat) (am : Fr) [ft : FtF am] : ∀ (n : Nat) (hist : List Int),n <= 4 -> CtO Tryz.prog 199 [dsV ls w am,iv (n : Int),lv rI hist] (SeA ls n hist /\ w <= 10 /\ bf am <= 1000) (fun g => [rA rF 32 g.v (dsR ls w am.rat n hist)])
 | 0,hist,_ => by
   refine (ctO Tryz.call199 Tryz.func199 Tryz.ntmps199 rfl Tryz.results199 rfl [22,67] fun h0 w0 ⟨hse,hw,hb⟩ => ?_)
   repeat first | refine nx ?_ | intro _
   refine gIf (fun c => ?_) fun c => absurd rfl c
   repeat first | refine nx ?_ | intro _
   unfold dsR
   first | done | rfl
 | n + 1,hist,hn4 => by
   have ih := fun h => disc_t ls w am n h (by omega)
   refine (ctO Tryz.call199 Tryz.func199 Tryz.ntmps199 rfl Tryz.results199 rfl [22,67] fun h0 w0 ⟨⟨hse,hse2⟩,hw,hb⟩ => ?_)
   have hcn := cnt_b hse.2.2
   have hsm := smM_s hse.2.2
   have hml := hse.2.2.1
   have hsd : (hist.length <= 4 /\ ∀ x ∈ hist,0 <= x /\ x <= 1000000) /\ n + 1 < ls.length /\ CnS (mAt ls (n + 1) hist) := hse
   have hrep : (List.replicate w fr0).length = w := List.length_replicate ..
   repeat first | refine nx ?_ | intro _
   refine gIf (fun c => absurd c (by omega)) fun c => ?_
   repeat first | refine nx ?_ | intro _
   refine gIf (fun c1 => ?_) fun c1 => ?_
   · repeat first | refine nx ?_ | intro _
     rename_i u
     have hR : dsR ls w am.rat (n + 1) hist = (List.range w).map fun i => frK ((cnt (mAt ls (n + 1) hist) i : Rat) / ((smM (mAt ls (n + 1) hist) : Int) : Rat)) := by
      rw [dsR,if_pos (by omega)]
     have hRl := dsR_len ls w am.rat (n + 1) hist
     have hRg : ∀ k,k < w -> frK ((cnt (mAt ls (n + 1) hist) k : Rat) / ((smM (mAt ls (n + 1) hist) : Int) : Rat)) = (dsR ls w am.rat (n + 1) hist).getD k fr0 := fun k hk => by
      rw [hR,List.getD_eq_getElem?_getD,List.getElem?_map,List.getElem?_range hk]; rfl
     generalize dsR ls w am.rat (n + 1) hist = R at *
     refine gLp (fun k : Nat => [(43,iv k)]) (fun k => [rA rF 32 u (Go.Ear.rowAt R fr0 w k)]) (fun k => k <= w) (fun k => w - k) 0 (Nat.zero_le _) (fun k hk => ?_) (h2 := by rw [Go.Ear.rowAt_zero]; repeat' (first | trivial | rfl | refine And.intro ?_ ?_))
     have hrk : (Go.Ear.rowAt R fr0 w k).length = w := Go.Ear.rowAt_len hRl hk
     repeat first | refine nx ?_ | intro _
     refine gIf (fun c2 => ?_) fun c2 => ?_
     · have hck : 0 <= (mget (mAt ls (n + 1) hist) (k : Int)).getD 0 /\ (mget (mAt ls (n + 1) hist) (k : Int)).getD 0 <= 1000000000000 := hcn k
       have hik : I64z (k : Int) := ⟨by omega,by omega⟩
       have hset := Go.Ear.rowAt_set (d := fr0) (q := frK ((cnt (mAt ls (n + 1) hist) k : Rat) / ((smM (mAt ls (n + 1) hist) : Int) : Rat))) hRl (show k < w by omega) (hRg k (by omega))
       repeat first | refine nx ?_ | intro _
       unfold cnt at hset
       rw [hset]
       exact gBk (k + 1) (by omega) (by omega)
     · rw [Go.Ear.rowAt_end hRl (by omega)]
       repeat first | refine nx ?_ | intro _
       trivial
   · haveI ih2 : CtO Tryz.prog 199 [dsV ls w am,iv (((n + 1 : Nat) : Int) - 1),lv rI (hist.drop (min 1 hist.length))] (SeA ls n (hist.drop (min 1 hist.length)) /\ w <= 10 /\ bf am <= 1000) (fun g => [rA rF 32 g.v (dsR ls w am.rat n (hist.drop (min 1 hist.length)))]) := by
      rw [show (((n + 1 : Nat) : Int) - 1) = (n : Int) by omega]; exact ih _
     have hd : hist.drop (min 1 hist.length) = hist.drop 1 := by
      cases hist with
      | nil => rfl
      | cons x l => rw [List.length_cons,Nat.min_eq_left (by omega)]
     have hse3 : SeA ls n (hist.drop (min 1 hist.length)) /\ w <= 10 /\ bf am <= 1000 := ⟨by rw [hd]; exact hse2,hw,hb⟩
     have hpl : hist.length <= 4 := hse.1.1
     repeat first | refine gDs 10 9 (by rfl) (by kernel_rfl) ?_ | refine nx ?_ | intro _
     rw [hd]
     have htl := dsR_len ls w am.rat n (hist.drop 1)
     have hba : bq am.rat <= bf am := bq_rat ft.h
     have hcan := dsR_can hw (show bq am.rat <= 1000 by omega) hse2
     have hbd := bD_ge n
     have hbl := bD_le (show n <= 4 by omega)
     refine gIf (fun c2 => ?_) fun c2 => ?_
     · repeat first | refine nx ?_ | intro _
       rw [dsR,if_neg (by omega),if_pos c2]
     · have hR : dsR ls w am.rat (n + 1) hist = (List.range w).map fun i => frK (dsQ (mAt ls (n + 1) hist) (dsR ls w am.rat n (hist.drop 1)) w am.rat i) := by rw [dsR,if_neg (by omega),if_neg c2]
       have hRl := dsR_len ls w am.rat (n + 1) hist
       have hRg : ∀ k,k < w -> (dsR ls w am.rat (n + 1) hist).getD k fr0 = frK (dsQ (mAt ls (n + 1) hist) (dsR ls w am.rat n (hist.drop 1)) w am.rat k) := fun k hk => by
        rw [hR,List.getD_eq_getElem?_getD,List.getElem?_map,List.getElem?_range hk]; rfl
       generalize dsR ls w am.rat (n + 1) hist = R at *
       generalize dsR ls w am.rat n (hist.drop 1) = O at *
       repeat first | refine nx ?_ | intro _
       rename_i nu v12
       have hrb := fun k => rsQ_b (M := mAt ls (n + 1) hist) hcan (by omega) k
       have hz : frK (rsQ (mAt ls (n + 1) hist) O 0) = fr0 := frK_zero
       have hz1 : false = (frK (rsQ (mAt ls (n + 1) hist) O 0)).neg := by rw [hz]; rfl
       have hz2 : (frK (rsQ (mAt ls (n + 1) hist) O 0)).n = [] := by rw [hz]; rfl
       have hz3 : (frK (rsQ (mAt ls (n + 1) hist) O 0)).d = [] := by rw [hz]; rfl
       haveI := hcan.fts
       refine gLp (fun k : Nat => [(74,iv k)]) (fun k => [rV v12 [bv (frK (rsQ (mAt ls (n + 1) hist) O k)).neg,lv rU (frK (rsQ (mAt ls (n + 1) hist) O k)).n,lv rU (frK (rsQ (mAt ls (n + 1) hist) O k)).d] 32,rA rF 32 (nu 67).v O]) (fun k => k <= w) (fun k => w - k) 0 (Nat.zero_le _) (fun k hk => ?_)
       obtain ⟨g1,g2,g3⟩ := hcan.getD (by omega) k
       have hkb := hrb k
       have hkm : k * (bD n + 1) <= 10 * (bD n + 1) := Nat.mul_le_mul_right _ (by omega)
       repeat first | refine nx ?_ | intro _
       refine gIf (fun c3 => ?_) fun c3 => ?_
       · have hik : I64z (k : Int) := ⟨by omega,by omega⟩
         repeat first | refine nx ?_ | intro _
         refine gIf (fun c4 => ?_) fun c4 => ?_
         · repeat first | refine nx ?_ | intro _
           have e : rsQ (mAt ls (n + 1) hist) O (k + 1) = rsQ (mAt ls (n + 1) hist) O k + (O.getD k fr0).rat := if_pos c4
           rw [<- e]
           exact gBk (k + 1) (by omega) (by omega)
         · repeat first | refine nx ?_ | intro _
           have e : rsQ (mAt ls (n + 1) hist) O (k + 1) = rsQ (mAt ls (n + 1) hist) O k := if_neg c4
           rw [<- e]
           exact gBk (k + 1) (by omega) (by omega)
       · have ek : k = w := by omega
         subst ek
         have hqs : bq ((smM (mAt ls (n + 1) hist) : Int) : Rat) <= 2 := bq_intc (by omega) (by omega)
         have hql : bq (((mAt ls (n + 1) hist).length : Int) : Rat) <= 2 := bq_intc (by omega) (by omega)
         have q3 := bq_mul am.rat (((mAt ls (n + 1) hist).length : Int) : Rat)
         have q4 := bq_div (am.rat * (((mAt ls (n + 1) hist).length : Int) : Rat)) ((smM (mAt ls (n + 1) hist) : Int) : Rat)
         repeat first | refine gDs 11 11 (by rfl) (by kernel_rfl) ?_ | refine nx ?_ | intro _
         refine gLp (fun j : Nat => [(98,iv j)]) (fun j => [rA rF 32 (nu 67).v (Go.Ear.upTo R O j)]) (fun j => j <= k) (fun j => k - j) 0 (Nat.zero_le _) (fun j hj => ?_) (h2 := by rw [Go.Ear.upTo_zero]; repeat' (first | trivial | rfl | refine And.intro ?_ ?_))
         have hul : (Go.Ear.upTo R O j).length = k := by rw [Go.Ear.upTo_len (by omega)]; exact htl
         repeat first | refine nx ?_ | intro _
         refine gIf (fun c5 => ?_) fun c5 => ?_
         · have hug : (Go.Ear.upTo R O j).getD j fr0 = O.getD j fr0 := Go.Ear.upTo_get (by omega) (by omega)
           obtain ⟨f1,f2,f3⟩ := hcan.getD (by omega) j
           haveI : FtF ((Go.Ear.upTo R O j).getD j fr0) := by rw [hug]; exact f2
           have hbb : bf ((Go.Ear.upTo R O j).getD j fr0) <= bD n := by rw [hug]; exact f3
           have hbq : bq ((Go.Ear.upTo R O j).getD j fr0).rat <= bD n := by rw [hug]; exact f1
           have hck : 0 <= (mget (mAt ls (n + 1) hist) (j : Int)).getD 0 /\ (mget (mAt ls (n + 1) hist) (j : Int)).getD 0 <= 1000000000000 := hcn j
           have hik : I64z (j : Int) := ⟨by omega,by omega⟩
           have hqc : bq (((mget (mAt ls (n + 1) hist) (j : Int)).getD 0 : Int) : Rat) <= 2 := bq_intc (by omega) (by omega)
           have hset := Go.Ear.upTo_set (d := fr0) (q := frK (dsQ (mAt ls (n + 1) hist) O k am.rat j)) (show R.length = O.length by omega) (show j < O.length by omega) (by rw [hRg j (by omega)])
           repeat first | refine nx ?_ | intro _
           refine gIf (fun c6 => ?_) fun c6 => ?_
           · have e : dsQ (mAt ls (n + 1) hist) O k am.rat j = ((cnt (mAt ls (n + 1) hist) j : Rat) - am.rat) / ((smM (mAt ls (n + 1) hist) : Int) : Rat) := if_pos c6
             rw [e] at hset
             have q5 := bq_sub (((mget (mAt ls (n + 1) hist) (j : Int)).getD 0 : Int) : Rat) am.rat
             repeat first | refine gDs 14 12 (by rfl) (by kernel_rfl) ?_ | refine nx ?_ | intro _
             unfold cnt at hset
             rw [hset]
             exact gBk (j + 1) (by omega) (by omega)
           · have e : dsQ (mAt ls (n + 1) hist) O k am.rat j = (am.rat * (((mAt ls (n + 1) hist).length : Int) : Rat) / ((smM (mAt ls (n + 1) hist) : Int) : Rat)) * (O.getD j fr0).rat / rsQ (mAt ls (n + 1) hist) O k := if_neg c6
             rw [e, <- hug] at hset
             have q6 := bq_mul (am.rat * (((mAt ls (n + 1) hist).length : Int) : Rat) / ((smM (mAt ls (n + 1) hist) : Int) : Rat)) ((Go.Ear.upTo R O j).getD j fr0).rat
             repeat first | refine gDs 9 7 (by rfl) (by kernel_rfl) ?_ | refine nx ?_ | intro _
             rw [hset]
             exact gBk (j + 1) (by omega) (by omega)
         · rw [Go.Ear.upTo_end (by omega) (by omega)]
           repeat first | refine nx ?_ | intro _
           trivial
def hisE (l : Lg) (hist : List Int) : Int := if lgE l = 0 then (if ((hist.length : Int) = l.t.order - 1 /\ inB hist 0 l.t.words = true) then 0 else 2) else lgE l
instance hist_c {l : Lg} {hist : List Int} {S T : SV} [i : Vw lgV S l] [j : Vw (lv rI) T hist] : Ct Tryz.prog 161 [S,T] (LgS l /\ hist.length <= 1099511627776) (iv (hisE l hist)) := by
 refine ct2 i j (ctI Tryz.call161 Tryz.func161 Tryz.ntmps161 rfl Tryz.results161 rfl [] fun h0 w0 ⟨hs,hl⟩ => ?_)
 haveI : FtF l.am := ⟨hs.2.2⟩
 unfold hisE
 repeat first | refine nx ?_ | intro _
 refine gIf (fun c => ?_) fun c => ?_
 · repeat first | refine nx ?_ | intro _
   rw [if_neg c]
 · have c := Classical.not_not.1 c
   rw [if_pos c]
   have ht : tbE l.t = 0 := by
    unfold lgE at c
    split at c
    · assumption
    · exact absurd c (by assumption)
   obtain ⟨ho,ho4,hw,hw2,_⟩ := tbE_sz ht
   repeat first | refine nx ?_ | intro _
   refine gIf (fun c2 => ?_) fun c2 => ?_ <;> repeat first | refine nx ?_ | intro _
   · rw [if_neg fun h => c2.elim (fun x => x h.1) fun x => x h.2]
   · rw [if_pos ⟨Classical.byContradiction fun h => c2 (.inl h),Classical.byContradiction fun h => c2 (.inr h)⟩]
set_option maxRecDepth 100000
instance : Mth Tryz.prog 218 "earshot/gram.row" 202 := ⟨fun v w => by rfl⟩
instance : Mth Tryz.prog 217 "earshot/gram.row" 201 := ⟨fun v w => by rfl⟩
instance : Mth Tryz.prog 215 "earshot/gram.row" 199 := ⟨fun v w => by rfl⟩
instance : TCon Tryz.prog 218 := ⟨_,Tryz.underlying218,fun _ h => by cases h⟩
instance : TCon Tryz.prog 217 := ⟨_,Tryz.underlying217,fun _ h => by cases h⟩
instance : TCon Tryz.prog 215 := ⟨_,Tryz.underlying215,fun _ h => by cases h⟩
instance typed_k {ls : List Lv} {w n : Nat} {hist : List Int} : Ct Tryz.prog 201 [coV ls w,iv (n : Int),lv rI hist] (n <= 4 /\ SeA ls n hist /\ w <= 1000000) (lv rF (tyR ls w n hist)) := ⟨Tryz.call201,fun ⟨h1,h2⟩ => (typed_t ls w n hist h1).lv.h h2⟩
instance disc_k {ls : List Lv} {w n : Nat} {am : Fr} {hist : List Int} [FtF am] : Ct Tryz.prog 199 [dsV ls w am,iv (n : Int),lv rI hist] (n <= 4 /\ SeA ls n hist /\ w <= 10 /\ bf am <= 1000) (lv rF (dsR ls w am.rat n hist)) := ⟨Tryz.call199,fun ⟨h1,h2⟩ => (disc_t ls w am n hist h1).lv.h h2⟩
end Go.E3
