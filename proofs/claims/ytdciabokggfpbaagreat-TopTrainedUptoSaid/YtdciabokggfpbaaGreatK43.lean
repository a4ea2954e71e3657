/- K43: a part of the proof about training through the decoder: how the program's functions run, and what they compute, for every input. -/
import Derived.Test.YtdciabokggfpbaaGreatK42
import Derived.Test.YtdciabokggfpbaaGreatK19
import Derived.Test.YtdciabokggfpbaaGreatK21
import Derived.Test.YtdciabokggfpbaaGreatK40
import Derived.Test.YtdciabokggfpbaaGreatK20
set_option linter.all false
set_option maxRecDepth 20000
set_option maxHeartbeats 4000000
set_option synthInstance.maxSize 1000
namespace Go.E3
open Go Go.Ear Go.Proofs
def cmpI (a b : Int) : Int := if a < b then -1 else if b < a then 1 else 0
def ordI : List Int -> List Int -> Int
 | [],[] => 0
 | [],_ :: _ => -1
 | _ :: _,[] => 1
 | a :: x,b :: y => if cmpI a b = 0 then ordI x y else cmpI a b
theorem ordI_drop : ∀ {k : Nat} {a b : List Int},(∀ i,i < k -> a.getD i 0 = b.getD i 0) -> k <= a.length -> k <= b.length -> ordI a b = ordI (a.drop k) (b.drop k)
 | 0,a,b,_,_,_ => rfl
 | k + 1,[],_,_,h,_ => by simp at h
 | k + 1,_ :: _,[],_,_,h => by simp at h
 | k + 1,x :: a,y :: b,h,h1,h2 => by
   have h0 : x = y := h 0 (by omega)
   subst h0
   rw [List.drop_succ_cons,List.drop_succ_cons, <- ordI_drop (k := k) (fun i hi => h (i + 1) (by omega)) (by simpa using h1) (by simpa using h2)]
   have : cmpI x x = 0 := by unfold cmpI; rw [if_neg (by omega),if_neg (by omega)]
   show (if cmpI x x = 0 then ordI a b else cmpI x x) = _
   rw [if_pos this]
theorem ordI_at {a b : List Int} {k : Nat} (h : ∀ i,i < k -> a.getD i 0 = b.getD i 0) (h1 : k < a.length) (h2 : k < b.length) (hn : cmpI (a.getD k 0) (b.getD k 0) ≠ 0) : ordI a b = cmpI (a.getD k 0) (b.getD k 0) := by
 rw [ordI_drop h (by omega) (by omega),List.drop_eq_getElem_cons h1,List.drop_eq_getElem_cons h2]
 rw [List.getD_eq_getElem?_getD,List.getElem?_eq_getElem h1,List.getD_eq_getElem?_getD,List.getElem?_eq_getElem h2] at *
 show (if cmpI a[k] b[k] = 0 then _ else cmpI a[k] b[k]) = _
 rw [if_neg (by simpa using hn)]; rfl
theorem ordI_end {a b : List Int} {k : Nat} (h : ∀ i,i < k -> a.getD i 0 = b.getD i 0) (hk : k = min a.length b.length) : ordI a b = cmpI (a.length : Int) (b.length : Int) := by
 rw [ordI_drop h (by omega) (by omega)]
 unfold cmpI
 rcases Nat.lt_trichotomy a.length b.length with x | x | x
 · rw [List.drop_eq_nil_of_le (by omega : a.length <= k),List.drop_eq_getElem_cons (by omega : k < b.length),if_pos (by omega)]; rfl
 · rw [List.drop_eq_nil_of_le (by omega : a.length <= k),List.drop_eq_nil_of_le (by omega : b.length <= k),if_neg (by omega),if_neg (by omega)]; rfl
 · rw [List.drop_eq_nil_of_le (by omega : b.length <= k),List.drop_eq_getElem_cons (by omega : k < a.length),if_neg (by omega),if_pos (by omega)]; rfl
instance nan_c {a : Int} : Ct Tryz.prog 178 [iv a] True (bv false) := by
 refine (ctI Tryz.call178 Tryz.func178 Tryz.ntmps178 rfl Tryz.results178 rfl [] fun h0 w0 _ => ?_)
 repeat first | refine nx ?_ | intro _
 simp
instance cmpI_c {a b : Int} : Ct Tryz.prog 176 [iv a,iv b] True (iv (cmpI a b)) := by
 refine (ctI Tryz.call176 Tryz.func176 Tryz.ntmps176 rfl Tryz.results176 rfl [] fun h0 w0 _ => ?_)
 unfold cmpI
 repeat first | refine nx ?_ | intro _
 refine gIf (fun c => ?_) fun c => ?_ <;> repeat first | refine nx ?_ | intro _
 · rw [if_pos c]
 · rw [if_neg c]
   refine gIf (fun c => ?_) fun c => ?_ <;> repeat first | refine nx ?_ | intro _
   · rw [if_pos c]
   · rw [if_neg c]
theorem cmpI_zero {a b : Int} : cmpI a b = 0 ↔ a = b := by unfold cmpI; split <;> (try split) <;> omega
instance comp_c {a b : List Int} {S T : SV} [j : Vw (lv rI) S a] [k : Vw (lv rI) T b] : Ct Tryz.prog 172 [S,T] (a.length <= 1099511627776 /\ b.length <= 1099511627776) (iv (ordI a b)) := by
 refine ct2 j k (ctI Tryz.call172 Tryz.func172 Tryz.ntmps172 rfl Tryz.results172 rfl [] fun h0 w0 ⟨h1,h2⟩ => ?_)
 repeat first | refine nx ?_ | intro _
 refine gLp (fun k : Nat => [(11,iv k)]) (fun _ => []) (fun k => (k <= a.length /\ k <= b.length) /\ ∀ i,i < k -> a.getD i 0 = b.getD i 0) (fun k => a.length - k) 0 ⟨⟨Nat.zero_le _,Nat.zero_le _⟩,fun i hi => by omega⟩ fun k ⟨⟨hk,hk2⟩,hn⟩ => ?_
 repeat first | refine nx ?_ | intro _
 refine gIf (fun c1 => ?_) fun c1 => ?_
 · repeat first | refine nx ?_ | intro _
   refine gIf (fun c2 => ?_) fun c2 => ?_
   · repeat first | refine nx ?_ | intro _
     rw [ordI_end hn (by omega)]
     unfold cmpI
     rw [if_neg (by omega),if_pos (by omega)]
   · repeat first | refine nx ?_ | intro _
     refine gIf (fun c3 => ?_) fun c3 => ?_
     · repeat first | refine nx ?_ | intro _
       rw [ordI_at hn (by omega) (by omega) c3]
     · repeat first | refine nx ?_ | intro _
       refine gBk (k + 1) ⟨⟨by omega,by omega⟩,fun i hi => ?_⟩ (by omega)
       by_cases e : i = k
       · subst e
         exact cmpI_zero.1 (Classical.not_not.1 c3)
       · exact hn i (by omega)
 · repeat first | refine nx ?_ | intro _
   refine gIf (fun c2 => ?_) fun c2 => ?_ <;> repeat first | refine nx ?_ | intro _
   · rw [ordI_end hn (by omega)]
     unfold cmpI
     rw [if_pos (by omega)]
   · rw [ordI_end hn (by omega)]
     unfold cmpI
     rw [if_neg (by omega),if_neg (by omega)]
instance rgorder_c {a b : List Int} {S T : SV} [j : Vw (lv rI) S a] [k : Vw (lv rI) T b] : Ct Tryz.prog 49 [S,T] (a.length <= 1099511627776 /\ b.length = a.length) (iv (ordI a b)) := by
 refine ct2 j k (ctI Tryz.call49 Tryz.func49 Tryz.ntmps49 rfl Tryz.results49 rfl [] fun h0 w0 ⟨h1,h2⟩ => ?_)
 repeat first | refine nx ?_ | intro _
 refine gLp (fun k : Nat => [(5,iv k)]) (fun _ => []) (fun k => k <= a.length /\ ∀ i,i < k -> a.getD i 0 = b.getD i 0) (fun k => a.length - k) 0 ⟨Nat.zero_le _,fun i hi => by omega⟩ fun k ⟨hk,hn⟩ => ?_
 repeat first | refine nx ?_ | intro _
 refine gIf (fun c1 => ?_) fun c1 => ?_
 · have hkb : k < b.length := by omega
   repeat first | refine gDs 9 9 (by rfl) (by kernel_rfl) ?_ | refine nx ?_ | intro _
   refine gIf (fun c2 => ?_) fun c2 => ?_
   · have hc : cmpI (a.getD k 0) (b.getD k 0) ≠ 0 := fun e => c2 (cmpI_zero.1 e)
     repeat first | refine gDs 9 9 (by rfl) (by kernel_rfl) ?_ | refine nx ?_ | intro _
     rw [ordI_at hn c1 hkb hc]
     unfold cmpI
     refine gIf (fun c3 => ?_) fun c3 => ?_ <;> repeat first | refine nx ?_ | intro _
     · rw [if_pos c3]
     · rw [if_neg c3,if_pos (by omega)]
   · repeat first | refine nx ?_ | intro _
     refine gBk (k + 1) ⟨by omega,fun i hi => ?_⟩ (by omega)
     by_cases e : i = k
     · subst e; omega
     · exact hn i (by omega)
 · repeat first | refine nx ?_ | intro _
   rw [ordI_end hn (by omega)]
   unfold cmpI
   rw [if_neg (by omega),if_neg (by omega)]
instance (priority := high) {t : Tb} : Vw tbV (.ag [iv t.order,iv t.words,lv rGm t.list]) t := ⟨fun u => u⟩
instance (priority := high) {l : Lg} : Vw lgV (.ag [iv l.t.order,iv l.t.words,lv rGm l.t.list,iv l.by_,bv l.am.neg,lv rU l.am.n,lv rU l.am.d,lv rF l.mix]) l := ⟨fun u => u⟩
def badG (t : Tb) (i : Nat) : Bool := (((decide (((t.list.getD i gm0).ws.length : Int) ≠ t.order) || !inB (t.list.getD i gm0).ws 0 t.words) || decide ((t.list.getD i gm0).n < 1)) || decide (1073741824 < (t.list.getD i gm0).n)) || (decide (0 < i) && decide (0 <= ordI (t.list.getD (i - 1) gm0).ws (t.list.getD i gm0).ws))
def tbE (t : Tb) : Int := if 20000 < t.list.length then 5 else if sizedB t.order t.words = true then (if (List.range t.list.length).any (badG t) = true then 2 else 0) else 2
def TbS (t : Tb) : Prop := t.list.length <= 1099511627776 /\ ∀ g ∈ t.list,g.ws.length <= 1099511627776
theorem TbS.at {t : Tb} (h : TbS t) (i : Nat) : (t.list.getD i gm0).ws.length <= 1099511627776 := by
 by_cases c : i < t.list.length
 · exact h.2 _ (getD_in gm0 c)
 · rw [List.getD_eq_getElem?_getD,List.getElem?_eq_none (by omega)]; exact Nat.zero_le _
theorem rng_succ {p : Nat -> Bool} {k : Nat} (h : (List.range k).any p = false) (h2 : p k = false) : (List.range (k + 1)).any p = false := by
 rw [List.range_succ,List.any_append,h]; simp [h2]
theorem rng_hit {p : Nat -> Bool} {k n : Nat} (h : k < n) (h2 : p k = true) : (List.range n).any p = true := List.any_eq_true.2 ⟨k,List.mem_range.2 h,h2⟩
instance checkT_c {t : Tb} {S : SV} [j : Vw tbV S t] : Ct Tryz.prog 159 [S] (TbS t) (iv (tbE t)) := by
 refine ct1 j (ctI Tryz.call159 Tryz.func159 Tryz.ntmps159 rfl Tryz.results159 rfl [] fun h0 w0 hs => ?_)
 have hl1 := hs.1
 unfold tbE
 repeat first | refine nx ?_ | intro _
 refine gIf (fun c => ?_) fun c => ?_ <;> repeat first | refine nx ?_ | intro _
 · rw [if_pos (by omega)]
 rw [if_neg (show ¬ 20000 < t.list.length by omega)]
 refine gIf (fun c2 => ?_) fun c2 => ?_ <;> repeat first | refine nx ?_ | intro _
 · rw [if_neg c2]
 have c2 : sizedB t.order t.words = true := Classical.not_not.1 c2
 rw [if_pos c2]
 refine gLp (fun k : Nat => [(18,iv k)]) (fun _ => []) (fun k => k <= t.list.length /\ (List.range k).any (badG t) = false) (fun k => t.list.length - k) 0 ⟨Nat.zero_le _,rfl⟩ fun k ⟨hk,hn⟩ => ?_
 have hw := hs.at k
 have hw1 := hs.at (k - 1)
 repeat first | refine nx ?_ | intro _
 refine gIf (fun c3 => ?_) fun c3 => ?_
 · repeat first | refine nx ?_ | intro _
   refine gIf (fun c4 => ?_) fun c4 => ?_
   · repeat first | refine nx ?_ | intro _
     rw [if_pos (rng_hit c3 (by unfold badG; simp only [Bool.or_eq_true,decide_eq_true_eq,Bool.not_eq_true', <- Bool.not_eq_true]; exact .inl c4))]
   · repeat first | refine gDs 15 15 (by rfl) (by kernel_rfl) ?_ | refine nx ?_ | intro _
     refine gIf (fun c5 => ?_) fun c5 => ?_ <;> repeat first | refine nx ?_ | intro _
     · rw [if_pos (rng_hit c3 (by unfold badG; simp only [Bool.or_eq_true,Bool.and_eq_true,decide_eq_true_eq]; exact .inr c5))]
     · refine gBk (k + 1) ⟨by omega,rng_succ hn ?_⟩ (by omega)
       rw [<- Bool.not_eq_true]
       unfold badG
       simp only [Bool.or_eq_true,Bool.and_eq_true,decide_eq_true_eq,Bool.not_eq_true', <- Bool.not_eq_true]
       exact fun h => h.elim c4 c5
 · repeat first | refine nx ?_ | intro _
   have : k = t.list.length := by omega
   subst this
   rw [if_neg (by rw [hn]; decide)]
instance rCheckT_c {t : Tb} {S : SV} [j : Vw tbV S t] : Ct Tryz.prog 18 [S] (TbS t) (iv (tbE t)) := by
 refine ct1 j (ctI Tryz.call18 Tryz.func18 Tryz.ntmps18 rfl Tryz.results18 rfl [] fun h0 w0 hs => ?_)
 have hl1 := hs.1
 unfold tbE
 repeat first | refine nx ?_ | intro _
 refine gIf (fun c => ?_) fun c => ?_ <;> repeat first | refine nx ?_ | intro _
 · rw [if_pos (by omega)]
 rw [if_neg (show ¬ 20000 < t.list.length by omega)]
 refine gIf (fun c2 => ?_) fun c2 => ?_ <;> repeat first | refine nx ?_ | intro _
 · rw [if_neg c2]
 have c2 : sizedB t.order t.words = true := Classical.not_not.1 c2
 rw [if_pos c2]
 refine gLp (fun k : Nat => [(3,iv k)]) (fun _ => []) (fun k => k <= t.list.length /\ (List.range k).any (badG t) = false) (fun k => t.list.length - k) 0 ⟨Nat.zero_le _,rfl⟩ fun k ⟨hk,hn⟩ => ?_
 have hw := hs.at k
 have hw1 := hs.at (k - 1)
 repeat first | refine nx ?_ | intro _
 refine gIf (fun c3 => ?_) fun c3 => ?_
 · have hlen : 0 < k -> ¬ badG t (k - 1) = true := fun h hb => by
    have := List.any_eq_false.1 hn (k - 1) (List.mem_range.2 (by omega))
    exact this hb
   have hg : (¬(((((t.list.getD k gm0).ws.length : Int) ≠ t.order \/ ¬ inB (t.list.getD k gm0).ws 0 t.words = true) \/ (t.list.getD k gm0).n < 1) \/ 1073741824 < (t.list.getD k gm0).n) /\ 0 < k) -> (t.list.getD (k - 1) gm0).ws.length <= 1099511627776 /\ (t.list.getD k gm0).ws.length = (t.list.getD (k - 1) gm0).ws.length := fun ⟨h1,h2⟩ => ⟨hw1,by
    have h3 := hlen h2
    unfold badG at h3
    simp only [Bool.or_eq_true,decide_eq_true_eq] at h3
    have h4 : ((t.list.getD (k - 1) gm0).ws.length : Int) = t.order := Classical.not_not.1 fun h => h3 (.inl (.inl (.inl (.inl h))))
    have h5 : ((t.list.getD k gm0).ws.length : Int) = t.order := Classical.not_not.1 fun h => h1 (.inl (.inl (.inl h)))
    omega⟩
   repeat first | refine gDs 41 41 (by rfl) (by kernel_rfl) ?_ | refine nx ?_ | intro _
   refine gIf (fun c5 => ?_) fun c5 => ?_ <;> repeat first | refine nx ?_ | intro _
   · rw [if_pos (rng_hit c3 (by unfold badG; simp only [Bool.or_eq_true,Bool.and_eq_true,decide_eq_true_eq,Bool.not_eq_true', <- Bool.not_eq_true]; exact c5))]
   · refine gBk (k + 1) ⟨by omega,rng_succ hn ?_⟩ (by omega)
     rw [<- Bool.not_eq_true]
     unfold badG
     simp only [Bool.or_eq_true,Bool.and_eq_true,decide_eq_true_eq,Bool.not_eq_true', <- Bool.not_eq_true]
     exact c5
 · repeat first | refine nx ?_ | intro _
   have : k = t.list.length := by omega
   subst this
   rw [if_neg (by rw [hn]; decide)]
def lgB (l : Lg) : Bool := if l.by_ = 1 then decide (0 < sgQ l.am.rat) else if l.by_ = 3 then decide (0 < sgQ l.am.rat) && decide (sgQ (l.am.rat - 1) < 0) else if l.by_ = 4 then decide (sgQ l.am.rat = 0) else false
def lgE (l : Lg) : Int := if tbE l.t = 0 then (if lgB l = true then 0 else 2) else tbE l.t
def LgS (l : Lg) : Prop := (TbS l.t /\ l.mix = []) /\ bf l.am <= 1000 /\ Fit l.am.n /\ Fit l.am.d
theorem tbE_sz {t : Tb} (h : tbE t = 0) : 1 <= t.order /\ t.order <= 4 /\ 1 <= t.words /\ t.words <= 2000 /\ t.list.length <= 20000 /\ (List.range t.list.length).any (badG t) = false := by
 unfold tbE at h
 split at h
 · cases h
 · rename_i h1
   split at h
   · rename_i h2
     split at h
     · cases h
     · rename_i h3
       unfold sizedB at h2
       simp only [Bool.and_eq_true,decide_eq_true_eq] at h2
       exact ⟨h2.1.1.1,h2.1.1.2,h2.1.2,h2.2,by omega,by simpa using h3⟩
   · cases h
instance valid_l {l : Lg} {S : SV} [j : Vw lgV S l] : Ct Tryz.prog 160 [S] (LgS l /\ 1 <= l.t.order /\ l.t.order <= 4) (bv (lgB l)) := by
 refine ct1 j (ctI Tryz.call160 Tryz.func160 Tryz.ntmps160 rfl Tryz.results160 rfl [] fun h0 w0 ⟨⟨⟨hs,hm⟩,hb,hf⟩,ho,ho4⟩ => ?_)
 haveI : FtF l.am := ⟨hf⟩
 have hml : l.mix.length = 0 := by rw [hm]; rfl
 have hw0 : wts l.mix = 0 := by rw [hm]; rfl
 haveI : FtS l.mix := ⟨fun f h => by rw [hm] at h; exact absurd h (by simp)⟩
 have hq1 : bq ((1 : Int) : Rat) <= 2 := bq_intc (by decide) (by decide)
 unfold lgB
 repeat first | refine nx ?_ | intro _
 refine gIf (fun c => ?_) fun c => ?_ <;> repeat first | refine nx ?_ | intro _
 · rw [if_pos c,hml]; simp
 rw [if_neg c]
 refine gIf (fun c2 => ?_) fun c2 => ?_ <;> repeat first | refine nx ?_ | intro _
 · have hmo : ¬ ((l.mix.length : Int) = l.t.order + 1) := by omega
   rw [if_neg (show ¬ l.by_ = 3 by omega),if_neg (show ¬ l.by_ = 4 by omega)]
   rw [decide_eq_false hmo]; simp
 refine gIf (fun c3 => ?_) fun c3 => ?_ <;> repeat first | refine nx ?_ | intro _
 · rw [if_pos c3]
   refine gIf (fun c4 => ?_) fun c4 => ?_ <;> repeat first | refine nx ?_ | intro _
   · have h1 : ((1 : Int) : Rat) = 1 := rfl
     rw [h1] at c4
     rw [decide_eq_false (show ¬ sgQ (l.am.rat - 1) < 0 by omega),Bool.and_false]
   · have h1 : ((1 : Int) : Rat) = 1 := rfl
     rw [h1] at c4
     rw [decide_eq_true (show sgQ (l.am.rat - 1) < 0 by omega),hml]; rfl
 rw [if_neg c3]
 refine gIf (fun c4 => ?_) fun c4 => ?_ <;> repeat first | refine nx ?_ | intro _
 · rw [if_pos c4,hml]; simp
 · rw [if_neg c4]
instance checkL_c {l : Lg} {S : SV} [j : Vw lgV S l] : Ct Tryz.prog 139 [S] (LgS l) (iv (lgE l)) := by
 refine ct1 j (ctI Tryz.call139 Tryz.func139 Tryz.ntmps139 rfl Tryz.results139 rfl [] fun h0 w0 hs => ?_)
 have hts := hs.1.1
 haveI : FtF l.am := ⟨hs.2.2⟩
 unfold lgE
 repeat first | refine nx ?_ | intro _
 refine gIf (fun c => ?_) fun c => ?_
 · repeat first | refine nx ?_ | intro _
   rw [if_neg c]
 · have c := Classical.not_not.1 c
   rw [if_pos c]
   have hz := tbE_sz c
   have hv : LgS l /\ 1 <= l.t.order /\ l.t.order <= 4 := ⟨hs,hz.1,hz.2.1⟩
   repeat first | refine nx ?_ | intro _
   refine gIf (fun c2 => ?_) fun c2 => ?_ <;> repeat first | refine nx ?_ | intro _
   · rw [if_neg c2]
   · rw [if_pos (Classical.not_not.1 c2)]
instance rCheckL_c {l : Lg} {S : SV} [j : Vw lgV S l] : Ct Tryz.prog 7 [S] (LgS l) (iv (lgE l)) := by
 refine ct1 j (ctI Tryz.call7 Tryz.func7 Tryz.ntmps7 rfl Tryz.results7 rfl [] fun h0 w0 hs => ?_)
 have hts := hs.1.1
 haveI : FtF l.am := ⟨hs.2.2⟩
 have hbf := hs.2.1
 have hml : l.mix.length = 0 := by rw [hs.1.2]; rfl
 have hw0 : wts l.mix = 0 := by rw [hs.1.2]; rfl
 haveI : FtS l.mix := ⟨fun f h => by rw [hs.1.2] at h; exact absurd h (by simp)⟩
 have hq1 : bq ((1 : Int) : Rat) <= 2 := bq_intc (by decide) (by decide)
 unfold lgE
 repeat first | refine nx ?_ | intro _
 refine gIf (fun c => ?_) fun c => ?_
 · repeat first | refine nx ?_ | intro _
   rw [if_neg c]
 · have c := Classical.not_not.1 c
   rw [if_pos c]
   obtain ⟨ho,ho4,_⟩ := tbE_sz c
   unfold lgB
   repeat first | refine nx ?_ | intro _
   refine gIf (fun c1 => ?_) fun c1 => ?_
   · rw [if_pos c1]
     repeat first | refine nx ?_ | intro _
     refine gIf (fun d => ?_) fun d => ?_ <;> repeat first | refine nx ?_ | intro _
     · rw [if_neg fun h => d ⟨hml,of_decide_eq_true h⟩]
     · rw [if_pos (decide_eq_true (Classical.not_not.1 d).2)]
   rw [if_neg c1]
   repeat first | refine nx ?_ | intro _
   refine gIf (fun c2 => ?_) fun c2 => ?_
   · have hmo : ¬ ((l.mix.length : Int) = l.t.order + 1) := by omega
     rw [if_neg (show ¬ l.by_ = 3 by omega),if_neg (show ¬ l.by_ = 4 by omega),if_neg (show ¬ false = true by decide)]
     repeat first | refine nx ?_ | intro _
     refine gIf (fun d => ?_) fun d => ?_ <;> repeat first | refine nx ?_ | intro _
     · trivial
     · exact absurd (Classical.not_not.1 d).1.1.2 hmo
   repeat first | refine nx ?_ | intro _
   refine gIf (fun c3 => ?_) fun c3 => ?_
   · rw [if_pos c3]
     repeat first | refine gDs 15 14 (by rfl) (by kernel_rfl) ?_ | refine nx ?_ | intro _
     have h1 : ((1 : Int) : Rat) = 1 := rfl
     rw [h1]
     refine gIf (fun d => ?_) fun d => ?_ <;> repeat first | refine nx ?_ | intro _
     · rw [if_neg fun h => d (by
        rw [Bool.and_eq_true,decide_eq_true_iff,decide_eq_true_iff] at h
        exact ⟨⟨hml,h.1⟩,h.2⟩)]
     · have d := Classical.not_not.1 d
       rw [if_pos (by rw [Bool.and_eq_true,decide_eq_true_iff,decide_eq_true_iff]; exact ⟨d.1.2,d.2⟩)]
   rw [if_neg c3]
   repeat first | refine nx ?_ | intro _
   refine gIf (fun c4 => ?_) fun c4 => ?_
   · rw [if_pos c4]
     repeat first | refine nx ?_ | intro _
     refine gIf (fun d => ?_) fun d => ?_ <;> repeat first | refine nx ?_ | intro _
     · rw [if_neg fun h => d ⟨hml,of_decide_eq_true h⟩]
     · rw [if_pos (decide_eq_true (Classical.not_not.1 d).2)]
   · rw [if_neg c4,if_neg (show ¬ false = true by decide)]
     repeat first | refine nx ?_ | intro _
     refine gIf (fun d => ?_) fun d => absurd (show True from trivial) (by simpa using d) <;> repeat first | refine nx ?_ | intro _
     trivial
def kAt (l : List Int) (i : Nat) : Int := if i < l.length then l.getD i 0 + 1 else 0
@[reducible] def key4 (l : List Int) : K4 := ⟨kAt l 0,kAt l 1,kAt l 2,kAt l 3⟩
def kUp (l : List Int) (k i : Nat) : Int := if i < k then l.getD i 0 + 1 else 0
instance keyed_c {l : List Int} {S : SV} [j : Vw (lv rI) S l] : Ct Tryz.prog 177 [S] (l.length <= 4 /\ ∀ x ∈ l,0 <= x /\ x <= 1000000) (KA.sv (key4 l)) := by
 refine ct1 j (ctI Tryz.call177 Tryz.func177 Tryz.ntmps177 rfl Tryz.results177 rfl [] fun h0 w0 ⟨h1,h2⟩ => ?_)
 repeat first | refine nx ?_ | intro _
 rename_i v2 v3
 refine gLp (fun k : Nat => [(8,iv k)]) (fun k => [rV v3 [iv (kUp l k 0),iv (kUp l k 1),iv (kUp l k 2),iv (kUp l k 3)] 221,rV v2 [iv 0,iv 0,iv 0,iv 0] 221]) (fun k => k <= l.length) (fun k => l.length - k) 0 (Nat.zero_le _) fun k hk => ?_
 repeat first | refine nx ?_ | intro _
 refine gIf (fun c => ?_) fun c => ?_
 · have hx := h2 _ (getD_in 0 c)
   match k with
   | 0 =>
     repeat first | refine nx ?_ | intro _
     exact gBk 1 (by omega) (by omega) (h2 := by simp [kUp])
   | 1 =>
     repeat first | refine nx ?_ | intro _
     exact gBk 2 (by omega) (by omega) (h2 := by simp [kUp])
   | 2 =>
     repeat first | refine nx ?_ | intro _
     exact gBk 3 (by omega) (by omega) (h2 := by simp [kUp])
   | 3 =>
     repeat first | refine nx ?_ | intro _
     exact gBk 4 (by omega) (by omega) (h2 := by simp [kUp])
   | k + 4 => omega
 · have e : k = l.length := by omega
   subst e
   repeat first | refine nx ?_ | intro _
   simp [kUp,kAt]
instance gover_c {a b : Fr} {x y : Rat} {A C : Nat} {S T : SV} [i : VF S a x A] [j : VF T b y C] : Ct Tryz.prog 200 [S,T] (A + C <= 134217000) (kk (x / y)) := by
 refine ct2 i.v j.v (ctI Tryz.call200 Tryz.func200 Tryz.ntmps200 rfl Tryz.results200 rfl [] fun h0 w0 hs => ?_)
 have h1 := i.le
 have h2 := j.le
 obtain ⟨_,_,rfl,rfl⟩ := i
 obtain ⟨_,_,rfl,rfl⟩ := j
 repeat first | refine nx ?_ | intro _
 exact ⟨trivial,trivial,trivial⟩
abbrev Cn := List (Int × Int)
abbrev Lv := List (K4 × Cn)
@[reducible] def cnV (M : Cn) : SV := kmz KN (fun x : Int => iv x) M
@[reducible] def lvV (L : Lv) : SV := kmz KA cnV L
def rLv : Rp Lv := mkRp 1 (fun L => [lvV L]) (fun _ => rfl) (fun _ => rfl)
instance : RpC rLv (fun L => [lvV L]) := ⟨Iff.rfl⟩
instance : Rk rLv 1 := ⟨rfl⟩
instance : D0 Lv [] := ⟨trivial⟩
instance : MpT Tryz.prog 224 K4 KA Cn cnV [] := ⟨221,225,_,Tryz.underlying224,inferInstance,Tryz.zeroValue225,fun _ => .inl ⟨rfl,rfl⟩⟩
instance : RT Tryz.prog 224 Lv rLv 8 [] := ⟨Tryz.sizeOf224,_,_,⟨Tryz.type224,rfl,rfl,rfl,rfl⟩,fun _ => ⟨.inl ⟨rfl,rfl⟩,trivial⟩⟩
def smM (M : Cn) : Int := (M.map (·.2)).sum
noncomputable def mAt (ls : List Lv) (n : Nat) (hist : List Int) : Cn := (mget (ls.getD n []) (key4 hist)).getD []
def CnS (M : Cn) : Prop := M.length <= 1000000 /\ ∀ p ∈ M,1 <= p.2 /\ p.2 <= 1000000000000
theorem smM_app (a b : Cn) : smM (a ++ b) = smM a + smM b := by unfold smM; rw [List.map_append,List.sum_append]
theorem smM_perm {a b : Cn} (p : a.Perm b) : smM a = smM b := by
 induction p with
 | nil => rfl
 | cons x _ ih => unfold smM at ih ⊢; rw [List.map_cons,List.map_cons,List.sum_cons,List.sum_cons,ih]
 | swap x y l => unfold smM; rw [List.map_cons,List.map_cons,List.map_cons,List.map_cons,List.sum_cons,List.sum_cons,List.sum_cons,List.sum_cons]; omega
 | trans _ _ h1 h2 => exact h1.trans h2
theorem smM_b {M : Cn} (h : ∀ p ∈ M,1 <= p.2 /\ p.2 <= 1000000000000) : (M.length : Int) <= smM M /\ smM M <= M.length * 1000000000000 := by
 induction M with
 | nil => exact ⟨Int.le_refl _,Int.le_refl _⟩
 | cons x M ih =>
   obtain ⟨a,b⟩ := ih fun p hp => h p (List.mem_cons_of_mem _ hp)
   obtain ⟨c,d⟩ := h x (List.mem_cons_self ..)
   have e : smM (x :: M) = x.2 + smM M := rfl
   rw [e,List.length_cons]
   constructor <;> omega
instance seen_c {ls : List Lv} {w : Int} {n : Nat} {hist : List Int} {S : SV} [j : Vw (lv rI) S hist] : Ct Tryz.prog 198 [.ag [lv rLv ls,iv w],iv (n : Int),S] ((hist.length <= 4 /\ ∀ x ∈ hist,0 <= x /\ x <= 1000000) /\ n < ls.length /\ CnS (mAt ls n hist)) (.tp [cnV (mAt ls n hist),iv (smM (mAt ls n hist))]) := by
 refine ct3 (x := ()) (y := ()) (v := fun _ => (.ag [lv rLv ls,iv w] : SV)) (v2 := fun _ => iv (n : Int)) ⟨fun u => u⟩ ⟨fun u => u⟩ j (ctI Tryz.call198 Tryz.func198 Tryz.ntmps198 rfl Tryz.results198 rfl [] fun h0 w0 ⟨hh,hn,hc1,hc2⟩ => ?_)
 have hkg : I64z (kAt hist 0) /\ I64z (kAt hist 1) /\ I64z (kAt hist 2) /\ I64z (kAt hist 3) := by
  have : ∀ i,I64z (kAt hist i) := fun i => by
   unfold kAt I64z
   split
   · have := hh.2 _ (getD_in 0 (by assumption)); omega
   · omega
  exact ⟨this 0,this 1,this 2,this 3⟩
 repeat first | refine gDs 9 8 (by rfl) (by kernel_rfl) ?_ | refine nx ?_ | intro _
 rw [show (mget (ls.getD n []) ⟨(key4 hist).a,(key4 hist).b,(key4 hist).c,(key4 hist).d⟩).getD [] = mAt ls n hist from rfl]
 generalize mAt ls n hist = M at *
 refine gZRg fun p => ?_
 repeat first | refine nx ?_ | intro _
 refine gLp (fun s : Cn => [(9,iv (smM s))]) (fun s => [rKz KN (fun x : Int => iv x) p M s]) (fun s => (∃ r,(s ++ r).Perm M)) (fun s => M.length - s.length) [] ⟨M,.refl _⟩ fun s ⟨r,hr⟩ => ?_
 have hsl : s.length + r.length = M.length := by rw [<- List.length_append]; exact hr.length_eq
 have hss := smM_b (M := s) fun p hp => hc2 p (hr.mem_iff.1 (List.mem_append_left _ hp))
 repeat first | refine nx ?_ | intro _
 refine gZNx (fun hd => ?_) fun k a ⟨rr,hrr⟩ => ?_
 · repeat first | refine nx ?_ | intro _
   rw [smM_perm hd]
   exact ⟨trivial,rfl⟩
 · have ha := hc2 (k,a) (hrr.mem_iff.1 (by simp))
   have hl := hrr.length_eq
   rw [List.length_append,List.length_cons] at hl
   have hs1 : smM (s ++ [(k,a)]) = smM s + a := by
    rw [smM_app]; show _ + (a + 0) = _; omega
   repeat first | refine nx ?_ | intro _
   rw [<- hs1]
   exact gBk (s ++ [(k,a)]) ⟨rr,by simpa using hrr⟩ (by rw [List.length_append,List.length_singleton]; omega)
set_option maxHeartbeats 8000000
@[reducible] def coV (ls : List Lv) (w : Nat) : SV := .ag [lv rLv ls,iv (w : Int)]
def flatQ (w : Nat) : List Fr := List.replicate w (frK ((1 : Int) / ((w : Int) : Rat)))
instance flat_c {ls : List Lv} {w : Nat} : CtO Tryz.prog 196 [coV ls w] (w <= 1000000) (fun g => [rA rF 32 g.v (flatQ w)]) := by
 refine (ctO Tryz.call196 Tryz.func196 Tryz.ntmps196 rfl Tryz.results196 rfl [] fun h0 w0 hw => ?_)
 repeat first | refine nx ?_ | intro _
 rename_i u
 have hrep : (List.replicate w fr0).length = w := List.length_replicate ..
 have hfl : (flatQ w).length = w := by unfold flatQ; rw [List.length_replicate]
 refine gLp (fun k : Nat => [(10,iv k)]) (fun k => [rA rF 32 u (Go.Ear.rowAt (flatQ w) fr0 w k)]) (fun k => k <= w) (fun k => w - k) 0 (Nat.zero_le _) (fun k hk => ?_) (h2 := by rw [Go.Ear.rowAt_zero]; repeat' (first | trivial | rfl | refine And.intro ?_ ?_))
 have hrl : (Go.Ear.rowAt (flatQ w) fr0 w k).length = w := Go.Ear.rowAt_len hfl hk
 repeat first | refine nx ?_ | intro _
 refine gIf (fun c => ?_) fun c => ?_
 · have hset := Go.Ear.rowAt_set (d := fr0) (q := frK ((1 : Int) / ((w : Int) : Rat))) hfl (show k < w by omega) (by unfold flatQ; rw [List.getD_eq_getElem?_getD,List.getElem?_replicate,if_pos (by omega)]; rfl)
   repeat first | refine nx ?_ | intro _
   rw [hset]
   exact gBk (k + 1) (by omega) (by omega)
 · rw [Go.Ear.rowAt_end hfl (by omega)]
   repeat first | refine nx ?_ | intro _
   trivial
@[reducible] def adV (ls : List Lv) (w : Nat) (am : Fr) : SV := .ag [lv rLv ls,iv (w : Int),bv am.neg,lv rU am.n,lv rU am.d]
noncomputable def cnt (M : Cn) (i : Nat) : Int := (mget M (i : Int)).getD 0
noncomputable def addQ (M : Cn) (w : Nat) (am : Rat) (i : Nat) : Rat := ((cnt M i : Rat) + am) / ((smM M : Rat) + am * ((w : Int) : Rat))
noncomputable def addR (M : Cn) (w : Nat) (am : Rat) : List Fr := (List.range w).map fun i => frK (addQ M w am i)
def SeS (ls : List Lv) (n : Nat) (hist : List Int) : Prop := (hist.length <= 4 /\ ∀ x ∈ hist,0 <= x /\ x <= 1000000) /\ n < ls.length /\ CnS (mAt ls n hist)
theorem mget_mem {κ α : Type} {l : List (κ × α)} {k : κ} {a : α} (h : mget l k = some a) : (k,a) ∈ l := by
 unfold mget at h
 obtain ⟨y,hy,e⟩ := Option.map_eq_some_iff.1 h
 have h1 := List.mem_of_find?_eq_some hy
 have h2 := List.find?_some hy
 have h3 : y.1 = k := by simpa using h2
 obtain ⟨y1,y2⟩ := y
 rw [<- h3, <- e]; exact h1
theorem cnt_b {M : Cn} (h : CnS M) (i : Nat) : 0 <= cnt M i /\ cnt M i <= 1000000000000 := by
 unfold cnt
 cases hm : mget M (i : Int) with
 | none => exact ⟨Int.le_refl _,by decide⟩
 | some a =>
   have := h.2 _ (mget_mem hm)
   exact ⟨by show 0 <= a; omega,by show a <= _; omega⟩
theorem smM_s {M : Cn} (h : CnS M) : 0 <= smM M /\ smM M <= 1000000000000000000 := by
 have := smM_b h.2
 have := h.1
 omega
instance added_c {ls : List Lv} {w n : Nat} {am : Fr} {hist : List Int} {S : SV} [ft : FtF am] [j : Vw (lv rI) S hist] : Ct Tryz.prog 202 [adV ls w am,iv (n : Int),S] (SeS ls n hist /\ w <= 1000000 /\ bf am <= 1000) (lv rF (addR (mAt ls n hist) w am.rat)) := by
 refine ct3 (x := ()) (y := ()) (v := fun _ => adV ls w am) (v2 := fun _ => iv (n : Int)) ⟨fun u => u⟩ ⟨fun u => u⟩ j (ctI Tryz.call202 Tryz.func202 Tryz.ntmps202 rfl Tryz.results202 rfl [] fun h0 w0 ⟨hse,hw,hb⟩ => ?_)
 have hsd : (hist.length <= 4 /\ ∀ x ∈ hist,0 <= x /\ x <= 1000000) /\ n < ls.length /\ CnS (mAt ls n hist) := hse
 have hcn := cnt_b hse.2.2
 have hsm := smM_s hse.2.2
 have hrep : (List.replicate w fr0).length = w := List.length_replicate ..
 have hqw : bq ((w : Int) : Rat) <= 2 := bq_intc (by omega) (by omega)
 have hqs : bq ((smM (mAt ls n hist) : Int) : Rat) <= 2 := bq_intc (by omega) (by omega)
 have hba : bq am.rat <= bf am := bq_rat ft.h
 have hq3 := bq_mul am.rat ((w : Int) : Rat)
 have hq4 := bq_add ((smM (mAt ls n hist) : Int) : Rat) (am.rat * ((w : Int) : Rat))
 have hrl : (addR (mAt ls n hist) w am.rat).length = w := by unfold addR; rw [List.length_map,List.length_range]
 have hrg : ∀ k,k < w -> frK (addQ (mAt ls n hist) w am.rat k) = (addR (mAt ls n hist) w am.rat).getD k fr0 := fun k hk => by
  unfold addR
  rw [List.getD_eq_getElem?_getD,List.getElem?_map,List.getElem?_range hk]; rfl
 have hI : ∀ k : Nat,k < w -> I64z (k : Int) := fun k hk => ⟨by omega,by omega⟩
 repeat first | refine gDs 12 12 (by rfl) (by kernel_rfl) ?_ | refine nx ?_ | intro _
 rename_i u _
 refine gLp (fun k : Nat => [(36,iv k)]) (fun k => [rA rF 32 u (Go.Ear.rowAt (addR (mAt ls n hist) w am.rat) fr0 w k)]) (fun k => k <= w) (fun k => w - k) 0 (Nat.zero_le _) (fun k hk => ?_) (h2 := by rw [Go.Ear.rowAt_zero]; repeat' (first | trivial | rfl | refine And.intro ?_ ?_))
 have hrk : (Go.Ear.rowAt (addR (mAt ls n hist) w am.rat) fr0 w k).length = w := Go.Ear.rowAt_len hrl hk
 repeat first | refine nx ?_ | intro _
 refine gIf (fun c => ?_) fun c => ?_
 · have hck : 0 <= (mget (mAt ls n hist) (k : Int)).getD 0 /\ (mget (mAt ls n hist) (k : Int)).getD 0 <= 1000000000000 := hcn k
   have hik := hI k (by omega)
   have hqc : bq (((mget (mAt ls n hist) (k : Int)).getD 0 : Int) : Rat) <= 2 := bq_intc (by omega) (by omega)
   have hq5 := bq_add (((mget (mAt ls n hist) (k : Int)).getD 0 : Int) : Rat) am.rat
   have hset := Go.Ear.rowAt_set (d := fr0) (q := frK (addQ (mAt ls n hist) w am.rat k)) hrl (show k < w by omega) (hrg k (by omega))
   repeat first | refine gDs 13 11 (by rfl) (by kernel_rfl) ?_ | refine nx ?_ | intro _
   unfold addQ cnt at hset
   rw [hset]
   exact gBk (k + 1) (by omega) (by omega)
 · rw [Go.Ear.rowAt_end hrl (by omega)]
   repeat first | refine nx ?_ | intro _
   trivial
end Go.E3
