/- K16: a part of the proof about training through the decoder: how the program's functions run, and what they compute, for every input. -/
import Derived.Test.YtdciabokggfpbaaGreatK15
set_option linter.all false
set_option maxRecDepth 20000
set_option synthInstance.maxSize 1000
namespace Go.E3
open Go Go.Ear Go.Proofs
instance len32_c {n : Nat} : Ct Tryz.prog 174 [.cv (.int .u32 (n : Int))] (n < 4294967296) (iv (bitlen n)) := by
 refine ctI Tryz.call174 Tryz.func174 Tryz.ntmps174 rfl Tryz.results174 rfl [] fun h0 w0 hl => ?_
 have l16 := lo16_le n
 have l8 := lo8_le (hi16 n)
 have hb := hi_lt hl
 have hbl := bitlen_le hb
 repeat refine nx ?_
 refine gJ [(0,.cv (.int .u32 (hi16 n : Int))),(2,iv (lo16 n))] (fun c => ?_) (fun c => ?_) ?_ <;> repeat refine nx ?_
 · exact gM (by rw [hi16,lo16,if_pos c,if_pos c]; exact ⟨rfl,rfl,by trivial⟩)
 · exact gM (by rw [hi16,lo16,if_neg c,if_neg c]; exact ⟨rfl,rfl,by trivial⟩)
 refine gJ [(0,.cv (.int .u32 (hi8 (hi16 n) : Int))),(2,iv ((lo16 n + lo8 (hi16 n) : Nat) : Int))] (fun c => ?_) (fun c => ?_) ?_ <;> repeat refine nx ?_
 · exact gM (by rw [hi8,lo8,if_pos c,if_pos c]; exact ⟨rfl,rfl,by trivial⟩)
 · exact gM (by rw [hi8,lo8,if_neg c,if_neg c]; exact ⟨rfl,rfl,by trivial⟩)
 refine gTab (s := len8) (len8_at hb) ?_
 repeat refine nx ?_
 rw [len32_eq hl]
instance lz32_c {n : Nat} : Ct Tryz.prog 164 [.cv (.int .u32 (n : Int))] (n < 4294967296) (iv ((32 - bitlen n : Nat) : Int)) := by
 refine ctI Tryz.call164 Tryz.func164 Tryz.ntmps164 rfl Tryz.results164 rfl [] fun h0 w0 hl => ?_
 have hb := bitlen_lt (s := 32) hl
 repeat refine nx ?_
 omega
instance shift_c {a A m : Nat} {S : SV} [i : Vw nv S a] [p : Sz a A] : Ct Tryz.prog 165 [S,iv (m : Int)] (A <= 1073741824 /\ m <= 32) (nv (a * 2 ^ m)) := by
 refine ct1 i (ctI Tryz.call165 Tryz.func165 Tryz.ntmps165 rfl Tryz.results165 rfl [] fun h0 w0 ⟨hl,hm⟩ => ?_)
 have hp0 := p.h
 unfold sz at hp0
 have hpw := pow_le32 hm
 repeat first | refine nx ?_ | intro _
 rename_i v
 refine gLp (fun s : Nat × List Nat => [(14,iv s.1)]) (fun s => [rA rU 134 v s.2]) (fun s => s.1 <= (digs a).length /\ s.2.length = (digs a).length + 1 /\ Fit s.2 /\ s.2.getD s.1 0 < 2 ^ m /\ (∀ t,s.1 < t -> s.2.getD t 0 = 0) /\ val s.2 = val ((digs a).take s.1) * 2 ^ m) (fun s => (digs a).length - s.1) (0,List.replicate ((digs a).length + 1) 0) ⟨Nat.zero_le _,List.length_replicate,Fit.replicate _,by rw [getD_replicate]; exact Nat.pow_pos (by decide),fun t _ => getD_replicate _ t,by simp [val,val_replicate]⟩ fun ⟨j,out⟩ ⟨hi,hll,hf,h0,hz,hv⟩ => ?_
 have bdx := (digs_fit a).getD j
 have bdo := hf.getD j
 have ho := or_shl_lt (x := (digs a).getD j 0) hm h0
 dsimp only at *
 haveI : FtL out := ⟨hf⟩
 repeat first | refine nx ?_ | intro _
 refine gIf (fun c1 => ?_) fun c1 => ?_ <;> repeat first | refine nx ?_ | intro _
 · exact gBk (j + 1,(out.set j (out.getD j 0 ||| (digs a).getD j 0 * 2 ^ m % 4294967296)).set (j + 1) ((digs a).getD j 0 / 2 ^ (32 - m) % 4294967296)) ⟨by omega,by rw [List.length_set,List.length_set]; exact hll,(hf.set _ _ ho).set _ _ (Nat.mod_lt _ (by decide)),by
    dsimp only
    rw [getD_set_self (by rw [List.length_set]; omega),Nat.mod_eq_of_lt (Nat.lt_of_le_of_lt (Nat.div_le_self ..) bdx)]; exact hi_lt32 hm bdx,fun t ht => by
    rw [getD_set_ne (by omega),getD_set_ne (by omega)]; exact hz t (by omega),by
    dsimp only
    rw [Nat.mod_eq_of_lt (Nat.lt_of_le_of_lt (Nat.div_le_self ..) bdx)]
    exact shift_step (by omega) hm h0 (hz _ (by omega)) rfl hv⟩ (by dsimp only; omega)
 · rw [shift_close (by omega) hv]
instance over_c {a d A : Nat} {S : SV} [i : Vw nv S a] [p : Sz a A] : Ct Tryz.prog 163 [S,.cv (.int .u32 (d : Int))] (A <= 1073741824 /\ d ≠ 0 /\ d < 4294967296) (.tp [nv (a / d),.cv (.int .u32 ((a % d : Nat) : Int))]) := by
 refine ct1 i (ctI Tryz.call163 Tryz.func163 Tryz.ntmps163 rfl Tryz.results163 rfl [] fun h0 w0 ⟨hl,hd,hd2⟩ => ?_)
 have hp0 := p.h
 unfold sz at hp0
 repeat first | refine nx ?_ | intro _
 rename_i v
 refine gLp (fun s : Nat × Nat × List Nat => [(8,iv ((s.1 : Int) - 1)),(7,.cv (.int .u64 (s.2.1 : Int)))]) (fun s => [rA rU 134 v s.2.2]) (fun s => s.1 <= (digs a).length /\ s.2.1 < d /\ s.2.2.length = (digs a).length /\ Fit s.2.2 /\ val (s.2.2.drop s.1) * d + s.2.1 = val ((digs a).drop s.1)) (fun s => s.1) ((digs a).length,0,List.replicate (digs a).length 0) ⟨Nat.le_refl _,by dsimp only; omega,List.length_replicate,Fit.replicate _,by dsimp only; rw [List.drop_of_length_le (by simp),List.drop_of_length_le (Nat.le_refl _)]; simp [val]⟩ fun ⟨k,r,out⟩ ⟨hk,hr,hll,hf,hv⟩ => ?_
 dsimp only at *
 have bd := (digs_fit a).getD (k - 1)
 have eo := or_shift r ((digs a).getD (k - 1) 0) bd
 have rb : r * 2 ^ 32 + (digs a).getD (k - 1) 0 < d * 4294967296 := over_bd hr bd
 have rs := sh_bd hr hd2
 have ro := sh_bd2 hr hd2 bd
 haveI : FtL out := ⟨hf⟩
 repeat first | refine nx ?_ | intro _
 refine gIf (fun c1 => ?_) fun c1 => ?_ <;> repeat first | refine nx ?_ | intro _
 · exact gBk (k - 1,(r * 2 ^ 32 ||| (digs a).getD (k - 1) 0) % d,out.set (k - 1) ((r * 2 ^ 32 ||| (digs a).getD (k - 1) 0) / d % 4294967296)) ⟨by dsimp only; omega,Nat.mod_lt _ (by omega),by rw [List.length_set]; exact hll,hf.set _ _ (Nat.mod_lt _ (by decide)),by
    dsimp only
    rw [Nat.mod_eq_of_lt (by rw [eo]; exact Nat.div_lt_of_lt_mul rb),eo]; exact over_step (by omega) (by omega) (by omega) hv⟩ (by dsimp only; omega)
 · exact ⟨by rw [over_q (by omega) hr hv],by rw [Nat.mod_eq_of_lt (by omega),over_r (by omega) hr hv]⟩
instance down_c {a A m : Nat} {S : SV} [i : Vw nv S a] [p : Sz a A] : Ct Tryz.prog 168 [S,iv (m : Int)] (A <= 1073741824 /\ m <= 32) (nv (a / 2 ^ m)) := by
 refine ct1 i (ctI Tryz.call168 Tryz.func168 Tryz.ntmps168 rfl Tryz.results168 rfl [] fun h0 w0 ⟨hl,hm⟩ => ?_)
 have hp0 := p.h
 unfold sz at hp0
 have hpw := pow_le32 hm
 repeat first | refine nx ?_ | intro _
 rename_i v
 refine gLp (fun s : Nat × List Nat => [(12,iv s.1)]) (fun s => [rA rU 134 v s.2]) (fun s => s.1 <= (digs a).length /\ s.2.length = (digs a).length /\ Fit s.2 /\ val (s.2.take s.1) = a / 2 ^ m % B32 ^ s.1) (fun s => (digs a).length - s.1) (0,List.replicate (digs a).length 0) ⟨Nat.zero_le _,List.length_replicate,Fit.replicate _,by simp [val,Nat.mod_one]⟩ fun ⟨j,out⟩ ⟨hi,hll,hf,hv⟩ => ?_
 have bdx := (digs_fit a).getD j
 have bdy := (digs_fit a).getD (j + 1)
 have h32 : (2:Nat)^32 = 4294967296 := rfl
 have bdd := down_bd (a := a) (i := j) (by_ := m)
 dsimp only at *
 haveI : FtL out := ⟨hf⟩
 repeat first | refine nx ?_ | intro _
 refine gIf (fun c1 => ?_) fun c1 => ?_ <;> repeat first | refine nx ?_ | intro _
 · exact gBk (j + 1,out.set j (((digs a).getD j 0 ||| (digs a).getD (j + 1) 0 * 2 ^ 32) / 2 ^ m % 4294967296)) ⟨by omega,by rw [List.length_set]; exact hll,hf.set _ _ (Nat.mod_lt _ (by decide)),down_step (by omega) hm hv⟩ (by dsimp only; omega)
 · rw [down_close (by omega) hll hv]
instance shifted_c {a A m : Nat} {S : SV} {x : Int} {sd : Prop} [i : Vw nv S a] [p : Sz a A] [tn : TN x m sd] : Ct Tryz.prog 167 [S,iv x] (sd /\ A <= 1073741824 /\ m <= 1073741824) (nv (a * B32 ^ m)) := by
 refine ct1 i (ctI Tryz.call167 Tryz.func167 Tryz.ntmps167 rfl Tryz.results167 rfl [] fun h0 w0 ⟨hs,hl,hm⟩ => ?_)
 rw [tn.e hs]
 have hp0 := p.h
 have hz := sz_eq_zero (n := a)
 unfold sz at hp0 hz
 repeat first | refine nx ?_ | intro _
 refine gIf (fun c1 => ?_) fun c1 => ?_ <;> repeat first | refine nx ?_ | intro _
 · rw [hz.1 c1,Nat.zero_mul,digs_zero]
 · exact (digs_shift fun e => c1 (hz.2 e)).symm
set_option maxHeartbeats 2000000
instance div_c {a b A B : Nat} {S T : SV} [i : Vw nv S a] [j : Vw nv T b] [p : Sz a A] [q : Sz b B] : Ct Tryz.prog 150 [S,T] (A <= 536870912 /\ B <= 536870912 /\ b ≠ 0) (.tp [nv (a / b),nv (a % b)]) := by
 refine ct2 i j (ctI Tryz.call150 Tryz.func150 Tryz.ntmps150 rfl Tryz.results150 rfl [] fun h0 w0 ⟨hA,hB,hb0⟩ => ?_)
 have hsa := p.h
 have hsb := q.h
 have hpos := sz_pos hb0
 have hpa := p.h
 have hpb := q.h
 unfold sz at hsa hsb hpos
 repeat first | refine nx ?_ | intro _
 refine gIf (fun c1 => ?_) fun c1 => ?_ <;> repeat first | refine nx ?_ | intro _
 · have h := cmpN_neg.1 c1
   exact ⟨by rw [Nat.div_eq_of_lt h,digs_zero],by rw [Nat.mod_eq_of_lt h]⟩
 have hba : b <= a := by have := cmpN_neg (a := a) (b := b); omega
 have bdt := (digs_fit b).getD ((digs b).length - 1)
 have bd0 := (digs_fit b).getD 0
 by_cases c0 : (digs b).length = 1
 · have hd0 := digs_one c0
   have hml := Nat.mod_lt a (show 0 < (digs b).getD 0 0 by omega)
   refine gIf (fun c2 => ?_) fun c2 => absurd c0 c2
   repeat first | refine nx ?_ | intro _
   rw [hd0]; exact ⟨rfl,rfl⟩
 refine gIf (fun c2 => absurd c2 c0) fun c2 => ?_
 generalize hbl : bitlen ((digs b).getD ((digs b).length - 1) 0) = bl
 generalize hBY : 32 - bl = m
 have hm : m <= 32 := by omega
 have hv0 : b * 2 ^ m ≠ 0 := Nat.mul_ne_zero hb0 (Nat.pos_iff_ne_zero.1 (Nat.pow_pos (by decide)))
 have hsv : sz (b * 2 ^ m) <= B + 2 := Nat.le_trans (sz_shift hm) (by omega)
 have hsu : sz (a * 2 ^ m) <= A + 2 := Nat.le_trans (sz_shift hm) (by omega)
 have hvu : sz (b * 2 ^ m) <= sz (a * 2 ^ m) := sz_mono (Nat.mul_le_mul_right _ hba)
 have hini := div_lt0 hv0 hvu
 have hvp := sz_pos hv0
 have hvt := digs_top hv0
 generalize hVV : b * 2 ^ m = V at *
 generalize hUU : a * 2 ^ m = U at *
 have eV : (digs V).length = sz V := rfl
 have eU : (digs U).length = sz U := rfl
 generalize hVL : sz V = VL at *
 generalize hUL : sz U = UL at *
 haveI szU : Sz U (A + 2) := ⟨by omega⟩
 haveI szV : Sz V (B + 2) := ⟨by omega⟩
 repeat first | refine nx ?_ | intro _
 simp only [hbl,hBY,hVV,hUU,eV,eU]
 repeat first | refine nx ?_ | intro _
 rw [show ((UL : Int) - VL + 1) = ((UL - VL + 1 : Nat) : Int) by omega]
 repeat first | refine nx ?_ | intro _
 rename_i v
 refine gKp [14,13,12,11,10,8,5,4] ?_
 refine gLp (fun s : Nat × Nat × List Nat => [(14,iv ((s.1 : Int) - 1)),(13,nv s.2.1)]) (fun s => [rA rU 134 v s.2.2]) (fun s => s.1 <= UL - VL + 1 /\ s.2.2.length = UL - VL + 1 /\ Fit s.2.2 /\ (∀ t,t < s.1 -> s.2.2.getD t 0 = 0) /\ s.2.1 < V * B32 ^ s.1 /\ U = val s.2.2 * V + s.2.1) (fun s => s.1) (UL - VL + 1,U,List.replicate (UL - VL + 1) 0) ⟨Nat.le_refl _,List.length_replicate,Fit.replicate _,fun t _ => getD_replicate _ t,hini,by dsimp only; rw [val_replicate]; simp⟩ fun ⟨k,r,q⟩ ⟨hk,hl,hf,hz,hr,hu⟩ => ?_
 dsimp only at *
 have hru : r <= U := by rw [hu]; exact Nat.le_add_left ..
 have hsr := sz_mono hru
 have bdT := Fit.getD (digs_fit r) (k - 1 + VL)
 have bdW := Fit.getD (digs_fit r) (k - 1 + VL - 1)
 have bdV := Fit.getD (digs_fit V) (VL - 1)
 have htl := top_lt bdT bdW
 have h32 : (2:Nat)^32 = 4294967296 := rfl
 haveI : Sz r (A + 2) := ⟨by omega⟩
 haveI : FtL q := ⟨hf⟩
 repeat first | refine nx ?_ | intro _
 refine gIf (fun c3 => ?_) fun c3 => ?_ <;> repeat first | refine nx ?_ | intro _
 · refine gKp [16,14,13,12,11,10,8,5,4] ?_
   refine gLp (fun g : Nat => [(16,.cv (.int .u64 (g : Int)))]) (fun _ => []) (fun g => g <= 4294967295 /\ r < (g + 1) * (V * B32 ^ (k - 1))) (fun g => g) (min (((digs r).getD (k - 1 + VL) 0 * 2 ^ 32 ||| (digs r).getD (k - 1 + VL - 1) 0) / (digs V).getD (VL - 1) 0) 4294967295) ⟨Nat.min_le_right ..,by have := div_guess (r := r) (j := k - 1) hv0 (by rw [show k - 1 + 1 = k by omega]; exact hr); rwa [hVL] at this⟩ fun g ⟨hg1,hg2⟩ => ?_
   have hsg := sz_small (n := g) (by omega)
   have hsp := sz_mul V g
   have hsq := sz_shifted (a := V * g) (k := k - 1)
   haveI : Sz g 2 := ⟨hsg⟩
   haveI : Sz (V * g) (B + 4) := ⟨by omega⟩
   haveI : Sz (V * g * B32 ^ (k - 1)) (A + 8) := ⟨by omega⟩
   repeat first | refine nx ?_ | intro _
   refine gIf (fun c4 => ?_) fun c4 => ?_ <;> repeat first | refine nx ?_ | intro _
   · refine gIf (fun c5 => ?_) fun c5 => ?_ <;> repeat first | refine nx ?_ | intro _
     · exact gBk (g - 1) ⟨by omega,div_dec (by omega) (cmpN_pos.1 c5)⟩ (by omega)
     · have hle : V * g * B32 ^ (k - 1) <= r := by have := cmpN_pos (a := V * g * B32 ^ (k - 1)) (b := r); omega
       repeat first | refine nx ?_ | intro _
       exact gBk (k - 1,r - V * g * B32 ^ (k - 1),q.set (k - 1) (g % 4294967296)) ⟨by dsimp only; omega,by rw [List.length_set]; exact hl,hf.set _ _ (Nat.mod_lt _ (by decide)),fun t ht => by dsimp only at ht ⊢; rw [getD_set_ne (by omega)]; exact hz t (by omega),div_next hg2 hle,by
        dsimp only
        rw [Nat.mod_eq_of_lt (by omega)]
        exact div_set (by omega) (hz _ (by omega)) hu hle⟩ (by dsimp only; omega)
   · have hg0 : g = 0 := by omega
     exact gBk (k - 1,r,q) ⟨by dsimp only; omega,hl,hf,fun t ht => hz t (by dsimp only at ht; omega),by rw [hg0,Nat.zero_add,Nat.one_mul] at hg2; exact hg2,hu⟩ (by dsimp only; omega)
 · have hk0 : k = 0 := by omega
   have hrv : r < V := by rw [hk0,Nat.pow_zero,Nat.mul_one] at hr; exact hr
   subst hVV hUU
   have hq := div_q hb0 hu hrv
   rw [hq.1,hq.2]; exact ⟨rfl,rfl⟩
instance gcd_c {a b A B : Nat} {S T : SV} [i : Vw nv S a] [j : Vw nv T b] [p : Sz a A] [q : Sz b B] : Ct Tryz.prog 149 [S,T] (A <= 536870912 /\ B <= 536870912) (nv (Nat.gcd a b)) := by
 refine ct2 i j (ctI Tryz.call149 Tryz.func149 Tryz.ntmps149 rfl Tryz.results149 rfl [] fun h0 w0 ⟨hA,hB⟩ => ?_)
 have hsa := p.h
 have hsb := q.h
 repeat first | refine nx ?_ | intro _
 refine gLp (fun s : Nat × Nat => [(0,nv s.1),(1,nv s.2)]) (fun _ => []) (fun s => sz s.1 <= 536870912 /\ sz s.2 <= 536870912 /\ Nat.gcd s.1 s.2 = Nat.gcd a b) (fun s => s.2) (a,b) ⟨by dsimp only; omega,by dsimp only; omega,rfl⟩ fun ⟨x,y⟩ ⟨hx,hy,hg⟩ => ?_
 dsimp only at *
 have hyz := sz_eq_zero (n := y)
 unfold sz at hyz
 haveI : Sz x 536870912 := ⟨hx⟩
 haveI : Sz y 536870912 := ⟨hy⟩
 repeat first | refine nx ?_ | intro _
 refine gIf (fun c => ?_) fun c => ?_
 · have hy0 : y ≠ 0 := by omega
   have hml := Nat.mod_lt x (Nat.pos_of_ne_zero hy0)
   repeat first | refine nx ?_ | intro _
   exact gBk (y,x % y) ⟨hy,Nat.le_trans (sz_mono (Nat.le_of_lt hml)) hy,by rw [Nat.gcd_comm, <- Nat.gcd_rec,Nat.gcd_comm]; exact hg⟩ hml
 · repeat first | refine nx ?_ | intro _
   rw [<- hg,hyz.1 (by omega),Nat.gcd_zero_right]
instance reduced_c {s : Bool} {n d A B : Nat} {S T : SV} [i : Vw nv S n] [j : Vw nv T d] [p : Sz n A] [q : Sz d B] : Ct Tryz.prog 95 [.cv (.bool s),S,T] (A <= 536870912 /\ B <= 536870912 /\ d ≠ 0) (qv (ratOf s n d)) := by
 refine ct3 (v := bv) ⟨fun u => u⟩ i j (ctI Tryz.call95 Tryz.func95 Tryz.ntmps95 rfl Tryz.results95 rfl [] fun h0 w0 ⟨hA,hB,hd⟩ => ?_)
 have hsa := p.h
 have hsb := q.h
 have hgp := gcd_pos' (n := n) hd
 have hgs := sz_mono (Nat.gcd_le_right n (Nat.pos_of_ne_zero hd))
 haveI : Sz (Nat.gcd n d) B := ⟨Nat.le_trans hgs hsb⟩
 repeat first | refine nx ?_ | intro _
 exact ⟨by rw [digs_len_pos]; exact ratOf_neg hd,by rw [ratOf_abs hd],by rw [ratOf_den hd]⟩
instance (priority := low) {a b A B : Nat} [i : Sz a A] [j : Sz b B] : Sz (a * b) (A + B) := ⟨Nat.le_trans (sz_mul a b) (Nat.add_le_add i.h j.h)⟩
instance (priority := low) {a b A B : Nat} [i : Sz a A] [j : Sz b B] : Sz (a + b) (max A B + 1) := ⟨by have := sz_add a b; have := i.h; have := j.h; omega⟩
instance (priority := low) {a b A : Nat} [i : Sz a A] : Sz (a - b) A := ⟨Nat.le_trans (sz_mono (Nat.sub_le ..)) i.h⟩
instance (priority := low) {a b A : Nat} [i : Sz a A] : Sz (a / b) A := ⟨Nat.le_trans (sz_mono (Nat.div_le_self ..)) i.h⟩
instance : Sz 1 1 := ⟨by rw [sz_one]; exact Nat.le_refl _⟩
instance {q : Rat} : Sz q.num.natAbs (bq q) := ⟨bq_num q⟩
instance {q : Rat} : Sz q.den (bq q) := ⟨bq_den q⟩
instance take_c {f : Fr} {q : Rat} {b : Nat} {S : SV} [i : VF S f q b] : Ct Tryz.prog 40 [S] (b <= 536870912) (qv q) := by
 have v := i.v
 have t := i.t
 obtain rfl := i.r
 obtain rfl := i.b
 refine ct1 v (ctI Tryz.call40 Tryz.func40 Tryz.ntmps40 rfl Tryz.results40 rfl [] fun h0 w0 h1 => ?_)
 have hbn := bf_n f
 have hbd := bf_d f
 haveI : Sz (val f.n) f.n.length := ⟨sz_len t.h.1⟩
 haveI : Sz (val f.d) f.d.length := ⟨sz_len t.h.2⟩
 have hlz := len_zero (n := val f.d)
 repeat first | refine nx ?_ | intro _
 refine gIf (fun c => ?_) fun c => ?_
 · haveI : Sz 1 1 := ⟨by rw [sz_one]; exact Nat.le_refl _⟩
   repeat first | refine nx ?_ | intro _
   rw [Fr.rat_z c]; exact ⟨rfl,rfl,rfl⟩
 · have hd0 : val f.d ≠ 0 := fun e => c (hlz.2 e)
   repeat first | refine nx ?_ | intro _
   rw [Fr.rat_nz c]; exact ⟨rfl,rfl,rfl⟩
instance zero_c {q : Rat} {S : SV} [i : Vw qv S q] : Ct Tryz.prog 96 [S] True (bv (decide (q = 0))) := by
 refine ct1 i (ctI Tryz.call96 Tryz.func96 Tryz.ntmps96 rfl Tryz.results96 rfl [] fun h0 w0 _ => ?_)
 repeat first | refine nx ?_ | intro _
 exact decide_eq_decide.2 num_zero
instance sign_c {q : Rat} {S : SV} [i : Vw qv S q] : Ct Tryz.prog 41 [S] True (iv (sgQ q)) := by
 refine ct1 i (ctI Tryz.call41 Tryz.func41 Tryz.ntmps41 rfl Tryz.results41 rfl [] fun h0 w0 _ => ?_)
 repeat first | refine nx ?_ | intro _
 refine gIf (fun c => ?_) fun c => ?_ <;> repeat first | refine nx ?_ | intro _
 · simp [sgQ,c]
 refine gIf (fun d => ?_) fun d => ?_ <;> repeat first | refine nx ?_ | intro _ 
 · rw [sgQ,if_neg c,if_pos d]
 · rw [sgQ,if_neg c,if_neg d]
instance minus_c {q : Rat} {S : SV} [i : Vw qv S q] : Ct Tryz.prog 44 [S] True (qv (-q)) := by
 refine ct1 i (ctI Tryz.call44 Tryz.func44 Tryz.ntmps44 rfl Tryz.results44 rfl [] fun h0 w0 _ => ?_)
 repeat first | refine nx ?_ | intro _
 exact ⟨neg_mk,by rw [<- neg_abs],by rw [Rat.neg_den]⟩
instance inverse_c {q : Rat} {S : SV} [i : Vw qv S q] : Ct Tryz.prog 124 [S] (q ≠ 0) (qv q⁻¹) := by
 refine ct1 i (ctI Tryz.call124 Tryz.func124 Tryz.ntmps124 rfl Tryz.results124 rfl [] fun h0 w0 hq => ?_)
 repeat first | refine nx ?_ | intro _
 exact ⟨inv_sign,by rw [inv_abs hq],by rw [inv_den hq]⟩
instance nmul_c {a b : Rat} {S T : SV} [i : Vw qv S a] [j : Vw qv T b] : Ct Tryz.prog 99 [S,T] (bq a <= 134217728 /\ bq b <= 134217728) (qv (a * b)) := by
 refine ct2 i j (ctI Tryz.call99 Tryz.func99 Tryz.ntmps99 rfl Tryz.results99 rfl [] fun h0 w0 ⟨h1,h2⟩ => ?_)
 have hdab := Nat.mul_ne_zero a.den_nz b.den_nz
 repeat first | refine nx ?_ | intro _
 rw [mul_mk]; exact ⟨rfl,rfl,rfl⟩
instance nadd_c {a b : Rat} {S T : SV} [i : Vw qv S a] [j : Vw qv T b] : Ct Tryz.prog 43 [S,T] (bq a <= 134217728 /\ bq b <= 134217728) (qv (a + b)) := by
 refine ct2 i j (ctI Tryz.call43 Tryz.func43 Tryz.ntmps43 rfl Tryz.results43 rfl [] fun h0 w0 ⟨h1,h2⟩ => ?_)
 have hdab := Nat.mul_ne_zero a.den_nz b.den_nz
 repeat first | refine nx ?_ | intro _
 refine gIf (fun c => ?_) fun c => ?_
 · repeat first | refine nx ?_ | intro _
   rw [add_same (by simpa using c)]; exact ⟨rfl,rfl,rfl⟩
 repeat first | refine nx ?_ | intro _
 refine gIf (fun d => ?_) fun d => ?_
 · have hlt := Nat.le_of_lt (cmpN_neg.1 d)
   repeat first | refine nx ?_ | intro _
   rw [add_lt (by simpa using c) hlt]; exact ⟨rfl,rfl,rfl⟩
 · have hge := Nat.le_of_not_lt (fun e => absurd (cmpN_neg.2 e) d)
   repeat first | refine nx ?_ | intro _
   rw [add_ge (by simpa using c) hge]; exact ⟨rfl,rfl,rfl⟩
instance give_c {q : Rat} {S : SV} [i : Vw qv S q] : Ct Tryz.prog 87 [S] (bq q <= 1073741824) (kk q) := by
 refine ct1 i (ctI Tryz.call87 Tryz.func87 Tryz.ntmps87 rfl Tryz.results87 rfl [] fun h0 w0 h1 => ?_)
 have hq1 := bq_num q
 have hq2 := bq_den q
 unfold sz at hq1 hq2
 repeat first | refine nx ?_ | intro _
 refine gIf (fun c => ?_) fun c => ?_
 · repeat first | refine nx ?_ | intro _
   exact ⟨rfl,rfl,(if_neg fun e => c (cmpN_one.2 e)).symm⟩
 · repeat first | refine nx ?_ | intro _
   exact ⟨rfl,rfl,if_pos (cmpN_one.1 (by omega))⟩
instance whole_c {n : Int} : Ct Tryz.prog 98 [iv n] (-9223372036854775808 <= n /\ n <= 9223372036854775807) (qv (n : Rat)) := by
 refine ctI Tryz.call98 Tryz.func98 Tryz.ntmps98 rfl Tryz.results98 rfl [] fun h0 w0 ⟨h1,h2⟩ => ?_
 repeat first | refine nx ?_ | intro _
 refine gIf (fun c => ?_) fun c => ?_
 · repeat first | refine nx ?_ | intro _
   rw [Rat.num_intCast,Rat.den_intCast,show (-(n + 1)).toNat + 1 = n.natAbs by omega]; exact ⟨(decide_eq_true c).symm,rfl,rfl⟩
 · repeat first | refine nx ?_ | intro _
   rw [Rat.num_intCast,Rat.den_intCast,show n.toNat = n.natAbs by omega]; exact ⟨(decide_eq_false c).symm,rfl,rfl⟩
instance floor_c {q : Rat} {S : SV} [i : Vw qv S q] : Ct Tryz.prog 123 [S] (bq q <= 536870912) (qv (q.floor : Rat)) := by
 refine ct1 i (ctI Tryz.call123 Tryz.func123 Tryz.ntmps123 rfl Tryz.results123 rfl [] fun h0 w0 h1 => ?_)
 have hqd := q.den_nz
 repeat first | refine nx ?_ | intro _
 by_cases c : q.num < 0 /\ 0 < q.num.natAbs % q.den
 · refine gIf (fun d => ?_) fun d => ?_
   · repeat first | refine nx ?_ | intro _
     have ff := floor_fin (.inl ⟨c.1,c.2,rfl⟩) rfl
     rw [digs_len_pos]; exact ⟨ff.1,by rw [ff.2],by rw [<- floor_den]⟩
   · exact absurd ⟨c.1,len_pos.2 c.2⟩ d
 · refine gIf (fun d => ?_) fun d => ?_
   · exact absurd ⟨d.1,len_pos.1 d.2⟩ c
   · repeat first | refine nx ?_ | intro _
     have ff := floor_fin (.inr ⟨c,rfl⟩) rfl
     rw [digs_len_pos]; exact ⟨ff.1,by rw [ff.2],by rw [<- floor_den]⟩
end Go.E3
