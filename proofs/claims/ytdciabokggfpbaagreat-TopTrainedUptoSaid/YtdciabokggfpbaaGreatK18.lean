/- K18: a part of the proof about training through the decoder: how the program's functions run, and what they compute, for every input. -/
import Derived.Test.YtdciabokggfpbaaGreatK17
set_option linter.all false
set_option maxRecDepth 20000
set_option maxHeartbeats 2000000
set_option synthInstance.maxSize 1000
namespace Go.E3
open Go Go.Ear Go.Proofs
instance rminus_c {a b A B : Nat} {S T : SV} [i : Vw nv S a] [j : Vw nv T b] [p : Sz a A] [q : Sz b B] : Ct Tryz.prog 130 [S,T] (A <= 1073741824 /\ B <= 1073741824 /\ b <= a) (nv (a - b)) := by
 refine ct2 i j (ctI Tryz.call130 Tryz.func130 Tryz.ntmps130 rfl Tryz.results130 rfl [] fun h0 w0 hl => ?_)
 have hp0 := p.h
 have hp1 := q.h
 have hsz := sz_mono hl.2.2
 unfold sz at hp0 hp1 hsz
 repeat first | refine nx ?_ | intro _
 refine gNl rU 134 ?_
 refine gLp (fun s : Nat × Nat × List Nat × Value => [(7,iv s.1),(6,.cv (.int .u64 (s.2.1 : Int))),(5,ov s.2.2.2)]) (fun s => [rA rU 134 s.2.2.2 s.2.2.1]) (fun s => s.1 <= (digs a).length /\ s.2.2.1.length = s.1 /\ Fit s.2.2.1 /\ s.2.1 <= 1 /\ val s.2.2.1 + val ((digs b).take s.1) = val ((digs a).take s.1) + s.2.1 * B32 ^ s.1) (fun s => (digs a).length - s.1) (0,0,[],.slice none 0 0) ⟨Nat.zero_le _,rfl,(fun _ hx => by cases hx),Nat.zero_le _,by simp [val]⟩ fun ⟨k,br,out,v⟩ ⟨hk,hll,hf,hb,hv⟩ => ?_
 have bda := (digs_fit a).getD k
 have bdb := (digs_fit b).getD k
 dsimp only at *
 haveI : FtL out := ⟨hf⟩
 repeat first | refine nx ?_ | intro _
 refine gIf (fun c1 => ?_) fun c1 => ?_ <;> repeat first | refine nx ?_ | intro _
 · refine gJ [(8,.cv (.int .u64 ((br + (digs b).getD k 0 : Nat) : Int)))] (fun c2 => ?_) (fun c2 => ?_) ?_ <;> repeat first | refine nx ?_ | intro _
   · exact gM
   · exact gM (by rw [getD_ge (l := digs b) (by omega)]; exact ⟨rfl,by trivial⟩)
   · refine gIf (fun c2 => ?_) fun c2 => ?_ <;> repeat first | refine nx ?_ | intro _
     · rename_i v'
       exact gBk (k + 1,1,out ++ [((digs a).getD k 0 + 4294967295 + 1 - (br + (digs b).getD k 0)) % 4294967296],v') ⟨by omega,by dsimp only; rw [List.length_append,hll]; rfl,Fit.snoc hf (Nat.mod_lt _ (by decide)),Nat.le_refl _,by dsimp only; rw [Nat.mod_eq_of_lt (by omega)]; exact minus_step1 hll (by omega) (by omega) (by omega) hv (by omega)⟩ (by dsimp only; omega)
     · rename_i v'
       exact gBk (k + 1,0,out ++ [((digs a).getD k 0 - (br + (digs b).getD k 0)) % 4294967296],v') ⟨by omega,by dsimp only; rw [List.length_append,hll]; rfl,Fit.snoc hf (Nat.mod_lt _ (by decide)),Nat.zero_le _,by dsimp only; rw [Nat.mod_eq_of_lt (by omega)]; exact minus_step2 hll (by omega) (by omega) (by omega) hv⟩ (by dsimp only; omega)
 · rw [minus_close (by omega) hll hf (by omega) hl.2.2 hv]
instance rtimes_c {a b A B : Nat} {S T : SV} [i : Vw nv S a] [j : Vw nv T b] [p : Sz a A] [q : Sz b B] : Ct Tryz.prog 151 [S,T] (A <= 1073741824 /\ B <= 1073741824) (nv (a * b)) := by
 refine ct2 i j (ctI Tryz.call151 Tryz.func151 Tryz.ntmps151 rfl Tryz.results151 rfl [] fun h0 w0 hl => ?_)
 have hp0 := p.h
 have hp1 := q.h
 unfold sz at hp0 hp1
 repeat first | refine nx ?_ | intro _
 rename_i v
 generalize hLA : (digs a).length = LA at *
 generalize hLB : (digs b).length = LB at *
 refine gLp (fun s : Nat × List Nat => [(6,iv s.1)]) (fun s => [rA rU 134 v s.2]) (fun s => s.1 <= LA /\ s.2.length = LA + LB /\ Fit s.2 /\ (∀ t,s.1 + LB <= t -> s.2.getD t 0 = 0) /\ val s.2 = val ((digs a).take s.1) * b) (fun s => LA - s.1) (0,List.replicate (LA + LB) 0) ⟨Nat.zero_le _,List.length_replicate,Fit.replicate _,fun t _ => getD_replicate _ t,by simp [val,val_replicate]⟩ fun ⟨x,out⟩ ⟨hi,hll,hf,hz,hv⟩ => ?_
 have bdx := (digs_fit a).getD x
 dsimp only at *
 haveI : FtL out := ⟨hf⟩
 repeat first | refine nx ?_ | intro _
 refine gIf (fun c1 => ?_) fun c1 => ?_ <;> repeat first | refine nx ?_ | intro _
 · refine gLp (fun s : Nat × Nat × List Nat => [(8,iv s.1),(7,.cv (.int .u64 (s.2.1 : Int)))]) (fun s => [rA rU 134 v s.2.2]) (fun s => s.1 <= LB /\ s.2.2.length = LA + LB /\ Fit s.2.2 /\ s.2.1 < 4294967296 /\ (∀ t,x + LB <= t -> s.2.2.getD t 0 = 0) /\ val s.2.2 + s.2.1 * B32 ^ (x + s.1) = val ((digs a).take x) * b + (digs a).getD x 0 * val ((digs b).take s.1) * B32 ^ x) (fun s => LB - s.1) (0,0,out) ⟨Nat.zero_le _,hll,hf,Nat.lt_of_lt_of_le (Nat.zero_lt_one) (by decide),hz,by rw [hv]; simp [val]⟩ fun ⟨y,c,o⟩ ⟨hj,hl2,hf2,hc,hz2,hv2⟩ => ?_
   have bdy := (digs_fit b).getD y
   have bdo := hf2.getD (x + y)
   have bxy := mul_bd bdx bdy
   dsimp only at *
   repeat first | refine nx ?_ | intro _
   refine gIf (fun c2 => ?_) fun c2 => ?_ <;> repeat first | refine nx ?_ | intro _
   · have ecc : c + o.getD (x + y) 0 + (digs a).getD x 0 * (digs b).getD y 0 = c + ((digs a).getD x 0 * (digs b).getD y 0 + o.getD (x + y) 0) := by omega
     rw [ecc]
     exact gBk (y + 1,(c + ((digs a).getD x 0 * (digs b).getD y 0 + o.getD (x + y) 0)) / 2 ^ 32,o.set (x + y) ((c + ((digs a).getD x 0 * (digs b).getD y 0 + o.getD (x + y) 0)) % 4294967296)) ⟨by omega,by rw [List.length_set]; exact hl2,hf2.set _ _ (Nat.mod_lt _ (by decide)),by dsimp only; have : (2:Nat)^32 = 4294967296 := rfl; omega,fun t ht => by rw [getD_set_ne (by omega)]; exact hz2 t ht,mul_inner (by omega) hv2⟩ (by dsimp only; omega)
   · exact gBk (x + 1,o.set (x + (digs b).length) (c % 4294967296)) ⟨by omega,by rw [List.length_set]; exact hl2,hf2.set _ _ (Nat.mod_lt _ (by decide)),fun t ht => by rw [getD_set_ne (by omega)]; exact hz2 t (by omega),by
      rw [Nat.mod_eq_of_lt hc]
      exact mul_outer (by omega) (by omega) (hz2 _ (by omega)) hv2⟩ (by dsimp only; omega)
 · rw [hv,val_take_all (by omega),val_digs]
instance rhalf_c {a A : Nat} {S : SV} [i : Vw nv S a] [p : Sz a A] : Ct Tryz.prog 128 [S] (A <= 1073741824) (nv (a / 2)) := by
 refine ct1 i (ctI Tryz.call128 Tryz.func128 Tryz.ntmps128 rfl Tryz.results128 rfl [] fun h0 w0 hl => ?_)
 have hp0 := p.h
 unfold sz at hp0
 repeat first | refine nx ?_ | intro _
 rename_i v
 refine gLp (fun s : Nat × Nat × List Nat => [(5,iv ((s.1 : Int) - 1)),(4,.cv (.int .u32 (s.2.1 : Int)))]) (fun s => [rA rU 134 v s.2.2]) (fun s => s.1 <= (digs a).length /\ s.2.1 < 2 /\ s.2.2.length = (digs a).length /\ Fit s.2.2 /\ val (s.2.2.drop s.1) * 2 + s.2.1 = val ((digs a).drop s.1)) (fun s => s.1) ((digs a).length,0,List.replicate (digs a).length 0) ⟨Nat.le_refl _,by dsimp only; omega,List.length_replicate,Fit.replicate _,by dsimp only; rw [List.drop_of_length_le (by simp),List.drop_of_length_le (Nat.le_refl _)]; simp [val]⟩ fun ⟨k,c,out⟩ ⟨hk,hc,hll,hf,hv⟩ => ?_
 have bd := (digs_fit a).getD (k - 1)
 have h31 : (2:Nat)^31 = 2147483648 := rfl
 have h21 : (2:Nat)^1 = 2 := rfl
 dsimp only at *
 have hlt := half_lt (x := (digs a).getD (k - 1) 0) (c := c) bd hc
 have hand := and1_lt ((digs a).getD (k - 1) 0)
 haveI : FtL out := ⟨hf⟩
 repeat first | refine nx ?_ | intro _
 refine gIf (fun c1 => ?_) fun c1 => ?_ <;> repeat first | refine nx ?_ | intro _
 · rw [Nat.mod_eq_of_lt (show c * 2 ^ 31 < 4294967296 by omega)]
   exact gBk (k - 1,(digs a).getD (k - 1) 0 &&& 1,out.set (k - 1) ((digs a).getD (k - 1) 0 / 2 ^ 1 ||| c * 2 ^ 31)) ⟨by dsimp only; omega,hand,by rw [List.length_set]; exact hll,hf.set _ _ hlt,half_step (by omega) (by omega) (by omega) hc bd hv⟩ (by dsimp only; omega)
 · rw [over_q (by omega) hc hv]
instance rbits_c {a A : Nat} {S : SV} [i : Vw nv S a] [p : Sz a A] : Ct Tryz.prog 132 [S] (A <= 1073741824) (iv (bitlen a)) := by
 refine ct1 i (ctI Tryz.call132 Tryz.func132 Tryz.ntmps132 rfl Tryz.results132 rfl [] fun h0 w0 hl => ?_)
 have hp0 := p.h
 unfold sz at hp0
 have hz := sz_eq_zero (n := a)
 unfold sz at hz
 repeat first | refine nx ?_ | intro _
 refine gIf (fun c1 => ?_) fun c1 => ?_ <;> repeat first | refine nx ?_ | intro _
 · rw [hz.1 c1,bitlen_zero]; rfl
 rw [show ((digs a).length : Int) - 1 = (((digs a).length - 1 : Nat) : Int) by omega]
 repeat first | refine nx ?_ | intro _
 have hd := (digs_fit a).getD ((digs a).length - 1)
 refine gLp (fun s : Nat × Nat => [(3,iv s.1),(4,.cv (.int .u32 (s.2 : Int)))]) (fun _ => []) (fun s => s.1 + bitlen s.2 = bitlen a /\ s.2 < 4294967296) (fun s => s.2) (32 * ((digs a).length - 1),(digs a).getD ((digs a).length - 1) 0) ⟨(bitlen_digs (by omega)).symm,hd⟩ fun ⟨m,x⟩ ⟨hm,hx⟩ => ?_
 dsimp only at *
 have hbs := fun h => bits_step (x := x) h
 have hbz := bitlen_sz a
 unfold sz at hbz
 have h21 : (2:Nat)^1 = 2 := rfl
 by_cases c : 0 < x
 · have hb1 := hbs c
   repeat first | refine nx ?_ | intro _
   refine gIf (fun _ => ?_) fun d => absurd c d
   repeat first | refine nx ?_ | intro _
   exact gBk (m + 1,x / 2 ^ 1) ⟨by dsimp only; omega,by dsimp only; omega⟩ (by dsimp only; omega)
 · repeat first | refine nx ?_ | intro _
   refine gIf (fun d => absurd d c) fun _ => ?_
   repeat first | refine nx ?_ | intro _
   rw [bits_end hm (by omega)]
instance reven_c {a A : Nat} {S : SV} [i : Vw nv S a] [p : Sz a A] : Ct Tryz.prog 127 [S] (A <= 1073741824) (bv (decide (a % 2 = 0))) := by
 refine ct1 i (ctI Tryz.call127 Tryz.func127 Tryz.ntmps127 rfl Tryz.results127 rfl [] fun h0 w0 hl => ?_)
 have hp0 := p.h
 unfold sz at hp0
 have hz := sz_eq_zero (n := a)
 unfold sz at hz
 have hde := digs_even (a := a)
 repeat first | refine nx ?_ | intro _
 rw [Bool.eq_iff_iff]; simp only [Bool.or_eq_true,decide_eq_true_eq]; constructor <;> intro hh <;> omega
instance rone_c {a A : Nat} {S : SV} [i : Vw nv S a] [p : Sz a A] : Ct Tryz.prog 80 [S] (A <= 1073741824) (bv (decide (a = 1))) := by
 refine ct1 i (ctI Tryz.call80 Tryz.func80 Tryz.ntmps80 rfl Tryz.results80 rfl [] fun h0 w0 hl => ?_)
 have hp0 := p.h
 unfold sz at hp0
 repeat first | refine nx ?_ | intro _
 exact one_eq
instance : Vw nv (lv rU [1]) 1 := ⟨fun u => by unfold nv; rw [digs_lit1]; exact u⟩
instance rdivide_c {a b A B : Nat} {S T : SV} [i : Vw nv S a] [j : Vw nv T b] [p : Sz a A] [q : Sz b B] : Ct Tryz.prog 82 [S,T] (A <= 536870912 /\ B <= 536870912 /\ b ≠ 0) (.tp [nv (a / b),nv (a % b)]) := by
 refine ct2 i j (ctI Tryz.call82 Tryz.func82 Tryz.ntmps82 rfl Tryz.results82 rfl [] fun h0 w0 ⟨hA,hB,hb0⟩ => ?_)
 have hsa := p.h
 have hsb := q.h
 have hpos := sz_pos hb0
 have hbz := bitlen_sz a
 unfold sz at hsa hsb hpos hbz
 repeat first | refine nx ?_ | intro _
 rename_i v
 by_cases c0 : (digs b).length = 1
 · have hd0 := digs_one c0
   have hdl := (digs_fit b).getD 0
   refine gIf (fun c2 => ?_) fun c2 => absurd c0 c2
   repeat first | refine nx ?_ | intro _
   refine gLp (fun s : Nat × Nat × List Nat => [(8,iv ((s.1 : Int) - 1)),(7,.cv (.int .u64 (s.2.1 : Int)))]) (fun s => [rA rU 134 v s.2.2]) (fun s => s.1 <= (digs a).length /\ s.2.1 < (digs b).getD 0 0 /\ s.2.2.length = (digs a).length /\ Fit s.2.2 /\ val (s.2.2.drop s.1) * (digs b).getD 0 0 + s.2.1 = val ((digs a).drop s.1)) (fun s => s.1) ((digs a).length,0,List.replicate (digs a).length 0) ⟨Nat.le_refl _,by dsimp only; omega,List.length_replicate,Fit.replicate _,by dsimp only; rw [List.drop_of_length_le (by simp),List.drop_of_length_le (Nat.le_refl _)]; simp [val]⟩ fun ⟨k,r,out⟩ ⟨hk,hr,hll,hf,hv⟩ => ?_
   dsimp only at *
   have bd := (digs_fit a).getD (k - 1)
   have eo := or_shift r ((digs a).getD (k - 1) 0) bd
   have rb : r * 2 ^ 32 + (digs a).getD (k - 1) 0 < (digs b).getD 0 0 * 4294967296 := over_bd hr bd
   have rs := sh_bd hr hdl
   have ro := sh_bd2 hr hdl bd
   haveI : FtL out := ⟨hf⟩
   repeat first | refine nx ?_ | intro _
   refine gIf (fun c1 => ?_) fun c1 => ?_ <;> repeat first | refine nx ?_ | intro _
   · exact gBk (k - 1,(r * 2 ^ 32 ||| (digs a).getD (k - 1) 0) % (digs b).getD 0 0,out.set (k - 1) ((r * 2 ^ 32 ||| (digs a).getD (k - 1) 0) / (digs b).getD 0 0 % 4294967296)) ⟨by dsimp only; omega,Nat.mod_lt _ (by omega),by rw [List.length_set]; exact hll,hf.set _ _ (Nat.mod_lt _ (by decide)),by
      dsimp only
      rw [Nat.mod_eq_of_lt (by rw [eo]; exact Nat.div_lt_of_lt_mul rb),eo]; exact over_step (by omega) (by omega) (by omega) hv⟩ (by dsimp only; omega)
   · exact ⟨by rw [over_q (by omega) hr hv]; exact congrArg (fun x => digs (a / x)) hd0,by rw [Nat.mod_eq_of_lt (by omega),val_one,over_r (by omega) hr hv]; exact congrArg (fun x => digs (a % x)) hd0⟩
 refine gIf (fun c2 => absurd c2 c0) fun c2 => ?_
 repeat first | refine nx ?_ | intro _
 have dz : (digs 0) = [] := digs_zero
 refine gLp (fun s : Nat × List Nat => [(10,iv ((s.1 : Int) - 1)),(9,nv (a / 2 ^ s.1 % b))]) (fun s => [rA rU 134 v s.2]) (fun s => s.1 <= bitlen a /\ s.2.length = (digs a).length /\ Fit s.2 /\ val s.2 = 2 ^ s.1 * (a / 2 ^ s.1 / b)) (fun s => s.1) (bitlen a,List.replicate (digs a).length 0) (h1 := ⟨trivial,by dsimp only; rw [Nat.div_eq_of_lt (lt_bitlen a),Nat.zero_mod,dz],trivial⟩) ⟨Nat.le_refl _,List.length_replicate,Fit.replicate _,by dsimp only; rw [val_replicate,Nat.div_eq_of_lt (lt_bitlen a)]; simp⟩ fun ⟨k,out⟩ ⟨hk,hl,hf,hv⟩ => ?_
 dsimp only at *
 have hml := Nat.mod_lt (a / 2 ^ k) (Nat.pos_of_ne_zero hb0)
 have hs1 := Nat.le_trans (sz_mono (Nat.le_of_lt hml)) q.h
 have hbd := (digs_fit a).getD ((k - 1) / 32)
 have bdo := hf.getD ((k - 1) / 32)
 have hsh := one_shl_lt (k - 1)
 have hbit := bit_at a (k - 1)
 have hlt2 : (digs a).getD ((k - 1) / 32) 0 / 2 ^ ((k - 1) % 32) < 4294967296 := Nat.lt_of_le_of_lt (Nat.div_le_self ..) hbd
 haveI : Sz (a / 2 ^ k % b) B := ⟨hs1⟩
 haveI : FtL out := ⟨hf⟩
 repeat first | refine nx ?_ | intro _
 refine gIf (fun c1 => ?_) fun c1 => ?_
 · repeat first | refine nx ?_ | intro _
   refine gJ [(9,nv (a / 2 ^ k % b + a / 2 ^ k % b + a / 2 ^ (k - 1) % 2))] (fun c3 => ?_) (fun c3 => ?_) ?_ <;> repeat first | refine nx ?_ | intro _
   · exact gM (by rw [<- hbit,c3]; exact ⟨rfl,by trivial⟩)
   · exact gM (by rw [show a / 2 ^ (k - 1) % 2 = 0 by rw [<- hbit]; omega]; exact ⟨rfl,by trivial⟩)
   · have hdh := div_halves (a := a) (k := k) (by omega)
     have hsx : sz (a / 2 ^ k % b + a / 2 ^ k % b + a / 2 ^ (k - 1) % 2) <= B + 2 := by
      have h1 := sz_add (a / 2 ^ k % b + a / 2 ^ k % b) (a / 2 ^ (k - 1) % 2)
      have h2 := sz_add (a / 2 ^ k % b) (a / 2 ^ k % b)
      have h3 := sz_small (n := a / 2 ^ (k - 1) % 2) (by omega)
      omega
     haveI : Sz (a / 2 ^ k % b + a / 2 ^ k % b + a / 2 ^ (k - 1) % 2) (B + 2) := ⟨hsx⟩
     have hdk := cmpN_neg (a := a / 2 ^ k % b + a / 2 ^ k % b + a / 2 ^ (k - 1) % 2) (b := b)
     repeat first | refine nx ?_ | intro _
     refine gIf (fun c4 => ?_) fun c4 => ?_ <;> repeat first | refine nx ?_ | intro _
     · have hor : (out.getD ((k - 1) / 32) 0 ||| 1 * 2 ^ ((k - 1) % 32)) < 4294967296 := Nat.or_lt_two_pow (n := 32) bdo hsh
       rw [Nat.mod_eq_of_lt hsh]
       rcases Nat.mod_two_eq_zero_or_one (a / 2 ^ (k - 1)) with ht | ht
       · have hge : b <= a / 2 ^ k % b + a / 2 ^ k % b := by omega
         exact gBk (k - 1,out.set ((k - 1) / 32) (out.getD ((k - 1) / 32) 0 ||| 1 * 2 ^ ((k - 1) % 32))) ⟨by dsimp only; omega,by rw [List.length_set]; exact hl,hf.set _ _ hor,divv_t0 (by omega) hb0 ht hge hl hf (by omega) hv⟩ (by dsimp only; omega) (h1 := ⟨by dsimp only; omega,by dsimp only; rw [<- div_t0 (by omega) hb0 ht hge,ht,Nat.add_zero],by trivial⟩)
       · have hge : b <= a / 2 ^ k % b + a / 2 ^ k % b + 1 := by omega
         exact gBk (k - 1,out.set ((k - 1) / 32) (out.getD ((k - 1) / 32) 0 ||| 1 * 2 ^ ((k - 1) % 32))) ⟨by dsimp only; omega,by rw [List.length_set]; exact hl,hf.set _ _ hor,divv_t1 (by omega) hb0 ht hge hl hf (by omega) hv⟩ (by dsimp only; omega) (h1 := ⟨by dsimp only; omega,by dsimp only; rw [<- div_t1 (by omega) hb0 ht hge,ht],by trivial⟩)
     · rcases Nat.mod_two_eq_zero_or_one (a / 2 ^ (k - 1)) with ht | ht
       · have hge : a / 2 ^ k % b + a / 2 ^ k % b < b := by omega
         exact gBk (k - 1,out) ⟨by dsimp only; omega,hl,hf,divv_f0 (by omega) hb0 ht hge hv⟩ (by dsimp only; omega) (h1 := ⟨by dsimp only; omega,by dsimp only; rw [<- div_f0 (by omega) hb0 ht hge,ht,Nat.add_zero],by trivial⟩)
       · have hge : a / 2 ^ k % b + a / 2 ^ k % b + 1 < b := by omega
         exact gBk (k - 1,out) ⟨by dsimp only; omega,hl,hf,divv_f1 (by omega) hb0 ht hge hv⟩ (by dsimp only; omega) (h1 := ⟨by dsimp only; omega,by dsimp only; rw [<- div_f1 (by omega) hb0 ht hge,ht],by trivial⟩)
 · repeat first | refine nx ?_ | intro _
   have hk0 : k = 0 := by omega
   subst hk0
   exact ⟨by rw [hv]; simp,by simp⟩
instance rgcd_c {a b A B : Nat} {S T : SV} [i : Vw nv S a] [j : Vw nv T b] [p : Sz a A] [q : Sz b B] : Ct Tryz.prog 81 [S,T] (A <= 536870912 /\ B <= 536870912 /\ a ≠ 0 /\ b ≠ 0) (nv (Nat.gcd a b)) := by
 refine ct2 i j (ctI Tryz.call81 Tryz.func81 Tryz.ntmps81 rfl Tryz.results81 rfl [] fun h0 w0 ⟨hA,hB,ha0,hb0⟩ => ?_)
 have hsa := p.h
 have hsb := q.h
 have hsab := sz_add a b
 repeat first | refine nx ?_ | intro _
 refine gLp (fun s : Nat × Nat × Nat => [(5,iv s.1),(0,nv s.2.1),(1,nv s.2.2)]) (fun _ => []) (fun s => s.2.1 ≠ 0 /\ s.2.2 ≠ 0 /\ s.2.1 <= a /\ s.2.2 <= b /\ 2 ^ s.1 * Nat.gcd s.2.1 s.2.2 = Nat.gcd a b) (fun s => s.2.1) (0,a,b) ⟨ha0,hb0,Nat.le_refl _,Nat.le_refl _,by simp⟩ fun ⟨t,x,y⟩ ⟨hx,hy,hxa,hyb,hg⟩ => ?_
 dsimp only at *
 have hsx := sz_mono hxa
 have hsy := sz_mono hyb
 have hta := pow_bound ha0 hg
 haveI : Sz x A := ⟨by omega⟩
 haveI : Sz y B := ⟨by omega⟩
 repeat first | refine nx ?_ | intro _
 refine gIf (fun c => ?_) fun c => ?_ <;> repeat first | refine nx ?_ | intro _
 · exact gBk (t + 1,x / 2,y / 2) ⟨by dsimp only; omega,by dsimp only; omega,by dsimp only; omega,by dsimp only; omega,gcd_both c.1 c.2 hg⟩ (by dsimp only; omega)
 have hod : Nat.gcd x y % 2 = 1 := gcd_odd hy c
 refine gLp (fun s : Nat × Nat => [(0,nv s.1),(1,nv s.2)]) (fun _ => []) (fun s => s.1 ≠ 0 /\ s.1 <= a + b /\ s.2 <= a + b /\ Nat.gcd s.1 s.2 = Nat.gcd x y) (fun s => s.1 + s.2) (x,y) ⟨hx,by dsimp only; omega,by dsimp only; omega,rfl⟩ fun ⟨x2,y2⟩ ⟨hx2,hxa2,hyb2,hg2⟩ => ?_
 dsimp only at *
 have hsx2 := sz_mono hxa2
 have hsy2 := sz_mono hyb2
 have hyz := sz_eq_zero (n := y2)
 unfold sz at hyz
 have hml : max (sz a) (sz b) + 1 <= 536870913 := by omega
 haveI : Sz x2 536870913 := ⟨by omega⟩
 haveI : Sz y2 536870913 := ⟨by omega⟩
 repeat first | refine nx ?_ | intro _
 refine gIf (fun c2 => ?_) fun c2 => ?_ <;> repeat first | refine nx ?_ | intro _
 · have hy20 : y2 ≠ 0 := by omega
   refine gLp (fun x3 : Nat => [(0,nv x3)]) (fun _ => []) (fun x3 => x3 ≠ 0 /\ x3 <= x2 /\ Nat.gcd x3 y2 = Nat.gcd x y) (fun x3 => x3) x2 ⟨hx2,Nat.le_refl _,hg2⟩ fun x3 ⟨hx3,hx32,hg3⟩ => ?_
   have hsx3 := sz_mono hx32
   haveI : Sz x3 536870913 := ⟨by omega⟩
   repeat first | refine nx ?_ | intro _
   refine gIf (fun c3 => ?_) fun c3 => ?_ <;> repeat first | refine nx ?_ | intro _
   · exact gBk (x3 / 2) ⟨by omega,by omega,gcd_half_l hod c3 hg3⟩ (by omega)
   refine gLp (fun y3 : Nat => [(1,nv y3)]) (fun _ => []) (fun y3 => y3 ≠ 0 /\ y3 <= y2 /\ Nat.gcd x3 y3 = Nat.gcd x y) (fun y3 => y3) y2 ⟨hy20,Nat.le_refl _,hg3⟩ fun y3 ⟨hy3,hy32,hg4⟩ => ?_
   have hsy3 := sz_mono hy32
   haveI : Sz y3 536870913 := ⟨by omega⟩
   repeat first | refine nx ?_ | intro _
   refine gIf (fun c4 => ?_) fun c4 => ?_ <;> repeat first | refine nx ?_ | intro _
   · exact gBk (y3 / 2) ⟨by omega,by omega,gcd_half_r hod c4 hg4⟩ (by omega)
   refine gIf (fun c5 => ?_) fun c5 => ?_
   · have hgt := cmpN_pos.1 c5
     have hle := Nat.le_of_lt hgt
     repeat first | refine nx ?_ | intro _
     exact gBk (y3,x3 - y3) ⟨hy3,by dsimp only; omega,by dsimp only; omega,gcd_swap_sub hgt hg4⟩ (by dsimp only; omega)
   · have hle := not_gt_of c5
     repeat first | refine nx ?_ | intro _
     exact gBk (x3,y3 - x3) ⟨hx3,by dsimp only; omega,by dsimp only; omega,gcd_sub hle hg4⟩ (by dsimp only; omega)
 · have hy0 : y2 = 0 := by omega
   have hg5 : x2 = Nat.gcd x y := by rw [<- hg2,hy0,Nat.gcd_zero_right]
   refine gLp (fun i : Nat => [(6,iv i),(0,nv (x2 * 2 ^ i))]) (fun _ => []) (fun i => i <= t) (fun i => t - i) 0 (Nat.zero_le _) (fun i hi => ?_) (h1 := ⟨trivial,by simp,trivial⟩)
   have hle : x2 * 2 ^ i <= a := by
    have h1 : x2 * 2 ^ i <= x2 * 2 ^ t := Nat.mul_le_mul_left _ (Nat.pow_le_pow_right (by decide) hi)
    have h2 := Nat.gcd_le_left b (Nat.pos_of_ne_zero ha0)
    rw [<- hg,Nat.mul_comm, <- hg5] at h2
    omega
   have hsl := sz_mono hle
   haveI : Sz (x2 * 2 ^ i) A := ⟨by omega⟩
   repeat first | refine nx ?_ | intro _
   refine gIf (fun c3 => ?_) fun c3 => ?_ <;> repeat first | refine nx ?_ | intro _
   · rw [dbl_pow]; exact gBk (i + 1) (by omega) (by omega)
   · rw [<- hg, <- hg5,show i = t by omega,Nat.mul_comm]
section
variable {P : Program} {n : Nat} {c : Bool} {loc env : EL} {B : List Res} {ms : List Nat} {d : Nat} {x : Operand} {t u : TypeId} {k : IntKind} {i : Int} {a m : Nat}
instance (priority := 2000) [lx : Lu n c loc env x (.cv (.int k (-(m : Int))))] [td : TD P t] [ti : TI P u .u64] : St P n c loc env B ms d (.convert t u x) (1 <= m /\ m <= 18446744073709551615) (.cv (.int .u64 ((18446744073709551616 - m : Nat) : Int))) := .p fun q sd _ _ _ _ _ s _ _ _ _ _ k => by
 obtain ⟨_,hd⟩ := td.h
 exact OpW.convI hd ti.h (cvE (lx.h q (s.f x))) (by simp [IntKind.wrap,IntKind.bits,IntKind.signed]; omega) (k _ rfl)
instance (priority := 2000) [lx : Lu n c loc env x (.cv (.int .u64 i))] [a1 : IN i a] : St P n c loc env B ms d (.unOp .neg t x) (1 <= a /\ a <= 18446744073709551615) (.cv (.int .u64 ((18446744073709551616 - a : Nat) : Int))) := .p fun q sd _ _ _ _ _ s _ _ _ _ _ k => OpW.negI (cvE (lx.h q (s.f x))) (by rw [a1.e]; simp [IntKind.wrap,IntKind.bits,IntKind.signed]; omega) (k _ rfl)
end
instance rsize_c {n : Int} : Ct Tryz.prog 33 [iv n] (-9223372036854775808 <= n /\ n <= 9223372036854775807) (.cv (.int .u64 (n.natAbs : Int))) := by
 refine (ctI Tryz.call33 Tryz.func33 Tryz.ntmps33 rfl Tryz.results33 rfl [] fun h0 w0 ⟨h1,h2⟩ => ?_)
 by_cases hn : n < 0
 · obtain ⟨m,rfl⟩ : ∃ m : Nat,n = -(m : Int) := ⟨n.natAbs,by omega⟩
   repeat first | refine nx ?_ | intro _
   refine gIf (fun c => ?_) fun c => ?_ <;> repeat first | refine nx ?_ | intro _
   · omega
   · omega
 · repeat first | refine nx ?_ | intro _
   refine gIf (fun c => ?_) fun c => ?_
   · omega
   · repeat first | refine nx ?_ | intro _
     omega
theorem rtwo {n : Nat} (h : n < 18446744073709551616) : val [n % 4294967296,n / 2 ^ 32 % 4294967296] = n := by simp [val,B32]; omega
instance rnatural_c {i : Int} {n : Nat} [x : IN i n] : Ct Tryz.prog 32 [.cv (.int .u64 i)] (n < 18446744073709551616) (nv n) := by
 obtain rfl := x.e
 refine ctI Tryz.call32 Tryz.func32 Tryz.ntmps32 rfl Tryz.results32 rfl [] fun h0 w0 hl => ?_
 repeat first | refine nx ?_ | intro _
 rw [rtwo hl]
@[reducible] def dOf (d : Nat) : Nat := if d = 0 then 1 else d
instance rlow_c {f : Fr} {q : Rat} {b : Nat} {S : SV} [i : VF S f q b] : Ct Tryz.prog 152 [S] (b <= 134217000) (nv (lowF f)) := by
 have t := i.t
 refine ct1 i.v (ctI Tryz.call152 Tryz.func152 Tryz.ntmps152 rfl Tryz.results152 rfl [] fun h0 w0 hb => ?_)
 obtain ⟨_,_,rfl,rfl⟩ := i
 have hbd := bf_d f
 have hz := len_zero (n := val f.d)
 repeat first | refine nx ?_ | intro _
 refine gIf (fun c => ?_) fun c => ?_ <;> repeat first | refine nx ?_ | intro _
 · unfold lowF; rw [if_pos (hz.1 c),digs_lit1]
 · unfold lowF; rw [if_neg fun e => c (hz.2 e)]
instance rmake1_c {s : Bool} {l m : List Nat} {n d : Nat} {S T : SV} [i : Vw uv S l] [j : Vw uv T m] [fl : FtL l] [fm : FtL m] [vl : VlE l n] [vm : VlE m d] : Ct Tryz.prog 31 [.cv (.bool s),S,T] (l.length <= 536870912 /\ m.length <= 536870912) (kk (ratOf s n (dOf d))) := by
 refine ct3 (v := bv) ⟨fun u => u⟩ i j (ctI Tryz.call31 Tryz.func31 Tryz.ntmps31 rfl Tryz.results31 rfl [] fun h0 w0 ⟨h1,h2⟩ => ?_)
 have hsn : sz n <= 536870912 := by rw [<- vl.h]; exact Nat.le_trans (sz_len fl.h) h1
 have hsd : sz d <= 536870912 := by rw [<- vm.h]; exact Nat.le_trans (sz_len fm.h) h2
 have hz := len_zero (n := n)
 have hzd := len_zero (n := d)
 repeat first | refine nx ?_ | intro _
 refine gIf (fun c => ?_) fun c => ?_
 · repeat first | refine nx ?_ | intro _
   rw [hz.1 c,ratOf_zero,frK_zero]; exact ⟨rfl,rfl,rfl⟩
 repeat first | refine nx ?_ | intro _
 have hn0 : n ≠ 0 := fun e => c (hz.2 e)
 refine gJ [(2,nv (dOf d))] (fun c3 => ?_) (fun c3 => ?_) ?_
 · repeat first | refine nx ?_ | intro _
   exact gM (by rw [dOf,if_pos (hzd.1 c3),digs_lit1]; exact ⟨rfl,by trivial⟩)
 · repeat first | refine nx ?_ | intro _
   exact gM (by rw [dOf,if_neg fun e => c3 (hzd.2 e)]; exact ⟨rfl,by trivial⟩)
 have hd0 : dOf d ≠ 0 := by unfold dOf; split <;> omega
 have hsD : sz (dOf d) <= 536870912 := by
  unfold dOf; split
  · rw [sz_one]; decide
  · omega
 generalize dOf d = D at *
 have hgp := gcd_pos' (n := n) hd0
 have hgs := sz_mono (Nat.gcd_le_right n (Nat.pos_of_ne_zero hd0))
 haveI : Sz n 536870912 := ⟨hsn⟩
 haveI : Sz D 536870912 := ⟨hsD⟩
 haveI : Sz (Nat.gcd n D) 536870912 := ⟨by omega⟩
 repeat first | refine nx ?_ | intro _
 refine gJ [(7,nv (Nat.gcd n D))] (fun c3 => ?_) (fun c3 => ?_) ?_
 · repeat first | refine nx ?_ | intro _
   exact gM
 · repeat first | refine nx ?_ | intro _
   exact gM (by rw [<- gcd_one (n := n) (d := D) (by omega),digs_lit1]; exact ⟨rfl,by trivial⟩)
 repeat first | refine nx ?_ | intro _
 refine gJ [(1,nv (n / Nat.gcd n D)),(2,nv (D / Nat.gcd n D))] (fun c3 => ?_) (fun c3 => ?_) ?_
 · repeat first | refine nx ?_ | intro _
   exact gM
 · repeat first | refine nx ?_ | intro _
   have hg1 : Nat.gcd n D = 1 := by omega
   exact gM (by rw [hg1,Nat.div_one,Nat.div_one]; exact ⟨rfl,rfl,by trivial⟩)
 have hq1 := sz_mono (Nat.div_le_self n (Nat.gcd n D))
 have hq2 := sz_mono (Nat.div_le_self D (Nat.gcd n D))
 unfold sz at hq1 hq2 hsn hsD
 repeat first | refine nx ?_ | intro _
 have e1 : decide ((ratOf s n D).num < 0) = s := by rw [<- ratOf_neg hd0,decide_eq_true (Nat.div_pos (Nat.gcd_le_left D (Nat.pos_of_ne_zero hn0)) hgp),Bool.and_true]
 have hden := ratOf_den (s := s) (n := n) hd0
 refine gIf (fun c => ?_) fun c => ?_ <;> repeat first | refine nx ?_ | intro _
 · refine ⟨e1.symm, ?_, ?_⟩
   · show _ = digs _; rw [ratOf_abs hd0]
   · show _ = if _ then _ else _; rw [<- hden,if_neg c]
 · refine ⟨e1.symm, ?_, ?_⟩
   · show _ = digs _; rw [ratOf_abs hd0]
   · exact if_pos (by rw [<- hden]; omega)
theorem VF.sn {S : SV} {f : Fr} {q : Rat} {b : Nat} (i : VF S f q b) : Sz (val f.n) b := ⟨by rw [<- i.b]; exact sz_valn i.t.h.1⟩
theorem VF.sd {S : SV} {f : Fr} {q : Rat} {b : Nat} (i : VF S f q b) : Sz (lowF f) b := ⟨by rw [<- i.b]; exact sz_lowF i.t.h.2⟩
theorem VF.le2 {S : SV} {f : Fr} {q : Rat} {b : Nat} (i : VF S f q b) : f.n.length <= b /\ f.d.length <= b /\ 1 <= b := by rw [<- i.b]; exact ⟨bf_n f,bf_d f,bf_pos f⟩
theorem szl (n : Nat) {b : Nat} [i : Sz n b] : (digs n).length <= b := i.h
instance rOf_c {n : Int} : Ct Tryz.prog 10 [iv n] (-9223372036854775808 <= n /\ n <= 9223372036854775807) (kk (n : Rat)) := by
 refine (ctI Tryz.call10 Tryz.func10 Tryz.ntmps10 rfl Tryz.results10 rfl [] fun h0 w0 ⟨h1,h2⟩ => ?_)
 have hss : (digs n.natAbs).length <= 2 := sz_small (n := n.natAbs) (by omega)
 repeat first | refine nx ?_ | intro _
 rw [show (val [] : Nat) = 0 from rfl,show dOf 0 = 1 from rfl,int_s]; exact ⟨rfl,rfl,rfl⟩
instance rMake_c {n d : Int} : Ct Tryz.prog 25 [iv n,iv d] (-9223372036854775808 <= n /\ n <= 9223372036854775807 /\ -9223372036854775808 <= d /\ d <= 9223372036854775807 /\ d ≠ 0) (kk ((n : Rat) / (d : Rat))) := by
 refine (ctI Tryz.call25 Tryz.func25 Tryz.ntmps25 rfl Tryz.results25 rfl [] fun h0 w0 ⟨h1,h2,h3,h4,h5⟩ => ?_)
 have hss : (digs n.natAbs).length <= 2 := sz_small (n := n.natAbs) (by omega)
 have hsd : (digs d.natAbs).length <= 2 := sz_small (n := d.natAbs) (by omega)
 repeat first | refine nx ?_ | intro _
 rw [show dOf d.natAbs = d.natAbs from if_neg (by omega), <- quot_s h5]; exact ⟨rfl,rfl,rfl⟩
instance rNeg_c {f : Fr} {q : Rat} {b : Nat} {S : SV} [i : VF S f q b] : Ct Tryz.prog 105 [S] (b <= 134217000) (kk (-q)) := by
 have t := i.t
 refine ct1 i.v (ctI Tryz.call105 Tryz.func105 Tryz.ntmps105 rfl Tryz.results105 rfl [] fun h0 w0 hb => ?_)
 have hl := i.le2
 obtain ⟨_,_,rfl,rfl⟩ := i
 repeat first | refine nx ?_ | intro _
 rw [<- neg_F]; exact ⟨rfl,rfl,rfl⟩
instance rAdd_c {a b : Fr} {x y : Rat} {A B : Nat} {S T : SV} [i : VF S a x A] [j : VF T b y B] : Ct Tryz.prog 104 [S,T] (A + B <= 134217000) (kk (x + y)) := by
 have ta := i.t
 have tb := j.t
 refine ct2 i.v j.v (ctI Tryz.call104 Tryz.func104 Tryz.ntmps104 rfl Tryz.results104 rfl [] fun h0 w0 hb => ?_)
 have hl1 := i.le2
 have hl2 := j.le2
 haveI := i.sn
 haveI := i.sd
 haveI := j.sn
 haveI := j.sd
 obtain ⟨_,_,rfl,rfl⟩ := i
 obtain ⟨_,_,rfl,rfl⟩ := j
 repeat first | refine nx ?_ | intro _
 have hl : dOf (lowF a * lowF b) = lowF a * lowF b := if_neg (Nat.mul_ne_zero (lowF_ne a) (lowF_ne b))
 have s1 := szl (val a.n * lowF b)
 have s2 := szl (val b.n * lowF a)
 have s3 := szl (lowF a * lowF b)
 have s4 := szl (val a.n * lowF b + val b.n * lowF a)
 have s5 := szl (val a.n * lowF b - val b.n * lowF a)
 have s6 := szl (val b.n * lowF a - val a.n * lowF b)
 refine gIf (fun c => ?_) fun c => ?_
 · repeat first | refine nx ?_ | intro _
   rw [hl,add_F (by simpa using c)]; exact ⟨rfl,rfl,rfl⟩
 repeat first | refine nx ?_ | intro _
 refine gIf (fun d => ?_) fun d => ?_
 · have hge := cmpN_nonneg d
   repeat first | refine nx ?_ | intro _
   rw [hl,sub_F (by simpa using c) hge]; exact ⟨rfl,rfl,rfl⟩
 · have hge := Nat.le_of_lt (cmpN_nneg d)
   repeat first | refine nx ?_ | intro _
   rw [hl,sub_F' (by simpa using c) hge]; exact ⟨rfl,rfl,rfl⟩
instance rSub_c {a b : Fr} {x y : Rat} {A B : Nat} {S T : SV} [i : VF S a x A] [j : VF T b y B] : Ct Tryz.prog 52 [S,T] (A + B <= 134217000) (kk (x - y)) := by
 refine ct2 i.v j.v (ctI Tryz.call52 Tryz.func52 Tryz.ntmps52 rfl Tryz.results52 rfl [] fun h0 w0 hb => ?_)
 have h1 := i.le
 have h2 := j.le
 have h3 := i.le2
 obtain ⟨_,_,rfl,rfl⟩ := i
 obtain ⟨_,_,rfl,rfl⟩ := j
 have hn := bq_neg b.rat
 repeat first | refine nx ?_ | intro _
 rw [Rat.sub_eq_add_neg]; exact ⟨rfl,rfl,rfl⟩
instance rSign_c {f : Fr} {q : Rat} {b : Nat} {S : SV} [i : VF S f q b] : Ct Tryz.prog 19 [S] (b <= 134217000) (iv (sgQ q)) := by
 have t := i.t
 refine ct1 i.v (ctI Tryz.call19 Tryz.func19 Tryz.ntmps19 rfl Tryz.results19 rfl [] fun h0 w0 hb => ?_)
 have hl := i.le2
 obtain ⟨_,_,rfl,rfl⟩ := i
 have hz := len_zero (n := val f.n)
 repeat first | refine nx ?_ | intro _
 refine gIf (fun c => ?_) fun c => ?_ <;> repeat first | refine nx ?_ | intro _
 · rw [sign_s,if_pos (hz.1 c)]
 refine gIf (fun d => ?_) fun d => ?_ <;> repeat first | refine nx ?_ | intro _
 · rw [sign_s,if_neg fun e => c (hz.2 e),if_pos d]
 · rw [sign_s,if_neg fun e => c (hz.2 e),if_neg d]
instance rCmp_c {a b : Fr} {x y : Rat} {A B : Nat} {S T : SV} [i : VF S a x A] [j : VF T b y B] : Ct Tryz.prog 21 [S,T] (A + B <= 134216000) (iv (sgQ (x - y))) := by
 refine ct2 i.v j.v (ctI Tryz.call21 Tryz.func21 Tryz.ntmps21 rfl Tryz.results21 rfl [] fun h0 w0 hb => ?_)
 have h1 := i.le
 have h2 := j.le
 obtain ⟨_,_,rfl,rfl⟩ := i
 obtain ⟨_,_,rfl,rfl⟩ := j
 have hn := bq_sub a.rat b.rat
 repeat first | refine nx ?_ | intro _
 trivial
end Go.E3
