/- LawTopClipped: a part of the proofs about what is clipped and stored: how the program's functions run, and what they compute, for every input. -/
import Derived.Test.YtabmlonaohfncaaDoorK7
set_option linter.all false
set_option linter.unusedVariables false
set_option maxRecDepth 20000
set_option maxHeartbeats 8000000
set_option synthInstance.maxSize 1000
namespace Go.E3
open Go Go.Ear Go.Proofs
section
variable {a b c d e f : Int} {l : List Int} {g : Int} {x y : Bool} {rate : Int} {s : List Int} {B : List Res}
instance rValid_k : Ct Tryd.prog 6 [.ag [iv a, iv b, iv c, iv d, iv e, iv f, lv rI l, iv g, bv x, bv y]] (l.length ≤ 1099511627776) (bv (decide (Rcp.Ok ⟨a, b, c, d, e, f, l, g, x, y⟩))) := rValid_c (r := ⟨a, b, c, d, e, f, l, g, x, y⟩)
instance Extract_k [hg : HG B] : CtB Tryd.prog 9 [rcv rate s, .ag [iv a, iv b, iv c, iv d, iv e, iv f, lv rI l, iv g, bv x, bv y]] B (s.length ≤ 300 ∧ l.length ≤ 1099511627776) (.tp [lv (rL rI) (if recE rate s = 0 ∧ Rcp.Ok ⟨a, b, c, d, e, f, l, g, x, y⟩ then exV s ⟨a, b, c, d, e, f, l, g, x, y⟩ else []), iv (if recE rate s = 0 ∧ Rcp.Ok ⟨a, b, c, d, e, f, l, g, x, y⟩ then 0 else 2)]) := Extract_c (r := ⟨a, b, c, d, e, f, l, g, x, y⟩)
end
theorem topClipped_c {rate : Int} {l : List Int} {r : Rcp} {book : List (List Int)} {fr to : Int} {B : List Res} [hg : HG B] : CtB Tryd.prog 3 [rcv rate l, rcpv r, lv (rL rI) book, iv fr, iv to] B True (bv true) := by
  refine (ctB Tryd.call3 Tryd.func3 Tryd.ntmps3 rfl Tryd.results3 rfl [5, 6, 13] fun h0 w0 _ => ?_)
  repeat first | refine nx ?_ | intro _
  refine gIf (fun c => ?_) fun c => ?_
  · repeat first | refine nx ?_ | intro _
    trivial
  have cc : (((l.length ≤ 300 ∧ r.edges.length ≤ 40) ∧ book.length ≤ 8) ∧ recE rate l = 0 ∧ (clR r).Ok) ∧ bkO book = true := by
    simp only [not_or, Classical.not_not] at c
    exact ⟨⟨⟨⟨by omega, by omega⟩, by omega⟩, c.1.1.2, c.1.2⟩, c.2⟩
  clear c
  obtain ⟨⟨⟨⟨c1, c2⟩, c3⟩, c4, ok⟩, hbk⟩ := cc
  obtain ⟨hb1, hb2⟩ := bkO_ok hbk
  obtain ⟨hl2, hbd⟩ := recE_bd c4
  obtain ⟨hv1, hv2⟩ := ex_ok ok c1 hbd
  have hcond : recE rate l = 0 ∧ Rcp.Ok ⟨0, r.den, r.size, r.step, r.win, r.pts, r.edges, r.cep, false, false⟩ := ⟨c4, ok⟩
  repeat first | refine nx ?_ | intro _
  rw [if_pos hcond, if_pos hcond]
  refine gIf (fun c => absurd rfl c) fun c => ?_
  repeat first | refine nx ?_ | intro _
  refine gIf (fun c => ?_) fun c => ?_
  · repeat first | refine nx ?_ | intro _
    trivial
  simp only [not_or, Classical.not_not, ne_eq] at c
  obtain ⟨⟨⟨d1, d2⟩, d3⟩, d4⟩ := c
  obtain ⟨F, rfl⟩ : ∃ F : Nat, fr = (F : Int) := ⟨fr.toNat, by omega⟩
  obtain ⟨T, rfl⟩ : ∃ T : Nat, to = (T : Int) := ⟨to.toNat, by omega⟩
  have hFT : F < T := by omega
  have hTl : T ≤ (exV l (clR r)).length := by show T ≤ (exV l ⟨0, r.den, r.size, r.step, r.win, r.pts, r.edges, r.cep, false, false⟩).length; omega
  have hnl : (exV l (clR r)).length = nFr l.length r.size.toNat r.step.toNat := by rw [vs0_cl ok, List.length_map, frL_len]
  have hst := ok.step
  have hsz := ok.size
  have hpt := isLen_pos ok.len
  have hs1 : 0 < r.step.toNat := by have : (1 : Int) ≤ r.step := hst.1; omega
  have hfit := (nFr_iff (n := l.length) (sz := r.size.toNat) (k := T - 1) hs1).1 (by omega)
  have hmono : F * r.step.toNat ≤ (T - 1) * r.step.toNat := Nat.mul_le_mul_right _ (by omega)
  have e1 : (F : Int) * r.step = ((F * r.step.toNat : Nat) : Int) := by rw [Int.natCast_mul]; congr 1; have : (1 : Int) ≤ r.step := hst.1; omega
  have e2 : ((T : Int) - 1) * r.step = (((T - 1) * r.step.toNat : Nat) : Int) := by
    rw [Int.natCast_mul, show ((T - 1 : Nat) : Int) = (T : Int) - 1 by omega]; congr 1; have : (1 : Int) ≤ r.step := hst.1; omega
  have hsz0 : 1 ≤ r.size ∧ r.size ≤ r.pts := hsz
  have hpt0 : 1 ≤ r.pts ∧ r.pts ≤ 64 := hpt
  have e3 : ((T : Int) - 1) * r.step + r.size = (((T - 1) * r.step.toNat + r.size.toNat : Nat) : Int) := by rw [e2, Int.natCast_add]; omega
  have hA : (F * r.step.toNat : Nat) ≤ 300 := by omega
  have hB : (T - 1) * r.step.toNat ≤ 300 := by omega
  have hpl : ((l.take ((T - 1) * r.step.toNat + r.size.toNat)).drop (F * r.step.toNat)).length ≤ 300 := by rw [List.length_drop, List.length_take]; omega
  have hrp := rec_part c4 (F * r.step.toNat) ((T - 1) * r.step.toNat + r.size.toNat)
  have hex := ex_part ok hFT hTl
  have hT1 : T ≤ 1000 := by have := hv1.l; omega
  repeat first | refine nx ?_ | intro _
  rw [e1, e3]
  rw [Int.toNat_natCast, Int.toNat_natCast]
  have hcond2 : recE rate ((l.take ((T - 1) * r.step.toNat + r.size.toNat)).drop (F * r.step.toNat)) = 0 ∧ Rcp.Ok ⟨0, r.den, r.size, r.step, r.win, r.pts, r.edges, r.cep, false, false⟩ := ⟨hrp, ok⟩
  rw [if_pos hcond2, if_pos hcond2]
  obtain ⟨hu1, hu2⟩ := ex_ok ok hpl (recE_bd hrp).2
  rw [hex] at hu1 hu2
  rw [show exV ((l.take ((T - 1) * r.step.toNat + r.size.toNat)).drop (F * r.step.toNat)) ⟨0, r.den, r.size, r.step, r.win, r.pts, r.edges, r.cep, false, false⟩ = ((exV l (clR r)).take T).drop F from hex]
  have hq1 : (exV l (clR r)).length ≤ 1000 ∧ vcO (exV l (clR r)) = true ∧ bkO book = true ∧ (0 < (exV l (clR r)).length → ((exV l (clR r)).getD 0 []).length = (book.getD 0 []).length) := ⟨hv1.l, hv2, hbk, fun _ => d4⟩
  have hlu : (((exV l (clR r)).take T).drop F).length = T - F := by rw [List.length_drop, List.length_take]; omega
  have hq2 : (((exV l (clR r)).take T).drop F).length ≤ 1000 ∧ vcO (((exV l (clR r)).take T).drop F) = true ∧ bkO book = true ∧ (0 < (((exV l (clR r)).take T).drop F).length → ((((exV l (clR r)).take T).drop F).getD 0 []).length = (book.getD 0 []).length) := ⟨by omega, hu2, hbk, fun h => by
    rw [hu1.at_ 0 h, ← hv1.at_ 0 (by omega)]; exact d4⟩
  have hqp := q_part (v := exV l (clR r)) (book := book) (F := F) (T := T)
  have hVV : exV l ⟨0, r.den, r.size, r.step, r.win, r.pts, r.edges, r.cep, false, false⟩ = exV l (clR r) := rfl
  rw [hVV]
  clear hVV hex hu1 hu2 hv1 hv2 d3 d4 hnl
  generalize exV l (clR r) = V at *
  have hal : (qL V book).length = V.length := by simp [qL]
  have hbl : (qL ((V.take T).drop F) book).length = T - F := by unfold qL; rw [List.length_map]; exact hlu
  repeat first | refine nx ?_ | intro _
  rw [hal, hbl, hqp]
  have hm : (min ((T : Int) - (F : Int)) ((T - F : Nat) : Int)).toNat = T - F := by omega
  have htk : (((qL V book).take T).drop F).take (T - F) = ((qL V book).take T).drop F := List.take_of_length_le (by rw [List.length_drop, List.length_take]; omega)
  rw [hm, htk]
  have hm2 : (T : Int) - (F : Int) ≤ ((T - F : Nat) : Int) := by omega
  simp [hm2]
end Go.E3
