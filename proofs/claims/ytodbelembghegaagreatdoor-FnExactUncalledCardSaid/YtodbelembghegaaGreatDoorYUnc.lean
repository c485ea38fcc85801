import Derived.Test.YtodbelembghegaaGreatDoorYCalls
import Derived.Test.YtodbelembghegaaGreatDoorYFold
namespace Go.Proofs.YtodbelembghegaaGreatDoor
set_option linter.unusedVariables false
set_option linter.unusedSimpArgs false
open Go Go.Vm
def unc (R : List Str) (n : Nd) : Bool := n.kind == 44 && !decide (n.text ∈ R)
theorem spec_unc_ok {l : List Nd} (h : Ok l) (R : List Str) (hR : R.length ≤ 1048576) (hp : programOk l = true) : M.spec_Uncalled_l5 (encNs false l) (encS R) (0, []) = some ((l.length : Int), encS (((l.filter (unc R)).map (·.text)).foldl putS [])) := by
  have hlen := h.len
  have a1 := spec_ProgramOk_ok l false (by have := h.len; omega) h.k h.sm
  rw [hp] at a1
  have hh := loopM_list (M.spec_Uncalled_l5_b (encNs false l) (encS R)) l (fun i (v : List Str) => ((i : Int), encS v)) (fun v n => .inl (if unc R n = true then putS v n.text else v)) (fun v => ((l.length : Int), encS v)) (fun i v => v.length ≤ i)
    (by
      intro i n v hx hv
      have hi := (List.getElem?_eq_some_iff.1 hx).1
      obtain ⟨r, hf, hd⟩ := spec_l3Find_ok R n.text (by omega)
      have hq := spec_l23Put_ok v n.text (by omega)
      have hd2 : decide (r < 0) = !decide (n.text ∈ R) := by
        rw [← hd]
        by_cases hr : r < 0
        · rw [decide_eq_true hr, decide_eq_false (by omega)]; rfl
        · rw [decide_eq_false hr, decide_eq_true (by omega)]; rfl
      simp only [M.spec_Uncalled_l5_b, M.spec_Uncalled_l5_C, encNs_length, idx_nat, get_encNs, hx, Option.map_some, some_bind, cN0, cN2, a1, cond_true, hf, hd2, hq, flat_encS]
      rw [decide_eq_true (by omega), cond_true, unc, wrap_ok (by omega) (by omega)]
      by_cases h0 : n.kind = 44
      · by_cases h1 : n.text ∈ R
        · simp [h0, h1]
        · simp [h0, h1]
      · rw [beq_eq_false_iff_ne.2 h0]; rfl)
    (by
      intro i n v v' hx hv he
      cases he
      have := putS_length v n.text
      split <;> omega)
    (by
      intro v hv
      simp only [M.spec_Uncalled_l5_b, M.spec_Uncalled_l5_C, encNs_length]
      rw [decide_eq_false (by omega), cond_false])
    [] (by simp)
  have e0 : encS [] = [] := rfl
  rw [nat0, e0] at hh
  rw [M.spec_Uncalled_l5, hh, foldE_inl (fun (v : List Str) (n : Nd) => (.inl (if unc R n = true then putS v n.text else v) : List Str ⊕ (Int × List Row))) (fun v n => if unc R n = true then putS v n.text else v) _ (fun _ _ => rfl), fold_pick]
theorem spec_unc_no {l : List Nd} (h : Ok l) (R : List Row) (hp : programOk l = false) : M.spec_Uncalled_l5 (encNs false l) R (0, []) = some (0, []) := by
  have a1 := spec_ProgramOk_ok l false (by have := h.len; omega) h.k h.sm
  rw [hp] at a1
  rw [M.spec_Uncalled_l5]
  apply loopM_end
  simp only [M.spec_Uncalled_l5_b, M.spec_Uncalled_l5_C, a1, some_bind, cond_false]
  cases decide ((0 : Int) < ((encNs false l).length : Int)) <;> rfl
def fns (l : List Nd) : List (Nd × Nat) := l.zipIdx.filter fun p => p.1.kind == 44
theorem fns_get {l : List Nd} {p : Nd × Nat} (h : p ∈ fns l) : l[p.2]? = some p.1 := List.mem_zipIdx_iff_getElem?.1 (List.mem_filter.1 h).1
theorem fns_length (l : List Nd) : (fns l).length ≤ l.length := by
  have := List.length_filter_le (fun p : Nd × Nat => p.1.kind == 44) l.zipIdx
  rw [List.length_zipIdx] at this
  exact this
theorem fns_pick (d : Nd → Bool) : ∀ (l : List Nd) (k : Nat), (((l.zipIdx k).filter fun p => p.1.kind == 44).filter fun p => d p.1).map (fun p => p.1.text) = (l.filter fun n => n.kind == 44 && d n).map (·.text)
  | [], _ => rfl
  | n :: l, k => by
    have ih := fns_pick d l (k + 1)
    rw [List.zipIdx_cons]
    cases h : n.kind == 44 with
    | true =>
      cases hd : d n with
      | true =>
        rw [List.filter_cons_of_pos (by simp [h]), List.filter_cons_of_pos (by simp [hd]), List.filter_cons_of_pos (by simp [h, hd]), List.map_cons, List.map_cons, ih]
      | false =>
        rw [List.filter_cons_of_pos (by simp [h]), List.filter_cons_of_neg (by simp [hd]), List.filter_cons_of_neg (by simp [h, hd]), ih]
    | false =>
      rw [List.filter_cons_of_neg (by simp [h]), List.filter_cons_of_neg (by simp [h]), ih]
theorem FuncsOf_ok (l : List Nd) (hl : l.length ≤ 1048576) : M.impl_FuncsOf (encNs false l) = some (encI ((fns l).map fun p => (p.2 : Int))) := by
  have h := loopM_list (M.impl_FuncsOf_l3_b (encNs false l) (l.length : Int)) l.zipIdx (fun i (v : List Int) => ((i : Int), encI v)) (fun v p => .inl (if (p.1.kind == 44) = true then v ++ [(p.2 : Int)] else v)) (fun v => ((l.length : Int), encI v)) (fun i v => v.length ≤ i)
    (by
      intro i p v hx hv
      rw [List.getElem?_zipIdx] at hx
      obtain ⟨n, hn, rfl⟩ := Option.map_eq_some_iff.1 hx
      have hi := (List.getElem?_eq_some_iff.1 hn).1
      simp only [M.impl_FuncsOf_l3_b, M.impl_FuncsOf_l3_C, idx_nat, get_encNs, hn, Option.map_some, some_bind, cN0, cN1, cN2, cN3, cN4, encI_length, List.length_singleton]
      rw [decide_eq_true (by omega), cond_true, wrap_ok (by omega) (by omega), ble_ok (by omega), ble_ok (by omega)]
      by_cases h44 : n.kind = 44
      · simp [h44, encI]
      · rw [beq_eq_false_iff_ne.2 h44]; rfl)
    (by
      intro i p v v' hx hv he
      cases he
      split
      · rw [List.length_append, List.length_singleton]; omega
      · omega)
    (by
      intro v hv
      rw [List.length_zipIdx]
      simp only [M.impl_FuncsOf_l3_b, M.impl_FuncsOf_l3_C]
      rw [decide_eq_false (by omega), cond_false])
    [] (by simp)
  have e0 : encI [] = [] := rfl
  rw [nat0, e0] at h
  simp only [M.impl_FuncsOf, M.impl_FuncsOf_C, M.impl_FuncsOf_l3, encNs_length]
  rw [h, foldE_inl (fun (v : List Int) (p : Nd × Nat) => (.inl (if (p.1.kind == 44) = true then v ++ [(p.2 : Int)] else v) : List Int ⊕ (Int × List Row))) (fun v p => if (p.1.kind == 44) = true then v ++ [(p.2 : Int)] else v) _ (fun _ _ => rfl), fold_app, List.nil_append, some_bind]
  simp only [flat_encI, cond_true]
  rfl
theorem impl_unc_ok (l : List Nd) (hl : l.length ≤ 1048576) (R : List Str) (hR : R.length ≤ 1048576) : M.impl_Uncalled_l6 (encNs false l) ((fns l).length : Int) (encS R) (encI ((fns l).map fun p => (p.2 : Int))) (0, []) = some (((fns l).length : Int), encS ((l.filter (unc R)).map (·.text))) := by
  have hfl := fns_length l
  have h := loopM_list (M.impl_Uncalled_l6_b (encNs false l) ((fns l).length : Int) (encS R) (encI ((fns l).map fun p => (p.2 : Int)))) (fns l) (fun i (v : List Str) => ((i : Int), encS v)) (fun v p => .inl (if (!decide (p.1.text ∈ R)) = true then v ++ [p.1.text] else v)) (fun v => (((fns l).length : Int), encS v)) (fun i v => v.length ≤ i)
    (by
      intro i p v hx hv
      have hi := (List.getElem?_eq_some_iff.1 hx).1
      have hp := fns_get (List.mem_of_getElem? hx)
      have hg : (encI ((fns l).map fun p => (p.2 : Int)))[i]? = some [D.int .i64 (p.2 : Int)] := by rw [get_encI, List.getElem?_map, hx]; rfl
      have hg2 : (encI ((fns l).map fun p => (p.2 : Int)))[(i : Int).toNat]? = some [D.int .i64 (p.2 : Int)] := by rw [Int.toNat_natCast]; exact hg
      have hf := slices_Contains_ok R p.1.text (by omega)
      simp only [M.impl_Uncalled_l6_b, M.impl_Uncalled_l6_C, idx_nat, hg, hg2, some_bind, cI0, get_encNs, hp, Option.map_some, cN2, hf, encS_length, List.length_singleton]
      rw [decide_eq_true (by omega), cond_true, wrap_ok (by omega) (by omega), ble_ok (by omega), ble_ok (by omega)]
      by_cases h1 : p.1.text ∈ R
      · simp [h1]
      · simp [h1, encS])
    (by
      intro i p v v' hx hv he
      cases he
      split
      · rw [List.length_append, List.length_singleton]; omega
      · omega)
    (by
      intro v hv
      simp only [M.impl_Uncalled_l6_b, M.impl_Uncalled_l6_C]
      rw [decide_eq_false (by omega), cond_false])
    [] (by simp)
  have e0 : encS [] = [] := rfl
  rw [nat0, e0] at h
  rw [M.impl_Uncalled_l6, h, foldE_inl (fun (v : List Str) (p : Nd × Nat) => (.inl (if (!decide (p.1.text ∈ R)) = true then v ++ [p.1.text] else v) : List Str ⊕ (Int × List Row))) (fun v p => if (!decide (p.1.text ∈ R)) = true then v ++ [p.1.text] else v) _ (fun _ _ => rfl), fold_app, List.nil_append]
  have := fns_pick (fun n => !decide (n.text ∈ R)) l 0
  rw [fns, this]
  rfl
theorem Uncalled_ok {l : List Nd} (h : Ok l) : ∃ R : List Str, R.length ≤ 1048576 ∧ M.spec_Uncalled (encNs false l) = some (encS R) ∧ M.impl_Uncalled (encNs false l) = some (encS R) := by
  obtain ⟨E, hE, hno, h1, h2⟩ := CallsOf_ok h
  have hl := h.len
  have a2 := impl_ProgramOk_ok l false (by have := h.len; omega) h.k h.sm
  have r1 := spec_Reached_ok (l := E) (s := []) (by omega)
  have r2 := impl_Reached_ok (l := E) (s := []) (by omega)
  have hR := passes_le E [] (E.length + 1)
  generalize passes E [] (E.length + 1) = P at r1 r2 hR
  have e0 : encS [] = [] := rfl
  cases pa : programOk l with
  | false =>
    have u := spec_unc_no h (encS P) pa
    rw [pa] at a2
    refine ⟨[], by simp, ?_, ?_⟩
    · simp only [M.spec_Uncalled, M.spec_Uncalled_C, h1, some_bind, r1, pure_oneS, cond_true, u]
      rfl
    · simp only [M.impl_Uncalled, M.impl_Uncalled_C, a2, some_bind, Bool.not_false, cond_true]
      rfl
  | true =>
    have u := spec_unc_ok h P (by omega) pa
    have v := impl_unc_ok l hl P (by omega)
    have w := FuncsOf_ok l hl
    rw [pa] at a2
    have hL : ((l.filter (unc P)).map (·.text)).length ≤ 1048576 := by
      rw [List.length_map]
      exact Nat.le_trans (List.length_filter_le _ _) hl
    have a3 := impl_once_ok ((l.filter (unc P)).map (·.text)) (by omega)
    refine ⟨onceS ((l.filter (unc P)).map (·.text)), Nat.le_trans (onceS_le _) hL, ?_, ?_⟩
    · simp only [M.spec_Uncalled, M.spec_Uncalled_C, h1, some_bind, r1, pure_oneS, cond_true, u, flat_encS, putsS_once]
    · simp only [M.impl_Uncalled, M.impl_Uncalled_C, a2, some_bind, Bool.not_true, cond_false, h2, r2, pure_oneS, cond_true, w, encI_length, List.length_map, v, flat_encS, a3]
theorem law_Uncalled (l : List Nd) (hl : l.length ≤ maxLen) (hf : ∀ n, n ∈ l → Fit n) : M.laws_FnExactUncalled (encNs false l) = some true := by
  simp only [M.laws_FnExactUncalled, M.laws_FnExactUncalled_C]
  rw [szNodeS_ok l false 1048576 (by omega) (by omega) hl hf, some_bind]
  by_cases hs : (l.length + wNs l : Int) ≤ 1048576
  · rw [if_pos hs, decide_eq_false (by omega), cond_false]
    have ol : Ok l := ok_of hs hf (by omega) (by
      intro n hn
      have h1 := wNs_mem hn
      have h2 : wN n = n.text.length + n.other.length + n.kids.length := rfl
      omega)
    obtain ⟨R, hR, h1, h2⟩ := Uncalled_ok ol
    have a1 := toNodeS_ok l false ol.len ol.k
    have a3 := eqStringS_same R (by omega)
    have a4 := eqNodeS_same l false false hl (fun n hn => (hf n hn).kids)
    have a6 := markNodeS_ok 1 l (by omega) (by have := ol.w; omega)
    have a7 := markStringS_ok 1 R (by omega) (by omega) (by omega)
    have a8 := heldStringS_ok 1 R.length (by omega) (by omega) (by omega)
    have d1 : decide ((1 : Int) + (wK l : Int) < 0) = false := decide_eq_false (by omega)
    have d2 : decide ((1 : Int) + (R.length : Int) < 0) = false := decide_eq_false (by omega)
    simp only [a1, fz_encNs, h1, h2, a3, a4, a6, a7, a8, d1, d2, some_bind, pure_oneS, cond_true, cond_false, Bool.not_true, bne_self_eq_false]
  · rw [if_neg hs]; rfl
end Go.Proofs.YtodbelembghegaaGreatDoor
