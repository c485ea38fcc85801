import Derived.Test.YtodbelembghegaaGreatDoorZPart
import Derived.Test.YtodbelembghegaaGreatDoorVm4
namespace Go.Proofs.YtodbelembghegaaGreatDoor
set_option linter.unusedVariables false
set_option linter.unusedSimpArgs false
open Go Go.Vm
theorem spec_l48Put_ok (l : List Ed) (e : Ed) (hl : l.length ≤ 1000000000) : M.spec_l48Put (encEs l) e.1 e.2 = some (encEs (putE l e)) := by
  have hloop := loopM_list (M.spec_l48Put_l4_b (encEs l) e.1 e.2) l (fun i (w : Bool × List Ed) => (w.1, (i : Int), encEs w.2)) (putEF e) (putEFin l.length) (fun i w => w.2.length ≤ 2 * i)
    (by
      intro i x w hx hw
      have hi := (List.getElem?_eq_some_iff.1 hx).1
      have hg : (encEs l)[(i : Int).toNat]? = some (encE x) := by rw [Int.toNat_natCast, get_encEs, hx]; rfl
      simp only [M.spec_l48Put_l4_b, M.spec_l48Put_l4_C, encEs_length, idx_nat, get_encEs, hx, hg, Option.map_some, some_bind, cE0, cE1, putEF, gt_eq, List.length_append, List.length_singleton]
      rw [decide_eq_true (by omega), cond_true]
      by_cases he : x = e
      · rw [if_pos he, he]; simp
      · rw [if_neg he]
        have hne : (bif x.1 == e.1 then (bif x.2 == e.2 then true else false) else false) = false := by
          cases h1 : x.1 == e.1 with
          | false => rfl
          | true => cases h2 : x.2 == e.2 with
            | false => rfl
            | true => exact absurd (Prod.ext (beq_iff_eq.1 h1) (beq_iff_eq.1 h2)) he
        rw [hne, cond_false]
        by_cases hc : w.1 = false ∧ ltE e x
        · rw [if_pos hc, hc.1]
          by_cases h1 : e.1 < x.1
          · rw [decide_eq_true h1]
            simp only [Bool.not_false, cond_true]
            rw [ble_ok (by omega), cond_true, ble_ok (by omega), cond_true, ble_ok (by omega), cond_true, ble_ok (by omega), cond_true, wrap_ok (by omega) (by omega)]
            simp [encEs, encE]
          · have h2 := hc.2.resolve_left h1
            rw [decide_eq_false h1, decide_eq_true h2.2, beq_iff_eq.2 h2.1.symm]
            simp only [Bool.not_false, cond_true, cond_false]
            rw [ble_ok (by omega), cond_true, ble_ok (by omega), cond_true, ble_ok (by omega), cond_true, ble_ok (by omega), cond_true, wrap_ok (by omega) (by omega)]
            simp [encEs, encE]
        · rw [if_neg hc]
          cases hd : w.1 with
          | false =>
            have hn : ¬ ltE e x := fun k => hc ⟨hd, k⟩
            have h1 : ¬ e.1 < x.1 := fun k => hn (.inl k)
            rw [decide_eq_false h1]
            simp only [Bool.not_false, cond_true, cond_false]
            cases h2 : x.1 == e.1 with
            | true =>
              have h3 : ¬ e.2 < x.2 := fun k => hn (.inr ⟨(beq_iff_eq.1 h2).symm, k⟩)
              rw [decide_eq_false h3]
              simp only [cond_true, cond_false]
              rw [ble_ok (by omega), cond_true, ble_ok (by omega), cond_true, wrap_ok (by omega) (by omega)]
              simp [encEs, encE]
            | false =>
              simp only [cond_false]
              rw [ble_ok (by omega), cond_true, ble_ok (by omega), cond_true, wrap_ok (by omega) (by omega)]
              simp [encEs, encE]
          | true =>
            simp only [Bool.not_true, cond_false]
            rw [ble_ok (by omega), cond_true, ble_ok (by omega), cond_true, wrap_ok (by omega) (by omega)]
            simp [encEs, encE])
    (by
      intro i x w w' hx hw he
      unfold putEF at he
      split at he
      · cases he
      · split at he <;> cases he <;> simp <;> omega)
    (by
      intro w hw
      simp only [M.spec_l48Put_l4_b, M.spec_l48Put_l4_C, encEs_length]
      rw [decide_eq_false (by omega), cond_false]
      rfl)
    (false, []) (by simp)
  have h1 : encEs [] = [] := rfl
  simp only [nat0, h1] at hloop
  simp only [M.spec_l48Put, M.spec_l48Put_C, M.spec_l48Put_l4]
  rw [hloop, some_bind]
  by_cases hs : e ∈ l
  · rw [putE_in e l.length l _ hs, putE, if_pos hs]
    show (bif flatRows (encEs l) then some (encEs l) else none) = _
    rw [flat_encEs]; rfl
  · obtain ⟨d, o, e1, e2⟩ := putE_out e l.length l (false, []) hs
    rw [e1, putE, if_neg hs]
    simp only [List.nil_append, if_neg (show ¬ (false = true) from by decide)] at e2
    rw [← e2]
    show (bif !d then _ else _) = _
    have hlen : (if d = true then o else o ++ [e]).length = l.length + 1 := by rw [e2, insE_length]
    cases d with
    | true =>
      rw [Bool.not_true, cond_false, if_pos rfl]
      show (bif flatRows (encEs o) then some (encEs o) else none) = _
      rw [flat_encEs]; rfl
    | false =>
      simp only [if_neg (show ¬ (false = true) from by decide), List.length_append, List.length_singleton] at hlen
      rw [Bool.not_false, cond_true, if_neg (by decide)]
      show (bif (((encEs o).length + 1) * 32).ble 140737488355328 then (bif ((encEs o).length + 1).ble 140737488355328 then (bif flatRows (encEs o ++ encEs [e]) then some (encEs o ++ encEs [e]) else none) else none) else none) = _
      rw [encEs_length, ble_ok (by omega), cond_true, ble_ok (by omega), cond_true, ← encEs_append, flat_encEs]; rfl
def callsIn (fr : Str) (ns : List Nd) : List Ed := (ns.filter fun n => n.kind == 7).map fun n => (fr, n.text)
theorem callsIn_length (fr : Str) (ns : List Nd) : (callsIn fr ns).length ≤ ns.length := by
  rw [callsIn, List.length_map]
  exact List.length_filter_le _ _
theorem callsIn_fold (fr : Str) : ∀ (ns : List Nd) (w : List Ed), ns.foldl (fun w n => if n.kind = 7 then putE w (fr, n.text) else w) w = (callsIn fr ns).foldl putE w
  | [], w => rfl
  | n :: ns, w => by
    rw [List.foldl_cons, callsIn_fold fr ns, callsIn, callsIn]
    by_cases h : n.kind = 7
    · rw [if_pos h, List.filter_cons_of_pos (by simp [h]), List.map_cons, List.foldl_cons]
    · rw [if_neg h, List.filter_cons_of_neg (by simp [h])]
theorem spec_l13_ok (l kids : List Row) (k : Int) (fr : Str) (ns : List Nd) (w : List Ed) (hn : ns.length ≤ 1048576) (hw : w.length ≤ 500000000) :
    M.spec_CallsOf_l13 l kids k fr (encNs true ns) (0, encEs w) = some ((ns.length : Int), encEs ((callsIn fr ns).foldl putE w)) := by
  have h := loopM_list (M.spec_CallsOf_l13_b l kids k fr (encNs true ns)) ns (fun i (v : List Ed) => ((i : Int), encEs v)) (fun v n => .inl (if n.kind = 7 then putE v (fr, n.text) else v)) (fun v => ((ns.length : Int), encEs v)) (fun i v => v.length ≤ w.length + i)
    (by
      intro i n v hx hv
      have hi := (List.getElem?_eq_some_iff.1 hx).1
      have hg : (encNs true ns)[(i : Int).toNat]? = some (encN true n) := by rw [Int.toNat_natCast, get_encNs, hx]; rfl
      simp only [M.spec_CallsOf_l13_b, M.spec_CallsOf_l13_C, encNs_length, idx_nat, get_encNs, hx, hg, Option.map_some, some_bind, cN0, cN2]
      rw [decide_eq_true (by omega), cond_true]
      by_cases h7 : n.kind = 7
      · have hp := spec_l48Put_ok v (fr, n.text) (by omega)
        simp only at hp
        rw [if_pos h7, beq_iff_eq.2 h7, cond_true, flat_encEs, cond_true, hp, some_bind, wrap_ok (by omega) (by omega)]
        simp
      · rw [if_neg h7, beq_eq_false_iff_ne.2 h7, cond_false, wrap_ok (by omega) (by omega)]
        simp)
    (by
      intro i n v v' hx hv he
      cases he
      have := putE_length v (fr, n.text)
      split <;> omega)
    (by
      intro v hv
      simp only [M.spec_CallsOf_l13_b, M.spec_CallsOf_l13_C, encNs_length]
      rw [decide_eq_false (by omega), cond_false])
    w (by omega)
  rw [nat0] at h
  rw [M.spec_CallsOf_l13, h, foldE_inl (fun (v : List Ed) (n : Nd) => (.inl (if n.kind = 7 then putE v (fr, n.text) else v) : List Ed ⊕ (Int × List Row))) (fun v n => if n.kind = 7 then putE v (fr, n.text) else v) _ (fun _ _ => rfl), callsIn_fold]
theorem cN4' (n : Nd) : cRo 1 (encN false n) 4 = some (encI n.kids) := rfl
theorem impl_l11_ok (l v20 : List Row) (v21 v22 : Int) (fr : Str) (ns : List Nd) (w : List Ed) (hn : ns.length ≤ 1048576) (hw : w.length ≤ 500000000) :
    M.impl_CallsOf_l11 l fr v20 v21 v22 (encNs false ns) (ns.length : Int) (0, encEs w) = some ((ns.length : Int), encEs (w ++ callsIn fr ns)) := by
  have h := loopM_list (M.impl_CallsOf_l11_b l fr v20 v21 v22 (encNs false ns) (ns.length : Int)) ns (fun i (v : List Ed) => ((i : Int), encEs v)) (fun v n => .inl (v ++ callsIn fr [n])) (fun v => ((ns.length : Int), encEs v)) (fun i v => v.length ≤ w.length + i)
    (by
      intro i n v hx hv
      have hi := (List.getElem?_eq_some_iff.1 hx).1
      have hg : (encNs false ns)[(i : Int).toNat]? = some (encN false n) := by rw [Int.toNat_natCast, get_encNs, hx]; rfl
      simp only [M.impl_CallsOf_l11_b, M.impl_CallsOf_l11_C, idx_nat, get_encNs, hx, hg, Option.map_some, some_bind, cN0, cN1, cN2, cN3, cN4, encEs_length, List.length_singleton]
      rw [decide_eq_true (by omega), cond_true]
      by_cases h7 : n.kind = 7
      · rw [beq_iff_eq.2 h7, cond_true, ble_ok (by omega), cond_true, ble_ok (by omega), cond_true, wrap_ok (by omega) (by omega)]
        simp [callsIn, h7, encEs, encE]
      · rw [beq_eq_false_iff_ne.2 h7, cond_false, wrap_ok (by omega) (by omega)]
        simp [callsIn, h7])
    (by
      intro i n v v' hx hv he
      cases he
      have := callsIn_length fr [n]
      rw [List.length_append]
      simp at this
      omega)
    (by
      intro v hv
      simp only [M.impl_CallsOf_l11_b, M.impl_CallsOf_l11_C]
      rw [decide_eq_false (by omega), cond_false])
    w (by omega)
  rw [nat0] at h
  rw [M.impl_CallsOf_l11, h, foldE_inl (fun (v : List Ed) (n : Nd) => (.inl (v ++ callsIn fr [n]) : List Ed ⊕ (Int × List Row))) (fun v n => v ++ callsIn fr [n]) _ (fun _ _ => rfl)]
  congr 3
  have key : ∀ (ns : List Nd) (w : List Ed), ns.foldl (fun v n => v ++ callsIn fr [n]) w = w ++ callsIn fr ns := by
    intro ns
    induction ns with
    | nil => intro w; simp [callsIn]
    | cons n ns ih =>
      intro w
      rw [List.foldl_cons, ih, List.append_assoc]
      congr 1
      simp only [callsIn, ← List.map_append, ← List.filter_append, List.singleton_append]
  exact key ns w
def fromOf (t : Tn) : Str := if t.kind = 44 then t.text else []
def callsT (ks : List Tn) : List Ed := ks.flatMap fun t => callsIn (fromOf t) (t.flat 0)
theorem callsT_length : ∀ ks : List Tn, (callsT ks).length ≤ sizes ks
  | [] => Nat.le_refl _
  | t :: ks => by
    have h1 := callsIn_length (fromOf t) (t.flat 0)
    have h2 := callsT_length ks
    rw [t.flat_length] at h1
    rw [callsT, List.flatMap_cons, List.length_append, sizes]
    rw [callsT] at h2
    omega
theorem callsT_snoc {ks : List Tn} {j : Nat} {t : Tn} (h : ks[j]? = some t) : callsT (ks.take (j + 1)) = callsT (ks.take j) ++ callsIn (fromOf t) (t.flat 0) := by
  rw [take_succ_get h, callsT, callsT, List.flatMap_append]
  simp
theorem spec_l6_ok {T : Tn} {o : Bool} (hT : T.size ≤ 1048576) : M.spec_CallsOf_l6 (encNs o (T.flat 0)) (encI (ends T.kids 0)) (0, []) = some ((T.kids.length : Int), encEs ((callsT T.kids).foldl putE [])) := by
  have hs := T.size_kids
  have hkl := sizes_le T.kids
  have hloop := loopM_run (b := M.spec_CallsOf_l6_b (encNs o (T.flat 0)) (encI (ends T.kids 0))) (t := ((T.kids.length : Int), encEs ((callsT T.kids).foldl putE [])))
    (fun j => ((j : Int), encEs ((callsT (T.kids.take j)).foldl putE []))) T.kids.length
    (by
      intro j hj
      obtain ⟨t, ht⟩ : ∃ t, T.kids[j]? = some t := ⟨T.kids[j], by simp [hj]⟩
      have he := ends_at (b := 0) ht
      have hl : Lies (T.flat 0) (0 + sizes (T.kids.take j)) t := by
        have h := Lies.whole T
        cases T
        exact Lies.at_kid h ht
      have hp := part_tn (o := o) hT hl
      have hr := Lies.root' hl
      have hlt := hl.lt
      rw [T.flat_length] at hlt
      have hw : ((callsT (T.kids.take j)).foldl putE []).length ≤ 500000000 := by
        have h1 := puts_length (l := callsT (T.kids.take j)) (w := [])
        have h2 := callsT_length (T.kids.take j)
        simp at h1
        omega
      have hfl : (t.flat 0).length ≤ 1048576 := by rw [t.flat_length]; omega
      have h13 := fun fr => spec_l13_ok (encNs o (T.flat 0)) (encI (ends T.kids 0)) (j : Int) fr (t.flat 0) _ hfl hw
      simp only [M.spec_CallsOf_l6_b, M.spec_CallsOf_l6_C, encI_length, ends_length, idx_nat, get_encI, he, get_encNs, hr, Option.map_some, some_bind, cI0, cN0, cN2, hp, h13]
      rw [decide_eq_true (by omega), cond_true, callsT_snoc ht, List.foldl_append, fromOf, wrap_ok (by omega) (by omega)]
      by_cases h44 : t.kind = 44
      · rw [beq_iff_eq.2 h44, cond_true, if_pos h44]; rfl
      · rw [beq_eq_false_iff_ne.2 h44, cond_false, if_neg h44]; rfl)
    (by
      simp only [M.spec_CallsOf_l6_b, M.spec_CallsOf_l6_C, encI_length, ends_length]
      rw [decide_eq_false (by omega), cond_false, List.take_length]) 0 (Nat.zero_le _)
  rw [nat0, List.take_zero] at hloop
  have e : encEs ((callsT []).foldl putE []) = [] := rfl
  rw [e] at hloop
  rw [M.spec_CallsOf_l6, hloop]
theorem flat_decKs {T : Tn} {o : Bool} (hT : T.size ≤ 1048576) : decKs (encNs o (T.flat 0)) = some ((T.flat 0).map nk) := decKs_enc o _ fun n hn => by
  have := (flat_kids T 0 n hn).1
  omega
theorem impl_starts_tn {T : Tn} {o : Bool} (hT : T.size ≤ 400) : M.impl_startsOf (encNs o (T.flat 0)) = some (encI (T.sts 0), true) := by
  have hp := T.size_pos
  simp only [M.impl_startsOf, flat_decKs (T := T) (o := o) (by omega), some_bind, ks_nk, List.length_map]
  rw [if_pos (by rw [T.flat_length]; omega), startsOk, if_pos (by rw [ks_length, T.flat_length]; omega), tree_starts]
  obtain ⟨u, hu, hl⟩ := T.sts_last 0
  simp only [T.flat_length]
  rw [hu, ← hl]
  simp [rowsI, encI]
theorem impl_part_tn {T t : Tn} {o : Bool} {b : Nat} (hT : T.size ≤ 400) (h : Lies (T.flat 0) b t) : M.impl_Part (encNs o (T.flat 0)) ((b + sizes t.kids : Nat) : Int) = some (encNs true (t.flat 0)) := by
  have hlt := h.lt
  rw [T.flat_length] at hlt
  have hs := t.size_kids
  have hst := h.sts rfl
  rw [show b + t.size - 1 = b + sizes t.kids by omega] at hst
  have hg2 : (encI (T.sts 0))[(((b + sizes t.kids : Nat) : Int)).toNat]? = some [D.int .i64 (b : Int)] := by rw [Int.toNat_natCast, get_encI, hst]; rfl
  have hso : M.impl_StartOf (encNs o (T.flat 0)) ((b + sizes t.kids : Nat) : Int) = some (b : Int) := by
    simp only [M.impl_StartOf, M.impl_StartOf_C, impl_starts_tn hT, some_bind, Bool.not_true, cond_false, within_ok, encNs_length, T.flat_length]
    rw [wrap_ok (by omega) (by omega), decide_eq_true (by omega), decide_eq_true (by omega)]
    simp only [Bool.and_self, Bool.not_true, cond_false, idx_nat, get_encI, hst, hg2, Option.map_some, some_bind, cI0]
  have ht := treeAt_lies (o := o) (l := T.flat 0) (by rw [T.flat_length]; omega) h
  have hl := list_tn (t := t) (w := false) (by omega)
  simp only [M.impl_Part, M.impl_Part_C, hso, some_bind, ht, fz_rowsT, hl, pure_oneN, cond_true]
  rw [decide_eq_false (by omega), cond_false]
theorem impl_l5_ok {T : Tn} {o : Bool} (hT : T.size ≤ 400) : M.impl_CallsOf_l5 (encNs o (T.flat 0)) (encI (ends T.kids 0)) (T.kids.length : Int) (0, []) = some ((T.kids.length : Int), encEs (callsT T.kids)) := by
  have hs := T.size_kids
  have hkl := sizes_le T.kids
  have hloop := loopM_run (b := M.impl_CallsOf_l5_b (encNs o (T.flat 0)) (encI (ends T.kids 0)) (T.kids.length : Int)) (t := ((T.kids.length : Int), encEs (callsT T.kids)))
    (fun j => ((j : Int), encEs (callsT (T.kids.take j)))) T.kids.length
    (by
      intro j hj
      obtain ⟨t, ht⟩ : ∃ t, T.kids[j]? = some t := ⟨T.kids[j], by simp [hj]⟩
      have he := ends_at (b := 0) ht
      have hl : Lies (T.flat 0) (0 + sizes (T.kids.take j)) t := by
        have h := Lies.whole T
        cases T
        exact Lies.at_kid h ht
      have hp := impl_part_tn (o := o) hT hl
      have hr := Lies.root' hl
      have hlt := hl.lt
      rw [T.flat_length] at hlt
      have hw : (callsT (T.kids.take j)).length ≤ 500000000 := by
        have h2 := callsT_length (T.kids.take j)
        omega
      have hfl : (t.flat 0).length ≤ 1048576 := by rw [t.flat_length]; omega
      have h11 := fun fr => impl_l11_ok (encNs o (T.flat 0)) (encI (ends T.kids 0)) (T.kids.length : Int) (j : Int) fr (t.flat 0) _ hfl hw
      simp only [M.impl_CallsOf_l5_b, M.impl_CallsOf_l5_C, idx_nat, get_encI, he, get_encNs, hr, Option.map_some, some_bind, cI0, cN0, cN2, hp, fz_encNs, encNs_length, h11]
      rw [decide_eq_true (by omega), cond_true, callsT_snoc ht, fromOf, wrap_ok (by omega) (by omega)]
      by_cases h44 : t.kind = 44
      · rw [beq_iff_eq.2 h44, cond_true, if_pos h44]; rfl
      · rw [beq_eq_false_iff_ne.2 h44, cond_false, if_neg h44]; rfl)
    (by
      simp only [M.impl_CallsOf_l5_b, M.impl_CallsOf_l5_C]
      rw [decide_eq_false (by omega), cond_false, List.take_length]) 0 (Nat.zero_le _)
  rw [nat0, List.take_zero] at hloop
  have e : encEs (callsT []) = [] := rfl
  rw [e] at hloop
  rw [M.impl_CallsOf_l5, hloop]
theorem CallsOf_ok {l : List Nd} (h : Ok l) : ∃ E : List Ed, E.length ≤ 400 ∧ (programOk l = false → E = []) ∧ M.spec_CallsOf (encNs false l) = some (encEs E) ∧ M.impl_CallsOf (encNs false l) = some (encEs E) := by
  have a1 := spec_ProgramOk_ok l false (by have := h.len; omega) h.k h.sm
  have a2 := impl_ProgramOk_ok l false (by have := h.len; omega) h.k h.sm
  simp only [M.spec_CallsOf, M.spec_CallsOf_C, M.impl_CallsOf, M.impl_CallsOf_C, a1, a2, some_bind]
  cases pa : programOk l with
  | false => exact ⟨[], by simp, fun _ => rfl, rfl, rfl⟩
  | true =>
    obtain ⟨T, rfl, hTs⟩ := shape_tree (treeOk_shape (programOk_tree pa))
    have hs := T.size_kids
    have hlen := callsT_length T.kids
    have b1 := root_row (T := T) (o := false) (by omega)
    have b2 := spec_l6_ok (T := T) (o := false) (by omega)
    have b3 := impl_l5_ok (T := T) (o := false) (by omega)
    have b4 := sortERows_ok (callsT T.kids) (by omega)
    have b5 := compactEdRows_ok (sortE (callsT T.kids)) (by rw [sortE_length]; omega)
    refine ⟨onceE (callsT T.kids), ?_, (fun q => Bool.noConfusion q), ?_, ?_⟩
    · have := compactEd_le (sortE (callsT T.kids))
      rw [sortE_length] at this
      exact Nat.le_trans this (by omega)
    · simp only [Bool.not_true, cond_false, b1, some_bind, cN4, b2, flat_encEs, cond_true, puts_once]
    · simp only [Bool.not_true, cond_false, b1, some_bind, cN4, encI_length, ends_length, b3, M.slices_SortFunc, b4, flat_encEs, cond_true, M.slices_Compact, b5, onceE]
end Go.Proofs.YtodbelembghegaaGreatDoor
