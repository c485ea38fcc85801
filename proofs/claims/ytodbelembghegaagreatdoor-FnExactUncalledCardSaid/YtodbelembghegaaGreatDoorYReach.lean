import Derived.Test.YtodbelembghegaaGreatDoorYStrs2
namespace Go.Proofs.YtodbelembghegaaGreatDoor
set_option linter.unusedVariables false
set_option linter.unusedSimpArgs false
open Go Go.Vm
def putF (s : Str) (w : Bool × List Str) (x : Str) : (Bool × List Str) ⊕ (Unit ⊕ (Bool × Int × List Row)) :=
  if x = s then .inr (.inl ()) else if w.1 = false ∧ s < x then .inl (true, w.2 ++ [s, x]) else .inl (w.1, w.2 ++ [x])
def putFin (n : Nat) (w : Bool × List Str) : Unit ⊕ (Bool × Int × List Row) := .inr (w.1, (n : Int), encS w.2)
theorem put_in (s : Str) (n : Nat) : ∀ (t : List Str) (w : Bool × List Str), s ∈ t → foldE (putF s) (putFin n) t w = .inl ()
  | [], _, h => absurd h List.not_mem_nil
  | x :: t, w, h => by
    rw [foldE, putF]
    by_cases hx : x = s
    · rw [if_pos hx]
    · have ht : s ∈ t := (List.mem_cons.1 h).resolve_left fun e => hx e.symm
      rw [if_neg hx]
      by_cases hc : w.1 = false ∧ s < x
      · rw [if_pos hc]; exact put_in s n t _ ht
      · rw [if_neg hc]; exact put_in s n t _ ht
theorem put_out (s : Str) (n : Nat) : ∀ (t : List Str) (w : Bool × List Str), s ∉ t → ∃ d o, foldE (putF s) (putFin n) t w = putFin n (d, o) ∧ (if d then o else o ++ [s]) = w.2 ++ (if w.1 then t else insS s t)
  | [], (d, o), h => ⟨d, o, rfl, by cases d <;> simp [insS]⟩
  | x :: t, (d, o), h => by
    have hx : x ≠ s := fun e => h (by simp [e])
    have ht : s ∉ t := fun k => h (List.mem_cons_of_mem _ k)
    rw [foldE, putF, if_neg hx]
    by_cases hc : d = false ∧ s < x
    · rw [if_pos hc]
      obtain ⟨d', o', h1, h2⟩ := put_out s n t (true, o ++ [s, x]) ht
      refine ⟨d', o', h1, h2.trans ?_⟩
      rw [hc.1]
      have : ¬ x < s := fun k => Str.lt_irrefl _ (Str.lt_trans k hc.2)
      simp [insS, this]
    · rw [if_neg hc]
      obtain ⟨d', o', h1, h2⟩ := put_out s n t (d, o ++ [x]) ht
      refine ⟨d', o', h1, h2.trans ?_⟩
      cases d with
      | true => simp
      | false =>
        have hlt : x < s := by
          rcases Str.lt_or x s with k | k | k
          · exact k
          · exact absurd k hx
          · exact absurd ⟨rfl, k⟩ hc
        simp [insS, hlt]
theorem spec_l23Put_ok (l : List Str) (s : Str) (hl : l.length ≤ 1000000000) : M.spec_l23Put (encS l) s = some (encS (putS l s)) := by
  have hloop := loopM_list (M.spec_l23Put_l4_b s (encS l)) l (fun i (w : Bool × List Str) => (w.1, (i : Int), encS w.2)) (putF s) (putFin l.length) (fun i w => w.2.length ≤ 2 * i)
    (by
      intro i x w hx hw
      have hi := (List.getElem?_eq_some_iff.1 hx).1
      have hg : (encS l)[(i : Int).toNat]? = some [D.str x] := by rw [Int.toNat_natCast, get_encS, hx]; rfl
      simp only [M.spec_l23Put_l4_b, M.spec_l23Put_l4_C, encS_length, idx_nat, get_encS, hx, hg, Option.map_some, some_bind, cS0, putF, gt_eq, List.length_append, List.length_singleton]
      rw [decide_eq_true (by omega), cond_true]
      by_cases he : x = s
      · rw [if_pos he, beq_iff_eq.2 he]; rfl
      · rw [if_neg he, beq_eq_false_iff_ne.2 he, cond_false]
        by_cases hc : w.1 = false ∧ s < x
        · rw [if_pos hc, hc.1, decide_eq_true hc.2, Bool.not_false, cond_true, cond_true, ble_ok (by omega), cond_true, ble_ok (by omega), cond_true, ble_ok (by omega), cond_true, ble_ok (by omega), cond_true, wrap_ok (by omega) (by omega)]
          simp [encS]
        · rw [if_neg hc]
          cases hd : w.1 with
          | false =>
            have : ¬ s < x := fun k => hc ⟨hd, k⟩
            rw [decide_eq_false this, Bool.not_false, cond_true, cond_false, ble_ok (by omega), cond_true, ble_ok (by omega), cond_true, wrap_ok (by omega) (by omega)]
            simp [encS]
          | true =>
            rw [Bool.not_true, cond_false, ble_ok (by omega), cond_true, ble_ok (by omega), cond_true, wrap_ok (by omega) (by omega)]
            simp [encS])
    (by
      intro i x w w' hx hw he
      unfold putF at he
      split at he
      · cases he
      · split at he <;> cases he <;> simp <;> omega)
    (by
      intro w hw
      simp only [M.spec_l23Put_l4_b, M.spec_l23Put_l4_C, encS_length]
      rw [decide_eq_false (by omega), cond_false]
      rfl)
    (false, []) (by simp)
  have h0 : ((0 : Nat) : Int) = 0 := rfl
  have h1 : encS [] = [] := rfl
  simp only [h0, h1] at hloop
  simp only [M.spec_l23Put, M.spec_l23Put_C, M.spec_l23Put_l4]
  rw [hloop, some_bind]
  by_cases hs : s ∈ l
  · rw [put_in s l.length l _ hs, putS, if_pos hs]
    show (bif flatRows (encS l) then some (encS l) else none) = _
    rw [flat_encS]; rfl
  · obtain ⟨d, o, e1, e2⟩ := put_out s l.length l (false, []) hs
    rw [e1, putS, if_neg hs]
    simp only [List.nil_append, if_neg (show ¬ (false = true) from by decide)] at e2
    rw [← e2]
    show (bif !d then _ else _) = _
    have hlen : (if d = true then o else o ++ [s]).length = l.length + 1 := by rw [e2, insS_length]
    cases d with
    | true =>
      rw [Bool.not_true, cond_false, if_pos rfl]
      show (bif flatRows (encS o) then some (encS o) else none) = _
      rw [flat_encS]; rfl
    | false =>
      simp only [if_neg (show ¬ (false = true) from by decide), List.length_append, List.length_singleton] at hlen
      rw [Bool.not_false, cond_true, if_neg (by decide)]
      show (bif (((encS o).length + 1) * 16).ble 140737488355328 then (bif ((encS o).length + 1).ble 140737488355328 then (bif flatRows (encS o ++ encS [s]) then some (encS o ++ encS [s]) else none) else none) else none) = _
      rw [encS_length, ble_ok (by omega), cond_true, ble_ok (by omega), cond_true, ← encS_append, flat_encS]; rfl
theorem find_fold {τ : Type} (s : Str) (a b : Nat → τ) (f : Nat → Str → Nat ⊕ τ) (hf : ∀ w x, f w x = if x = s then .inr (a w) else .inl (w + 1)) : ∀ (t : List Str) (w : Nat),
    (s ∈ t → ∃ n, foldE f b t w = a n) ∧ (s ∉ t → foldE f b t w = b (w + t.length))
  | [], w => ⟨fun h => absurd h List.not_mem_nil, fun _ => rfl⟩
  | x :: t, w => by
    rw [foldE, hf]
    by_cases hx : x = s
    · rw [if_pos hx]
      exact ⟨fun _ => ⟨w, rfl⟩, fun h => absurd (by simp [hx]) h⟩
    · rw [if_neg hx]
      obtain ⟨h1, h2⟩ := find_fold s a b f hf t (w + 1)
      refine ⟨fun h => h1 ((List.mem_cons.1 h).resolve_left fun e => hx e.symm), fun h => ?_⟩
      rw [List.length_cons, show w + (t.length + 1) = w + 1 + t.length by omega]
      exact h2 fun k => h (List.mem_cons_of_mem _ k)
theorem spec_l3Find_ok (l : List Str) (s : Str) (hl : l.length ≤ 1000000000) : ∃ r, M.spec_l3Find (encS l) s = some r ∧ decide (r ≥ 0) = decide (s ∈ l) := by
  have hloop := loopM_list (M.spec_l3Find_l2_b (encS l) s) l (fun i (w : Nat) => (i : Int)) (fun w x => if x = s then .inr (.inl (w : Int)) else .inl (w + 1)) (fun w => .inr (w : Int)) (fun i w => w = i)
    (by
      rintro i x w hx rfl
      have hi := (List.getElem?_eq_some_iff.1 hx).1
      simp only [M.spec_l3Find_l2_b, M.spec_l3Find_l2_C, encS_length, idx_nat, get_encS, hx, Option.map_some, some_bind, cS0]
      rw [decide_eq_true (by omega), cond_true]
      by_cases he : x = s
      · rw [if_pos he, beq_iff_eq.2 he]; rfl
      · rw [if_neg he, beq_eq_false_iff_ne.2 he, cond_false, wrap_ok (by omega) (by omega)]; rfl)
    (by
      rintro i x w w' hx rfl he
      split at he
      · cases he
      · cases he; rfl)
    (by
      rintro w rfl
      simp only [M.spec_l3Find_l2_b, M.spec_l3Find_l2_C, encS_length]
      rw [decide_eq_false (by omega), cond_false])
    0 rfl
  simp only [nat0] at hloop
  obtain ⟨h1, h2⟩ := find_fold s (fun w => (.inl (w : Int) : Int ⊕ Int)) (fun w => .inr (w : Int)) _ (fun _ _ => rfl) l 0
  simp only [M.spec_l3Find, M.spec_l3Find_C, M.spec_l3Find_l2]
  rw [hloop, some_bind]
  by_cases hs : s ∈ l
  · obtain ⟨n, hn⟩ := h1 hs
    rw [hn]
    exact ⟨_, rfl, by rw [decide_eq_true hs, decide_eq_true (by omega)]⟩
  · rw [h2 hs]
    exact ⟨_, rfl, by rw [decide_eq_false hs, decide_eq_false (by omega)]⟩
theorem slices_Contains_ok (l : List Str) (s : Str) (hl : l.length ≤ 1000000000) : M.slices_Contains (encS l) s = some (decide (s ∈ l)) := by
  have hloop := loopM_list (M.slices_Index_l2_b (encS l) s (l.length : Int)) l (fun i (w : Nat) => (i : Int)) (fun w x => if x = s then .inr (.inl (w : Int)) else .inl (w + 1)) (fun w => .inr (w : Int)) (fun i w => w = i)
    (by
      rintro i x w hx rfl
      have hi := (List.getElem?_eq_some_iff.1 hx).1
      simp only [M.slices_Index_l2_b, M.slices_Index_l2_C, idx_nat, get_encS, hx, Option.map_some, some_bind, cS0]
      rw [decide_eq_true (by omega), cond_true]
      by_cases he : x = s
      · rw [if_pos he, beq_iff_eq.2 he.symm]; rfl
      · rw [if_neg he, beq_eq_false_iff_ne.2 (Ne.symm he), cond_false, wrap_ok (by omega) (by omega)]; rfl)
    (by
      rintro i x w w' hx rfl he
      split at he
      · cases he
      · cases he; rfl)
    (by
      rintro w rfl
      simp only [M.slices_Index_l2_b, M.slices_Index_l2_C]
      rw [decide_eq_false (by omega), cond_false])
    0 rfl
  simp only [nat0] at hloop
  obtain ⟨h1, h2⟩ := find_fold s (fun w => (.inl (w : Int) : Int ⊕ Int)) (fun w => .inr (w : Int)) _ (fun _ _ => rfl) l 0
  simp only [M.slices_Contains, M.slices_Contains_C, M.slices_Index, M.slices_Index_C, M.slices_Index_l2, encS_length]
  rw [hloop, some_bind]
  by_cases hs : s ∈ l
  · obtain ⟨n, hn⟩ := h1 hs
    rw [hn, decide_eq_true hs]
    show some (decide ((n : Int) ≥ 0)) = _
    rw [decide_eq_true (by omega)]
  · rw [h2 hs, decide_eq_false hs]
    rfl
theorem impl_once_ok (l : List Str) (hl : l.length ≤ 1000000000) : M.impl_once (encS l) = some (encS (onceS l)) := by
  have h1 : M.slices_Sort (encS l) = some (encS (sortS l)) := by
    rw [M.slices_Sort, sortRows, decS_enc]
    have : Nat.blt l.length 4611686018427387904 = true := by rw [Nat.blt_eq]; omega
    simp only [this, cond_true]
  have h2 : M.slices_Compact_v1 (encS (sortS l)) = some (encS (onceS l)) := by
    rw [M.slices_Compact_v1, compactRows, decS_enc]
    have : Nat.blt (sortS l).length 4611686018427387904 = true := by rw [Nat.blt_eq, sortS_length]; omega
    simp only [this, cond_true, onceS]
  simp only [M.impl_once, M.impl_once_C]
  rw [h1, some_bind, flat_encS, cond_true, h2, some_bind, flat_encS, cond_true]
section
variable (l : List Ed) (s : Str)
def stp (out : List Str) (e : Ed) : List Str := if e.1 = s ∨ e.1 ∈ out then putS out e.2 else out
def pass (out : List Str) : List Str := l.foldl (stp s) out
def passes : Nat → List Str
  | 0 => []
  | n + 1 => pass l s (passes n)
structure Good (w : List Str) : Prop where
  up : up w
  mem : ∀ x, x ∈ w → Rch l s x
end
section
variable {l : List Ed} {s : Str}
theorem Good.len {w : List Str} (h : Good l s w) : w.length ≤ l.length := by
  have := nodup_le (up_nodup h.up) (b := l.map (·.2)) fun x hx => (h.mem x hx).mem
  simpa using this
theorem good_stp {w : List Str} (h : Good l s w) {e : Ed} (he : e ∈ l) : Good l s (stp s w e) := by
  unfold stp
  split
  · rename_i hc
    refine ⟨up_putS h.up, fun x hx => ?_⟩
    rcases mem_putS.1 hx with rfl | hx
    · rcases hc with hc | hc
      · exact .one _ (by rw [← hc]; exact he)
      · exact .more _ _ (h.mem _ hc) he
    · exact h.mem x hx
  · exact h
theorem good_fold : ∀ (t : List Ed), (∀ e, e ∈ t → e ∈ l) → ∀ {w : List Str}, Good l s w → Good l s (t.foldl (stp s) w)
  | [], _, _, h => h
  | e :: t, ht, _, h => good_fold t (fun x hx => ht x (List.mem_cons_of_mem _ hx)) (good_stp h (ht e List.mem_cons_self))
theorem good_passes : ∀ n, Good l s (passes l s n)
  | 0 => ⟨List.Pairwise.nil, fun x hx => absurd hx List.not_mem_nil⟩
  | n + 1 => good_fold l (fun _ h => h) (good_passes n)
theorem stp_sub {w : List Str} {e : Ed} {x : Str} (h : x ∈ w) : x ∈ stp s w e := by
  unfold stp
  split
  · exact mem_putS.2 (.inr h)
  · exact h
theorem fold_sub : ∀ (t : List Ed) {w : List Str} {x : Str}, x ∈ w → x ∈ t.foldl (stp s) w
  | [], _, _, h => h
  | e :: t, _, _, h => fold_sub t (stp_sub h)
theorem fold_closed : ∀ (t : List Ed) (w : List Str) (e : Ed), e ∈ t → (e.1 = s ∨ e.1 ∈ w) → e.2 ∈ t.foldl (stp s) w
  | [], _, _, h, _ => absurd h List.not_mem_nil
  | d :: t, w, e, h, hc => by
    rw [List.foldl_cons]
    rcases List.mem_cons.1 h with rfl | h
    · refine fold_sub t ?_
      unfold stp
      rw [if_pos hc]
      exact mem_putS.2 (.inl rfl)
    · exact fold_closed t _ e h (hc.imp id stp_sub)
theorem passes_len (l : List Ed) (s : Str) : ∀ n, (∃ k, k ≤ n ∧ passes l s (k + 1) = passes l s k) ∨ n + 1 ≤ (passes l s (n + 1)).length := by
  intro n
  induction n with
  | zero =>
    by_cases h : passes l s 1 = passes l s 0
    · exact .inl ⟨0, Nat.le_refl _, h⟩
    · refine .inr (List.length_pos_iff.2 fun e => h ?_)
      rw [e]; rfl
  | succ n ih =>
    rcases ih with ⟨k, hk, e⟩ | ih
    · exact .inl ⟨k, by omega, e⟩
    · by_cases h : passes l s (n + 2) = passes l s (n + 1)
      · exact .inl ⟨n + 1, Nat.le_refl _, h⟩
      · refine .inr ?_
        show n + 2 ≤ (passes l s (n + 2)).length
        have h1 := nodup_le (up_nodup (good_passes (l := l) (s := s) (n + 1)).up) (b := passes l s (n + 2)) fun x hx => fold_sub l hx
        have hne : (passes l s (n + 1)).length ≠ (passes l s (n + 2)).length := by
          intro e
          apply h
          refine up_ext (good_passes _).up (good_passes _).up fun x => ⟨fun hx => ?_, fun hx => fold_sub l hx⟩
          refine Classical.byContradiction fun hn => ?_
          have := nodup_le (a := x :: passes l s (n + 1)) (b := passes l s (n + 2)) (List.nodup_cons.2 ⟨hn, up_nodup (good_passes _).up⟩) fun y hy => by
            rcases List.mem_cons.1 hy with rfl | hy
            · exact hx
            · exact fold_sub l hy
          rw [List.length_cons] at this
          omega
        omega
theorem passes_stable {k : Nat} (h : passes l s (k + 1) = passes l s k) : ∀ n, k ≤ n → passes l s n = passes l s k := by
  intro n hn
  obtain ⟨d, rfl⟩ : ∃ d, n = k + d := ⟨n - k, by omega⟩
  induction d with
  | zero => rfl
  | succ d ih =>
    have e : passes l s (k + (d + 1)) = pass l s (passes l s (k + d)) := rfl
    rw [e, ih (by omega)]
    exact h
theorem mem_passes {x : Str} : x ∈ passes l s (l.length + 1) ↔ Rch l s x := by
  refine ⟨(good_passes _).mem x, fun hx => ?_⟩
  rcases passes_len l s l.length with ⟨k, hk, e⟩ | h
  · rw [passes_stable e _ (by omega)]
    refine Rch.closed (fun e' he hc => ?_) hx
    rw [← e]
    exact fold_closed l _ e' he hc
  · have := (good_passes (l := l) (s := s) (l.length + 1)).len
    omega
theorem spec_pass_ok (hl : l.length ≤ 1048576) (n : Int) {w : List Str} (hw : Good l s w) : M.spec_Reached_l6 (encEs l) s n (0, encS w) = some ((l.length : Int), encS (pass l s w)) := by
  have hloop := loopM_list (M.spec_Reached_l6_b (encEs l) s n) l (fun i (w : List Str) => ((i : Int), encS w)) (fun w e => .inl (stp s w e)) (fun w => ((l.length : Int), encS w)) (fun _ w => Good l s w)
    (by
      intro i e w hx hw
      have hi := (List.getElem?_eq_some_iff.1 hx).1
      have hwl := hw.len
      have hp := spec_l23Put_ok w e.2 (by omega)
      obtain ⟨r, hr, hr2⟩ := spec_l3Find_ok w e.1 (by omega)
      simp only [M.spec_Reached_l6_b, M.spec_Reached_l6_C, encEs_length, idx_nat, get_encEs, hx, Option.map_some, some_bind, cE0, cE1, flat_encS, cond_true, hp, hr, hr2]
      rw [decide_eq_true (by omega), cond_true, wrap_ok (by omega) (by omega), stp]
      by_cases h1 : e.1 = s
      · rw [beq_iff_eq.2 h1, if_pos (.inl h1)]; rfl
      · rw [beq_eq_false_iff_ne.2 h1, cond_false]
        by_cases h2 : e.1 ∈ w
        · rw [decide_eq_true h2, if_pos (.inr h2)]; rfl
        · rw [decide_eq_false h2, if_neg (by rintro (h | h) <;> contradiction)]; rfl)
    (by
      intro i e w w' hx hw he
      cases he
      exact good_stp hw (List.mem_of_getElem? hx))
    (by
      intro w hw
      simp only [M.spec_Reached_l6_b, M.spec_Reached_l6_C, encEs_length]
      rw [decide_eq_false (by omega), cond_false])
    w hw
  simp only [nat0] at hloop
  rw [M.spec_Reached_l6, hloop, foldE_inl _ (stp s) _ fun _ _ => rfl]
  rfl
theorem spec_Reached_ok (hl : l.length ≤ 1048576) : M.spec_Reached (encEs l) s = some (encS (passes l s (l.length + 1))) := by
  have hloop := loopM_run (b := M.spec_Reached_l3_b (encEs l) s) (t := ((l.length : Int) + 1, encS (passes l s (l.length + 1)))) (fun k => ((k : Int), encS (passes l s k))) (l.length + 1)
    (by
      intro k hk
      simp only [M.spec_Reached_l3_b, M.spec_Reached_l3_C, encEs_length, spec_pass_ok hl _ (good_passes k), some_bind]
      rw [decide_eq_true (by omega), cond_true, wrap_ok (by omega) (by omega)]
      rfl)
    (by
      simp only [M.spec_Reached_l3_b, M.spec_Reached_l3_C, encEs_length]
      rw [decide_eq_false (by omega), cond_false]
      rfl) 0 (Nat.zero_le _)
  have h1 : encS (passes l s 0) = [] := rfl
  rw [nat0, h1] at hloop
  simp only [M.spec_Reached, M.spec_Reached_C, M.spec_Reached_l3]
  rw [hloop, some_bind, flat_encS, cond_true]
def newTo (a : Str) : List Ed → List Str → List Str
  | [], _ => []
  | e :: t, out => if e.1 = a ∧ e.2 ∉ out then e.2 :: newTo a t (out ++ [e.2]) else newTo a t out
structure Nice (l : List Ed) (s : Str) (out : List Str) : Prop where
  nd : out.Nodup
  mem : ∀ x, x ∈ out → Rch l s x
theorem Nice.len {out : List Str} (h : Nice l s out) : out.length ≤ l.length := by
  have := nodup_le h.nd (b := l.map (·.2)) fun x hx => (h.mem x hx).mem
  simpa using this
theorem nice_new {a : Str} (ha : a = s ∨ Rch l s a) : ∀ (t : List Ed), (∀ e, e ∈ t → e ∈ l) → ∀ {out : List Str}, Nice l s out → Nice l s (out ++ newTo a t out)
  | [], _, out, h => by rw [newTo, List.append_nil]; exact h
  | e :: t, ht, out, h => by
    rw [newTo]
    split
    · rename_i hc
      have he := ht e List.mem_cons_self
      have h1 : Nice l s (out ++ [e.2]) := by
        refine ⟨List.nodup_append.2 ⟨h.nd, by simp, fun x hx y hy e' => ?_⟩, fun x hx => ?_⟩
        · simp only [List.mem_singleton] at hy
          exact hc.2 (by rw [← hy, ← e']; exact hx)
        · rcases List.mem_append.1 hx with hx | hx
          · exact h.mem x hx
          · simp only [List.mem_singleton] at hx
            subst hx
            rcases ha with rfl | ha
            · exact .one _ (by rw [← hc.1]; exact he)
            · exact .more _ _ ha (by rw [← hc.1]; exact he)
      have := nice_new ha t (fun x hx => ht x (List.mem_cons_of_mem _ hx)) h1
      rwa [List.append_assoc] at this
    · exact nice_new ha t (fun x hx => ht x (List.mem_cons_of_mem _ hx)) h
theorem new_closed {a : Str} : ∀ (t : List Ed) (out : List Str) (e : Ed), e ∈ t → e.1 = a → e.2 ∈ out ++ newTo a t out
  | [], _, _, h, _ => absurd h List.not_mem_nil
  | d :: t, out, e, h, ha => by
    rw [newTo]
    split
    · rename_i hc
      rcases List.mem_cons.1 h with rfl | h
      · simp
      · have := new_closed t (out ++ [d.2]) e h ha
        rwa [List.append_assoc] at this
    · rename_i hc
      rcases List.mem_cons.1 h with rfl | h
      · have : e.2 ∈ out := Classical.byContradiction fun hn => hc ⟨ha, hn⟩
        exact List.mem_append_left _ this
      · exact new_closed t out e h ha
theorem impl_round_ok (hl : l.length ≤ 1048576) {a : Str} (ha : a = s ∨ Rch l s a) {out todo : List Str} (ho : Nice l s out) (htl : todo.length ≤ out.length + 1) :
    M.impl_Reached_l6 (encEs l) a (encEs l) (l.length : Int) (0, encS out, encS todo) = some ((l.length : Int), encS (out ++ newTo a l out), encS (todo ++ newTo a l out)) := by
  have hloop := loopM_list (M.impl_Reached_l6_b (encEs l) a (encEs l) (l.length : Int)) l (fun i (w : List Str × List Str) => ((i : Int), encS w.1, encS w.2)) (fun w e => if e.1 = a ∧ e.2 ∉ w.1 then .inl (w.1 ++ [e.2], w.2 ++ [e.2]) else .inl w) (fun w => ((l.length : Int), encS w.1, encS w.2)) (fun _ w => Nice l s w.1 ∧ w.2.length ≤ w.1.length + 1)
    (by
      rintro i e ⟨o, q⟩ hx ⟨hw, hq⟩
      have hi := (List.getElem?_eq_some_iff.1 hx).1
      have hwl := hw.len
      simp only at hq hwl
      have hc := slices_Contains_ok o e.2 (by omega)
      simp only [M.impl_Reached_l6_b, M.impl_Reached_l6_C, idx_nat, get_encEs, hx, Option.map_some, some_bind, cE0, cE1, hc, encS_length, List.length_singleton]
      rw [decide_eq_true (by omega), cond_true, wrap_ok (by omega) (by omega)]
      by_cases h1 : e.1 = a
      · rw [beq_iff_eq.2 h1, cond_true]
        by_cases h2 : e.2 ∈ o
        · rw [decide_eq_true h2, if_neg (by rintro ⟨_, h⟩; contradiction)]; rfl
        · rw [decide_eq_false h2, if_pos ⟨h1, h2⟩, Bool.not_false, cond_true, ble_ok (by omega), cond_true, ble_ok (by omega), cond_true, ble_ok (by omega), cond_true, ble_ok (by omega), cond_true]
          simp [encS]
      · rw [beq_eq_false_iff_ne.2 h1, if_neg (by rintro ⟨h, _⟩; contradiction)]; rfl)
    (by
      rintro i e ⟨o, q⟩ w' hx ⟨hw, hq⟩ he
      split at he
      · rename_i hc
        cases he
        have := nice_new (a := a) ha [e] (by simp; exact List.mem_of_getElem? hx) hw
        rw [newTo, if_pos hc, newTo] at this
        exact ⟨this, by simp at hq ⊢; omega⟩
      · cases he; exact ⟨hw, hq⟩)
    (by
      rintro ⟨o, q⟩ hw
      simp only [M.impl_Reached_l6_b, M.impl_Reached_l6_C]
      rw [decide_eq_false (by omega), cond_false])
    (out, todo) ⟨ho, htl⟩
  simp only [nat0] at hloop
  have hfold : ∀ (t : List Ed) (o q : List Str), foldE (fun (w : List Str × List Str) (e : Ed) => (if e.1 = a ∧ e.2 ∉ w.1 then .inl (w.1 ++ [e.2], w.2 ++ [e.2]) else .inl w : (List Str × List Str) ⊕ (Int × List Row × List Row))) (fun w => ((l.length : Int), encS w.1, encS w.2)) t (o, q) =
      ((l.length : Int), encS (o ++ newTo a t o), encS (q ++ newTo a t o)) := by
    intro t
    induction t with
    | nil => intro o q; simp [foldE, newTo]
    | cons e t ih =>
      intro o q
      rw [foldE, newTo]
      by_cases hc : e.1 = a ∧ e.2 ∉ o
      · rw [if_pos hc, if_pos hc]
        simp only
        rw [ih]
        simp
      · rw [if_neg hc, if_neg hc]
        exact ih o q
  rw [M.impl_Reached_l6, hloop, hfold]
structure Queue (l : List Ed) (s : Str) (out todo : List Str) : Prop where
  nice : Nice l s out
  todo_ : ∀ x, x ∈ todo → x = s ∨ x ∈ out
  done : ∀ x, (x = s ∨ x ∈ out) → x ∈ todo ∨ ∀ e, e ∈ l → e.1 = x → e.2 ∈ out
  len : todo.length ≤ out.length + 1
theorem queue_step {out todo : List Str} {a : Str} (h : Queue l s out (a :: todo)) : Queue l s (out ++ newTo a l out) (todo ++ newTo a l out) ∧ (a = s ∨ Rch l s a) := by
  have ha : a = s ∨ Rch l s a := (h.todo_ a List.mem_cons_self).imp id (h.nice.mem a)
  refine ⟨⟨nice_new ha l (fun _ h => h) h.nice, fun x hx => ?_, fun x hx => ?_, ?_⟩, ha⟩
  · rcases List.mem_append.1 hx with hx | hx
    · exact (h.todo_ x (List.mem_cons_of_mem _ hx)).imp id (List.mem_append_left _)
    · exact .inr (List.mem_append_right _ hx)
  · by_cases hn : x ∈ newTo a l out
    · exact .inl (List.mem_append_right _ hn)
    · have hx' : x = s ∨ x ∈ out := hx.imp id fun h => (List.mem_append.1 h).resolve_right hn
      rcases h.done x hx' with k | k
      · rcases List.mem_cons.1 k with rfl | k
        · exact .inr fun e he hea => new_closed l out e he hea
        · exact .inl (List.mem_append_left _ k)
      · exact .inr fun e he hea => List.mem_append_left _ (k e he hea)
  · have := h.len
    simp only [List.length_cons, List.length_append] at this ⊢
    omega
def stA (x : List Row × List Row × List Row) : (List Row × List Row × List Row) ⊕ (List Row × List UInt8 × List Row × Int × Int × Bool × List Row × List Row) := .inl x
theorem impl_queue (hl : l.length ≤ 1048576) : ∀ (m : Nat) (out todo : List Str), Queue l s out todo → todo.length + (l.length - out.length) ≤ m →
    ∀ (st : (List Row × List Row × List Row) ⊕ (List Row × List UInt8 × List Row × Int × Int × Bool × List Row × List Row)),
      (st = .inl (encEs l, encS out, encS todo) ∨ ∃ a v v22 v23 v24, st = .inr (encEs l, a, v, v22, v23, v24, encS out, encS todo)) →
      ∃ out' : List Str, (∀ x, x ∈ out' ↔ Rch l s x) ∧ out'.length ≤ l.length ∧
        (loopM M.impl_Reached_l2_b st = some (.inl (encEs l, encS out', [])) ∨ loopM M.impl_Reached_l2_b st = some (.inr (encEs l, encS out', []))) := by
  intro m
  induction m with
  | zero =>
    intro out todo h hm st hst
    have ht : todo = [] := List.length_eq_zero_iff.1 (by omega)
    subst ht
    refine ⟨out, fun x => ⟨h.nice.mem x, Rch.closed fun e he hc => ?_⟩, h.nice.len, ?_⟩
    · exact (h.done e.1 hc).elim (fun k => absurd k List.not_mem_nil) (fun k => k e he rfl)
    · rcases hst with rfl | ⟨a, v, v22, v23, v24, rfl⟩
      · left; apply loopM_end
        simp only [M.impl_Reached_l2_b, M.impl_Reached_l2_C, encS_length]
        rfl
      · right; apply loopM_end
        simp only [M.impl_Reached_l2_b, M.impl_Reached_l2_C, encS_length]
        rfl
  | succ m ih =>
    intro out todo h hm st hst
    cases todo with
    | nil =>
      refine ⟨out, fun x => ⟨h.nice.mem x, Rch.closed fun e he hc => ?_⟩, h.nice.len, ?_⟩
      · exact (h.done e.1 hc).elim (fun k => absurd k List.not_mem_nil) (fun k => k e he rfl)
      · rcases hst with rfl | ⟨a, v, v22, v23, v24, rfl⟩
        · left; apply loopM_end
          simp only [M.impl_Reached_l2_b, M.impl_Reached_l2_C, encS_length]
          rfl
        · right; apply loopM_end
          simp only [M.impl_Reached_l2_b, M.impl_Reached_l2_C, encS_length]
          rfl
    | cons a todo =>
      obtain ⟨hq, ha⟩ := queue_step h
      have hn := hq.nice.len
      have hlen := h.len
      simp only [List.length_cons, List.length_append] at hm hlen hn
      have hround := impl_round_ok hl ha h.nice (todo := todo) (by omega)
      have hstep : M.impl_Reached_l2_b st = some (.inl (.inr (encEs l, a, encEs l, (l.length : Int), (l.length : Int), false, encS (out ++ newTo a l out), encS (todo ++ newTo a l out)))) := by
        have e0 : idx (encS (a :: todo)) 0 = some [D.str a] := rfl
        have e1 : (encS (a :: todo))[0]? = some [D.str a] := rfl
        have e2 : (encS (a :: todo)).drop 1 = encS todo := rfl
        have e3 : (true && decide (1 ≤ ((a :: todo).length : Int))) = true := by
          rw [Bool.true_and, decide_eq_true (by simp only [List.length_cons]; omega)]
        have e4 : decide (((a :: todo).length : Int) > 0) = true := decide_eq_true (by simp only [List.length_cons]; omega)
        rcases hst with rfl | ⟨b, v, v22, v23, v24, rfl⟩ <;>
          simp only [M.impl_Reached_l2_b, M.impl_Reached_l2_C, encS_length, encEs_length, e0, e1, e2, e3, e4, cond_true, some_bind, cS0, hround]
      rw [loopM_next hstep]
      exact ih _ _ hq (by simp only [List.length_append]; omega) _ (.inr ⟨_, _, _, _, _, rfl⟩)
theorem impl_Reached_ok (hl : l.length ≤ 1048576) : M.impl_Reached (encEs l) s = some (encS (passes l s (l.length + 1))) := by
  have h0 : Queue l s [] [s] := ⟨⟨by simp, fun x hx => absurd hx List.not_mem_nil⟩, fun x hx => .inl (by simpa using hx), fun x hx => by
    rcases hx with rfl | hx
    · exact .inl (by simp)
    · exact absurd hx List.not_mem_nil, by simp⟩
  obtain ⟨out, h1, h2, h3⟩ := impl_queue hl (1 + l.length) [] [s] h0 (by simp) _ (.inl rfl)
  have e : onceS out = passes l s (l.length + 1) := onceS_eq (good_passes _).up fun x => by rw [mem_passes, h1]
  have ho := impl_once_ok out (by omega)
  have e0 : encS [] = [] := rfl
  have e1 : encS [s] = [[D.str s]] := rfl
  rw [e0, e1] at h3
  simp only [M.impl_Reached, M.impl_Reached_C, M.impl_Reached_l2]
  rcases h3 with h3 | h3
  · rw [h3, some_bind]
    show (bif flatRows (encS out) then ((M.impl_once (encS out)).bind fun r79 => (bif flatRows r79 then (some r79) else none)) else none) = _
    rw [flat_encS, cond_true, ho, some_bind, flat_encS, cond_true, e]
  · rw [h3, some_bind]
    show (bif flatRows (encS out) then ((M.impl_once (encS out)).bind fun r79 => (bif flatRows r79 then (some r79) else none)) else none) = _
    rw [flat_encS, cond_true, ho, some_bind, flat_encS, cond_true, e]
end
end Go.Proofs.YtodbelembghegaaGreatDoor
