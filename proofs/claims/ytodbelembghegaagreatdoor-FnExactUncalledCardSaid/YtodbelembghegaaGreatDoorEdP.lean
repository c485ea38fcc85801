import Derived.Test.YtodbelembghegaaGreatDoorVm4
import Derived.Test.YtodbelembghegaaGreatDoorZPrim
import Derived.Test.YtodbelembghegaaGreatDoorSortE
import Derived.Test.YtodbelembghegaaGreatDoorCompE2
namespace Go.Proofs.YtodbelembghegaaGreatDoor
set_option linter.unusedVariables false
set_option linter.unusedSimpArgs false
open Go Go.Proofs Go.Vm Go.RowKit Go.Lib Go.Sort
def edCells (l : List Ed) (cs : List Value) : Prop := ∀ (j : Nat) e, l[j]? = some e → cs[j * 2]? = some (.string ⟨⟨e.1⟩⟩) ∧ cs[j * 2 + 1]? = some (.string ⟨⟨e.2⟩⟩)
theorem edCells_cons {e : Ed} {l : List Ed} {cs : List Value} : edCells (e :: l) cs ↔ (cs[0]? = some (.string ⟨⟨e.1⟩⟩) ∧ cs[1]? = some (.string ⟨⟨e.2⟩⟩)) ∧ edCells l (cs.drop 2) := by
  constructor
  · intro h
    refine ⟨h 0 e rfl, fun j x hx => ?_⟩
    have := h (j + 1) x (by simpa using hx)
    rw [List.getElem?_drop, List.getElem?_drop, show 2 + j * 2 = (j + 1) * 2 by omega, show 2 + (j * 2 + 1) = (j + 1) * 2 + 1 by omega]
    exact this
  · rintro ⟨h1, h2⟩ j x hx
    cases j with
    | zero => simp only [List.getElem?_cons_zero, Option.some.injEq] at hx; subst hx; exact h1
    | succ j =>
      have := h2 j x (by simpa using hx)
      rw [List.getElem?_drop, List.getElem?_drop, show 2 + j * 2 = (j + 1) * 2 by omega, show 2 + (j * 2 + 1) = (j + 1) * 2 + 1 by omega] at this
      exact this
theorem seenRows_eds {h : View} : ∀ {l : List Ed} {cs : List Value}, seenRows h 2 (encEs l) cs ↔ edCells l cs
  | [], cs => ⟨fun _ j s hs => by simp at hs, fun _ => trivial⟩
  | e :: l, cs => by
    rw [edCells_cons, ← seenRows_eds (h := h)]
    show [D.str e.1, D.str e.2].length = 2 ∧ seenRow h [.str e.1, .str e.2] cs ∧ seenRows h 2 (encEs l) (cs.drop 2) ↔ _
    simp only [seenRow, ro, List.length_cons, List.length_nil, true_and, and_true]
    constructor
    · rintro ⟨⟨v, cs', rfl, rfl, v2, cs2, rfl, rfl⟩, h2⟩
      exact ⟨⟨rfl, rfl⟩, h2⟩
    · rintro ⟨⟨h1, h1'⟩, h2⟩
      cases cs with
      | nil => simp at h1
      | cons v cs =>
        cases cs with
        | nil => simp at h1'
        | cons v2 cs =>
          simp only [List.getElem?_cons_zero, List.getElem?_cons_succ, Option.some.injEq] at h1 h1'
          exact ⟨⟨v, _, rfl, h1, v2, cs, rfl, h1'⟩, h2⟩
theorem owRows_eds {H : Heap} {h : View} : ∀ {l : List Ed} {cs : List Value} {N : List Nat}, owRows H h 2 (encEs l) cs N ↔ N = [] ∧ edCells l cs
  | [], cs, N => ⟨fun q => ⟨q, fun j s hs => by simp at hs⟩, fun q => q.1⟩
  | e :: l, cs, N => by
    rw [edCells_cons]
    show ([D.str e.1, D.str e.2].length = 2 ∧ ∃ N1 N2, N = N1 ++ N2 ∧ owRow H h [.str e.1, .str e.2] cs N1 ∧ owRows H h 2 (encEs l) (cs.drop 2) N2) ↔ _
    simp only [owRow, ow, List.length_cons, List.length_nil, true_and]
    constructor
    · rintro ⟨N1, N2, rfl, ⟨v, cs', M1, M2, rfl, rfl, ⟨rfl, rfl⟩, v2, cs2, M3, M4, rfl, rfl, ⟨rfl, rfl⟩, rfl⟩, h2⟩
      obtain ⟨rfl, h3⟩ := owRows_eds.1 h2
      exact ⟨rfl, ⟨rfl, rfl⟩, h3⟩
    · rintro ⟨rfl, ⟨h1, h1'⟩, h2⟩
      cases cs with
      | nil => simp at h1
      | cons v cs =>
        cases cs with
        | nil => simp at h1'
        | cons v2 cs =>
          simp only [List.getElem?_cons_zero, List.getElem?_cons_succ, Option.some.injEq] at h1 h1'
          exact ⟨[], [], rfl, ⟨v, _, [], [], rfl, rfl, ⟨h1, rfl⟩, v2, cs, [], [], rfl, rfl, ⟨h1', rfl⟩, rfl⟩, owRows_eds.2 ⟨rfl, h2⟩⟩
def edsAt (H : Heap) (l : List Ed) (g : Value) (N : List Nat) : Prop :=
  (l = [] ∧ g = .slice none 0 0 ∧ N = []) ∨ ∃ b cap cs t, g = .slice (some ⟨b, 0, none⟩) l.length cap ∧ l.length ≤ cap ∧ H b = some (.cells cs t (0, 0)) ∧ cs.size = cap * 2 ∧ edCells l cs.toList ∧ N = [b]
theorem encEs_nil {l : List Ed} : encEs l = [] ↔ l = [] := by simp [encEs]
theorem edsAt_arr {H : Heap} {h : View} {l : List Ed} {g : Value} {N : List Nat} : arrS H h true 2 (encEs l) g N ↔ edsAt H l g N := by
  unfold arrS edsAt
  rw [encEs_nil, encEs_length]
  constructor
  · rintro (q | ⟨b, cap, cs, t, N', h1, h2, h3, h4, ⟨h5, rfl⟩, h6⟩)
    · exact .inl q
    · exact .inr ⟨b, cap, cs, t, h1, h2, h3, h4, seenRows_eds.1 h5, h6⟩
  · rintro (q | ⟨b, cap, cs, t, h1, h2, h3, h4, h5, h6⟩)
    · exact .inl q
    · exact .inr ⟨b, cap, cs, t, [], h1, h2, h3, h4, ⟨seenRows_eds.2 h5, rfl⟩, h6⟩
theorem edsAt_ow {H : Heap} {h : View} {l : List Ed} {g : Value} {N : List Nat} : ow H h (.sl true 2 (encEs l)) g N ↔ edsAt H l g N := by
  simp only [ow]
  unfold edsAt
  rw [encEs_nil, encEs_length]
  constructor
  · rintro (q | ⟨b, cap, cs, t, N', h1, h2, h3, h4, h5, h6⟩)
    · exact .inl q
    · obtain ⟨rfl, h7⟩ := owRows_eds.1 h5
      exact .inr ⟨b, cap, cs, t, h1, h2, h3, h4, h7, h6⟩
  · rintro (q | ⟨b, cap, cs, t, h1, h2, h3, h4, h5, h6⟩)
    · exact .inl q
    · exact .inr ⟨b, cap, cs, t, [], h1, h2, h3, h4, owRows_eds.2 ⟨rfl, h5⟩, h6⟩
theorem flat_two (l : List Ed) {j : Nat} (h : j < l.length) : (flatK cE 2 l.toArray)[j * 2]! = .string ⟨⟨l[j].1⟩⟩ ∧ (flatK cE 2 l.toArray)[j * 2 + 1]! = .string ⟨⟨l[j].2⟩⟩ := by
  have hg : l.toArray[j]! = l[j] := by rw [getElem!_pos _ j (by simpa using h)]; simp
  constructor
  · rw [get_flatK _ _ _ _ (by simp; omega), show j * 2 / 2 = j by omega, show j * 2 % 2 = 0 by omega, hg]; rfl
  · rw [get_flatK _ _ _ _ (by simp; omega), show (j * 2 + 1) / 2 = j by omega, show (j * 2 + 1) % 2 = 1 by omega, hg]; rfl
theorem holds_eds {w : World} {l : List Ed} {b : Nat} {cs : Array Value} {T : TypeId} (hb : heapOf w b = some (.cells cs T (0, 0))) (h : edCells l cs.toList) : HoldsK cE 2 w b 0 l.toArray := by
  intro t ht
  have ht' : t < l.length * 2 := by simpa using ht
  have hj : t / 2 < l.length := by omega
  obtain ⟨f1, f2⟩ := flat_two l hj
  obtain ⟨e1, e2⟩ := h (t / 2) l[t / 2] (by simp)
  constructor
  · have h1 := full_cell (w := w) hb (0 + t)
    have key : cs.toList[t]? = some (flatK cE 2 l.toArray)[t]! := by
      rcases Nat.mod_two_eq_zero_or_one t with hm | hm
      · have ht2 : t = t / 2 * 2 := by omega
        rw [ht2, f1, e1]
      · have ht2 : t = t / 2 * 2 + 1 := by omega
        rw [ht2, f2, e2]
    rw [Nat.zero_add] at h1 ⊢
    rw [key] at h1
    exact h1
  · unfold heapOf at hb
    simp [World.frozen?, hb]
theorem edCells_put {l : List Ed} {cs : Array Value} (h : l.length * 2 ≤ cs.size) : edCells l (putCells id 0 (flatK cE 2 l.toArray) cs).toList := by
  intro j e hs
  obtain ⟨hj, rfl⟩ := List.getElem?_eq_some_iff.1 hs
  obtain ⟨f1, f2⟩ := flat_two l hj
  have hsz : (flatK cE 2 l.toArray).size = l.length * 2 := by simp
  constructor
  · rw [Array.getElem?_toList]
    simp only [putCells, Array.getElem?_mapIdx]
    rw [Array.getElem?_eq_getElem (by omega), Option.map_some, if_pos ⟨by omega, by omega⟩]
    simp only [Nat.sub_zero, f1, id]
  · rw [Array.getElem?_toList]
    simp only [putCells, Array.getElem?_mapIdx]
    rw [Array.getElem?_eq_getElem (by omega), Option.map_some, if_pos ⟨by omega, by omega⟩]
    simp only [Nat.sub_zero, f2, id]
section
variable {X : Ctx} {base : Nat} {U : Nat → Prop} {w w' : World} {f : FuncId} {gargs gcells : List Value} {N1 N2 : List Nat}
theorem given_ref_clo {s c : Nat} {rows : List Row} (hG : Given X base U w f [.own 100000 0, .clo c [] []] [.arr false true 0 s rows] gargs gcells N1 N2) (hm : modeOf X.adv f 0 = 2) (hm1 : modeOf X.adv f 1 = 0) :
    ∃ g, gargs = [g, .func (.func c) #[] #[]] ∧ gcells = [g] ∧ N1 = [] ∧ arrS (heapOf w) (view w U (· ∈ N2)) true s rows g N2 := by
  have ha := hG.args
  simp only [mixS, hm, hm1] at ha
  obtain ⟨g, gs', M1, M2, rfl, rfl, ⟨rfl, hg⟩, g2, gs2, M3, M4, rfl, rfl, ⟨rfl, hg2⟩, rfl, rfl⟩ := ha
  have hc := hG.cells
  simp only [cellsB] at hc
  obtain ⟨g', gs', M1, M2, rfl, rfl, hb, rfl, rfl⟩ := hc
  simp only [simV] at hg hg2
  have hget : get 100000 (impMem 0 [Cell.arr false true 0 s rows]) = some (.arr false true 0 s rows) := rfl
  rw [hget] at hg
  have e : g = g' := hg.2.2 rfl
  subst e
  obtain ⟨a, c', rfl, h1, h2⟩ := hg2
  have ea : a = #[] := by
    cases a with
    | mk l => cases l with
      | nil => rfl
      | cons x l => simp [simVs] at h1
  have ec : c' = #[] := by
    cases c' with
    | mk l => cases l with
      | nil => rfl
      | cons x l => simp [simVs] at h2
  subst ea ec
  refine ⟨g, rfl, rfl, rfl, ?_⟩
  simp only [cellB, List.append_nil, List.nil_append] at hb ⊢
  exact hb.2.2
theorem sortFuncPrim_ok (hP : X.P = Tryz.prog) (hm : modeOf X.adv 63 0 = 2) (hm1 : modeOf X.adv 63 1 = 0) {fn : Func} (hr : fn.resultTypes.toList = [])
    {args : List V} {cells : List Cell} {rows : List Row} {outs : List Cell} (h : Prim.slices_SortFunc args cells = some (rows, outs))
    (base : Nat) (U : Nat → Prop) (w : World) (gargs gcells : List Value) (N1 N2 : List Nat) (hG : Given X base U w 63 args cells gargs gcells N1 N2) :
    Calls X.P 63 gargs.toArray w fun e w' => ∃ gs M1 M2, e = .returned (retV gs) ∧ Did X.P U w w' (N1 ++ N2) fn.resultTypes.toList cells outs gcells rows gs M1 M2 := by
  unfold Prim.slices_SortFunc at h
  split at h
  · rename_i rows0
    unfold M.slices_SortFunc sortERows at h
    split at h
    · rename_i l hl
      obtain rfl := decE_some hl
      cases hc : Nat.blt l.length 4611686018427387904 with
      | false => rw [hc] at h; cases h
      | true =>
        rw [hc] at h
        cases h
        have hlen : l.length < 4611686018427387904 := by rw [Nat.blt_eq] at hc; exact hc
        obtain ⟨g, rfl, rfl, rfl, hq⟩ := given_ref_clo hG hm hm1
        have hlt := hG.lt
        rw [hr, hP]
        rcases edsAt_arr.1 hq with ⟨rfl, rfl, rfl⟩ | ⟨b, cap, cs, T, rfl, h2, h3, h4, h5, rfl⟩
        · refine (slices_SortFunc_none none 0 _ w).mono ?_
          rintro e w' ⟨rfl, rfl⟩
          refine ⟨[], [], [], rfl, Keep.refl _ _, by simp, by simp, ⟨_, _, rfl, ⟨rfl, rfl, rfl, rfl⟩, rfl⟩, ?_, ⟨rfl, rfl, rfl⟩⟩
          simp only [cellsB]
          exact ⟨_, [], [], [], rfl, rfl, ⟨rfl, rfl, .inl ⟨by simp [sortE, encEs], rfl, rfl⟩⟩, rfl, rfl⟩
        · refine (slices_SortFunc_edge b cap l w (holds_eds h3 h5) (hlt b (by simp)).1 hlen).mono ?_
          rintro e w' ⟨rfl, n, os, rfl⟩
          obtain ⟨k1, k2, k3⟩ := put_world id w n os (flatK cE 2 (sortE l).toArray) h3
          refine ⟨[], [b], [], rfl, k1, by simp, fun k hk => ?_, ⟨_, _, rfl, ⟨rfl, rfl, rfl, rfl⟩, rfl⟩, ?_, ⟨rfl, rfl, rfl⟩⟩
          · simp only [List.append_nil, List.mem_singleton] at hk
            subst hk
            exact ⟨.inl (by simp), Nat.lt_of_lt_of_le (hlt _ (by simp)).1 k3⟩
          · simp only [cellsB]
            refine ⟨_, [], [b], [], rfl, rfl, ⟨rfl, rfl, edsAt_arr.2 (.inr ⟨b, cap, _, T, by rw [sortE_length], by rw [sortE_length]; exact h2, k2, by rw [size_putCells]; exact h4, edCells_put (by rw [sortE_length]; omega), rfl⟩)⟩, rfl, rfl⟩
    · cases h
  · cases h
theorem compactEdPrim_ok (hP : X.P = Tryz.prog) {t : TypeId} (hm : modeOf X.adv 66 0 = 1) {fn : Func} (hr : fn.resultTypes.toList = [t]) (ht : aggT X.P t = false)
    {args : List V} {cells : List Cell} {rows : List Row} {outs : List Cell} (h : compactEdPrim args cells = some (rows, outs))
    (base : Nat) (U : Nat → Prop) (w : World) (gargs gcells : List Value) (N1 N2 : List Nat) (hG : Given X base U w 66 args cells gargs gcells N1 N2) :
    Calls X.P 66 gargs.toArray w fun e w' => ∃ gs M1 M2, e = .returned (retV gs) ∧ Did X.P U w w' (N1 ++ N2) fn.resultTypes.toList cells outs gcells rows gs M1 M2 := by
  unfold compactEdPrim at h
  split at h
  · rename_i rows0
    unfold compactEdRows at h
    split at h
    · rename_i l hl
      obtain rfl := decE_some hl
      cases hc : Nat.blt l.length 4611686018427387904 with
      | false => rw [hc] at h; cases h
      | true =>
        rw [hc] at h
        cases h
        have hlen : l.length < 4611686018427387904 := by rw [Nat.blt_eq] at hc; exact hc
        obtain ⟨g, rfl, rfl, rfl, hq⟩ := given_move hG hm
        have hlt := hG.lt
        rw [hr]
        have res : ∀ {H : Heap} {hv : View} {g : Value} {N : List Nat}, edsAt H (compactEd l) g N → retsS X.P H hv [t] [[.sl true 2 (encEs (compactEd l))]] [g] N := by
          intro H hv g N q
          simp only [retsS]
          refine ⟨_, _, _, _, [g], N, [], rfl, rfl, by simp, ?_, ?_, rfl, rfl, rfl, rfl⟩
          · rw [Go.Vm.valOf, if_neg (by rw [ht]; simp)]
          · simp only [owRow]
            exact ⟨g, [], N, [], rfl, by simp, edsAt_ow.2 q, rfl⟩
        rw [hP] at res ⊢
        rcases edsAt_ow.1 hq with ⟨rfl, rfl, rfl⟩ | ⟨b, cap, cs, T, rfl, h2, h3, h4, h5, rfl⟩
        · refine (slices_Compact_none 0 w).mono ?_
          rintro e w' ⟨rfl, rfl⟩
          exact ⟨[_], [], [], rfl, Keep.refl _ _, by simp, by simp, rfl, ⟨rfl, rfl⟩, res (.inl ⟨rfl, rfl, rfl⟩)⟩
        · have hcl := compactEd_le l
          have hcon := slices_Compact_edge b 0 cap l.toArray w (holds_eds h3 h5) (by simp; omega) (by simpa using h2)
          refine (hcon.mono (fun e w' q => q)).mono ?_
          rintro e w' ⟨rfl, n, rfl⟩
          have ecl : compactUpTo l.toArray l.toArray.size = compactEd l := rfl
          rw [ecl]
          obtain ⟨k1, k2, k3⟩ := put_world id w n #[] (flatK cE 2 (compactEd l ++ List.replicate (l.length - (compactEd l).length) (([], []) : Ed)).toArray) h3
          rw [grow_empty] at k1 k2 k3
          refine ⟨[_], [], [b], rfl, k1, by simp, fun k hk => ?_, rfl, ⟨rfl, rfl⟩, res (.inr ⟨b, cap, _, T, rfl, by omega, k2, by rw [size_putCells]; exact h4, ?_, rfl⟩)⟩
          · simp only [List.nil_append, List.mem_singleton] at hk
            subst hk
            exact ⟨.inl (by simp), Nat.lt_of_lt_of_le (hlt _ (by simp)).1 k3⟩
          · have := edCells_put (l := compactEd l ++ List.replicate (l.length - (compactEd l).length) (([], []) : Ed)) (cs := cs) (by rw [List.length_append, List.length_replicate]; omega)
            intro j s hs
            exact this j s (by rw [List.getElem?_append_left (List.getElem?_eq_some_iff.1 hs).1]; exact hs)
    · cases h
  · cases h
end
end Go.Proofs.YtodbelembghegaaGreatDoor
