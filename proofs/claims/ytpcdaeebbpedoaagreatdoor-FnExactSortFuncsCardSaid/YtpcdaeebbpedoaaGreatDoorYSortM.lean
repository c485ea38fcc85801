import Derived.Test.YtpcdaeebbpedoaaGreatDoorYSortT
import Derived.Test.YtpcdaeebbpedoaaGreatDoorZFlat2
import Derived.Sort.Walk0
namespace Go.Proofs.YtpcdaeebbpedoaaGreatDoor
set_option linter.unusedVariables false
set_option linter.unusedSimpArgs false
open Go Go.Vm
def arrR (enc : Nat → Row) (g : Nat → Nat) (n : Nat) : List Row := (List.range n).map fun k => enc (g k)
section
variable {enc : Nat → Row} {g : Nat → Nat} {n : Nat}
theorem arrR_length : (arrR enc g n).length = n := by simp [arrR]
theorem arrR_get {k : Nat} (h : k < n) : (arrR enc g n)[k]? = some (enc (g k)) := by simp [arrR, h]
theorem arrR_set {i x : Nat} : (arrR enc g n).set i (enc x) = arrR enc (fun k => if k = i then x else g k) n := by
  apply List.ext_getElem?
  intro k
  by_cases hk : k < n
  · rw [arrR_get hk, List.getElem?_set, arrR_length]
    by_cases e : i = k
    · subst e; simp [hk]
    · rw [if_neg e, arrR_get hk, if_neg (Ne.symm e)]
  · rw [List.getElem?_eq_none (by rw [List.length_set, arrR_length]; omega), List.getElem?_eq_none (by rw [arrR_length]; omega)]
theorem arrR_swap {i j : Nat} (hi : i < n) (hj : j < n) : ((arrR enc g n).set i (enc (g j))).set j (enc (g i)) = arrR enc (fun k => if k = i then g j else if k = j then g i else g k) n := by
  rw [arrR_set, arrR_set]
  unfold arrR
  apply List.map_congr_left
  intro k hk
  by_cases e1 : k = i
  · by_cases e2 : k = j
    · subst e1; subst e2; simp
    · have : ¬i = j := fun e => e2 (e1.trans e)
      simp [e1, this]
  · by_cases e2 : k = j
    · have : ¬j = i := fun e => e1 (e2.trans e)
      simp [e2, this]
    · simp [e1, e2]
end
theorem wr_row (t u : Tn) : splice (t.row false) 0 [D.int IntKind.i64 u.kind, D.int IntKind.i64 u.op, D.str u.text, D.str u.other, D.sl false 5 (rowsT false u.kids)] = u.row false := by cases t; cases u; rfl
theorem ro_row (u : Tn) : cRo 5 (u.row false) 4 = some (rowsT false u.kids) := by cases u; rfl
theorem rowC (w : Bool) (u : Tn) : cInt .i64 (u.row w) 0 = some u.kind ∧ cInt .i64 (u.row w) 1 = some u.op ∧ cStr (u.row w) 2 = some u.text ∧ cStr (u.row w) 3 = some u.other ∧ cSl 5 (u.row w) 4 = some (rowsT w u.kids) := by
  cases u
  exact ⟨rfl, rfl, rfl, rfl, rfl⟩
theorem c0r (u : Tn) : cInt .i64 (u.row false) 0 = some u.kind := (rowC _ u).1
theorem c1r (u : Tn) : cInt .i64 (u.row false) 1 = some u.op := (rowC _ u).2.1
theorem c2r (u : Tn) : cStr (u.row false) 2 = some u.text := (rowC _ u).2.2.1
theorem c3r (u : Tn) : cStr (u.row false) 3 = some u.other := (rowC _ u).2.2.2.1
theorem cmp_lt (x y : List UInt8) : ∃ r, M.cmp_Compare x y = some r ∧ decide (r < 0) = decide (x < y) := by
  have e : ∀ z : List UInt8, (!z == z) = false := fun z => by simp
  simp only [M.cmp_Compare, M.cmp_Compare_C, M.cmp_isNaN, M.cmp_isNaN_C, some_bind, e, cond_false, Go.Proofs.bytesLess_eq]
  by_cases h : x < y
  · rw [decide_eq_true h]
    exact ⟨-1, rfl, rfl⟩
  · rw [decide_eq_false h]
    cases x == y
    · exact ⟨1, rfl, rfl⟩
    · exact ⟨0, rfl, rfl⟩
section
variable (tt : Nat → Tn)
def encT' (k : Nat) : Row := (tt k).row false
def kyT (k : Nat) : List UInt8 := (tt k).text
theorem cmp_ok (i j : Nat) : ∃ r, M.impl_SortFuncs_c1 (tt i).kind (tt i).op (tt i).text (tt i).other (rowsT false (tt i).kids) (tt j).kind (tt j).op (tt j).text (tt j).other (rowsT false (tt j).kids) = some r ∧ decide (r < 0) = kls (kyT tt) i j := by
  obtain ⟨r, h1, h2⟩ := cmp_lt (tt i).text (tt j).text
  exact ⟨r, by simp only [M.impl_SortFuncs_c1, M.impl_SortFuncs_c1_C, h1, some_bind], h2⟩
variable {tt} {g : Nat → Nat} {n : Nat}
theorem swr_zero (g : Nat → Nat) (p q : Nat) : swr g p q 0 = g := by
  funext k
  unfold swr
  rw [if_neg (by omega), if_neg (by omega)]
theorem swr_step (g : Nat → Nat) {p q i : Nat} (h : p + (i + 1) ≤ q) : swp (swr g p q i) (p + i) (q + i) = swr g p q (i + 1) := by
  funext x
  unfold swp swr
  repeat' split
  all_goals first | rfl | (exfalso; omega) | (congr 1; omega)
theorem swap_rows {i j : Nat} (hi : i < n) (hj : j < n) : ((arrR (encT' tt) g n).set i ((tt (g j)).row false)).set j ((tt (g i)).row false) = arrR (encT' tt) (swp g i j) n := arrR_swap (enc := encT' tt) hi hj
theorem get_rows {k : Nat} (h : k < n) : (arrR (encT' tt) g n)[k]? = some ((tt (g k)).row false) := arrR_get h
theorem get_set_rows {i k : Nat} {r : Row} (h : k < n) (hne : i ≠ k) : ((arrR (encT' tt) g n).set i r)[k]? = some ((tt (g k)).row false) := by
  rw [List.getElem?_set_ne hne]; exact get_rows h
theorem wI {x : Int} {k : Nat} (h : x = k) (hk : k ≤ 1000000000000) : IntKind.i64.wrap x = (k : Int) := by rw [h]; exact wrap_ok (by omega) (by omega)
theorem swapRange_ok {a b c : Nat} (h1 : a + c ≤ b) (h2 : b + c ≤ n) (hn : n ≤ 1000000) : M.slices_swapRangeCmpFunc (a : Int) (b : Int) (c : Int) (arrR (encT' tt) g n) = some (arrR (encT' tt) (swr g a b c) n) := by
  have hloop := loopM_run (b := M.slices_swapRangeCmpFunc_l1_b (a : Int) (b : Int) (c : Int)) (t := ((c : Int), arrR (encT' tt) (swr g a b c) n)) (fun i => ((i : Int), arrR (encT' tt) (swr g a b i) n)) c
    (by
      intro i hi
      have w1 : IntKind.i64.wrap ((b : Int) + (i : Int)) = ((b + i : Nat) : Int) := wI (by omega) (by omega)
      have w2 : IntKind.i64.wrap ((a : Int) + (i : Int)) = ((a + i : Nat) : Int) := wI (by omega) (by omega)
      have w3 : IntKind.i64.wrap ((i : Int) + 1) = ((i + 1 : Nat) : Int) := wI (by omega) (by omega)
      have g1 := get_rows (tt := tt) (g := swr g a b i) (n := n) (k := a + i) (by omega)
      have g2 := get_rows (tt := tt) (g := swr g a b i) (n := n) (k := b + i) (by omega)
      have g3 : ∀ r, ((arrR (encT' tt) (swr g a b i) n).set (a + i) r)[b + i]? = _ := fun r => get_set_rows (tt := tt) (g := swr g a b i) (n := n) (i := a + i) (k := b + i) (r := r) (by omega) (by omega)
      simp only [M.slices_swapRangeCmpFunc_l1_b, M.slices_swapRangeCmpFunc_l1_C, w1, w2, w3, idx_nat, Int.toNat_natCast, g1, g2, g3, some_bind, c0r, c1r, c2r, c3r, ro_row, wr_row]
      rw [decide_eq_true (by omega), cond_true, swap_rows (by omega) (by omega), swr_step g (by omega)])
    (by
      simp only [M.slices_swapRangeCmpFunc_l1_b, M.slices_swapRangeCmpFunc_l1_C]
      rw [decide_eq_false (by omega), cond_false]) 0 (Nat.zero_le _)
  simp only [swr_zero, nat0] at hloop
  simp only [M.slices_swapRangeCmpFunc, M.slices_swapRangeCmpFunc_C, M.slices_swapRangeCmpFunc_l1, hloop, some_bind]
end
end Go.Proofs.YtpcdaeebbpedoaaGreatDoor
