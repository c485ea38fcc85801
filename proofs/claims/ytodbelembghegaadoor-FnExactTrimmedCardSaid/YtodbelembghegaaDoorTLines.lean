/-
  The lines of a text: both programs split alike.
-/
import Derived.Test.YtodbelembghegaaDoorTForms
import Derived.Lib.SplitLaws
namespace Go.Proofs.YtodbelembghegaaDoor
set_option linter.unusedVariables false
set_option linter.unusedSimpArgs false
open Go Go.Vm

theorem ble_ok {m n : Nat} (h : m ≤ n) : m.ble n = true := Nat.ble_eq_true_of_le h
theorem some_bind {α β : Type} (a : α) (f : α → Option β) : (some a).bind f = f a := rfl
theorem nat0 : ((0 : Nat) : Int) = 0 := rfl
/-- what a new line begins with -/
def addHd (c : List UInt8) : List (List UInt8) → List (List UInt8)
  | [] => [c]
  | h :: t => (c ++ h) :: t
def splitNl : List UInt8 → List (List UInt8)
  | [] => [[]]
  | c :: l => if c = 10 then [] :: splitNl l else addHd [c] (splitNl l)
theorem addHd_add (a b : List UInt8) (l : List (List UInt8)) : addHd a (addHd b l) = addHd (a ++ b) l := by
  cases l <;> simp [addHd]
theorem addHd_nil {l : List (List UInt8)} (h : l ≠ []) : addHd [] l = l := by
  cases l with
  | nil => exact absurd rfl h
  | cons x l => rfl
theorem splitNl_ne : ∀ l, splitNl l ≠ []
  | [] => by simp [splitNl]
  | c :: l => by
    rw [splitNl]
    split
    · simp
    · cases h : splitNl l <;> simp [addHd]
theorem splitNl_app : ∀ (a b : List UInt8), (10 : UInt8) ∉ a → splitNl (a ++ b) = addHd a (splitNl b)
  | [], b, _ => (addHd_nil (splitNl_ne b)).symm
  | c :: a, b, h => by
    have hc : ¬ c = 10 := fun e => h (by simp [e])
    rw [List.cons_append, splitNl, if_neg hc, splitNl_app a b (fun hx => h (by simp [hx])), addHd_add]
    rfl
theorem splitNl_len : ∀ l, (splitNl l).length ≤ l.length + 1
  | [] => by simp [splitNl]
  | c :: l => by
    have := splitNl_len l
    rw [splitNl]
    split
    · simp only [List.length_cons]; omega
    · cases h : splitNl l with
      | nil => simp [addHd]
      | cons x t => rw [h] at this; simp only [addHd, List.length_cons] at this ⊢; omega
theorem splitK_nl : ∀ (k : Nat) (s : List UInt8), s.count 10 ≤ k → Lib.splitK [10] 0 k s = splitNl s
  | 0, s, h => by
    have hn : (10 : UInt8) ∉ s := fun hx => by have := List.count_pos_iff.2 hx; omega
    have := splitNl_app s [] hn
    rw [List.append_nil] at this
    rw [this, Lib.splitK]
    simp [splitNl, addHd]
  | k + 1, s, h => by
    have hge := Lib.indexByte_ge s 10
    rw [Lib.splitK, Lib.index_one]
    by_cases hm : Lib.indexByte s 10 = -1
    · rw [if_pos (by rw [hm]; rfl)]
      have hn : (10 : UInt8) ∉ s := fun hx => by
        obtain ⟨i, hi⟩ := List.mem_iff_getElem?.1 hx
        exact Lib.indexByte_none hm i hi
      have := splitNl_app s [] hn
      rw [List.append_nil] at this
      rw [this]
      simp [splitNl, addHd]
    · rw [if_neg (by simpa using hm)]
      obtain ⟨i, hi⟩ : ∃ i : Nat, Lib.indexByte s 10 = i := ⟨(Lib.indexByte s 10).toNat, by omega⟩
      obtain ⟨h1, h2⟩ := Lib.indexByte_some hi
      have hil := (List.getElem?_eq_some_iff.1 h1).1
      rw [hi, Int.toNat_natCast, Nat.add_zero, List.length_singleton]
      have hs : s = s.take i ++ 10 :: s.drop (i + 1) := by
        have h3 : s[i] = 10 := by
          have := List.getElem?_eq_getElem hil
          rw [this] at h1
          exact Option.some.inj h1
        rw [← h3, ← List.drop_eq_getElem_cons hil, List.take_append_drop]
      have hn : (10 : UInt8) ∉ s.take i := fun hx => by
        obtain ⟨j, hj⟩ := List.mem_iff_getElem?.1 hx
        have hjl := (List.getElem?_eq_some_iff.1 hj).1
        rw [List.length_take] at hjl
        rw [List.getElem?_take, if_pos (by omega)] at hj
        exact h2 j (by omega) hj
      have hc : (s.drop (i + 1)).count 10 ≤ k := by
        have := congrArg (List.count 10) hs
        rw [List.count_append, List.count_cons] at this
        simp at this
        omega
      rw [splitK_nl k _ hc]
      conv => rhs; rw [hs]
      rw [splitNl_app _ _ hn, splitNl, if_pos rfl]
      simp [addHd]
theorem splitS_nl (s : List UInt8) : splitS s [10] = splitNl s := by
  rw [splitS, Lib.splitB_data]
  refine splitK_nl _ _ ?_
  show s.count 10 ≤ Lib.count s [10]
  rw [Lib.count_one]
  exact Nat.le_refl _
/-- the lines -/
def linesOf (s : List UInt8) : List (List UInt8) := if (splitNl s).getLast? = some [] then (splitNl s).dropLast else splitNl s
@[simp] theorem encS_length (l : List (List UInt8)) : (encS l).length = l.length := by simp [encS]
@[simp] theorem get_encS (l : List (List UInt8)) (i : Nat) : (encS l)[i]? = (l[i]?).map fun s => [D.str s] := by simp [encS]
@[simp] theorem flat_encS (l : List (List UInt8)) : flatRows (encS l) = true := by
  simp only [flatRows, encS, List.all_map, List.all_eq_true]
  intro x _
  rfl
theorem encS_take (l : List (List UInt8)) (n : Nat) : (encS l).take n = encS (l.take n) := by simp [encS, List.map_take]
theorem encS_append (a b : List (List UInt8)) : encS a ++ encS b = encS (a ++ b) := by simp [encS]
theorem cS0 (s : List UInt8) : cStr [D.str s] 0 = some s := rfl
theorem linesOf_len (s : List UInt8) : (linesOf s).length ≤ s.length + 1 := by
  have := splitNl_len s
  unfold linesOf
  split
  · rw [List.length_dropLast]; omega
  · exact this
theorem impl_LinesOf_ok (s : List UInt8) (h : s.length ≤ 1048576) : M.impl_LinesOf s = some (encS (linesOf s)) := by
  have hlen := splitNl_len s
  have hpos := List.length_pos_iff.2 (splitNl_ne s)
  have hb : Nat.blt s.length 4294967281 = true := by rw [Nat.blt_eq]; omega
  have hi : (((splitNl s).length : Nat) : Int) - 1 = (((splitNl s).length - 1 : Nat) : Int) := by omega
  have hl : (splitNl s)[(splitNl s).length - 1]? = (splitNl s).getLast? := (List.getLast?_eq_getElem?).symm
  obtain ⟨z, hz⟩ : ∃ z, (splitNl s).getLast? = some z := ⟨_, List.getLast?_eq_some_getLast (splitNl_ne s)⟩
  simp only [M.impl_LinesOf, M.impl_LinesOf_C, M.strings_Split, hb, splitS_nl, encS_length, List.length_singleton]
  rw [show (true && Nat.ble 1 1) = true from rfl, cond_true, some_bind, encS_length, wrap_ok (by omega) (by omega), hi, idx_nat, Int.toNat_natCast, get_encS, hl, hz]
  simp only [Option.map_some, some_bind, cS0, encS_take, flat_encS, cond_true]
  rw [linesOf, hz]
  by_cases hzz : z = []
  · subst hzz
    rw [if_pos rfl, decide_eq_true (by omega), decide_eq_true (by omega), List.dropLast_eq_take]
    rfl
  · rw [if_neg (by simpa using hzz)]
    have : (z == []) = false := by simpa using hzz
    rw [this]
    rfl
theorem cut_ok {s : List UInt8} {a b : Nat} (h1 : a ≤ b) (h2 : b ≤ s.length) : cut s (a : Int) (b : Int) = some ((s.drop a).take (b - a)) := by
  rw [cut, decide_eq_true (by omega), decide_eq_true (by omega), decide_eq_true (by omega)]
  rfl
theorem drop_app3 (a cur rest : List UInt8) : (a ++ cur ++ rest).drop a.length = cur ++ rest := by
  rw [List.append_assoc, List.drop_left]
theorem spec_lines_loop : ∀ (rest : List UInt8) (a cur : List UInt8) (out : List (List UInt8)), (a ++ cur ++ rest).length ≤ 1048576 → out.length ≤ a.length →
    ∃ (a' cur' : List UInt8) (out' : List (List UInt8)), M.spec_LinesOf_l4 (a ++ cur ++ rest) ((a.length : Int), ((a.length + cur.length : Nat) : Int), encS out) = some ((a'.length : Int), (((a ++ cur ++ rest).length : Nat) : Int), false, encS out') ∧
      a ++ cur ++ rest = a' ++ cur' ∧ out' ++ [cur'] = out ++ addHd cur (splitNl rest) ∧ out'.length ≤ a'.length
  | [], a, cur, out, h, ho => by
    refine ⟨a, cur, out, ?_, by simp, by simp [splitNl, addHd], ho⟩
    rw [M.spec_LinesOf_l4]
    apply loopM_end
    simp only [M.spec_LinesOf_l4_b, M.spec_LinesOf_l4_C, List.append_nil, List.length_append]
    rw [decide_eq_false (by omega), cond_false]
  | c :: rest, a, cur, out, h, ho => by
    have hl : (a ++ cur ++ c :: rest).length = a.length + cur.length + (rest.length + 1) := by simp; omega
    have hget : (a ++ cur ++ c :: rest)[a.length + cur.length]? = some c := by
      rw [← List.length_append, List.getElem?_append_right (Nat.le_refl _), Nat.sub_self]
      rfl
    by_cases hc : c = 10
    · subst hc
      have e : a ++ cur ++ 10 :: rest = (a ++ cur ++ [10]) ++ [] ++ rest := by simp
      obtain ⟨a', cur', out', h1, h2, h3, h4⟩ := spec_lines_loop rest (a ++ cur ++ [10]) [] (out ++ [cur]) (by rw [← e]; exact h) (by simp; omega)
      rw [← e] at h1 h2
      refine ⟨a', cur', out', ?_, h2, ?_, h4⟩
      · rw [M.spec_LinesOf_l4] at h1 ⊢
        rw [loopM_next (s' := (((a ++ cur ++ [10]).length : Int), (((a ++ cur ++ [10]).length + ([] : List UInt8).length : Nat) : Int), encS (out ++ [cur]))) ?_]
        · exact h1
        · simp only [M.spec_LinesOf_l4_b, M.spec_LinesOf_l4_C, idx_nat, hget, some_bind]
          rw [decide_eq_true (by omega), cond_true, show ((((10 : UInt8).toNat : Nat) : Int) == 10) = true from rfl, cond_true, cut_ok (by omega) (by omega), some_bind, drop_app3, Nat.add_sub_cancel_left, List.take_left,
            wrap_ok (by omega) (by omega), ble_ok (by rw [encS_length, List.length_singleton]; omega), cond_true, ble_ok (by rw [encS_length, List.length_singleton]; omega), cond_true]
          simp [encS]
          omega
      · rw [h3, splitNl, if_pos rfl, addHd_nil (splitNl_ne rest)]
        simp [addHd]
    · have e : a ++ cur ++ c :: rest = a ++ (cur ++ [c]) ++ rest := by simp
      obtain ⟨a', cur', out', h1, h2, h3, h4⟩ := spec_lines_loop rest a (cur ++ [c]) out (by rw [← e]; exact h) ho
      rw [← e] at h1 h2
      refine ⟨a', cur', out', ?_, h2, ?_, h4⟩
      · rw [M.spec_LinesOf_l4] at h1 ⊢
        rw [loopM_next (s' := ((a.length : Int), ((a.length + (cur ++ [c]).length : Nat) : Int), encS out)) ?_]
        · exact h1
        · have hne : (((c.toNat : Nat) : Int) == 10) = false := by
            rw [beq_eq_false_iff_ne]
            intro hx
            apply hc
            have : c.toNat = 10 := by omega
            exact UInt8.toNat_inj.1 this
          simp only [M.spec_LinesOf_l4_b, M.spec_LinesOf_l4_C, idx_nat, hget, some_bind]
          rw [decide_eq_true (by omega), cond_true, hne, cond_false, wrap_ok (by omega) (by omega)]
          simp
          omega
      · rw [h3, splitNl, if_neg hc, addHd_add]
theorem spec_LinesOf_ok (s : List UInt8) (h : s.length ≤ 1048576) : M.spec_LinesOf s = some (encS (linesOf s)) := by
  obtain ⟨a', cur', out', h1, h2, h3, h4⟩ := spec_lines_loop s [] [] [] (by simpa using h) (by simp)
  simp only [List.nil_append, List.length_nil, Nat.add_zero, nat0] at h1 h2 h3
  rw [addHd_nil (splitNl_ne s)] at h3
  have hl : s.length = a'.length + cur'.length := by
    have := congrArg List.length h2
    rw [List.length_append] at this
    exact this
  simp only [M.spec_LinesOf, M.spec_LinesOf_C]
  have h1' : M.spec_LinesOf_l4 s (0, 0, []) = _ := h1
  rw [h1', some_bind]
  rw [linesOf, ← h3, List.getLast?_append]
  simp only [List.getLast?_singleton, Option.some_or, List.dropLast_concat]
  by_cases hc : cur' = []
  · subst hc
    rw [decide_eq_false (by simp at hl; omega), cond_false, flat_encS, cond_true, if_pos rfl]
  · have hp := List.length_pos_iff.2 hc
    rw [decide_eq_true (by omega), cond_true, cut_ok (by omega) (Nat.le_refl _), some_bind, if_neg (by simpa using hc)]
    have hd : (s.drop a'.length).take (s.length - a'.length) = cur' := by
      rw [h2, List.drop_left, List.take_of_length_le (by rw [List.length_append]; omega)]
    rw [hd, show [[D.str cur']] = encS [cur'] from rfl, encS_append, flat_encS, encS_length, encS_length, List.length_singleton]
    rw [ble_ok (by omega), cond_true, ble_ok (by omega), cond_true, cond_true]
end Go.Proofs.YtodbelembghegaaDoor
