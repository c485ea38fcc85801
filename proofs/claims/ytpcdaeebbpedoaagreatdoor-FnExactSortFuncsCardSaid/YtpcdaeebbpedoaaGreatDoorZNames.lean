import Derived.Test.YtpcdaeebbpedoaaGreatDoorZScan
namespace Go.Proofs.YtpcdaeebbpedoaaGreatDoor
set_option linter.unusedVariables false
set_option linter.unusedSimpArgs false
set_option linter.unusedSectionVars false
open Go Go.Vm
@[simp] theorem encS_length (l : List (List UInt8)) : (encS l).length = l.length := by simp [encS]
@[simp] theorem get_encS (l : List (List UInt8)) (i : Nat) : (encS l)[i]? = (l[i]?).map fun s => [D.str s] := by simp [encS]
theorem cS0 (s : List UInt8) : cStr [D.str s] 0 = some s := rfl
def strsOf : Row → List (List UInt8)
  | [] => []
  | .str s :: r => s :: strsOf r
  | _ :: r => strsOf r
def kwds : List (List UInt8) := strsOf keywordsRow
def sgns : List (List UInt8) := strsOf signsRow
def blts : List (List UInt8) := strsOf builtinsRow
def findA (s : List UInt8) : List (List UInt8) → Int → Int
  | [], _ => -1
  | x :: l, i => if x == s then i else findA s l (i + 1)
theorem findA_range (s : List UInt8) : ∀ (l : List (List UInt8)) (i : Int), 0 ≤ i → -1 ≤ findA s l i ∧ findA s l i < i + l.length
  | [], i, h => by simp [findA]; omega
  | x :: l, i, h => by
    rw [findA]
    split
    · simp; omega
    · have := findA_range s l (i + 1) (by omega)
      simp only [List.length_cons]
      omega
theorem find_loop (s : List UInt8) (l : List (List UInt8)) (hl : l.length ≤ 1048576) {b : Int → Option (Int ⊕ (Int ⊕ Int))}
    (hb : ∀ (i : Nat) x, l[i]? = some x → b (i : Int) = some (if x == s then .inr (.inl (i : Int)) else .inl ((i : Int) + 1))) (he : b (l.length : Int) = some (.inr (.inr (l.length : Int)))) :
    ∃ r, loopM b 0 = some r ∧ (sumE r some fun u => letE u fun _ => some (-1)) = some (findA s l 0) := by
  have key : ∀ (t : List (List UInt8)) (i : Nat), l.drop i = t → i ≤ l.length → ∃ r, loopM b (i : Int) = some r ∧ (sumE r some fun u => letE u fun _ => some (-1)) = some (findA s t (i : Int)) := by
    intro t
    induction t with
    | nil =>
      intro i hd hi
      have : i = l.length := by
        have := congrArg List.length hd
        simp at this
        omega
      subst this
      exact ⟨_, loopM_end he, rfl⟩
    | cons x t ih =>
      intro i hd hi
      have hx : l[i]? = some x := by
        have : (l.drop i)[0]? = some x := by rw [hd]; rfl
        simpa using this
      have hlt : i < l.length := (List.getElem?_eq_some_iff.1 hx).1
      have hd' : l.drop (i + 1) = t := by
        rw [← List.drop_drop, hd]
        rfl
      have hs := hb i x hx
      rw [findA]
      cases hxs : x == s with
      | true =>
        rw [hxs] at hs
        exact ⟨_, loopM_end hs, rfl⟩
      | false =>
        rw [hxs] at hs
        obtain ⟨r, h1, h2⟩ := ih (i + 1) hd' hlt
        refine ⟨r, ?_, ?_⟩
        · rw [loopM_next hs, show (i : Int) + 1 = ((i + 1 : Nat) : Int) by omega]
          exact h1
        · rw [h2]
          simp
  exact key l 0 rfl (Nat.zero_le _)
theorem l3Find_ok (s : List UInt8) (l : List (List UInt8)) (hl : l.length ≤ 1048576) : M.spec_l3Find (encS l) s = some (findA s l 0) := by
  obtain ⟨r, h1, h2⟩ := find_loop s l hl (b := M.spec_l3Find_l2_b (encS l) s)
    (fun i x hx => by
      have hi := (List.getElem?_eq_some_iff.1 hx).1
      simp only [M.spec_l3Find_l2_b, M.spec_l3Find_l2_C, encS_length, idx_nat, get_encS, hx, Option.map_some, some_bind, cS0]
      rw [decide_eq_true (by omega), cond_true, wrap_ok (by omega) (by omega)]
      cases x == s <;> rfl)
    (by
      simp only [M.spec_l3Find_l2_b, M.spec_l3Find_l2_C, encS_length]
      rw [decide_eq_false (by omega), cond_false])
  simp only [M.spec_l3Find, M.spec_l3Find_C, M.spec_l3Find_l2]
  rw [h1, some_bind]
  exact h2
theorem Index_ok (s : List UInt8) (l : List (List UInt8)) (hl : l.length ≤ 1048576) : M.slices_Index (encS l) s = some (findA s l 0) := by
  obtain ⟨r, h1, h2⟩ := find_loop s l hl (b := M.slices_Index_l2_b (encS l) s (l.length : Int))
    (fun i x hx => by
      have hi := (List.getElem?_eq_some_iff.1 hx).1
      simp only [M.slices_Index_l2_b, M.slices_Index_l2_C, idx_nat, get_encS, hx, Option.map_some, some_bind, cS0]
      rw [decide_eq_true (by omega), cond_true, wrap_ok (by omega) (by omega), show (s == x) = (x == s) by rw [Bool.eq_iff_iff, beq_iff_eq, beq_iff_eq]; exact ⟨Eq.symm, Eq.symm⟩]
      cases x == s <;> rfl)
    (by
      simp only [M.slices_Index_l2_b, M.slices_Index_l2_C]
      rw [decide_eq_false (by omega), cond_false])
  simp only [M.slices_Index, M.slices_Index_C, M.slices_Index_l2, encS_length]
  rw [h1, some_bind]
  exact h2
def kwOf (s : List UInt8) : Int := if findA s kwds 0 < 0 then 0 else 10 + findA s kwds 0
def isBlt (s : List UInt8) : Bool := decide (findA s blts 0 ≥ 0)
theorem words_ok : M.spec_l3Words = some (encS kwds) := rfl
theorem builtins_ok : M.spec_l3Builtins = some (encS blts) := rfl
theorem signs_ok : M.spec_l3Signs = some (encS sgns) := rfl
theorem kw_row : List.map (fun x => [x]) keywordsRow = encS kwds := rfl
theorem blt_row : List.map (fun x => [x]) builtinsRow = encS blts := rfl
theorem KeywordOf_ok (s : List UInt8) : M.spec_KeywordOf s = some (kwOf s) ∧ M.impl_KeywordOf s = some (kwOf s) := by
  have hr := findA_range s kwds 0 (by omega)
  have hl : kwds.length = 17 := rfl
  simp only [M.spec_KeywordOf, M.spec_KeywordOf_C, M.impl_KeywordOf, M.impl_KeywordOf_C, words_ok, kw_row, some_bind, l3Find_ok s kwds (by rw [hl]; omega), Index_ok s kwds (by rw [hl]; omega), kwOf]
  by_cases h : findA s kwds 0 < 0
  · rw [decide_eq_true h, cond_true, if_pos h]
    exact ⟨rfl, rfl⟩
  · rw [decide_eq_false h, cond_false, if_neg h, wrap_ok (by omega) (by omega)]
    exact ⟨rfl, rfl⟩
theorem IsBuiltin_ok (s : List UInt8) : M.spec_IsBuiltin s = some (isBlt s) ∧ M.impl_IsBuiltin s = some (isBlt s) := by
  have hl : blts.length = 21 := rfl
  simp only [M.spec_IsBuiltin, M.spec_IsBuiltin_C, M.impl_IsBuiltin, M.impl_IsBuiltin_C, M.slices_Contains, M.slices_Contains_C, builtins_ok, blt_row, some_bind, l3Find_ok s blts (by rw [hl]; omega), Index_ok s blts (by rw [hl]; omega), isBlt]
  constructor <;> first | rfl | trivial
def isL (b : Int) : Bool := (decide (b ≥ 97) && decide (b ≤ 122)) || ((decide (b ≥ 65) && decide (b ≤ 90)) || (b == 95))
def isW (b : Int) : Bool := isL b || isD b
theorem IsLetter_ok (b : Int) : M.spec_IsLetter b = some (isL b) ∧ M.impl_IsLetter b = some (isL b) := by
  simp only [M.spec_IsLetter, M.spec_IsLetter_C, M.spec_l1In, M.spec_l1In_C, M.impl_IsLetter, M.impl_IsLetter_C, isL]
  cases decide (b ≥ 97) <;> cases decide (b ≤ 122) <;> cases decide (b ≥ 65) <;> cases decide (b ≤ 90) <;> cases (b == 95) <;> exact ⟨rfl, rfl⟩
theorem IsWordByte_ok (b : Int) : M.spec_IsWordByte b = some (isW b) ∧ M.impl_IsWordByte b = some (isW b) := by
  simp only [M.spec_IsWordByte, M.spec_IsWordByte_C, M.impl_IsWordByte, M.impl_IsWordByte_C, IsLetter_ok, isD_spec, isD_impl, some_bind, isW]
  cases isL b <;> cases isD b <;> exact ⟨rfl, rfl⟩
def allW (s : List UInt8) : Bool := s.all fun c => isW (c.toNat : Int)
def fstL : List UInt8 → Bool
  | [] => false
  | c :: _ => isL (c.toNat : Int)
def nameShape (s : List UInt8) : Bool := allW s && ((decide ((s.length : Int) ≥ 1) && decide ((s.length : Int) ≤ 12)) && fstL s)
theorem shape_loop (s : List UInt8) {b : Int → Option (Int ⊕ (Unit ⊕ Int))}
    (hb : ∀ (i : Nat) c, s[i]? = some c → b (i : Int) = some (bif isW (c.toNat : Int) then .inl ((i : Int) + 1) else .inr (.inl ()))) (he : b (s.length : Int) = some (.inr (.inr (s.length : Int)))) :
    loopM b 0 = some (bif allW s then .inr (s.length : Int) else .inl ()) := by
  have key : ∀ (t : List UInt8) (i : Nat), s.drop i = t → i ≤ s.length → loopM b (i : Int) = some (bif allW t then .inr (s.length : Int) else .inl ()) := by
    intro t
    induction t with
    | nil =>
      intro i hd hi
      have : i = s.length := by
        have := congrArg List.length hd
        simp at this
        omega
      subst this
      exact loopM_end he
    | cons x t ih =>
      intro i hd hi
      have hx : s[i]? = some x := by
        have : (s.drop i)[0]? = some x := by rw [hd]; rfl
        simpa using this
      have hlt : i < s.length := (List.getElem?_eq_some_iff.1 hx).1
      have hd' : s.drop (i + 1) = t := by
        rw [← List.drop_drop, hd]
        rfl
      have hs := hb i x hx
      rw [allW, List.all_cons]
      cases hw : isW (x.toNat : Int) with
      | true =>
        rw [hw, cond_true] at hs
        rw [loopM_next hs, show (i : Int) + 1 = ((i + 1 : Nat) : Int) by omega, ih (i + 1) hd' hlt, Bool.true_and]
        rfl
      | false =>
        rw [hw, cond_false] at hs
        rw [loopM_end hs]
        rfl
  exact key s 0 rfl (Nat.zero_le _)
theorem NameShape_ok (s : List UInt8) (h : s.length ≤ 1048576) : M.spec_NameShape s = some (nameShape s) ∧ M.impl_NameShape s = some (nameShape s) := by
  have hw : ∀ c : UInt8, IntKind.i64.wrap ((c.toNat : Nat) : Int) = (c.toNat : Int) := fun c => by have := u8_lt c; exact wrap_ok (by omega) (by omega)
  have h1 := shape_loop s (b := M.spec_NameShape_l2_b s)
    (fun i c hc => by
      have hi := (List.getElem?_eq_some_iff.1 hc).1
      simp only [M.spec_NameShape_l2_b, M.spec_NameShape_l2_C, idx_nat, hc, some_bind, hw, IsWordByte_ok]
      rw [decide_eq_true (by omega), cond_true, wrap_ok (by omega) (by omega)]
      cases isW (c.toNat : Int) <;> rfl)
    (by
      simp only [M.spec_NameShape_l2_b, M.spec_NameShape_l2_C]
      rw [decide_eq_false (by omega), cond_false])
  have h2 := shape_loop s (b := M.impl_NameShape_l2_b s (s.length : Int))
    (fun i c hc => by
      have hi := (List.getElem?_eq_some_iff.1 hc).1
      simp only [M.impl_NameShape_l2_b, M.impl_NameShape_l2_C, idx_nat, hc, some_bind, hw, IsWordByte_ok]
      rw [decide_eq_true (by omega), cond_true, wrap_ok (by omega) (by omega)]
      cases isW (c.toNat : Int) <;> rfl)
    (by
      simp only [M.impl_NameShape_l2_b, M.impl_NameShape_l2_C]
      rw [decide_eq_false (by omega), cond_false])
  simp only [M.spec_NameShape, M.spec_NameShape_C, M.impl_NameShape, M.impl_NameShape_C, M.spec_NameShape_l2, M.impl_NameShape_l2, M.spec_l1In, M.spec_l1In_C, M.impl_within, M.impl_within_C]
  rw [h1, h2, some_bind, some_bind, nameShape]
  cases allW s with
  | false => exact ⟨rfl, rfl⟩
  | true =>
    simp only [cond_true, sumE, letE, Bool.true_and]
    cases s with
    | nil => exact ⟨rfl, rfl⟩
    | cons c l =>
      have hi : idx (c :: l) 0 = some c := rfl
      simp only [hi, some_bind, hw, IsLetter_ok]
      cases decide (((c :: l).length : Int) ≥ 1) <;> cases decide (((c :: l).length : Int) ≤ 12) <;> exact ⟨rfl, rfl⟩
def nameOk (s : List UInt8) : Bool := nameShape s && ((kwOf s == 0) && !(isBlt s))
theorem NameOk_ok (s : List UInt8) (h : s.length ≤ 1048576) : M.spec_NameOk s = some (nameOk s) ∧ M.impl_NameOk s = some (nameOk s) := by
  have h1 := NameShape_ok s h
  simp only [M.spec_NameOk, M.spec_NameOk_C, M.impl_NameOk, M.impl_NameOk_C, h1.1, h1.2, KeywordOf_ok, IsBuiltin_ok, some_bind, nameOk]
  cases nameShape s <;> cases kwOf s == 0 <;> cases isBlt s <;> exact ⟨rfl, rfl⟩
end Go.Proofs.YtpcdaeebbpedoaaGreatDoor
