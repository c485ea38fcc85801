import Derived.Test.YtpcdaeebbpedoaaGreatDoorZToken
namespace Go.Proofs.YtpcdaeebbpedoaaGreatDoor
set_option linter.unusedVariables false
set_option linter.unusedSimpArgs false
set_option linter.unusedSectionVars false
open Go Go.Vm
theorem l1In_ok (x a b : Int) : M.spec_l1In x a b = some (decide (x ≥ a) && decide (x ≤ b)) := by
  simp only [M.spec_l1In, M.spec_l1In_C]
  cases decide (x ≥ a) <;> rfl
theorem within_ok (x a b : Int) : M.impl_within x a b = some (decide (x ≥ a) && decide (x ≤ b)) := l1In_ok x a b
def isBin (op : Int) : Bool := op == 60 || op == 57 || op == 58 || op == 59 || op == 55 || op == 56 || op == 99 || op == 63 || op == 48 || op == 47 || op == 50 || op == 62 || op == 49 || op == 67 || op == 46 || op == 45 || op == 44
theorem IsBin_ok (op : Int) : M.spec_l7IsBin op = some (isBin op) ∧ ∃ lv, M.impl_OpLevel op = some lv ∧ (lv != 0) = isBin op := by
  by_cases h44 : op = 44
  · subst h44; exact ⟨rfl, _, rfl, rfl⟩
  have e44 : (op == 44) = false := by simpa using h44
  by_cases h45 : op = 45
  · subst h45; exact ⟨rfl, _, rfl, rfl⟩
  have e45 : (op == 45) = false := by simpa using h45
  by_cases h67 : op = 67
  · subst h67; exact ⟨rfl, _, rfl, rfl⟩
  have e67 : (op == 67) = false := by simpa using h67
  by_cases h46 : op = 46
  · subst h46; exact ⟨rfl, _, rfl, rfl⟩
  have e46 : (op == 46) = false := by simpa using h46
  by_cases h63 : op = 63
  · subst h63; exact ⟨rfl, _, rfl, rfl⟩
  have e63 : (op == 63) = false := by simpa using h63
  by_cases h48 : op = 48
  · subst h48; exact ⟨rfl, _, rfl, rfl⟩
  have e48 : (op == 48) = false := by simpa using h48
  by_cases h47 : op = 47
  · subst h47; exact ⟨rfl, _, rfl, rfl⟩
  have e47 : (op == 47) = false := by simpa using h47
  by_cases h50 : op = 50
  · subst h50; exact ⟨rfl, _, rfl, rfl⟩
  have e50 : (op == 50) = false := by simpa using h50
  by_cases h62 : op = 62
  · subst h62; exact ⟨rfl, _, rfl, rfl⟩
  have e62 : (op == 62) = false := by simpa using h62
  by_cases h49 : op = 49
  · subst h49; exact ⟨rfl, _, rfl, rfl⟩
  have e49 : (op == 49) = false := by simpa using h49
  by_cases h99 : op = 99
  · subst h99; exact ⟨rfl, _, rfl, rfl⟩
  have e99 : (op == 99) = false := by simpa using h99
  by_cases h55 : op = 55
  · subst h55; exact ⟨rfl, _, rfl, rfl⟩
  have e55 : (op == 55) = false := by simpa using h55
  by_cases h56 : op = 56
  · subst h56; exact ⟨rfl, _, rfl, rfl⟩
  have e56 : (op == 56) = false := by simpa using h56
  by_cases h57 : op = 57
  · subst h57; exact ⟨rfl, _, rfl, rfl⟩
  have e57 : (op == 57) = false := by simpa using h57
  by_cases h58 : op = 58
  · subst h58; exact ⟨rfl, _, rfl, rfl⟩
  have e58 : (op == 58) = false := by simpa using h58
  by_cases h59 : op = 59
  · subst h59; exact ⟨rfl, _, rfl, rfl⟩
  have e59 : (op == 59) = false := by simpa using h59
  by_cases h60 : op = 60
  · subst h60; exact ⟨rfl, _, rfl, rfl⟩
  have e60 : (op == 60) = false := by simpa using h60
  simp only [M.spec_l7IsBin, M.spec_l7IsBin_C, M.impl_OpLevel, M.impl_OpLevel_C, isBin, e44, e45, e67, e46, e63, e48, e47, e50, e62, e49, e99, e55, e56, e57, e58, e59, e60, cond_false, Bool.or_self]
  exact ⟨trivial, 0, rfl, rfl⟩
def isAsg (op : Int) : Bool := op == 54 || (decide (op ≥ 38) && decide (op ≤ 43))
theorem IsAssign_ok (op : Int) : M.spec_l7IsAssign op = some (isAsg op) ∧ M.impl_isAssign op = some (isAsg op) := by
  simp only [M.spec_l7IsAssign, M.spec_l7IsAssign_C, M.impl_isAssign, M.impl_isAssign_C, l1In_ok, within_ok, some_bind, isAsg]
  cases op == 54 <;> exact ⟨rfl, rfl⟩
theorem Contains_ok (s : List UInt8) (l : List (List UInt8)) (hl : l.length ≤ 1048576) : M.slices_Contains (encS l) s = some (decide (findA s l 0 ≥ 0)) := by
  simp only [M.slices_Contains, M.slices_Contains_C, Index_ok s l hl, some_bind]
theorem print_row : ([[D.str []], [D.str [62]], [D.str [62, 62]], [D.str [124]]] : List Row) = encS [[], [62], [62, 62], [124]] := rfl
theorem print_find (s : List UInt8) : decide (findA s [[], [62], [62, 62], [124]] 0 ≥ 0) = (s == [] || (s == [62] || (s == [62, 62] || s == [124]))) := by
  have sw : ∀ a b : List UInt8, (a == b) = (b == a) := fun a b => by rw [Bool.eq_iff_iff, beq_iff_eq, beq_iff_eq]; exact ⟨Eq.symm, Eq.symm⟩
  simp only [findA, sw _ s]
  cases s == [] <;> cases s == [62] <;> cases s == [62, 62] <;> cases s == [124] <;> rfl
def FOk (k op : Int) (t o : List UInt8) (kids : List Row) : Prop := ∃ b, M.spec_FieldsOk k op t o kids = some b ∧ M.impl_FieldsOk k op t o kids = some b
theorem fk_easy (k : Int) (op : Int) (t o : List UInt8) (kids : List Row) (ht : t.length ≤ 1048576) (ho : o.length ≤ 1048576) (hk : kids.length ≤ 400) (hkk : k = 1 ∨ k = 2 ∨ k = 3 ∨ k = 4 ∨ k = 5 ∨ k = 6 ∨ k = 7 ∨ k = 8 ∨ k = 9 ∨ k = 10 ∨ k = 11 ∨ k = 12 ∨ k = 13 ∨ k = 14 ∨ k = 15 ∨ k = 16 ∨ k = 20 ∨ k = 22 ∨ k = 23 ∨ k = 24 ∨ k = 25 ∨ k = 26 ∨ k = 27 ∨ k = 28 ∨ k = 29 ∨ k = 30 ∨ k = 31 ∨ k = 32 ∨ k = 33 ∨ k = 34 ∨ k = 40 ∨ k = 41 ∨ k = 44 ∨ k = 45) : FOk k op t o kids := by
  have hn := NameOk_ok t ht
  have hn2 := NameOk_ok o ho
  have hb := IsBuiltin_ok t
  have ha := IsAssign_ok op
  obtain ⟨hi, lv, hlv, hi2⟩ := IsBin_ok op
  have tk := fun k hk => TokenOk_ok k t 0 ht hk
  have tk2 := tk 2 ⟨by omega, by omega⟩
  have tk3 := tk 3 ⟨by omega, by omega⟩
  have tk4 := tk 4 ⟨by omega, by omega⟩
  have tk5 := tk 5 ⟨by omega, by omega⟩
  have hc2 : cInt IntKind.i64 [D.int IntKind.i64 3, D.int IntKind.i64 4, D.int IntKind.i64 5] (IntKind.i64.wrap 0).toNat = some 3 := rfl
  have d12 : decide ((0 : Int) ≤ IntKind.i64.wrap 0) = true := rfl
  have d22 : decide (IntKind.i64.wrap 0 < 3) = true := rfl
  have hc3 : cInt IntKind.i64 [D.int IntKind.i64 3, D.int IntKind.i64 4, D.int IntKind.i64 5] (IntKind.i64.wrap 1).toNat = some 4 := rfl
  have d13 : decide ((0 : Int) ≤ IntKind.i64.wrap 1) = true := rfl
  have d23 : decide (IntKind.i64.wrap 1 < 3) = true := rfl
  have hc4 : cInt IntKind.i64 [D.int IntKind.i64 3, D.int IntKind.i64 4, D.int IntKind.i64 5] (IntKind.i64.wrap 2).toNat = some 5 := rfl
  have d14 : decide ((0 : Int) ≤ IntKind.i64.wrap 2) = true := rfl
  have d24 : decide (IntKind.i64.wrap 2 < 3) = true := rfl
  have z1 : decide ((kids.length : Int) ≤ 400) = true := decide_eq_true (by omega)
  have z2 : decide ((0 : Int) ≤ (kids.length : Int)) = true := decide_eq_true (by omega)
  have z3 : decide ((kids.length : Int) ≤ (kids.length : Int)) = true := decide_eq_true (by omega)
  rcases hkk with rfl | rfl | rfl | rfl | rfl | rfl | rfl | rfl | rfl | rfl | rfl | rfl | rfl | rfl | rfl | rfl | rfl | rfl | rfl | rfl | rfl | rfl | rfl | rfl | rfl | rfl | rfl | rfl | rfl | rfl | rfl | rfl | rfl | rfl <;> simp only [FOk, M.spec_FieldsOk, M.spec_FieldsOk_C, M.spec_l7Many, M.spec_l7Many_C, M.spec_l7Op, M.spec_l7Op_C, M.spec_l7Text, M.spec_l7Text_C, M.impl_FieldsOk, M.impl_FieldsOk_C, M.impl_IsExpr, M.impl_IsExpr_C, M.impl_IsStmt, M.impl_IsStmt_C, M.impl_exprForm, M.impl_exprForm_C, M.impl_stmtForm, M.impl_stmtForm_C, M.impl_itemForm, M.impl_itemForm_C, M.impl_isStep, M.impl_isStep_C, l1In_ok, within_ok, hn.1, hn.2, hn2.1, hn2.2, hb.1, hb.2, ha.1, ha.2, hi, hlv, hi2, tk2.1, tk2.2, tk3.1, tk3.2, tk4.1, tk4.2, tk5.1, tk5.2, hc2, d12, d22, hc3, d13, d23, hc4, d14, d24, z1, z2, z3, ge_iff_le, Int.reduceBEq, Int.reduceLE, Int.reduceSub, decide_true, decide_false, cond_true, cond_false, Bool.and_true, Bool.and_false, Bool.true_and, Bool.false_and, some_bind]
  · cases (op == 0) <;> cases (nameOk t) <;> cases (o == []) <;> exact ⟨_, rfl, rfl⟩
  · cases (op == 0) <;> cases (tokenOk 3 t) <;> cases (o == []) <;> exact ⟨_, rfl, rfl⟩
  · cases (op == 0) <;> cases (tokenOk 4 t) <;> cases (o == []) <;> exact ⟨_, rfl, rfl⟩
  · cases (op == 0) <;> cases (tokenOk 5 t) <;> cases (o == []) <;> exact ⟨_, rfl, rfl⟩
  · cases (op == 0) <;> cases (nameOk t) <;> cases (o == []) <;> exact ⟨_, rfl, rfl⟩
  · cases (op == 0) <;> cases (t == []) <;> cases (o == []) <;> exact ⟨_, rfl, rfl⟩
  · cases (op == 0) <;> cases (nameOk t) <;> cases (o == []) <;> exact ⟨_, rfl, rfl⟩
  · cases (op == 0) <;> cases (isBlt t) <;> cases (o == []) <;> exact ⟨_, rfl, rfl⟩
  · cases (op == 51) <;> cases (op == 52) <;> cases (t == []) <;> cases (o == []) <;> exact ⟨_, rfl, rfl⟩
  · cases (op == 51) <;> cases (op == 52) <;> cases (t == []) <;> cases (o == []) <;> exact ⟨_, rfl, rfl⟩
  · cases (op == 55) <;> cases (op == 56) <;> cases (op == 61) <;> cases (t == []) <;> cases (o == []) <;> exact ⟨_, rfl, rfl⟩
  · cases (isBin op) <;> cases (t == []) <;> cases (o == []) <;> exact ⟨_, rfl, rfl⟩
  · cases (op == 0) <;> cases (nameOk t) <;> cases (o == []) <;> exact ⟨_, rfl, rfl⟩
  · cases (op == 0) <;> cases (t == []) <;> cases (o == []) <;> exact ⟨_, rfl, rfl⟩
  · cases (isAsg op) <;> cases (t == []) <;> cases (o == []) <;> exact ⟨_, rfl, rfl⟩
  · cases (op == 0) <;> cases (t == []) <;> cases (o == []) <;> exact ⟨_, rfl, rfl⟩
  · cases (op == 0) <;> cases (t == []) <;> cases (o == []) <;> exact ⟨_, rfl, rfl⟩
  · cases (op == 0) <;> cases (t == []) <;> cases (o == []) <;> exact ⟨_, rfl, rfl⟩
  · cases (op == 0) <;> cases (t == []) <;> cases (o == []) <;> exact ⟨_, rfl, rfl⟩
  · cases (op == 0) <;> cases (t == []) <;> cases (o == []) <;> exact ⟨_, rfl, rfl⟩
  · cases (op == 0) <;> cases (t == []) <;> cases (o == []) <;> exact ⟨_, rfl, rfl⟩
  · cases (op == 0) <;> cases (t == []) <;> cases (o == []) <;> exact ⟨_, rfl, rfl⟩
  · cases (op == 0) <;> cases (nameOk t) <;> cases (o == []) <;> exact ⟨_, rfl, rfl⟩
  · cases (op == 0) <;> cases (t == []) <;> cases (o == []) <;> exact ⟨_, rfl, rfl⟩
  · cases (op == 0) <;> cases (t == []) <;> cases (o == []) <;> exact ⟨_, rfl, rfl⟩
  · cases (op == 0) <;> cases (t == []) <;> cases (o == []) <;> exact ⟨_, rfl, rfl⟩
  · cases (op == 0) <;> cases (t == []) <;> cases (o == []) <;> exact ⟨_, rfl, rfl⟩
  · cases (op == 0) <;> cases (nameOk t) <;> cases (nameOk o) <;> exact ⟨_, rfl, rfl⟩
  · cases (op == 0) <;> cases (t == []) <;> cases (o == []) <;> exact ⟨_, rfl, rfl⟩
  · cases (op == 0) <;> cases (tokenOk 2 t) <;> cases (o == []) <;> exact ⟨_, rfl, rfl⟩
  · cases (op == 0) <;> cases (t == []) <;> cases (o == []) <;> exact ⟨_, rfl, rfl⟩
  · cases (op == 0) <;> cases (t == []) <;> cases (o == []) <;> exact ⟨_, rfl, rfl⟩
  · cases (op == 0) <;> cases (nameOk t) <;> cases (o == []) <;> exact ⟨_, rfl, rfl⟩
  · cases (op == 0) <;> cases (t == []) <;> cases (o == []) <;> exact ⟨_, rfl, rfl⟩
theorem fk_21 (op : Int) (t o : List UInt8) (kids : List Row) (ht : t.length ≤ 1048576) (ho : o.length ≤ 1048576) (hk : kids.length ≤ 400) : FOk 21 op t o kids := by
  have hp := Contains_ok o [[], [62], [62, 62], [124]] (by decide)
  rw [print_find] at hp
  by_cases h0 : op = 0
  · subst h0
    simp only [FOk, M.spec_FieldsOk, M.spec_FieldsOk_C, M.spec_l7Many, M.spec_l7Many_C, M.spec_l7Op, M.spec_l7Op_C, M.spec_l7Text, M.spec_l7Text_C, M.impl_FieldsOk, M.impl_FieldsOk_C, M.impl_IsExpr, M.impl_IsExpr_C, M.impl_IsStmt, M.impl_IsStmt_C, M.impl_exprForm, M.impl_exprForm_C, M.impl_stmtForm, M.impl_stmtForm_C, M.impl_itemForm, M.impl_itemForm_C, M.impl_isStep, M.impl_isStep_C, l1In_ok, within_ok, print_row, hp, show IntKind.i64.wrap (0 + 1) = 1 from rfl, show IntKind.i64.wrap (1 + 1) = 2 from rfl, show IntKind.i64.wrap (1 + IntKind.i64.wrap (Int.tdiv 1 3)) = 1 from rfl, show IntKind.i64.wrap (1 + IntKind.i64.wrap (Int.tdiv 2 3)) = 1 from rfl, show IntKind.i64.wrap (1 + IntKind.i64.wrap (Int.tdiv 3 3)) = 2 from rfl, show IntKind.i64.wrap (2 + IntKind.i64.wrap (Int.tdiv 1 3)) = 2 from rfl, show IntKind.i64.wrap (2 + IntKind.i64.wrap (Int.tdiv 3 3)) = 3 from rfl, ge_iff_le, Int.reduceBEq, Int.reduceLE, Int.reduceSub, decide_true, decide_false, cond_true, cond_false, Bool.and_true, Bool.and_false, Bool.true_and, Bool.false_and, some_bind]
    generalize (t == []) = a0
    generalize (o == []) = a1
    generalize (o == [62]) = a2
    generalize (o == [62, 62]) = a3
    generalize (o == [124]) = a4
    cases a0 <;> cases a1 <;> cases a2 <;> cases a3 <;> cases a4 <;> exact ⟨_, rfl, rfl⟩
  by_cases h1 : op = 1
  · subst h1
    simp only [FOk, M.spec_FieldsOk, M.spec_FieldsOk_C, M.spec_l7Many, M.spec_l7Many_C, M.spec_l7Op, M.spec_l7Op_C, M.spec_l7Text, M.spec_l7Text_C, M.impl_FieldsOk, M.impl_FieldsOk_C, M.impl_IsExpr, M.impl_IsExpr_C, M.impl_IsStmt, M.impl_IsStmt_C, M.impl_exprForm, M.impl_exprForm_C, M.impl_stmtForm, M.impl_stmtForm_C, M.impl_itemForm, M.impl_itemForm_C, M.impl_isStep, M.impl_isStep_C, l1In_ok, within_ok, print_row, hp, show IntKind.i64.wrap (0 + 1) = 1 from rfl, show IntKind.i64.wrap (1 + 1) = 2 from rfl, show IntKind.i64.wrap (1 + IntKind.i64.wrap (Int.tdiv 1 3)) = 1 from rfl, show IntKind.i64.wrap (1 + IntKind.i64.wrap (Int.tdiv 2 3)) = 1 from rfl, show IntKind.i64.wrap (1 + IntKind.i64.wrap (Int.tdiv 3 3)) = 2 from rfl, show IntKind.i64.wrap (2 + IntKind.i64.wrap (Int.tdiv 1 3)) = 2 from rfl, show IntKind.i64.wrap (2 + IntKind.i64.wrap (Int.tdiv 3 3)) = 3 from rfl, ge_iff_le, Int.reduceBEq, Int.reduceLE, Int.reduceSub, decide_true, decide_false, cond_true, cond_false, Bool.and_true, Bool.and_false, Bool.true_and, Bool.false_and, some_bind]
    generalize (t == []) = a0
    generalize (o == []) = a1
    generalize (o == [62]) = a2
    generalize (o == [62, 62]) = a3
    generalize (o == [124]) = a4
    cases a0 <;> cases a1 <;> cases a2 <;> cases a3 <;> cases a4 <;> exact ⟨_, rfl, rfl⟩
  have e0 : (op == 0) = false := by simpa using h0
  have e1 : (op == 1) = false := by simpa using h1
  have hf : (decide ((0 : Int) ≤ op) && decide (op ≤ 1)) = false := by
    rw [Bool.and_eq_false_iff, decide_eq_false_iff_not, decide_eq_false_iff_not]
    omega
  simp only [FOk, M.spec_FieldsOk, M.spec_FieldsOk_C, M.spec_l7Many, M.spec_l7Many_C, M.spec_l7Op, M.spec_l7Op_C, M.spec_l7Text, M.spec_l7Text_C, M.impl_FieldsOk, M.impl_FieldsOk_C, M.impl_IsExpr, M.impl_IsExpr_C, M.impl_IsStmt, M.impl_IsStmt_C, M.impl_exprForm, M.impl_exprForm_C, M.impl_stmtForm, M.impl_stmtForm_C, M.impl_itemForm, M.impl_itemForm_C, M.impl_isStep, M.impl_isStep_C, l1In_ok, within_ok, print_row, hp, e0, e1, hf, ge_iff_le, Int.reduceBEq, Int.reduceLE, Int.reduceSub, decide_true, decide_false, cond_true, cond_false, Bool.and_true, Bool.and_false, Bool.true_and, Bool.false_and, some_bind]
  generalize (t == []) = a0
  generalize (o == []) = a1
  generalize (o == [62]) = a2
  generalize (o == [62, 62]) = a3
  generalize (o == [124]) = a4
  cases a0 <;> cases a1 <;> cases a2 <;> cases a3 <;> cases a4 <;> exact ⟨_, rfl, rfl⟩
theorem fk_42 (op : Int) (t o : List UInt8) (kids : List Row) (ht : t.length ≤ 1048576) (ho : o.length ≤ 1048576) (hk : kids.length ≤ 400) : FOk 42 op t o kids := by
  have hp := Contains_ok o [[], [62], [62, 62], [124]] (by decide)
  rw [print_find] at hp
  by_cases h1 : op = 1
  · subst h1
    simp only [FOk, M.spec_FieldsOk, M.spec_FieldsOk_C, M.spec_l7Many, M.spec_l7Many_C, M.spec_l7Op, M.spec_l7Op_C, M.spec_l7Text, M.spec_l7Text_C, M.impl_FieldsOk, M.impl_FieldsOk_C, M.impl_IsExpr, M.impl_IsExpr_C, M.impl_IsStmt, M.impl_IsStmt_C, M.impl_exprForm, M.impl_exprForm_C, M.impl_stmtForm, M.impl_stmtForm_C, M.impl_itemForm, M.impl_itemForm_C, M.impl_isStep, M.impl_isStep_C, l1In_ok, within_ok, print_row, hp, show IntKind.i64.wrap (0 + 1) = 1 from rfl, show IntKind.i64.wrap (1 + 1) = 2 from rfl, show IntKind.i64.wrap (1 + IntKind.i64.wrap (Int.tdiv 1 3)) = 1 from rfl, show IntKind.i64.wrap (1 + IntKind.i64.wrap (Int.tdiv 2 3)) = 1 from rfl, show IntKind.i64.wrap (1 + IntKind.i64.wrap (Int.tdiv 3 3)) = 2 from rfl, show IntKind.i64.wrap (2 + IntKind.i64.wrap (Int.tdiv 1 3)) = 2 from rfl, show IntKind.i64.wrap (2 + IntKind.i64.wrap (Int.tdiv 3 3)) = 3 from rfl, ge_iff_le, Int.reduceBEq, Int.reduceLE, Int.reduceSub, decide_true, decide_false, cond_true, cond_false, Bool.and_true, Bool.and_false, Bool.true_and, Bool.false_and, some_bind]
    generalize (t == []) = a0
    generalize (o == []) = a1
    cases a0 <;> cases a1 <;> exact ⟨_, rfl, rfl⟩
  by_cases h2 : op = 2
  · subst h2
    simp only [FOk, M.spec_FieldsOk, M.spec_FieldsOk_C, M.spec_l7Many, M.spec_l7Many_C, M.spec_l7Op, M.spec_l7Op_C, M.spec_l7Text, M.spec_l7Text_C, M.impl_FieldsOk, M.impl_FieldsOk_C, M.impl_IsExpr, M.impl_IsExpr_C, M.impl_IsStmt, M.impl_IsStmt_C, M.impl_exprForm, M.impl_exprForm_C, M.impl_stmtForm, M.impl_stmtForm_C, M.impl_itemForm, M.impl_itemForm_C, M.impl_isStep, M.impl_isStep_C, l1In_ok, within_ok, print_row, hp, show IntKind.i64.wrap (0 + 1) = 1 from rfl, show IntKind.i64.wrap (1 + 1) = 2 from rfl, show IntKind.i64.wrap (1 + IntKind.i64.wrap (Int.tdiv 1 3)) = 1 from rfl, show IntKind.i64.wrap (1 + IntKind.i64.wrap (Int.tdiv 2 3)) = 1 from rfl, show IntKind.i64.wrap (1 + IntKind.i64.wrap (Int.tdiv 3 3)) = 2 from rfl, show IntKind.i64.wrap (2 + IntKind.i64.wrap (Int.tdiv 1 3)) = 2 from rfl, show IntKind.i64.wrap (2 + IntKind.i64.wrap (Int.tdiv 3 3)) = 3 from rfl, ge_iff_le, Int.reduceBEq, Int.reduceLE, Int.reduceSub, decide_true, decide_false, cond_true, cond_false, Bool.and_true, Bool.and_false, Bool.true_and, Bool.false_and, some_bind]
    generalize (t == []) = a0
    generalize (o == []) = a1
    cases a0 <;> cases a1 <;> exact ⟨_, rfl, rfl⟩
  by_cases h3 : op = 3
  · subst h3
    simp only [FOk, M.spec_FieldsOk, M.spec_FieldsOk_C, M.spec_l7Many, M.spec_l7Many_C, M.spec_l7Op, M.spec_l7Op_C, M.spec_l7Text, M.spec_l7Text_C, M.impl_FieldsOk, M.impl_FieldsOk_C, M.impl_IsExpr, M.impl_IsExpr_C, M.impl_IsStmt, M.impl_IsStmt_C, M.impl_exprForm, M.impl_exprForm_C, M.impl_stmtForm, M.impl_stmtForm_C, M.impl_itemForm, M.impl_itemForm_C, M.impl_isStep, M.impl_isStep_C, l1In_ok, within_ok, print_row, hp, show IntKind.i64.wrap (0 + 1) = 1 from rfl, show IntKind.i64.wrap (1 + 1) = 2 from rfl, show IntKind.i64.wrap (1 + IntKind.i64.wrap (Int.tdiv 1 3)) = 1 from rfl, show IntKind.i64.wrap (1 + IntKind.i64.wrap (Int.tdiv 2 3)) = 1 from rfl, show IntKind.i64.wrap (1 + IntKind.i64.wrap (Int.tdiv 3 3)) = 2 from rfl, show IntKind.i64.wrap (2 + IntKind.i64.wrap (Int.tdiv 1 3)) = 2 from rfl, show IntKind.i64.wrap (2 + IntKind.i64.wrap (Int.tdiv 3 3)) = 3 from rfl, ge_iff_le, Int.reduceBEq, Int.reduceLE, Int.reduceSub, decide_true, decide_false, cond_true, cond_false, Bool.and_true, Bool.and_false, Bool.true_and, Bool.false_and, some_bind]
    generalize (t == []) = a0
    generalize (o == []) = a1
    cases a0 <;> cases a1 <;> exact ⟨_, rfl, rfl⟩
  have e1 : (op == 1) = false := by simpa using h1
  have e2 : (op == 2) = false := by simpa using h2
  have e3 : (op == 3) = false := by simpa using h3
  have hf : (decide ((1 : Int) ≤ op) && decide (op ≤ 3)) = false := by
    rw [Bool.and_eq_false_iff, decide_eq_false_iff_not, decide_eq_false_iff_not]
    omega
  simp only [FOk, M.spec_FieldsOk, M.spec_FieldsOk_C, M.spec_l7Many, M.spec_l7Many_C, M.spec_l7Op, M.spec_l7Op_C, M.spec_l7Text, M.spec_l7Text_C, M.impl_FieldsOk, M.impl_FieldsOk_C, M.impl_IsExpr, M.impl_IsExpr_C, M.impl_IsStmt, M.impl_IsStmt_C, M.impl_exprForm, M.impl_exprForm_C, M.impl_stmtForm, M.impl_stmtForm_C, M.impl_itemForm, M.impl_itemForm_C, M.impl_isStep, M.impl_isStep_C, l1In_ok, within_ok, print_row, hp, e1, e2, e3, hf, ge_iff_le, Int.reduceBEq, Int.reduceLE, Int.reduceSub, decide_true, decide_false, cond_true, cond_false, Bool.and_true, Bool.and_false, Bool.true_and, Bool.false_and, some_bind]
  generalize (t == []) = a0
  generalize (o == []) = a1
  cases a0 <;> cases a1 <;> exact ⟨_, rfl, rfl⟩
theorem fk_43 (op : Int) (t o : List UInt8) (kids : List Row) (ht : t.length ≤ 1048576) (ho : o.length ≤ 1048576) (hk : kids.length ≤ 400) : FOk 43 op t o kids := by
  have hp := Contains_ok o [[], [62], [62, 62], [124]] (by decide)
  rw [print_find] at hp
  by_cases h1 : op = 1
  · subst h1
    simp only [FOk, M.spec_FieldsOk, M.spec_FieldsOk_C, M.spec_l7Many, M.spec_l7Many_C, M.spec_l7Op, M.spec_l7Op_C, M.spec_l7Text, M.spec_l7Text_C, M.impl_FieldsOk, M.impl_FieldsOk_C, M.impl_IsExpr, M.impl_IsExpr_C, M.impl_IsStmt, M.impl_IsStmt_C, M.impl_exprForm, M.impl_exprForm_C, M.impl_stmtForm, M.impl_stmtForm_C, M.impl_itemForm, M.impl_itemForm_C, M.impl_isStep, M.impl_isStep_C, l1In_ok, within_ok, print_row, hp, show IntKind.i64.wrap (0 + 1) = 1 from rfl, show IntKind.i64.wrap (1 + 1) = 2 from rfl, show IntKind.i64.wrap (1 + IntKind.i64.wrap (Int.tdiv 1 3)) = 1 from rfl, show IntKind.i64.wrap (1 + IntKind.i64.wrap (Int.tdiv 2 3)) = 1 from rfl, show IntKind.i64.wrap (1 + IntKind.i64.wrap (Int.tdiv 3 3)) = 2 from rfl, show IntKind.i64.wrap (2 + IntKind.i64.wrap (Int.tdiv 1 3)) = 2 from rfl, show IntKind.i64.wrap (2 + IntKind.i64.wrap (Int.tdiv 3 3)) = 3 from rfl, ge_iff_le, Int.reduceBEq, Int.reduceLE, Int.reduceSub, decide_true, decide_false, cond_true, cond_false, Bool.and_true, Bool.and_false, Bool.true_and, Bool.false_and, some_bind]
    generalize (t == []) = a0
    generalize (o == []) = a1
    cases a0 <;> cases a1 <;> exact ⟨_, rfl, rfl⟩
  by_cases h3 : op = 3
  · subst h3
    simp only [FOk, M.spec_FieldsOk, M.spec_FieldsOk_C, M.spec_l7Many, M.spec_l7Many_C, M.spec_l7Op, M.spec_l7Op_C, M.spec_l7Text, M.spec_l7Text_C, M.impl_FieldsOk, M.impl_FieldsOk_C, M.impl_IsExpr, M.impl_IsExpr_C, M.impl_IsStmt, M.impl_IsStmt_C, M.impl_exprForm, M.impl_exprForm_C, M.impl_stmtForm, M.impl_stmtForm_C, M.impl_itemForm, M.impl_itemForm_C, M.impl_isStep, M.impl_isStep_C, l1In_ok, within_ok, print_row, hp, show IntKind.i64.wrap (0 + 1) = 1 from rfl, show IntKind.i64.wrap (1 + 1) = 2 from rfl, show IntKind.i64.wrap (1 + IntKind.i64.wrap (Int.tdiv 1 3)) = 1 from rfl, show IntKind.i64.wrap (1 + IntKind.i64.wrap (Int.tdiv 2 3)) = 1 from rfl, show IntKind.i64.wrap (1 + IntKind.i64.wrap (Int.tdiv 3 3)) = 2 from rfl, show IntKind.i64.wrap (2 + IntKind.i64.wrap (Int.tdiv 1 3)) = 2 from rfl, show IntKind.i64.wrap (2 + IntKind.i64.wrap (Int.tdiv 3 3)) = 3 from rfl, ge_iff_le, Int.reduceBEq, Int.reduceLE, Int.reduceSub, decide_true, decide_false, cond_true, cond_false, Bool.and_true, Bool.and_false, Bool.true_and, Bool.false_and, some_bind]
    generalize (t == []) = a0
    generalize (o == []) = a1
    cases a0 <;> cases a1 <;> exact ⟨_, rfl, rfl⟩
  have e1 : (op == 1) = false := by simpa using h1
  have e3 : (op == 3) = false := by simpa using h3
  have hf : True := trivial
  simp only [FOk, M.spec_FieldsOk, M.spec_FieldsOk_C, M.spec_l7Many, M.spec_l7Many_C, M.spec_l7Op, M.spec_l7Op_C, M.spec_l7Text, M.spec_l7Text_C, M.impl_FieldsOk, M.impl_FieldsOk_C, M.impl_IsExpr, M.impl_IsExpr_C, M.impl_IsStmt, M.impl_IsStmt_C, M.impl_exprForm, M.impl_exprForm_C, M.impl_stmtForm, M.impl_stmtForm_C, M.impl_itemForm, M.impl_itemForm_C, M.impl_isStep, M.impl_isStep_C, l1In_ok, within_ok, print_row, hp, e1, e3, hf, ge_iff_le, Int.reduceBEq, Int.reduceLE, Int.reduceSub, decide_true, decide_false, cond_true, cond_false, Bool.and_true, Bool.and_false, Bool.true_and, Bool.false_and, some_bind]
  generalize (t == []) = a0
  generalize (o == []) = a1
  cases a0 <;> cases a1 <;> exact ⟨_, rfl, rfl⟩
theorem FieldsOk_ok (k : Int) (op : Int) (t o : List UInt8) (kids : List Row) (ht : t.length ≤ 1048576) (ho : o.length ≤ 1048576) (hk : kids.length ≤ 400) : FOk k op t o kids := by
  by_cases hkk : k = 1 ∨ k = 2 ∨ k = 3 ∨ k = 4 ∨ k = 5 ∨ k = 6 ∨ k = 7 ∨ k = 8 ∨ k = 9 ∨ k = 10 ∨ k = 11 ∨ k = 12 ∨ k = 13 ∨ k = 14 ∨ k = 15 ∨ k = 16 ∨ k = 20 ∨ k = 22 ∨ k = 23 ∨ k = 24 ∨ k = 25 ∨ k = 26 ∨ k = 27 ∨ k = 28 ∨ k = 29 ∨ k = 30 ∨ k = 31 ∨ k = 32 ∨ k = 33 ∨ k = 34 ∨ k = 40 ∨ k = 41 ∨ k = 44 ∨ k = 45
  · exact fk_easy k op t o kids ht ho hk hkk
  by_cases h21 : k = 21
  · subst h21; exact fk_21 op t o kids ht ho hk
  by_cases h42 : k = 42
  · subst h42; exact fk_42 op t o kids ht ho hk
  by_cases h43 : k = 43
  · subst h43; exact fk_43 op t o kids ht ho hk
  have h1 : k ≠ 1 := by omega
  have h2 : k ≠ 2 := by omega
  have h3 : k ≠ 3 := by omega
  have h4 : k ≠ 4 := by omega
  have h5 : k ≠ 5 := by omega
  have h6 : k ≠ 6 := by omega
  have h7 : k ≠ 7 := by omega
  have h8 : k ≠ 8 := by omega
  have h9 : k ≠ 9 := by omega
  have h10 : k ≠ 10 := by omega
  have h11 : k ≠ 11 := by omega
  have h12 : k ≠ 12 := by omega
  have h13 : k ≠ 13 := by omega
  have h14 : k ≠ 14 := by omega
  have h15 : k ≠ 15 := by omega
  have h16 : k ≠ 16 := by omega
  have h20 : k ≠ 20 := by omega
  have h22 : k ≠ 22 := by omega
  have h23 : k ≠ 23 := by omega
  have h24 : k ≠ 24 := by omega
  have h25 : k ≠ 25 := by omega
  have h26 : k ≠ 26 := by omega
  have h27 : k ≠ 27 := by omega
  have h28 : k ≠ 28 := by omega
  have h29 : k ≠ 29 := by omega
  have h30 : k ≠ 30 := by omega
  have h31 : k ≠ 31 := by omega
  have h32 : k ≠ 32 := by omega
  have h33 : k ≠ 33 := by omega
  have h34 : k ≠ 34 := by omega
  have h40 : k ≠ 40 := by omega
  have h41 : k ≠ 41 := by omega
  have h44 : k ≠ 44 := by omega
  have h45 : k ≠ 45 := by omega
  have f1 : (decide (k ≥ 1) && decide (k ≤ 16)) = false := by
    rw [Bool.and_eq_false_iff, decide_eq_false_iff_not, decide_eq_false_iff_not]
    omega
  have f2 : (decide (k ≥ 20) && decide (k ≤ 34)) = false := by
    rw [Bool.and_eq_false_iff, decide_eq_false_iff_not, decide_eq_false_iff_not]
    omega
  have f3 : (decide (k ≥ 40) && decide (k ≤ 45)) = false := by
    rw [Bool.and_eq_false_iff, decide_eq_false_iff_not, decide_eq_false_iff_not]
    omega
  have f4 : (decide (k ≥ 1) && decide (k ≤ 15)) = false := by
    rw [Bool.and_eq_false_iff, decide_eq_false_iff_not, decide_eq_false_iff_not]
    omega
  have g : (k == 16) = false := by simpa using h16
  have e1 : (k == 1) = false := by simpa using h1
  have e2 : (k == 2) = false := by simpa using h2
  have e3 : (k == 3) = false := by simpa using h3
  have e4 : (k == 4) = false := by simpa using h4
  have e5 : (k == 5) = false := by simpa using h5
  have e6 : (k == 6) = false := by simpa using h6
  have e7 : (k == 7) = false := by simpa using h7
  have e8 : (k == 8) = false := by simpa using h8
  have e9 : (k == 9) = false := by simpa using h9
  have e10 : (k == 10) = false := by simpa using h10
  have e11 : (k == 11) = false := by simpa using h11
  have e12 : (k == 12) = false := by simpa using h12
  have e13 : (k == 13) = false := by simpa using h13
  have e14 : (k == 14) = false := by simpa using h14
  have e15 : (k == 15) = false := by simpa using h15
  have e16 : (k == 16) = false := by simpa using h16
  have e20 : (k == 20) = false := by simpa using h20
  have e21 : (k == 21) = false := by simpa using h21
  have e22 : (k == 22) = false := by simpa using h22
  have e23 : (k == 23) = false := by simpa using h23
  have e24 : (k == 24) = false := by simpa using h24
  have e25 : (k == 25) = false := by simpa using h25
  have e26 : (k == 26) = false := by simpa using h26
  have e27 : (k == 27) = false := by simpa using h27
  have e28 : (k == 28) = false := by simpa using h28
  have e29 : (k == 29) = false := by simpa using h29
  have e30 : (k == 30) = false := by simpa using h30
  have e31 : (k == 31) = false := by simpa using h31
  have e32 : (k == 32) = false := by simpa using h32
  have e33 : (k == 33) = false := by simpa using h33
  have e34 : (k == 34) = false := by simpa using h34
  have e40 : (k == 40) = false := by simpa using h40
  have e41 : (k == 41) = false := by simpa using h41
  have e42 : (k == 42) = false := by simpa using h42
  have e43 : (k == 43) = false := by simpa using h43
  have e44 : (k == 44) = false := by simpa using h44
  have e45 : (k == 45) = false := by simpa using h45
  simp only [FOk, M.spec_FieldsOk, M.spec_FieldsOk_C, M.spec_l7Many, M.spec_l7Many_C, M.impl_FieldsOk, M.impl_FieldsOk_C, M.impl_IsExpr, M.impl_IsExpr_C, M.impl_IsStmt, M.impl_IsStmt_C, l1In_ok, within_ok, f1, f2, f3, f4, e1, e2, e3, e4, e5, e6, e7, e8, e9, e10, e11, e12, e13, e14, e15, e16, e20, e21, e22, e23, e24, e25, e26, e27, e28, e29, e30, e31, e32, e33, e34, e40, e41, e42, e43, e44, e45, cond_false, some_bind]
  exact ⟨false, rfl, rfl⟩
end Go.Proofs.YtpcdaeebbpedoaaGreatDoor
