import Derived.Test.YtpcdaeebbpedoaaGreatDoorZFields
namespace Go.Proofs.YtpcdaeebbpedoaaGreatDoor
set_option linter.unusedVariables false
set_option linter.unusedSimpArgs false
set_option linter.unusedSectionVars false
open Go Go.Vm
structure Cons (k op : Int) (n : Nat) : Prop where
  two : k = 29 ∨ k = 30 → n = 2
  four : k = 31 → n = 4
  rule : k = 42 → (op = 1 ∧ n = 1) ∨ (op = 2 ∧ n = 1) ∨ (op = 3 ∧ n = 2)
  range : k = 43 → (op = 1 ∧ n = 2) ∨ (op = 3 ∧ n = 3)
theorem cn29 (op : Int) (t o : List UInt8) (kids : List Row) (h : M.spec_FieldsOk 29 op t o kids = some true) : kids.length = 2 := by
  simp only [M.spec_FieldsOk, M.spec_FieldsOk_C, M.spec_l7Many, M.spec_l7Many_C, M.spec_l7Op, M.spec_l7Op_C, M.spec_l7Text, M.spec_l7Text_C, l1In_ok, within_ok, ge_iff_le, gt_iff_lt, Int.reduceBEq, Int.reduceLE, Int.reduceLT, Int.reduceSub, Int.reduceAdd, decide_true, decide_false, cond_true, cond_false, Bool.and_true, Bool.and_false, Bool.true_and, Bool.false_and, Bool.not_true, Bool.not_false, some_bind] at h
  revert h
  cases op == 0 <;> cases t == [] <;> cases o == [] <;> simp <;> omega
theorem cn30 (op : Int) (t o : List UInt8) (kids : List Row) (h : M.spec_FieldsOk 30 op t o kids = some true) : kids.length = 2 := by
  simp only [M.spec_FieldsOk, M.spec_FieldsOk_C, M.spec_l7Many, M.spec_l7Many_C, M.spec_l7Op, M.spec_l7Op_C, M.spec_l7Text, M.spec_l7Text_C, l1In_ok, within_ok, ge_iff_le, gt_iff_lt, Int.reduceBEq, Int.reduceLE, Int.reduceLT, Int.reduceSub, Int.reduceAdd, decide_true, decide_false, cond_true, cond_false, Bool.and_true, Bool.and_false, Bool.true_and, Bool.false_and, Bool.not_true, Bool.not_false, some_bind] at h
  revert h
  cases op == 0 <;> cases t == [] <;> cases o == [] <;> simp <;> omega
theorem cn31 (op : Int) (t o : List UInt8) (kids : List Row) (h : M.spec_FieldsOk 31 op t o kids = some true) : kids.length = 4 := by
  simp only [M.spec_FieldsOk, M.spec_FieldsOk_C, M.spec_l7Many, M.spec_l7Many_C, M.spec_l7Op, M.spec_l7Op_C, M.spec_l7Text, M.spec_l7Text_C, l1In_ok, within_ok, ge_iff_le, gt_iff_lt, Int.reduceBEq, Int.reduceLE, Int.reduceLT, Int.reduceSub, Int.reduceAdd, decide_true, decide_false, cond_true, cond_false, Bool.and_true, Bool.and_false, Bool.true_and, Bool.false_and, Bool.not_true, Bool.not_false, some_bind] at h
  revert h
  cases op == 0 <;> cases t == [] <;> cases o == [] <;> simp <;> omega
theorem cn42 (op : Int) (t o : List UInt8) (kids : List Row) (h : M.spec_FieldsOk 42 op t o kids = some true) : (op = 1 ∧ kids.length = 1) ∨ (op = 2 ∧ kids.length = 1) ∨ (op = 3 ∧ kids.length = 2) := by
  by_cases h1 : op = 1
  · subst h1
    simp only [M.spec_FieldsOk, M.spec_FieldsOk_C, M.spec_l7Many, M.spec_l7Many_C, M.spec_l7Op, M.spec_l7Op_C, M.spec_l7Text, M.spec_l7Text_C, l1In_ok, within_ok, show IntKind.i64.wrap (1 + IntKind.i64.wrap (Int.tdiv 1 3)) = 1 from rfl, show IntKind.i64.wrap (1 + IntKind.i64.wrap (Int.tdiv 2 3)) = 1 from rfl, show IntKind.i64.wrap (1 + IntKind.i64.wrap (Int.tdiv 3 3)) = 2 from rfl, show IntKind.i64.wrap (2 + IntKind.i64.wrap (Int.tdiv 1 3)) = 2 from rfl, show IntKind.i64.wrap (2 + IntKind.i64.wrap (Int.tdiv 3 3)) = 3 from rfl, ge_iff_le, gt_iff_lt, Int.reduceBEq, Int.reduceLE, Int.reduceLT, Int.reduceSub, Int.reduceAdd, decide_true, decide_false, cond_true, cond_false, Bool.and_true, Bool.and_false, Bool.true_and, Bool.false_and, Bool.not_true, Bool.not_false, some_bind] at h
    revert h
    cases t == [] <;> cases o == [] <;> simp <;> omega
  have e1 : (op == 1) = false := by simpa using h1
  by_cases h2 : op = 2
  · subst h2
    simp only [M.spec_FieldsOk, M.spec_FieldsOk_C, M.spec_l7Many, M.spec_l7Many_C, M.spec_l7Op, M.spec_l7Op_C, M.spec_l7Text, M.spec_l7Text_C, l1In_ok, within_ok, show IntKind.i64.wrap (1 + IntKind.i64.wrap (Int.tdiv 1 3)) = 1 from rfl, show IntKind.i64.wrap (1 + IntKind.i64.wrap (Int.tdiv 2 3)) = 1 from rfl, show IntKind.i64.wrap (1 + IntKind.i64.wrap (Int.tdiv 3 3)) = 2 from rfl, show IntKind.i64.wrap (2 + IntKind.i64.wrap (Int.tdiv 1 3)) = 2 from rfl, show IntKind.i64.wrap (2 + IntKind.i64.wrap (Int.tdiv 3 3)) = 3 from rfl, ge_iff_le, gt_iff_lt, Int.reduceBEq, Int.reduceLE, Int.reduceLT, Int.reduceSub, Int.reduceAdd, decide_true, decide_false, cond_true, cond_false, Bool.and_true, Bool.and_false, Bool.true_and, Bool.false_and, Bool.not_true, Bool.not_false, some_bind] at h
    revert h
    cases t == [] <;> cases o == [] <;> simp <;> omega
  have e2 : (op == 2) = false := by simpa using h2
  by_cases h3 : op = 3
  · subst h3
    simp only [M.spec_FieldsOk, M.spec_FieldsOk_C, M.spec_l7Many, M.spec_l7Many_C, M.spec_l7Op, M.spec_l7Op_C, M.spec_l7Text, M.spec_l7Text_C, l1In_ok, within_ok, show IntKind.i64.wrap (1 + IntKind.i64.wrap (Int.tdiv 1 3)) = 1 from rfl, show IntKind.i64.wrap (1 + IntKind.i64.wrap (Int.tdiv 2 3)) = 1 from rfl, show IntKind.i64.wrap (1 + IntKind.i64.wrap (Int.tdiv 3 3)) = 2 from rfl, show IntKind.i64.wrap (2 + IntKind.i64.wrap (Int.tdiv 1 3)) = 2 from rfl, show IntKind.i64.wrap (2 + IntKind.i64.wrap (Int.tdiv 3 3)) = 3 from rfl, ge_iff_le, gt_iff_lt, Int.reduceBEq, Int.reduceLE, Int.reduceLT, Int.reduceSub, Int.reduceAdd, decide_true, decide_false, cond_true, cond_false, Bool.and_true, Bool.and_false, Bool.true_and, Bool.false_and, Bool.not_true, Bool.not_false, some_bind] at h
    revert h
    cases t == [] <;> cases o == [] <;> simp <;> omega
  have e3 : (op == 3) = false := by simpa using h3
  have hf : (decide ((1 : Int) ≤ op) && decide (op ≤ 3)) = false := by
    rw [Bool.and_eq_false_iff, decide_eq_false_iff_not, decide_eq_false_iff_not]
    omega
  simp only [M.spec_FieldsOk, M.spec_FieldsOk_C, M.spec_l7Many, M.spec_l7Many_C, M.spec_l7Op, M.spec_l7Op_C, M.spec_l7Text, M.spec_l7Text_C, l1In_ok, within_ok, e1, e2, e3, hf, ge_iff_le, gt_iff_lt, Int.reduceBEq, Int.reduceLE, Int.reduceLT, Int.reduceSub, Int.reduceAdd, decide_true, decide_false, cond_true, cond_false, Bool.and_true, Bool.and_false, Bool.true_and, Bool.false_and, Bool.not_true, Bool.not_false, some_bind] at h
  cases h
theorem cn43 (op : Int) (t o : List UInt8) (kids : List Row) (h : M.spec_FieldsOk 43 op t o kids = some true) : (op = 1 ∧ kids.length = 2) ∨ (op = 3 ∧ kids.length = 3) := by
  by_cases h1 : op = 1
  · subst h1
    simp only [M.spec_FieldsOk, M.spec_FieldsOk_C, M.spec_l7Many, M.spec_l7Many_C, M.spec_l7Op, M.spec_l7Op_C, M.spec_l7Text, M.spec_l7Text_C, l1In_ok, within_ok, show IntKind.i64.wrap (1 + IntKind.i64.wrap (Int.tdiv 1 3)) = 1 from rfl, show IntKind.i64.wrap (1 + IntKind.i64.wrap (Int.tdiv 2 3)) = 1 from rfl, show IntKind.i64.wrap (1 + IntKind.i64.wrap (Int.tdiv 3 3)) = 2 from rfl, show IntKind.i64.wrap (2 + IntKind.i64.wrap (Int.tdiv 1 3)) = 2 from rfl, show IntKind.i64.wrap (2 + IntKind.i64.wrap (Int.tdiv 3 3)) = 3 from rfl, ge_iff_le, gt_iff_lt, Int.reduceBEq, Int.reduceLE, Int.reduceLT, Int.reduceSub, Int.reduceAdd, decide_true, decide_false, cond_true, cond_false, Bool.and_true, Bool.and_false, Bool.true_and, Bool.false_and, Bool.not_true, Bool.not_false, some_bind] at h
    revert h
    cases t == [] <;> cases o == [] <;> simp <;> omega
  have e1 : (op == 1) = false := by simpa using h1
  by_cases h3 : op = 3
  · subst h3
    simp only [M.spec_FieldsOk, M.spec_FieldsOk_C, M.spec_l7Many, M.spec_l7Many_C, M.spec_l7Op, M.spec_l7Op_C, M.spec_l7Text, M.spec_l7Text_C, l1In_ok, within_ok, show IntKind.i64.wrap (1 + IntKind.i64.wrap (Int.tdiv 1 3)) = 1 from rfl, show IntKind.i64.wrap (1 + IntKind.i64.wrap (Int.tdiv 2 3)) = 1 from rfl, show IntKind.i64.wrap (1 + IntKind.i64.wrap (Int.tdiv 3 3)) = 2 from rfl, show IntKind.i64.wrap (2 + IntKind.i64.wrap (Int.tdiv 1 3)) = 2 from rfl, show IntKind.i64.wrap (2 + IntKind.i64.wrap (Int.tdiv 3 3)) = 3 from rfl, ge_iff_le, gt_iff_lt, Int.reduceBEq, Int.reduceLE, Int.reduceLT, Int.reduceSub, Int.reduceAdd, decide_true, decide_false, cond_true, cond_false, Bool.and_true, Bool.and_false, Bool.true_and, Bool.false_and, Bool.not_true, Bool.not_false, some_bind] at h
    revert h
    cases t == [] <;> cases o == [] <;> simp <;> omega
  have e3 : (op == 3) = false := by simpa using h3
  have hf : True := trivial
  simp only [M.spec_FieldsOk, M.spec_FieldsOk_C, M.spec_l7Many, M.spec_l7Many_C, M.spec_l7Op, M.spec_l7Op_C, M.spec_l7Text, M.spec_l7Text_C, l1In_ok, within_ok, e1, e3, hf, ge_iff_le, gt_iff_lt, Int.reduceBEq, Int.reduceLE, Int.reduceLT, Int.reduceSub, Int.reduceAdd, decide_true, decide_false, cond_true, cond_false, Bool.and_true, Bool.and_false, Bool.true_and, Bool.false_and, Bool.not_true, Bool.not_false, some_bind] at h
  cases h
theorem cons_of {k op : Int} {t o : List UInt8} {kids : List Row} (h : M.spec_FieldsOk k op t o kids = some true) : Cons k op kids.length :=
  ⟨fun e => (by rcases e with rfl | rfl; exact cn29 op t o kids h; exact cn30 op t o kids h), fun e => (by subst e; exact cn31 op t o kids h), fun e => (by subst e; exact cn42 op t o kids h), fun e => (by subst e; exact cn43 op t o kids h)⟩
def isEx (k : Int) : Bool := decide (1 ≤ k) && decide (k ≤ 15)
def isLv (k : Int) : Bool := k == 1 || (k == 5 || k == 6)
def isSt (k : Int) : Bool := decide (20 ≤ k) && decide (k ≤ 34)
def isIt (k : Int) : Bool := decide (40 ≤ k) && decide (k ≤ 44)
theorem IsExpr_ok (k : Int) : M.spec_IsExpr k = some (isEx k) ∧ M.impl_IsExpr k = some (isEx k) := by
  simp only [M.spec_IsExpr, M.spec_IsExpr_C, M.impl_IsExpr, M.impl_IsExpr_C, l1In_ok, within_ok, some_bind, isEx, ge_iff_le]
  constructor <;> first | rfl | trivial
theorem IsStmt_ok (k : Int) : M.spec_IsStmt k = some (isSt k) ∧ M.impl_IsStmt k = some (isSt k) := by
  simp only [M.spec_IsStmt, M.spec_IsStmt_C, M.impl_IsStmt, M.impl_IsStmt_C, l1In_ok, within_ok, some_bind, isSt, ge_iff_le]
  constructor <;> first | rfl | trivial
theorem isItem_ok (k : Int) : M.spec_l1In k 40 44 = some (isIt k) ∧ M.impl_isItem k = some (isIt k) := by
  simp only [M.impl_isItem, M.impl_isItem_C, l1In_ok, within_ok, some_bind, isIt, ge_iff_le]
  constructor <;> first | rfl | trivial
theorem IsLvalue_ok (k : Int) : M.spec_IsLvalue k = some (isLv k) ∧ M.impl_IsLvalue k = some (isLv k) := by
  simp only [M.spec_IsLvalue, M.spec_IsLvalue_C, M.impl_IsLvalue, M.impl_IsLvalue_C, isLv]
  cases k == 1 <;> cases k == 5 <;> exact ⟨rfl, rfl⟩
theorem lv_ex (k : Int) : isLv k = (isEx k && isLv k) := by
  by_cases h1 : k = 1
  · subst h1; rfl
  by_cases h5 : k = 5
  · subst h5; rfl
  by_cases h6 : k = 6
  · subst h6; rfl
  have e : isLv k = false := by simp [isLv, h1, h5, h6]
  rw [e, Bool.and_false]
def KOk (k op : Int) (t o : List UInt8) (kids : List Row) (j d : Int) : Prop := ∃ b, M.spec_l7Kid k op t o kids j d = some b ∧ M.impl_kidOk k op t o kids j d = some b
theorem kk_1 (op : Int) (t o : List UInt8) (kids : List Row) (j d : Int) (h0 : 0 ≤ j) (h1 : j < kids.length) (hk : kids.length ≤ 400) (hc : Cons 1 op kids.length) : KOk 1 op t o kids j d := by
  simp only [KOk, M.spec_l7Kid, M.spec_l7Kid_C, M.impl_kidOk, M.impl_kidOk_C, IsExpr_ok, IsStmt_ok, isItem_ok, IsLvalue_ok, ge_iff_le, gt_iff_lt, Int.reduceBEq, Int.reduceLE, Int.reduceLT, Int.reduceSub, Int.reduceAdd, decide_true, decide_false, cond_true, cond_false, Bool.and_true, Bool.and_false, Bool.true_and, Bool.false_and, Bool.not_true, Bool.not_false, some_bind]
  generalize (isEx d) = a0
  cases a0 <;> exact ⟨_, rfl, rfl⟩
theorem kk_2 (op : Int) (t o : List UInt8) (kids : List Row) (j d : Int) (h0 : 0 ≤ j) (h1 : j < kids.length) (hk : kids.length ≤ 400) (hc : Cons 2 op kids.length) : KOk 2 op t o kids j d := by
  simp only [KOk, M.spec_l7Kid, M.spec_l7Kid_C, M.impl_kidOk, M.impl_kidOk_C, IsExpr_ok, IsStmt_ok, isItem_ok, IsLvalue_ok, ge_iff_le, gt_iff_lt, Int.reduceBEq, Int.reduceLE, Int.reduceLT, Int.reduceSub, Int.reduceAdd, decide_true, decide_false, cond_true, cond_false, Bool.and_true, Bool.and_false, Bool.true_and, Bool.false_and, Bool.not_true, Bool.not_false, some_bind]
  generalize (isEx d) = a0
  cases a0 <;> exact ⟨_, rfl, rfl⟩
theorem kk_3 (op : Int) (t o : List UInt8) (kids : List Row) (j d : Int) (h0 : 0 ≤ j) (h1 : j < kids.length) (hk : kids.length ≤ 400) (hc : Cons 3 op kids.length) : KOk 3 op t o kids j d := by
  simp only [KOk, M.spec_l7Kid, M.spec_l7Kid_C, M.impl_kidOk, M.impl_kidOk_C, IsExpr_ok, IsStmt_ok, isItem_ok, IsLvalue_ok, ge_iff_le, gt_iff_lt, Int.reduceBEq, Int.reduceLE, Int.reduceLT, Int.reduceSub, Int.reduceAdd, decide_true, decide_false, cond_true, cond_false, Bool.and_true, Bool.and_false, Bool.true_and, Bool.false_and, Bool.not_true, Bool.not_false, some_bind]
  generalize (isEx d) = a0
  cases a0 <;> exact ⟨_, rfl, rfl⟩
theorem kk_4 (op : Int) (t o : List UInt8) (kids : List Row) (j d : Int) (h0 : 0 ≤ j) (h1 : j < kids.length) (hk : kids.length ≤ 400) (hc : Cons 4 op kids.length) : KOk 4 op t o kids j d := by
  simp only [KOk, M.spec_l7Kid, M.spec_l7Kid_C, M.impl_kidOk, M.impl_kidOk_C, IsExpr_ok, IsStmt_ok, isItem_ok, IsLvalue_ok, ge_iff_le, gt_iff_lt, Int.reduceBEq, Int.reduceLE, Int.reduceLT, Int.reduceSub, Int.reduceAdd, decide_true, decide_false, cond_true, cond_false, Bool.and_true, Bool.and_false, Bool.true_and, Bool.false_and, Bool.not_true, Bool.not_false, some_bind]
  generalize (isEx d) = a0
  cases a0 <;> exact ⟨_, rfl, rfl⟩
theorem kk_5 (op : Int) (t o : List UInt8) (kids : List Row) (j d : Int) (h0 : 0 ≤ j) (h1 : j < kids.length) (hk : kids.length ≤ 400) (hc : Cons 5 op kids.length) : KOk 5 op t o kids j d := by
  simp only [KOk, M.spec_l7Kid, M.spec_l7Kid_C, M.impl_kidOk, M.impl_kidOk_C, IsExpr_ok, IsStmt_ok, isItem_ok, IsLvalue_ok, ge_iff_le, gt_iff_lt, Int.reduceBEq, Int.reduceLE, Int.reduceLT, Int.reduceSub, Int.reduceAdd, decide_true, decide_false, cond_true, cond_false, Bool.and_true, Bool.and_false, Bool.true_and, Bool.false_and, Bool.not_true, Bool.not_false, some_bind]
  generalize (isEx d) = a0
  cases a0 <;> exact ⟨_, rfl, rfl⟩
theorem kk_6 (op : Int) (t o : List UInt8) (kids : List Row) (j d : Int) (h0 : 0 ≤ j) (h1 : j < kids.length) (hk : kids.length ≤ 400) (hc : Cons 6 op kids.length) : KOk 6 op t o kids j d := by
  simp only [KOk, M.spec_l7Kid, M.spec_l7Kid_C, M.impl_kidOk, M.impl_kidOk_C, IsExpr_ok, IsStmt_ok, isItem_ok, IsLvalue_ok, ge_iff_le, gt_iff_lt, Int.reduceBEq, Int.reduceLE, Int.reduceLT, Int.reduceSub, Int.reduceAdd, decide_true, decide_false, cond_true, cond_false, Bool.and_true, Bool.and_false, Bool.true_and, Bool.false_and, Bool.not_true, Bool.not_false, some_bind]
  generalize (isEx d) = a0
  cases a0 <;> exact ⟨_, rfl, rfl⟩
theorem kk_7 (op : Int) (t o : List UInt8) (kids : List Row) (j d : Int) (h0 : 0 ≤ j) (h1 : j < kids.length) (hk : kids.length ≤ 400) (hc : Cons 7 op kids.length) : KOk 7 op t o kids j d := by
  simp only [KOk, M.spec_l7Kid, M.spec_l7Kid_C, M.impl_kidOk, M.impl_kidOk_C, IsExpr_ok, IsStmt_ok, isItem_ok, IsLvalue_ok, ge_iff_le, gt_iff_lt, Int.reduceBEq, Int.reduceLE, Int.reduceLT, Int.reduceSub, Int.reduceAdd, decide_true, decide_false, cond_true, cond_false, Bool.and_true, Bool.and_false, Bool.true_and, Bool.false_and, Bool.not_true, Bool.not_false, some_bind]
  generalize (isEx d) = a0
  cases a0 <;> exact ⟨_, rfl, rfl⟩
theorem kk_8 (op : Int) (t o : List UInt8) (kids : List Row) (j d : Int) (h0 : 0 ≤ j) (h1 : j < kids.length) (hk : kids.length ≤ 400) (hc : Cons 8 op kids.length) : KOk 8 op t o kids j d := by
  simp only [KOk, M.spec_l7Kid, M.spec_l7Kid_C, M.impl_kidOk, M.impl_kidOk_C, IsExpr_ok, IsStmt_ok, isItem_ok, IsLvalue_ok, ge_iff_le, gt_iff_lt, Int.reduceBEq, Int.reduceLE, Int.reduceLT, Int.reduceSub, Int.reduceAdd, decide_true, decide_false, cond_true, cond_false, Bool.and_true, Bool.and_false, Bool.true_and, Bool.false_and, Bool.not_true, Bool.not_false, some_bind]
  generalize (isEx d) = a0
  cases a0 <;> exact ⟨_, rfl, rfl⟩
theorem kk_9 (op : Int) (t o : List UInt8) (kids : List Row) (j d : Int) (h0 : 0 ≤ j) (h1 : j < kids.length) (hk : kids.length ≤ 400) (hc : Cons 9 op kids.length) : KOk 9 op t o kids j d := by
  simp only [KOk, M.spec_l7Kid, M.spec_l7Kid_C, M.impl_kidOk, M.impl_kidOk_C, IsExpr_ok, IsStmt_ok, isItem_ok, IsLvalue_ok, ge_iff_le, gt_iff_lt, Int.reduceBEq, Int.reduceLE, Int.reduceLT, Int.reduceSub, Int.reduceAdd, decide_true, decide_false, cond_true, cond_false, Bool.and_true, Bool.and_false, Bool.true_and, Bool.false_and, Bool.not_true, Bool.not_false, some_bind]
  generalize (isLv d) = a0
  cases a0 <;> exact ⟨_, rfl, rfl⟩
theorem kk_10 (op : Int) (t o : List UInt8) (kids : List Row) (j d : Int) (h0 : 0 ≤ j) (h1 : j < kids.length) (hk : kids.length ≤ 400) (hc : Cons 10 op kids.length) : KOk 10 op t o kids j d := by
  simp only [KOk, M.spec_l7Kid, M.spec_l7Kid_C, M.impl_kidOk, M.impl_kidOk_C, IsExpr_ok, IsStmt_ok, isItem_ok, IsLvalue_ok, ge_iff_le, gt_iff_lt, Int.reduceBEq, Int.reduceLE, Int.reduceLT, Int.reduceSub, Int.reduceAdd, decide_true, decide_false, cond_true, cond_false, Bool.and_true, Bool.and_false, Bool.true_and, Bool.false_and, Bool.not_true, Bool.not_false, some_bind]
  generalize (isLv d) = a0
  cases a0 <;> exact ⟨_, rfl, rfl⟩
theorem kk_11 (op : Int) (t o : List UInt8) (kids : List Row) (j d : Int) (h0 : 0 ≤ j) (h1 : j < kids.length) (hk : kids.length ≤ 400) (hc : Cons 11 op kids.length) : KOk 11 op t o kids j d := by
  simp only [KOk, M.spec_l7Kid, M.spec_l7Kid_C, M.impl_kidOk, M.impl_kidOk_C, IsExpr_ok, IsStmt_ok, isItem_ok, IsLvalue_ok, ge_iff_le, gt_iff_lt, Int.reduceBEq, Int.reduceLE, Int.reduceLT, Int.reduceSub, Int.reduceAdd, decide_true, decide_false, cond_true, cond_false, Bool.and_true, Bool.and_false, Bool.true_and, Bool.false_and, Bool.not_true, Bool.not_false, some_bind]
  generalize (isEx d) = a0
  cases a0 <;> exact ⟨_, rfl, rfl⟩
theorem kk_12 (op : Int) (t o : List UInt8) (kids : List Row) (j d : Int) (h0 : 0 ≤ j) (h1 : j < kids.length) (hk : kids.length ≤ 400) (hc : Cons 12 op kids.length) : KOk 12 op t o kids j d := by
  simp only [KOk, M.spec_l7Kid, M.spec_l7Kid_C, M.impl_kidOk, M.impl_kidOk_C, IsExpr_ok, IsStmt_ok, isItem_ok, IsLvalue_ok, ge_iff_le, gt_iff_lt, Int.reduceBEq, Int.reduceLE, Int.reduceLT, Int.reduceSub, Int.reduceAdd, decide_true, decide_false, cond_true, cond_false, Bool.and_true, Bool.and_false, Bool.true_and, Bool.false_and, Bool.not_true, Bool.not_false, some_bind]
  generalize (isEx d) = a0
  cases a0 <;> exact ⟨_, rfl, rfl⟩
theorem kk_13 (op : Int) (t o : List UInt8) (kids : List Row) (j d : Int) (h0 : 0 ≤ j) (h1 : j < kids.length) (hk : kids.length ≤ 400) (hc : Cons 13 op kids.length) : KOk 13 op t o kids j d := by
  simp only [KOk, M.spec_l7Kid, M.spec_l7Kid_C, M.impl_kidOk, M.impl_kidOk_C, IsExpr_ok, IsStmt_ok, isItem_ok, IsLvalue_ok, ge_iff_le, gt_iff_lt, Int.reduceBEq, Int.reduceLE, Int.reduceLT, Int.reduceSub, Int.reduceAdd, decide_true, decide_false, cond_true, cond_false, Bool.and_true, Bool.and_false, Bool.true_and, Bool.false_and, Bool.not_true, Bool.not_false, some_bind]
  generalize (isEx d) = a0
  cases a0 <;> exact ⟨_, rfl, rfl⟩
theorem kk_14 (op : Int) (t o : List UInt8) (kids : List Row) (j d : Int) (h0 : 0 ≤ j) (h1 : j < kids.length) (hk : kids.length ≤ 400) (hc : Cons 14 op kids.length) : KOk 14 op t o kids j d := by
  simp only [KOk, M.spec_l7Kid, M.spec_l7Kid_C, M.impl_kidOk, M.impl_kidOk_C, IsExpr_ok, IsStmt_ok, isItem_ok, IsLvalue_ok, ge_iff_le, gt_iff_lt, Int.reduceBEq, Int.reduceLE, Int.reduceLT, Int.reduceSub, Int.reduceAdd, decide_true, decide_false, cond_true, cond_false, Bool.and_true, Bool.and_false, Bool.true_and, Bool.false_and, Bool.not_true, Bool.not_false, some_bind]
  generalize (isEx d) = a0
  cases a0 <;> exact ⟨_, rfl, rfl⟩
theorem kk_15 (op : Int) (t o : List UInt8) (kids : List Row) (j d : Int) (h0 : 0 ≤ j) (h1 : j < kids.length) (hk : kids.length ≤ 400) (hc : Cons 15 op kids.length) : KOk 15 op t o kids j d := by
  by_cases hj : j = 0
  · subst hj
    have hl := lv_ex d
    simp only [KOk, M.spec_l7Kid, M.spec_l7Kid_C, M.impl_kidOk, M.impl_kidOk_C, IsExpr_ok, IsStmt_ok, isItem_ok, IsLvalue_ok, ge_iff_le, gt_iff_lt, Int.reduceBEq, Int.reduceLE, Int.reduceLT, Int.reduceSub, Int.reduceAdd, decide_true, decide_false, cond_true, cond_false, Bool.and_true, Bool.and_false, Bool.true_and, Bool.false_and, Bool.not_true, Bool.not_false, some_bind]
    revert hl
    cases isEx d <;> cases isLv d <;> intro hl <;> first | exact ⟨_, rfl, rfl⟩ | cases hl
  have e0 : (j == 0) = false := by simpa using hj
  have e1 : decide (0 < j) = true := decide_eq_true (by omega)
  simp only [KOk, M.spec_l7Kid, M.spec_l7Kid_C, M.impl_kidOk, M.impl_kidOk_C, IsExpr_ok, IsStmt_ok, isItem_ok, IsLvalue_ok, e0, e1, ge_iff_le, gt_iff_lt, Int.reduceBEq, Int.reduceLE, Int.reduceLT, Int.reduceSub, Int.reduceAdd, decide_true, decide_false, cond_true, cond_false, Bool.and_true, Bool.and_false, Bool.true_and, Bool.false_and, Bool.not_true, Bool.not_false, some_bind]
  generalize (isEx d) = a0
  cases a0 <;> exact ⟨_, rfl, rfl⟩
theorem kk_16 (op : Int) (t o : List UInt8) (kids : List Row) (j d : Int) (h0 : 0 ≤ j) (h1 : j < kids.length) (hk : kids.length ≤ 400) (hc : Cons 16 op kids.length) : KOk 16 op t o kids j d := by
  simp only [KOk, M.spec_l7Kid, M.spec_l7Kid_C, M.impl_kidOk, M.impl_kidOk_C, IsExpr_ok, IsStmt_ok, isItem_ok, IsLvalue_ok, ge_iff_le, gt_iff_lt, Int.reduceBEq, Int.reduceLE, Int.reduceLT, Int.reduceSub, Int.reduceAdd, decide_true, decide_false, cond_true, cond_false, Bool.and_true, Bool.and_false, Bool.true_and, Bool.false_and, Bool.not_true, Bool.not_false, some_bind]
  generalize (isEx d) = a0
  cases a0 <;> exact ⟨_, rfl, rfl⟩
theorem kk_20 (op : Int) (t o : List UInt8) (kids : List Row) (j d : Int) (h0 : 0 ≤ j) (h1 : j < kids.length) (hk : kids.length ≤ 400) (hc : Cons 20 op kids.length) : KOk 20 op t o kids j d := by
  simp only [KOk, M.spec_l7Kid, M.spec_l7Kid_C, M.impl_kidOk, M.impl_kidOk_C, IsExpr_ok, IsStmt_ok, isItem_ok, IsLvalue_ok, ge_iff_le, gt_iff_lt, Int.reduceBEq, Int.reduceLE, Int.reduceLT, Int.reduceSub, Int.reduceAdd, decide_true, decide_false, cond_true, cond_false, Bool.and_true, Bool.and_false, Bool.true_and, Bool.false_and, Bool.not_true, Bool.not_false, some_bind]
  generalize (isEx d) = a0
  cases a0 <;> exact ⟨_, rfl, rfl⟩
theorem kk_21 (op : Int) (t o : List UInt8) (kids : List Row) (j d : Int) (h0 : 0 ≤ j) (h1 : j < kids.length) (hk : kids.length ≤ 400) (hc : Cons 21 op kids.length) : KOk 21 op t o kids j d := by
  simp only [KOk, M.spec_l7Kid, M.spec_l7Kid_C, M.impl_kidOk, M.impl_kidOk_C, IsExpr_ok, IsStmt_ok, isItem_ok, IsLvalue_ok, ge_iff_le, gt_iff_lt, Int.reduceBEq, Int.reduceLE, Int.reduceLT, Int.reduceSub, Int.reduceAdd, decide_true, decide_false, cond_true, cond_false, Bool.and_true, Bool.and_false, Bool.true_and, Bool.false_and, Bool.not_true, Bool.not_false, some_bind]
  generalize (isEx d) = a0
  cases a0 <;> exact ⟨_, rfl, rfl⟩
theorem kk_22 (op : Int) (t o : List UInt8) (kids : List Row) (j d : Int) (h0 : 0 ≤ j) (h1 : j < kids.length) (hk : kids.length ≤ 400) (hc : Cons 22 op kids.length) : KOk 22 op t o kids j d := by
  simp only [KOk, M.spec_l7Kid, M.spec_l7Kid_C, M.impl_kidOk, M.impl_kidOk_C, IsExpr_ok, IsStmt_ok, isItem_ok, IsLvalue_ok, ge_iff_le, gt_iff_lt, Int.reduceBEq, Int.reduceLE, Int.reduceLT, Int.reduceSub, Int.reduceAdd, decide_true, decide_false, cond_true, cond_false, Bool.and_true, Bool.and_false, Bool.true_and, Bool.false_and, Bool.not_true, Bool.not_false, some_bind]
  generalize (isEx d) = a0
  cases a0 <;> exact ⟨_, rfl, rfl⟩
theorem kk_23 (op : Int) (t o : List UInt8) (kids : List Row) (j d : Int) (h0 : 0 ≤ j) (h1 : j < kids.length) (hk : kids.length ≤ 400) (hc : Cons 23 op kids.length) : KOk 23 op t o kids j d := by
  simp only [KOk, M.spec_l7Kid, M.spec_l7Kid_C, M.impl_kidOk, M.impl_kidOk_C, IsExpr_ok, IsStmt_ok, isItem_ok, IsLvalue_ok, ge_iff_le, gt_iff_lt, Int.reduceBEq, Int.reduceLE, Int.reduceLT, Int.reduceSub, Int.reduceAdd, decide_true, decide_false, cond_true, cond_false, Bool.and_true, Bool.and_false, Bool.true_and, Bool.false_and, Bool.not_true, Bool.not_false, some_bind]
  generalize (isEx d) = a0
  cases a0 <;> exact ⟨_, rfl, rfl⟩
theorem kk_24 (op : Int) (t o : List UInt8) (kids : List Row) (j d : Int) (h0 : 0 ≤ j) (h1 : j < kids.length) (hk : kids.length ≤ 400) (hc : Cons 24 op kids.length) : KOk 24 op t o kids j d := by
  simp only [KOk, M.spec_l7Kid, M.spec_l7Kid_C, M.impl_kidOk, M.impl_kidOk_C, IsExpr_ok, IsStmt_ok, isItem_ok, IsLvalue_ok, ge_iff_le, gt_iff_lt, Int.reduceBEq, Int.reduceLE, Int.reduceLT, Int.reduceSub, Int.reduceAdd, decide_true, decide_false, cond_true, cond_false, Bool.and_true, Bool.and_false, Bool.true_and, Bool.false_and, Bool.not_true, Bool.not_false, some_bind]
  generalize (isEx d) = a0
  cases a0 <;> exact ⟨_, rfl, rfl⟩
theorem kk_25 (op : Int) (t o : List UInt8) (kids : List Row) (j d : Int) (h0 : 0 ≤ j) (h1 : j < kids.length) (hk : kids.length ≤ 400) (hc : Cons 25 op kids.length) : KOk 25 op t o kids j d := by
  simp only [KOk, M.spec_l7Kid, M.spec_l7Kid_C, M.impl_kidOk, M.impl_kidOk_C, IsExpr_ok, IsStmt_ok, isItem_ok, IsLvalue_ok, ge_iff_le, gt_iff_lt, Int.reduceBEq, Int.reduceLE, Int.reduceLT, Int.reduceSub, Int.reduceAdd, decide_true, decide_false, cond_true, cond_false, Bool.and_true, Bool.and_false, Bool.true_and, Bool.false_and, Bool.not_true, Bool.not_false, some_bind]
  generalize (isEx d) = a0
  cases a0 <;> exact ⟨_, rfl, rfl⟩
theorem kk_26 (op : Int) (t o : List UInt8) (kids : List Row) (j d : Int) (h0 : 0 ≤ j) (h1 : j < kids.length) (hk : kids.length ≤ 400) (hc : Cons 26 op kids.length) : KOk 26 op t o kids j d := by
  simp only [KOk, M.spec_l7Kid, M.spec_l7Kid_C, M.impl_kidOk, M.impl_kidOk_C, IsExpr_ok, IsStmt_ok, isItem_ok, IsLvalue_ok, ge_iff_le, gt_iff_lt, Int.reduceBEq, Int.reduceLE, Int.reduceLT, Int.reduceSub, Int.reduceAdd, decide_true, decide_false, cond_true, cond_false, Bool.and_true, Bool.and_false, Bool.true_and, Bool.false_and, Bool.not_true, Bool.not_false, some_bind]
  generalize (isEx d) = a0
  cases a0 <;> exact ⟨_, rfl, rfl⟩
theorem kk_27 (op : Int) (t o : List UInt8) (kids : List Row) (j d : Int) (h0 : 0 ≤ j) (h1 : j < kids.length) (hk : kids.length ≤ 400) (hc : Cons 27 op kids.length) : KOk 27 op t o kids j d := by
  simp only [KOk, M.spec_l7Kid, M.spec_l7Kid_C, M.impl_kidOk, M.impl_kidOk_C, IsExpr_ok, IsStmt_ok, isItem_ok, IsLvalue_ok, ge_iff_le, gt_iff_lt, Int.reduceBEq, Int.reduceLE, Int.reduceLT, Int.reduceSub, Int.reduceAdd, decide_true, decide_false, cond_true, cond_false, Bool.and_true, Bool.and_false, Bool.true_and, Bool.false_and, Bool.not_true, Bool.not_false, some_bind]
  generalize (isEx d) = a0
  cases a0 <;> exact ⟨_, rfl, rfl⟩
theorem kk_28 (op : Int) (t o : List UInt8) (kids : List Row) (j d : Int) (h0 : 0 ≤ j) (h1 : j < kids.length) (hk : kids.length ≤ 400) (hc : Cons 28 op kids.length) : KOk 28 op t o kids j d := by
  by_cases hj : j = 0
  · subst hj
    simp only [KOk, M.spec_l7Kid, M.spec_l7Kid_C, M.impl_kidOk, M.impl_kidOk_C, IsExpr_ok, IsStmt_ok, isItem_ok, IsLvalue_ok, ge_iff_le, gt_iff_lt, Int.reduceBEq, Int.reduceLE, Int.reduceLT, Int.reduceSub, Int.reduceAdd, decide_true, decide_false, cond_true, cond_false, Bool.and_true, Bool.and_false, Bool.true_and, Bool.false_and, Bool.not_true, Bool.not_false, some_bind]
    generalize (isEx d) = a0
    generalize (d == 33) = a1
    cases a0 <;> cases a1 <;> exact ⟨_, rfl, rfl⟩
  have e0 : (j == 0) = false := by simpa using hj
  have e1 : decide (0 < j) = true := decide_eq_true (by omega)
  simp only [KOk, M.spec_l7Kid, M.spec_l7Kid_C, M.impl_kidOk, M.impl_kidOk_C, IsExpr_ok, IsStmt_ok, isItem_ok, IsLvalue_ok, e0, e1, ge_iff_le, gt_iff_lt, Int.reduceBEq, Int.reduceLE, Int.reduceLT, Int.reduceSub, Int.reduceAdd, decide_true, decide_false, cond_true, cond_false, Bool.and_true, Bool.and_false, Bool.true_and, Bool.false_and, Bool.not_true, Bool.not_false, some_bind]
  generalize (d == 33) = a0
  cases a0 <;> exact ⟨_, rfl, rfl⟩
theorem kk_29 (op : Int) (t o : List UInt8) (kids : List Row) (j d : Int) (h0 : 0 ≤ j) (h1 : j < kids.length) (hk : kids.length ≤ 400) (hc : Cons 29 op kids.length) : KOk 29 op t o kids j d := by
  have hl := hc.two (by omega)
  obtain rfl | rfl : j = 0 ∨ j = 1 := by omega
  · simp only [KOk, M.spec_l7Kid, M.spec_l7Kid_C, M.impl_kidOk, M.impl_kidOk_C, IsExpr_ok, IsStmt_ok, isItem_ok, IsLvalue_ok, ge_iff_le, gt_iff_lt, Int.reduceBEq, Int.reduceLE, Int.reduceLT, Int.reduceSub, Int.reduceAdd, decide_true, decide_false, cond_true, cond_false, Bool.and_true, Bool.and_false, Bool.true_and, Bool.false_and, Bool.not_true, Bool.not_false, some_bind]
    generalize (isEx d) = a0
    generalize (d == 33) = a1
    cases a0 <;> cases a1 <;> exact ⟨_, rfl, rfl⟩
  · simp only [KOk, M.spec_l7Kid, M.spec_l7Kid_C, M.impl_kidOk, M.impl_kidOk_C, IsExpr_ok, IsStmt_ok, isItem_ok, IsLvalue_ok, ge_iff_le, gt_iff_lt, Int.reduceBEq, Int.reduceLE, Int.reduceLT, Int.reduceSub, Int.reduceAdd, decide_true, decide_false, cond_true, cond_false, Bool.and_true, Bool.and_false, Bool.true_and, Bool.false_and, Bool.not_true, Bool.not_false, some_bind]
    generalize (isEx d) = a0
    generalize (d == 33) = a1
    cases a0 <;> cases a1 <;> exact ⟨_, rfl, rfl⟩
theorem kk_30 (op : Int) (t o : List UInt8) (kids : List Row) (j d : Int) (h0 : 0 ≤ j) (h1 : j < kids.length) (hk : kids.length ≤ 400) (hc : Cons 30 op kids.length) : KOk 30 op t o kids j d := by
  have hl := hc.two (by omega)
  obtain rfl | rfl : j = 0 ∨ j = 1 := by omega
  · simp only [KOk, M.spec_l7Kid, M.spec_l7Kid_C, M.impl_kidOk, M.impl_kidOk_C, IsExpr_ok, IsStmt_ok, isItem_ok, IsLvalue_ok, ge_iff_le, gt_iff_lt, Int.reduceBEq, Int.reduceLE, Int.reduceLT, Int.reduceSub, Int.reduceAdd, decide_true, decide_false, cond_true, cond_false, Bool.and_true, Bool.and_false, Bool.true_and, Bool.false_and, Bool.not_true, Bool.not_false, some_bind]
    generalize (isEx d) = a0
    generalize (d == 33) = a1
    cases a0 <;> cases a1 <;> exact ⟨_, rfl, rfl⟩
  · simp only [KOk, M.spec_l7Kid, M.spec_l7Kid_C, M.impl_kidOk, M.impl_kidOk_C, IsExpr_ok, IsStmt_ok, isItem_ok, IsLvalue_ok, ge_iff_le, gt_iff_lt, Int.reduceBEq, Int.reduceLE, Int.reduceLT, Int.reduceSub, Int.reduceAdd, decide_true, decide_false, cond_true, cond_false, Bool.and_true, Bool.and_false, Bool.true_and, Bool.false_and, Bool.not_true, Bool.not_false, some_bind]
    generalize (isEx d) = a0
    generalize (d == 33) = a1
    cases a0 <;> cases a1 <;> exact ⟨_, rfl, rfl⟩
theorem kk_31 (op : Int) (t o : List UInt8) (kids : List Row) (j d : Int) (h0 : 0 ≤ j) (h1 : j < kids.length) (hk : kids.length ≤ 400) (hc : Cons 31 op kids.length) : KOk 31 op t o kids j d := by
  have hl := hc.four rfl
  have hw : IntKind.i64.wrap ((kids.length : Int) - 1) = 3 := by rw [hl]; rfl
  obtain rfl | rfl | rfl | rfl : j = 0 ∨ j = 1 ∨ j = 2 ∨ j = 3 := by omega
  · simp only [KOk, M.spec_l7Kid, M.spec_l7Kid_C, M.impl_kidOk, M.impl_kidOk_C, IsExpr_ok, IsStmt_ok, isItem_ok, IsLvalue_ok, hw, ge_iff_le, gt_iff_lt, Int.reduceBEq, Int.reduceLE, Int.reduceLT, Int.reduceSub, Int.reduceAdd, decide_true, decide_false, cond_true, cond_false, Bool.and_true, Bool.and_false, Bool.true_and, Bool.false_and, Bool.not_true, Bool.not_false, some_bind]
    generalize (isEx d) = a0
    generalize (d == 16) = a1
    generalize (d == 33) = a2
    cases a0 <;> cases a1 <;> cases a2 <;> exact ⟨_, rfl, rfl⟩
  · simp only [KOk, M.spec_l7Kid, M.spec_l7Kid_C, M.impl_kidOk, M.impl_kidOk_C, IsExpr_ok, IsStmt_ok, isItem_ok, IsLvalue_ok, hw, ge_iff_le, gt_iff_lt, Int.reduceBEq, Int.reduceLE, Int.reduceLT, Int.reduceSub, Int.reduceAdd, decide_true, decide_false, cond_true, cond_false, Bool.and_true, Bool.and_false, Bool.true_and, Bool.false_and, Bool.not_true, Bool.not_false, some_bind]
    generalize (isEx d) = a0
    generalize (d == 16) = a1
    generalize (d == 33) = a2
    cases a0 <;> cases a1 <;> cases a2 <;> exact ⟨_, rfl, rfl⟩
  · simp only [KOk, M.spec_l7Kid, M.spec_l7Kid_C, M.impl_kidOk, M.impl_kidOk_C, IsExpr_ok, IsStmt_ok, isItem_ok, IsLvalue_ok, hw, ge_iff_le, gt_iff_lt, Int.reduceBEq, Int.reduceLE, Int.reduceLT, Int.reduceSub, Int.reduceAdd, decide_true, decide_false, cond_true, cond_false, Bool.and_true, Bool.and_false, Bool.true_and, Bool.false_and, Bool.not_true, Bool.not_false, some_bind]
    generalize (isEx d) = a0
    generalize (d == 16) = a1
    generalize (d == 33) = a2
    cases a0 <;> cases a1 <;> cases a2 <;> exact ⟨_, rfl, rfl⟩
  · simp only [KOk, M.spec_l7Kid, M.spec_l7Kid_C, M.impl_kidOk, M.impl_kidOk_C, IsExpr_ok, IsStmt_ok, isItem_ok, IsLvalue_ok, hw, ge_iff_le, gt_iff_lt, Int.reduceBEq, Int.reduceLE, Int.reduceLT, Int.reduceSub, Int.reduceAdd, decide_true, decide_false, cond_true, cond_false, Bool.and_true, Bool.and_false, Bool.true_and, Bool.false_and, Bool.not_true, Bool.not_false, some_bind]
    generalize (isEx d) = a0
    generalize (d == 16) = a1
    generalize (d == 33) = a2
    cases a0 <;> cases a1 <;> cases a2 <;> exact ⟨_, rfl, rfl⟩
theorem kk_32 (op : Int) (t o : List UInt8) (kids : List Row) (j d : Int) (h0 : 0 ≤ j) (h1 : j < kids.length) (hk : kids.length ≤ 400) (hc : Cons 32 op kids.length) : KOk 32 op t o kids j d := by
  simp only [KOk, M.spec_l7Kid, M.spec_l7Kid_C, M.impl_kidOk, M.impl_kidOk_C, IsExpr_ok, IsStmt_ok, isItem_ok, IsLvalue_ok, ge_iff_le, gt_iff_lt, Int.reduceBEq, Int.reduceLE, Int.reduceLT, Int.reduceSub, Int.reduceAdd, decide_true, decide_false, cond_true, cond_false, Bool.and_true, Bool.and_false, Bool.true_and, Bool.false_and, Bool.not_true, Bool.not_false, some_bind]
  generalize (d == 33) = a0
  cases a0 <;> exact ⟨_, rfl, rfl⟩
theorem kk_33 (op : Int) (t o : List UInt8) (kids : List Row) (j d : Int) (h0 : 0 ≤ j) (h1 : j < kids.length) (hk : kids.length ≤ 400) (hc : Cons 33 op kids.length) : KOk 33 op t o kids j d := by
  simp only [KOk, M.spec_l7Kid, M.spec_l7Kid_C, M.impl_kidOk, M.impl_kidOk_C, IsExpr_ok, IsStmt_ok, isItem_ok, IsLvalue_ok, ge_iff_le, gt_iff_lt, Int.reduceBEq, Int.reduceLE, Int.reduceLT, Int.reduceSub, Int.reduceAdd, decide_true, decide_false, cond_true, cond_false, Bool.and_true, Bool.and_false, Bool.true_and, Bool.false_and, Bool.not_true, Bool.not_false, some_bind]
  generalize (isSt d) = a0
  cases a0 <;> exact ⟨_, rfl, rfl⟩
theorem kk_34 (op : Int) (t o : List UInt8) (kids : List Row) (j d : Int) (h0 : 0 ≤ j) (h1 : j < kids.length) (hk : kids.length ≤ 400) (hc : Cons 34 op kids.length) : KOk 34 op t o kids j d := by
  simp only [KOk, M.spec_l7Kid, M.spec_l7Kid_C, M.impl_kidOk, M.impl_kidOk_C, IsExpr_ok, IsStmt_ok, isItem_ok, IsLvalue_ok, ge_iff_le, gt_iff_lt, Int.reduceBEq, Int.reduceLE, Int.reduceLT, Int.reduceSub, Int.reduceAdd, decide_true, decide_false, cond_true, cond_false, Bool.and_true, Bool.and_false, Bool.true_and, Bool.false_and, Bool.not_true, Bool.not_false, some_bind]
  generalize (isEx d) = a0
  cases a0 <;> exact ⟨_, rfl, rfl⟩
theorem kk_40 (op : Int) (t o : List UInt8) (kids : List Row) (j d : Int) (h0 : 0 ≤ j) (h1 : j < kids.length) (hk : kids.length ≤ 400) (hc : Cons 40 op kids.length) : KOk 40 op t o kids j d := by
  simp only [KOk, M.spec_l7Kid, M.spec_l7Kid_C, M.impl_kidOk, M.impl_kidOk_C, IsExpr_ok, IsStmt_ok, isItem_ok, IsLvalue_ok, ge_iff_le, gt_iff_lt, Int.reduceBEq, Int.reduceLE, Int.reduceLT, Int.reduceSub, Int.reduceAdd, decide_true, decide_false, cond_true, cond_false, Bool.and_true, Bool.and_false, Bool.true_and, Bool.false_and, Bool.not_true, Bool.not_false, some_bind]
  generalize (d == 33) = a0
  cases a0 <;> exact ⟨_, rfl, rfl⟩
theorem kk_41 (op : Int) (t o : List UInt8) (kids : List Row) (j d : Int) (h0 : 0 ≤ j) (h1 : j < kids.length) (hk : kids.length ≤ 400) (hc : Cons 41 op kids.length) : KOk 41 op t o kids j d := by
  simp only [KOk, M.spec_l7Kid, M.spec_l7Kid_C, M.impl_kidOk, M.impl_kidOk_C, IsExpr_ok, IsStmt_ok, isItem_ok, IsLvalue_ok, ge_iff_le, gt_iff_lt, Int.reduceBEq, Int.reduceLE, Int.reduceLT, Int.reduceSub, Int.reduceAdd, decide_true, decide_false, cond_true, cond_false, Bool.and_true, Bool.and_false, Bool.true_and, Bool.false_and, Bool.not_true, Bool.not_false, some_bind]
  generalize (d == 33) = a0
  cases a0 <;> exact ⟨_, rfl, rfl⟩
theorem kk_42 (op : Int) (t o : List UInt8) (kids : List Row) (j d : Int) (h0 : 0 ≤ j) (h1 : j < kids.length) (hk : kids.length ≤ 400) (hc : Cons 42 op kids.length) : KOk 42 op t o kids j d := by
  rcases hc.rule rfl with ⟨rfl, hl⟩ | ⟨rfl, hl⟩ | ⟨rfl, hl⟩
  · have hw : IntKind.i64.wrap ((kids.length : Int) - 1) = 0 := by rw [hl]; rfl
    obtain rfl : j = 0 := by omega
    simp only [KOk, M.spec_l7Kid, M.spec_l7Kid_C, M.impl_kidOk, M.impl_kidOk_C, IsExpr_ok, IsStmt_ok, isItem_ok, IsLvalue_ok, hw, ge_iff_le, gt_iff_lt, Int.reduceBEq, Int.reduceLE, Int.reduceLT, Int.reduceSub, Int.reduceAdd, decide_true, decide_false, cond_true, cond_false, Bool.and_true, Bool.and_false, Bool.true_and, Bool.false_and, Bool.not_true, Bool.not_false, some_bind]
    generalize (isEx d) = a0
    generalize (d == 33) = a1
    cases a0 <;> cases a1 <;> exact ⟨_, rfl, rfl⟩
  · have hw : IntKind.i64.wrap ((kids.length : Int) - 1) = 0 := by rw [hl]; rfl
    obtain rfl : j = 0 := by omega
    simp only [KOk, M.spec_l7Kid, M.spec_l7Kid_C, M.impl_kidOk, M.impl_kidOk_C, IsExpr_ok, IsStmt_ok, isItem_ok, IsLvalue_ok, hw, ge_iff_le, gt_iff_lt, Int.reduceBEq, Int.reduceLE, Int.reduceLT, Int.reduceSub, Int.reduceAdd, decide_true, decide_false, cond_true, cond_false, Bool.and_true, Bool.and_false, Bool.true_and, Bool.false_and, Bool.not_true, Bool.not_false, some_bind]
    generalize (isEx d) = a0
    generalize (d == 33) = a1
    cases a0 <;> cases a1 <;> exact ⟨_, rfl, rfl⟩
  · have hw : IntKind.i64.wrap ((kids.length : Int) - 1) = 1 := by rw [hl]; rfl
    obtain rfl | rfl : j = 0 ∨ j = 1 := by omega
    · simp only [KOk, M.spec_l7Kid, M.spec_l7Kid_C, M.impl_kidOk, M.impl_kidOk_C, IsExpr_ok, IsStmt_ok, isItem_ok, IsLvalue_ok, hw, ge_iff_le, gt_iff_lt, Int.reduceBEq, Int.reduceLE, Int.reduceLT, Int.reduceSub, Int.reduceAdd, decide_true, decide_false, cond_true, cond_false, Bool.and_true, Bool.and_false, Bool.true_and, Bool.false_and, Bool.not_true, Bool.not_false, some_bind]
      generalize (isEx d) = a0
      generalize (d == 33) = a1
      cases a0 <;> cases a1 <;> exact ⟨_, rfl, rfl⟩
    · simp only [KOk, M.spec_l7Kid, M.spec_l7Kid_C, M.impl_kidOk, M.impl_kidOk_C, IsExpr_ok, IsStmt_ok, isItem_ok, IsLvalue_ok, hw, ge_iff_le, gt_iff_lt, Int.reduceBEq, Int.reduceLE, Int.reduceLT, Int.reduceSub, Int.reduceAdd, decide_true, decide_false, cond_true, cond_false, Bool.and_true, Bool.and_false, Bool.true_and, Bool.false_and, Bool.not_true, Bool.not_false, some_bind]
      generalize (isEx d) = a0
      generalize (d == 33) = a1
      cases a0 <;> cases a1 <;> exact ⟨_, rfl, rfl⟩
theorem kk_43 (op : Int) (t o : List UInt8) (kids : List Row) (j d : Int) (h0 : 0 ≤ j) (h1 : j < kids.length) (hk : kids.length ≤ 400) (hc : Cons 43 op kids.length) : KOk 43 op t o kids j d := by
  rcases hc.range rfl with ⟨rfl, hl⟩ | ⟨rfl, hl⟩
  · have hw : IntKind.i64.wrap ((kids.length : Int) - 1) = 1 := by rw [hl]; rfl
    obtain rfl | rfl : j = 0 ∨ j = 1 := by omega
    · simp only [KOk, M.spec_l7Kid, M.spec_l7Kid_C, M.impl_kidOk, M.impl_kidOk_C, IsExpr_ok, IsStmt_ok, isItem_ok, IsLvalue_ok, hw, ge_iff_le, gt_iff_lt, Int.reduceBEq, Int.reduceLE, Int.reduceLT, Int.reduceSub, Int.reduceAdd, decide_true, decide_false, cond_true, cond_false, Bool.and_true, Bool.and_false, Bool.true_and, Bool.false_and, Bool.not_true, Bool.not_false, some_bind]
      generalize (isEx d) = a0
      generalize (d == 33) = a1
      cases a0 <;> cases a1 <;> exact ⟨_, rfl, rfl⟩
    · simp only [KOk, M.spec_l7Kid, M.spec_l7Kid_C, M.impl_kidOk, M.impl_kidOk_C, IsExpr_ok, IsStmt_ok, isItem_ok, IsLvalue_ok, hw, ge_iff_le, gt_iff_lt, Int.reduceBEq, Int.reduceLE, Int.reduceLT, Int.reduceSub, Int.reduceAdd, decide_true, decide_false, cond_true, cond_false, Bool.and_true, Bool.and_false, Bool.true_and, Bool.false_and, Bool.not_true, Bool.not_false, some_bind]
      generalize (isEx d) = a0
      generalize (d == 33) = a1
      cases a0 <;> cases a1 <;> exact ⟨_, rfl, rfl⟩
  · have hw : IntKind.i64.wrap ((kids.length : Int) - 1) = 2 := by rw [hl]; rfl
    obtain rfl | rfl | rfl : j = 0 ∨ j = 1 ∨ j = 2 := by omega
    · simp only [KOk, M.spec_l7Kid, M.spec_l7Kid_C, M.impl_kidOk, M.impl_kidOk_C, IsExpr_ok, IsStmt_ok, isItem_ok, IsLvalue_ok, hw, ge_iff_le, gt_iff_lt, Int.reduceBEq, Int.reduceLE, Int.reduceLT, Int.reduceSub, Int.reduceAdd, decide_true, decide_false, cond_true, cond_false, Bool.and_true, Bool.and_false, Bool.true_and, Bool.false_and, Bool.not_true, Bool.not_false, some_bind]
      generalize (isEx d) = a0
      generalize (d == 33) = a1
      cases a0 <;> cases a1 <;> exact ⟨_, rfl, rfl⟩
    · simp only [KOk, M.spec_l7Kid, M.spec_l7Kid_C, M.impl_kidOk, M.impl_kidOk_C, IsExpr_ok, IsStmt_ok, isItem_ok, IsLvalue_ok, hw, ge_iff_le, gt_iff_lt, Int.reduceBEq, Int.reduceLE, Int.reduceLT, Int.reduceSub, Int.reduceAdd, decide_true, decide_false, cond_true, cond_false, Bool.and_true, Bool.and_false, Bool.true_and, Bool.false_and, Bool.not_true, Bool.not_false, some_bind]
      generalize (isEx d) = a0
      generalize (d == 33) = a1
      cases a0 <;> cases a1 <;> exact ⟨_, rfl, rfl⟩
    · simp only [KOk, M.spec_l7Kid, M.spec_l7Kid_C, M.impl_kidOk, M.impl_kidOk_C, IsExpr_ok, IsStmt_ok, isItem_ok, IsLvalue_ok, hw, ge_iff_le, gt_iff_lt, Int.reduceBEq, Int.reduceLE, Int.reduceLT, Int.reduceSub, Int.reduceAdd, decide_true, decide_false, cond_true, cond_false, Bool.and_true, Bool.and_false, Bool.true_and, Bool.false_and, Bool.not_true, Bool.not_false, some_bind]
      generalize (isEx d) = a0
      generalize (d == 33) = a1
      cases a0 <;> cases a1 <;> exact ⟨_, rfl, rfl⟩
theorem kk_44 (op : Int) (t o : List UInt8) (kids : List Row) (j d : Int) (h0 : 0 ≤ j) (h1 : j < kids.length) (hk : kids.length ≤ 400) (hc : Cons 44 op kids.length) : KOk 44 op t o kids j d := by
  simp only [KOk, M.spec_l7Kid, M.spec_l7Kid_C, M.impl_kidOk, M.impl_kidOk_C, IsExpr_ok, IsStmt_ok, isItem_ok, IsLvalue_ok, ge_iff_le, gt_iff_lt, Int.reduceBEq, Int.reduceLE, Int.reduceLT, Int.reduceSub, Int.reduceAdd, decide_true, decide_false, cond_true, cond_false, Bool.and_true, Bool.and_false, Bool.true_and, Bool.false_and, Bool.not_true, Bool.not_false, some_bind]
  generalize (j == IntKind.i64.wrap ((kids.length : Int) - 1)) = a0
  generalize (d == 33) = a1
  generalize (d == 1) = a2
  cases a0 <;> cases a1 <;> cases a2 <;> exact ⟨_, rfl, rfl⟩
theorem kk_45 (op : Int) (t o : List UInt8) (kids : List Row) (j d : Int) (h0 : 0 ≤ j) (h1 : j < kids.length) (hk : kids.length ≤ 400) (hc : Cons 45 op kids.length) : KOk 45 op t o kids j d := by
  simp only [KOk, M.spec_l7Kid, M.spec_l7Kid_C, M.impl_kidOk, M.impl_kidOk_C, IsExpr_ok, IsStmt_ok, isItem_ok, IsLvalue_ok, ge_iff_le, gt_iff_lt, Int.reduceBEq, Int.reduceLE, Int.reduceLT, Int.reduceSub, Int.reduceAdd, decide_true, decide_false, cond_true, cond_false, Bool.and_true, Bool.and_false, Bool.true_and, Bool.false_and, Bool.not_true, Bool.not_false, some_bind]
  generalize (isIt d) = a0
  generalize (d == 34) = a1
  cases a0 <;> cases a1 <;> exact ⟨_, rfl, rfl⟩
theorem kid_ok (k : Int) (op : Int) (t o : List UInt8) (kids : List Row) (j d : Int) (hj0 : 0 ≤ j) (hj1 : j < kids.length) (hk : kids.length ≤ 400) (hc : Cons k op kids.length) : KOk k op t o kids j d := by
  by_cases h1 : k = 1
  · subst h1; exact kk_1 op t o kids j d hj0 hj1 hk hc
  by_cases h2 : k = 2
  · subst h2; exact kk_2 op t o kids j d hj0 hj1 hk hc
  by_cases h3 : k = 3
  · subst h3; exact kk_3 op t o kids j d hj0 hj1 hk hc
  by_cases h4 : k = 4
  · subst h4; exact kk_4 op t o kids j d hj0 hj1 hk hc
  by_cases h5 : k = 5
  · subst h5; exact kk_5 op t o kids j d hj0 hj1 hk hc
  by_cases h6 : k = 6
  · subst h6; exact kk_6 op t o kids j d hj0 hj1 hk hc
  by_cases h7 : k = 7
  · subst h7; exact kk_7 op t o kids j d hj0 hj1 hk hc
  by_cases h8 : k = 8
  · subst h8; exact kk_8 op t o kids j d hj0 hj1 hk hc
  by_cases h9 : k = 9
  · subst h9; exact kk_9 op t o kids j d hj0 hj1 hk hc
  by_cases h10 : k = 10
  · subst h10; exact kk_10 op t o kids j d hj0 hj1 hk hc
  by_cases h11 : k = 11
  · subst h11; exact kk_11 op t o kids j d hj0 hj1 hk hc
  by_cases h12 : k = 12
  · subst h12; exact kk_12 op t o kids j d hj0 hj1 hk hc
  by_cases h13 : k = 13
  · subst h13; exact kk_13 op t o kids j d hj0 hj1 hk hc
  by_cases h14 : k = 14
  · subst h14; exact kk_14 op t o kids j d hj0 hj1 hk hc
  by_cases h15 : k = 15
  · subst h15; exact kk_15 op t o kids j d hj0 hj1 hk hc
  by_cases h16 : k = 16
  · subst h16; exact kk_16 op t o kids j d hj0 hj1 hk hc
  by_cases h20 : k = 20
  · subst h20; exact kk_20 op t o kids j d hj0 hj1 hk hc
  by_cases h21 : k = 21
  · subst h21; exact kk_21 op t o kids j d hj0 hj1 hk hc
  by_cases h22 : k = 22
  · subst h22; exact kk_22 op t o kids j d hj0 hj1 hk hc
  by_cases h23 : k = 23
  · subst h23; exact kk_23 op t o kids j d hj0 hj1 hk hc
  by_cases h24 : k = 24
  · subst h24; exact kk_24 op t o kids j d hj0 hj1 hk hc
  by_cases h25 : k = 25
  · subst h25; exact kk_25 op t o kids j d hj0 hj1 hk hc
  by_cases h26 : k = 26
  · subst h26; exact kk_26 op t o kids j d hj0 hj1 hk hc
  by_cases h27 : k = 27
  · subst h27; exact kk_27 op t o kids j d hj0 hj1 hk hc
  by_cases h28 : k = 28
  · subst h28; exact kk_28 op t o kids j d hj0 hj1 hk hc
  by_cases h29 : k = 29
  · subst h29; exact kk_29 op t o kids j d hj0 hj1 hk hc
  by_cases h30 : k = 30
  · subst h30; exact kk_30 op t o kids j d hj0 hj1 hk hc
  by_cases h31 : k = 31
  · subst h31; exact kk_31 op t o kids j d hj0 hj1 hk hc
  by_cases h32 : k = 32
  · subst h32; exact kk_32 op t o kids j d hj0 hj1 hk hc
  by_cases h33 : k = 33
  · subst h33; exact kk_33 op t o kids j d hj0 hj1 hk hc
  by_cases h34 : k = 34
  · subst h34; exact kk_34 op t o kids j d hj0 hj1 hk hc
  by_cases h40 : k = 40
  · subst h40; exact kk_40 op t o kids j d hj0 hj1 hk hc
  by_cases h41 : k = 41
  · subst h41; exact kk_41 op t o kids j d hj0 hj1 hk hc
  by_cases h42 : k = 42
  · subst h42; exact kk_42 op t o kids j d hj0 hj1 hk hc
  by_cases h43 : k = 43
  · subst h43; exact kk_43 op t o kids j d hj0 hj1 hk hc
  by_cases h44 : k = 44
  · subst h44; exact kk_44 op t o kids j d hj0 hj1 hk hc
  by_cases h45 : k = 45
  · subst h45; exact kk_45 op t o kids j d hj0 hj1 hk hc
  have e1 : (k == 1) = false := by simpa using h1
  have e2 : (k == 2) = false := by simpa using h2
  have e3 : (k == 3) = false := by simpa using h3
  have e4 : (k == 4) = false := by simpa using h4
  have e5 : (k == 5) = false := by simpa using h5
  have e6 : (k == 6) = false := by simpa using h6
  have e7 : (k == 7) = false := by simpa using h7
  have e8 : (k == 8) = false := by simpa using h8
  have e9 : (k == 9) = false := by simpa using h9
  have e10 : (k == 10) = false := by simpa using h10
  have e11 : (k == 11) = false := by simpa using h11
  have e12 : (k == 12) = false := by simpa using h12
  have e13 : (k == 13) = false := by simpa using h13
  have e14 : (k == 14) = false := by simpa using h14
  have e15 : (k == 15) = false := by simpa using h15
  have e16 : (k == 16) = false := by simpa using h16
  have e20 : (k == 20) = false := by simpa using h20
  have e21 : (k == 21) = false := by simpa using h21
  have e22 : (k == 22) = false := by simpa using h22
  have e23 : (k == 23) = false := by simpa using h23
  have e24 : (k == 24) = false := by simpa using h24
  have e25 : (k == 25) = false := by simpa using h25
  have e26 : (k == 26) = false := by simpa using h26
  have e27 : (k == 27) = false := by simpa using h27
  have e28 : (k == 28) = false := by simpa using h28
  have e29 : (k == 29) = false := by simpa using h29
  have e30 : (k == 30) = false := by simpa using h30
  have e31 : (k == 31) = false := by simpa using h31
  have e32 : (k == 32) = false := by simpa using h32
  have e33 : (k == 33) = false := by simpa using h33
  have e34 : (k == 34) = false := by simpa using h34
  have e40 : (k == 40) = false := by simpa using h40
  have e41 : (k == 41) = false := by simpa using h41
  have e42 : (k == 42) = false := by simpa using h42
  have e43 : (k == 43) = false := by simpa using h43
  have e44 : (k == 44) = false := by simpa using h44
  have e45 : (k == 45) = false := by simpa using h45
  simp only [KOk, M.spec_l7Kid, M.spec_l7Kid_C, M.impl_kidOk, M.impl_kidOk_C, IsExpr_ok, IsStmt_ok, isItem_ok, IsLvalue_ok, e1, e2, e3, e4, e5, e6, e7, e8, e9, e10, e11, e12, e13, e14, e15, e16, e20, e21, e22, e23, e24, e25, e26, e27, e28, e29, e30, e31, e32, e33, e34, e40, e41, e42, e43, e44, e45, cond_false, some_bind]
  exact ⟨_, rfl, rfl⟩
end Go.Proofs.YtpcdaeebbpedoaaGreatDoor
