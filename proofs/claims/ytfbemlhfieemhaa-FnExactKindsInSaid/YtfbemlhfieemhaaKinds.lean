/-
  The kinds in a list of tokens: both programs answer the same list.
-/
import Derived.Test.YtfbemlhfieemhaaMarks
namespace Go.Proofs.Ytfbemlhfieemhaa
set_option linter.unusedVariables false
set_option linter.unusedSimpArgs false
open Go Go.Vm

def kHas (l : List Tk) (k : Int) : Bool := l.any fun t => t.kind == k
def kl (l : List Tk) : Nat → List Int
  | 0 => []
  | j + 1 => if kHas l j then kl l j ++ [(j : Int)] else kl l j
theorem kl_length (l : List Tk) : ∀ j, (kl l j).length ≤ j
  | 0 => Nat.le_refl 0
  | j + 1 => by
    have := kl_length l j
    rw [kl]
    split
    · simp; exact this
    · omega
theorem kl_lt (l : List Tk) : ∀ j x, x ∈ kl l j → x < j
  | 0, x, h => absurd h List.not_mem_nil
  | j + 1, x, h => by
    rw [kl] at h
    split at h
    · rcases List.mem_append.1 h with h | h
      · have := kl_lt l j x h
        omega
      · rw [List.mem_singleton.1 h]
        omega
    · have := kl_lt l j x h
      omega
theorem ble_ok {m n : Nat} (h : m ≤ n) : m.ble n = true := Nat.ble_eq_true_of_le h
def idxStep (c : Int) (w : Nat) (t : Tk) : Nat ⊕ ((Int × Int) ⊕ (Int × Bool × Int)) := if t.kind == c then .inr (.inl ((w : Int), c)) else .inl (w + 1)
theorem foldE_idx (c : Int) (len : Int) : ∀ (l : List Tk) (w : Nat), (kHas l c = true ∧ ∃ j : Nat, foldE (idxStep c) (fun _ => .inr (len, false, c)) l w = .inl ((j : Int), c)) ∨ (kHas l c = false ∧ foldE (idxStep c) (fun _ => .inr (len, false, c)) l w = .inr (len, false, c))
  | [], w => .inr ⟨rfl, rfl⟩
  | t :: l, w => by
    rw [foldE, idxStep]
    cases hk : (t.kind == c) with
    | true =>
      refine .inl ⟨?_, w, rfl⟩
      rw [kHas, List.any_cons, hk, Bool.true_or]
    | false =>
      rcases foldE_idx c len l (w + 1) with ⟨h, j, hj⟩ | ⟨h, hj⟩
      · refine .inl ⟨?_, j, hj⟩
        rw [kHas, List.any_cons, hk, Bool.false_or]
        exact h
      · refine .inr ⟨?_, hj⟩
        rw [kHas, List.any_cons, hk, Bool.false_or]
        exact h
theorem contains_ok (l : List Tk) (c : Int) (hl : l.length ≤ 1048576) : M.slices_ContainsFunc (encTs l) c = some (kHas l c, c) := by
  have hloop := loopM_list (M.slices_IndexFunc_l2_b (encTs l) (l.length : Int)) l (fun i (_ : Nat) => ((i : Int), c)) (idxStep c) (fun _ => .inr ((l.length : Int), false, c)) (fun i w => w = i)
    (by
      intro i n w hi hw
      subst hw
      have hlt := (List.getElem?_eq_some_iff.1 hi).1
      simp only [M.slices_IndexFunc_l2_b, M.slices_IndexFunc_l2_C, M.impl_KindsIn_c1, M.impl_KindsIn_c1_C, idx_nat, get_encTs, hi, Option.map_some, some_bind, cT0, cT1, cT2, idxStep]
      rw [decide_eq_true (by omega), cond_true]
      cases hk : (n.kind == c) with
      | true => rfl
      | false =>
        simp only [cond_false]
        rw [wrap_ok (by omega) (by omega)]
        rfl)
    (by
      intro i n w w' hi hw h
      subst hw
      rw [idxStep] at h
      split at h
      · cases h
      · cases h; rfl)
    (by
      intro w _
      simp only [M.slices_IndexFunc_l2_b, M.slices_IndexFunc_l2_C]
      rw [decide_eq_false (by omega), cond_false]) 0 rfl
  rw [nat0] at hloop
  simp only [M.slices_ContainsFunc, M.slices_ContainsFunc_C, M.slices_IndexFunc, M.slices_IndexFunc_C, encTs_length, M.slices_IndexFunc_l2]
  rw [hloop]
  rcases foldE_idx c (l.length : Int) l 0 with ⟨h, j, hj⟩ | ⟨h, hj⟩
  · rw [hj, h]
    simp only [some_bind, sumE, letE]
    rw [decide_eq_true (by omega)]
  · rw [hj, h]
    rfl
theorem impl_Kinds_ok (l : List Tk) (hl : l.length ≤ 1048576) : M.impl_KindsIn (encTs l) = some (encI (kl l 69)) := by
  have hloop := loopM_run (b := M.impl_KindsIn_l3_b (encTs l)) (t := (69, false, encI (kl l 69))) (fun i => ((i : Int), encI (kl l i))) 69
    (by
      intro i hi
      have hlen := kl_length l i
      simp only [M.impl_KindsIn_l3_b, M.impl_KindsIn_l3_C, contains_ok l _ hl, some_bind]
      rw [decide_eq_true (by omega), cond_true, wrap_ok (by omega) (by omega), kl]
      cases hk : kHas l (i : Int) with
      | true =>
        simp only [cond_true, encI_length, List.length_singleton]
        rw [ble_ok (by omega), cond_true, ble_ok (by omega), cond_true, if_pos trivial]
        simp [encI]
      | false =>
        simp only [cond_false]
        rw [if_neg (by simp)]
        simp)
    (by
      simp only [M.impl_KindsIn_l3_b, M.impl_KindsIn_l3_C]
      rfl) 0 (Nat.zero_le _)
  rw [nat0] at hloop
  simp only [M.impl_KindsIn, M.impl_KindsIn_C, M.impl_KindsIn_l3]
  rw [show ([] : List Row) = encI (kl l 0) from rfl, hloop, some_bind]
  simp only [flat_encI, cond_true]
def kSt (l : List Tk) (k : Nat) (b : Bool) : List Int := if b then kl l k ++ [(k : Int)] else kl l k
def kStep (k : Nat) (b : Bool) (t : Tk) : Bool ⊕ (Int × Bool × List Row) := .inl (b || t.kind == (k : Int))
theorem foldE_k (k : Nat) (f : Bool → Int × Bool × List Row) : ∀ (l : List Tk) (b : Bool), foldE (kStep k) f l b = f (b || kHas l k)
  | [], b => by rw [foldE, kHas, List.any_nil, Bool.or_false]
  | t :: l, b => by
    rw [foldE, kStep]
    simp only
    rw [foldE_k k f l, kHas, kHas, List.any_cons, Bool.or_assoc]
theorem kSt_last (l : List Tk) (k : Nat) (b : Bool) (h : (kSt l k b).length ≠ 0) : ∃ x, (kSt l k b)[(kSt l k b).length - 1]? = some x ∧ (x == (k : Int)) = b := by
  cases b with
  | true =>
    refine ⟨k, ?_, by simp⟩
    simp [kSt]
  | false =>
    have e : kSt l k false = kl l k := rfl
    rw [e] at h ⊢
    have hlt : (kl l k).length - 1 < (kl l k).length := by omega
    refine ⟨(kl l k)[(kl l k).length - 1], by simp [hlt], ?_⟩
    have := kl_lt l k _ (List.getElem_mem hlt)
    simp only [beq_eq_false_iff_ne]
    omega
theorem spec_in_ok (l : List Tk) (k : Nat) (hk : k ≤ 68) (hl : l.length ≤ 1048576) : M.spec_KindsIn_l6 (encTs l) (k : Int) (0, encI (kl l k)) = some ((l.length : Int), false, encI (kl l (k + 1))) := by
  have hloop := loopM_list (M.spec_KindsIn_l6_b (encTs l) (k : Int)) l (fun i (b : Bool) => ((i : Int), encI (kSt l k b))) (kStep k) (fun b => ((l.length : Int), false, encI (kSt l k b))) (fun _ _ => True)
    (by
      intro i n w hi _
      have hlt := (List.getElem?_eq_some_iff.1 hi).1
      have hlen := kl_length l k
      have hlen' : (kSt l k w).length ≤ k + 1 := by
        cases w <;> simp [kSt] <;> omega
      simp only [M.spec_KindsIn_l6_b, M.spec_KindsIn_l6_C, encTs_length, encI_length, idx_nat, get_encTs, hi, Option.map_some, some_bind, cT0, kStep]
      rw [decide_eq_true (by omega), cond_true, wrap_ok (n := (i : Int) + 1) (by omega) (by omega)]
      have ap : ∀ l' : List Int, encI l' ++ [[D.int IntKind.i64 (k : Int)]] = encI (l' ++ [(k : Int)]) := fun l' => by simp [encI]
      cases hkd : (n.kind == (k : Int)) with
      | false =>
        simp only [cond_false, Bool.or_false]
        rfl
      | true =>
        simp only [cond_true, Bool.or_true]
        have h3 : kSt l k true = kl l k ++ [(k : Int)] := rfl
        by_cases h0 : (kSt l k w).length = 0
        · rw [h0]
          have hw : w = false := by
            cases w with
            | false => rfl
            | true => simp [kSt] at h0
          subst hw
          simp only [nat0, beq_self_eq_true, cond_true, List.length_singleton]
          rw [ble_ok (by omega), cond_true, ble_ok (by omega), cond_true, ap]
          rfl
        · obtain ⟨x, hx, hxk⟩ := kSt_last l k w h0
          have e1 : (((kSt l k w).length : Int) == 0) = false := by
            simp only [beq_eq_false_iff_ne]
            omega
          rw [e1, cond_false, wrap_ok (by omega) (by omega)]
          rw [show ((kSt l k w).length : Int) - 1 = (((kSt l k w).length - 1 : Nat) : Int) by omega]
          simp only [idx_nat, idx_encI, get_encI, Int.toNat_natCast, hx, Option.map_some, some_bind, cI0]
          cases w with
          | true =>
            have : (x != (k : Int)) = false := by rw [bne, hxk]; rfl
            rw [this]
            rfl
          | false =>
            have : (x != (k : Int)) = true := by rw [bne, hxk]; rfl
            rw [this]
            simp only [cond_true, List.length_singleton]
            rw [ble_ok (by omega), cond_true, ble_ok (by omega), cond_true, ap]
            rfl)
    (fun _ _ _ _ _ _ _ => trivial)
    (by
      intro w _
      simp only [M.spec_KindsIn_l6_b, M.spec_KindsIn_l6_C, encTs_length]
      rw [decide_eq_false (by omega), cond_false]) false trivial
  rw [nat0, foldE_k, Bool.false_or] at hloop
  rw [M.spec_KindsIn_l6]
  refine (show _ = _ from hloop).trans ?_
  rw [kl, kSt]
theorem spec_Kinds_ok (l : List Tk) (hl : l.length ≤ 1048576) : M.spec_KindsIn (encTs l) = some (encI (kl l 69)) := by
  have hloop := loopM_run (b := M.spec_KindsIn_l3_b (encTs l)) (t := (69, false, encI (kl l 69))) (fun i => ((i : Int), encI (kl l i))) 69
    (by
      intro i hi
      simp only [M.spec_KindsIn_l3_b, M.spec_KindsIn_l3_C, spec_in_ok l i (by omega) hl, some_bind]
      rw [decide_eq_true (by omega), cond_true, wrap_ok (by omega) (by omega)]
      rfl)
    (by
      simp only [M.spec_KindsIn_l3_b, M.spec_KindsIn_l3_C]
      rfl) 0 (Nat.zero_le _)
  rw [nat0] at hloop
  simp only [M.spec_KindsIn, M.spec_KindsIn_C, M.spec_KindsIn_l3]
  rw [show ([] : List Row) = encI (kl l 0) from rfl, hloop, some_bind]
  simp only [flat_encI, cond_true]
theorem law_KindsIn (l : List Tk) (hl : l.length ≤ maxLen) (hf : ∀ n, n ∈ l → FitT n) : M.laws_FnExactKindsIn (encTs l) = some true := by
  simp only [M.laws_FnExactKindsIn, M.laws_FnExactKindsIn_C]
  rw [szTokenS_ok l 1048576 (by omega) (by omega) hl hf, some_bind]
  by_cases hs : (l.length + wTs l : Int) ≤ 1048576
  · rw [if_pos hs, decide_eq_false (by omega), cond_false]
    have hll : l.length ≤ 1048576 := by omega
    have hlen := kl_length l 69
    have hmax : (69 : Nat) ≤ maxLen := by decide
    obtain ⟨l', hm⟩ := markTokenS_ok 1 l (by omega) (by omega) (by omega)
    simp only [toTokenS_ok l hll, some_bind, spec_Kinds_ok l hll, impl_Kinds_ok l hll, pure_oneI, cond_true, eqIntS_same _ (Nat.le_trans hlen hmax), Bool.not_true, cond_false, eqTokenS_same l hl, hm, markIntS_ok 1 (kl l 69) (by omega) (by omega) (by omega), heldIntS_ok 1 (kl l 69).length (by omega) (by omega) (by omega), bne_self_eq_false]
    rw [decide_eq_false (by omega), cond_false, decide_eq_false (by omega)]
    rfl
  · rw [if_neg hs]; rfl
end Go.Proofs.Ytfbemlhfieemhaa
