/-
  AssignsTo: the program's and the reference's.
-/
import Derived.Test.YtodbelembghegaaGreatDoorZFlat
namespace Go.Proofs.YtodbelembghegaaGreatDoor
set_option linter.unusedVariables false
set_option linter.unusedSimpArgs false
open Go Go.Vm


def kidIs (l : List Nd) (name : List UInt8) : List Int → Bool
  | [] => false
  | k :: _ => match idx l k with
    | some x => x.kind == 1 && x.text == name
    | none => false
def assigns (l : List Nd) (name : List UInt8) (n : Nd) : Bool := (n.kind == 32 && n.text == name) || ((n.kind == 15 || n.kind == 9 || n.kind == 10) && kidIs l name n.kids)
def assignsStep (l : List Nd) (name : List UInt8) (_ : Unit) (n : Nd) : Unit ⊕ (Unit ⊕ Int) := if assigns l name n then .inr (.inl ()) else .inl ()
theorem foldE_assigns (l : List Nd) (name : List UInt8) (len : Int) : ∀ t : List Nd, foldE (assignsStep l name) (fun _ => .inr (len)) t () = if t.any (assigns l name) then .inl () else .inr (len)
  | [] => rfl
  | n :: t => by
    simp only [foldE, assignsStep]
    cases h : assigns l name n with
    | true => simp [h]
    | false => simp only [Bool.false_eq_true, if_false]; rw [foldE_assigns l name len t]; simp [h]

set_option maxHeartbeats 2000000 in
theorem spec_AssignsTo_step (l : List Nd) (o : Bool) (name : List UInt8) (hl : l.length ≤ 1048576) {i : Nat} {n : Nd} (hi : l[i]? = some n) :
    M.spec_AssignsTo_l2_b (encNs o l) name (i : Int) = some (if assigns l name n then .inr (.inl ()) else .inl ((i + 1 : Nat) : Int)) := by
  have hlt := (List.getElem?_eq_some_iff.1 hi).1
  simp only [M.spec_AssignsTo_l2_b, M.spec_AssignsTo_l2_C, encNs_length, idx_nat, get_encNs, hi, Option.map_some, some_bind, cN0, cN1, cN2, cN3, cN4, spec_l1In_ok]
  rw [decide_eq_true (by omega), cond_true, wrap_ok (n := (i : Int) + 1) (by omega) (by omega), wrap_ok (n := (l.length : Int) - 1) (by omega) (by omega)]
  have hc : ((i + 1 : Nat) : Int) = (i : Int) + 1 := by omega
  rw [hc]
  unfold assigns
  cases hk : n.kids with
  | nil =>
    simp only [encI, List.map_nil, List.length_nil, kidIs]
    generalize (n.kind == 32) = b1
    generalize (n.kind == 15) = b2
    generalize (n.kind == 9) = b3
    generalize (n.kind == 10) = b4
    generalize (n.text == name) = b5
    cases b1 <;> cases b2 <;> cases b3 <;> cases b4 <;> cases b5 <;> rfl
  | cons k ks =>
    have h0 : idx (encI (k :: ks)) 0 = some [D.int .i64 k] := rfl
    have hlen : decide ((((encI (k :: ks)).length : Nat) : Int) > 0) = true := decide_eq_true (by simp)
    simp only [h0, hlen, cond_true, some_bind, cI0, idx_encNs, kidIs]
    by_cases hr : 0 ≤ k ∧ k ≤ (l.length : Int) - 1
    · obtain ⟨x, hx, _⟩ := idx_in (l := l) hr.1 (by omega)
      simp only [decide_eq_true hr.1, decide_eq_true hr.2, Bool.and_self, cond_true, hx, Option.map_some, some_bind, cN0, cN1, cN2, cN3, cN4]
      generalize (n.kind == 32) = b1
      generalize (n.kind == 15) = b2
      generalize (n.kind == 9) = b3
      generalize (n.kind == 10) = b4
      generalize (n.text == name) = b5
      generalize (x.kind == 1) = b6
      generalize (x.text == name) = b7
      cases b1 <;> cases b2 <;> cases b3 <;> cases b4 <;> cases b5 <;> cases b6 <;> cases b7 <;> rfl
    · have hx : idx l k = none := idx_out (by omega)
      have hw : (decide (0 ≤ k) && decide (k ≤ (l.length : Int) - 1)) = false := by
        rw [Bool.and_eq_false_iff]
        rcases Classical.not_and_iff_not_or_not.1 hr with h | h
        · exact .inl (decide_eq_false h)
        · exact .inr (decide_eq_false h)
      simp only [hw, cond_false, hx]
      generalize (n.kind == 32) = b1
      generalize (n.kind == 15) = b2
      generalize (n.kind == 9) = b3
      generalize (n.kind == 10) = b4
      generalize (n.text == name) = b5
      cases b1 <;> cases b2 <;> cases b3 <;> cases b4 <;> cases b5 <;> rfl
set_option maxHeartbeats 2000000 in
theorem impl_AssignsTo_step (l : List Nd) (o : Bool) (name : List UInt8) (hl : l.length ≤ 1048576) {i : Nat} {n : Nd} (hi : l[i]? = some n) :
    M.impl_AssignsTo_l2_b (encNs o l) name (encNs o l) (l.length : Int) (i : Int) = some (if assigns l name n then .inr (.inl ()) else .inl ((i + 1 : Nat) : Int)) := by
  have hlt := (List.getElem?_eq_some_iff.1 hi).1
  simp only [M.impl_AssignsTo_l2_b, M.impl_AssignsTo_l2_C, encNs_length, idx_nat, get_encNs, hi, Option.map_some, some_bind, cN0, cN1, cN2, cN3, cN4, impl_within_ok]
  rw [decide_eq_true (by omega), cond_true, wrap_ok (n := (i : Int) + 1) (by omega) (by omega), wrap_ok (n := (l.length : Int) - 1) (by omega) (by omega)]
  have hc : ((i + 1 : Nat) : Int) = (i : Int) + 1 := by omega
  rw [hc]
  unfold assigns
  have hex : n.kind = 15 ∨ n.kind = 9 ∨ n.kind = 10 ∨ n.kind = 32 ∨ ((n.kind == 15) = false ∧ (n.kind == 9) = false ∧ (n.kind == 10) = false ∧ (n.kind == 32) = false) := by
    simp only [beq_eq_false_iff_ne, ne_eq]
    omega
  cases hk : n.kids with
  | nil =>
    simp only [encI, List.map_nil, List.length_nil, kidIs]
    generalize (n.text == name) = b5
    rcases hex with h | h | h | h | ⟨h1, h2, h3, h4⟩
    · rw [h]; cases b5 <;> rfl
    · rw [h]; cases b5 <;> rfl
    · rw [h]; cases b5 <;> rfl
    · rw [h]; cases b5 <;> rfl
    · rw [h1, h2, h3, h4]; cases b5 <;> rfl
  | cons k ks =>
    have h0 : idx (encI (k :: ks)) 0 = some [D.int .i64 k] := rfl
    have hlen : decide ((((encI (k :: ks)).length : Nat) : Int) > 0) = true := decide_eq_true (by simp)
    simp only [h0, hlen, cond_true, some_bind, cI0, idx_encNs, kidIs]
    by_cases hr : 0 ≤ k ∧ k ≤ (l.length : Int) - 1
    · obtain ⟨x, hx, _⟩ := idx_in (l := l) hr.1 (by omega)
      simp only [decide_eq_true hr.1, decide_eq_true hr.2, Bool.and_self, cond_true, hx, Option.map_some, some_bind, cN0, cN2]
      generalize (n.text == name) = b5
      generalize (x.kind == 1) = b6
      generalize (x.text == name) = b7
      rcases hex with h | h | h | h | ⟨h1, h2, h3, h4⟩
      · rw [h]; cases b5 <;> cases b6 <;> cases b7 <;> rfl
      · rw [h]; cases b5 <;> cases b6 <;> cases b7 <;> rfl
      · rw [h]; cases b5 <;> cases b6 <;> cases b7 <;> rfl
      · rw [h]; cases b5 <;> cases b6 <;> cases b7 <;> rfl
      · rw [h1, h2, h3, h4]; cases b5 <;> cases b6 <;> cases b7 <;> rfl
    · have hx : idx l k = none := idx_out (by omega)
      have hw : (decide (0 ≤ k) && decide (k ≤ (l.length : Int) - 1)) = false := by
        rw [Bool.and_eq_false_iff]
        rcases Classical.not_and_iff_not_or_not.1 hr with h | h
        · exact .inl (decide_eq_false h)
        · exact .inr (decide_eq_false h)
      simp only [hw, cond_false, hx]
      generalize (n.text == name) = b5
      rcases hex with h | h | h | h | ⟨h1, h2, h3, h4⟩
      · rw [h]; cases b5 <;> rfl
      · rw [h]; cases b5 <;> rfl
      · rw [h]; cases b5 <;> rfl
      · rw [h]; cases b5 <;> rfl
      · rw [h1, h2, h3, h4]; cases b5 <;> rfl

theorem spec_AssignsTo_ok (l : List Nd) (o : Bool) (name : List UInt8) (hl : l.length ≤ 1048576) : M.spec_AssignsTo (encNs o l) name = some (l.any (assigns l name)) := by
  simp only [M.spec_AssignsTo, M.spec_AssignsTo_C]
  have hloop := loopM_list (M.spec_AssignsTo_l2_b (encNs o l) name) l (fun i (_ : Unit) => (i : Int)) (assignsStep l name) (fun _ => .inr ((l.length : Int))) (fun _ _ => True)
    (by
      intro i n w hi _
      rw [spec_AssignsTo_step l o name hl hi, assignsStep]
      split <;> rfl)
    (fun _ _ _ _ _ _ _ => trivial)
    (by
      intro w _
      simp only [M.spec_AssignsTo_l2_b, M.spec_AssignsTo_l2_C, encNs_length]
      rw [decide_eq_false (by omega), cond_false]) () trivial
  have h0' : ((0 : Nat) : Int) = 0 := rfl
  rw [h0'] at hloop
  rw [M.spec_AssignsTo_l2, hloop, foldE_assigns, some_bind]
  cases l.any (assigns l name) <;> rfl
theorem impl_AssignsTo_ok (l : List Nd) (o : Bool) (name : List UInt8) (hl : l.length ≤ 1048576) : M.impl_AssignsTo (encNs o l) name = some (l.any (assigns l name)) := by
  simp only [M.impl_AssignsTo, M.impl_AssignsTo_C, encNs_length]
  have hloop := loopM_list (M.impl_AssignsTo_l2_b (encNs o l) name (encNs o l) (l.length : Int)) l (fun i (_ : Unit) => (i : Int)) (assignsStep l name) (fun _ => .inr ((l.length : Int))) (fun _ _ => True)
    (by
      intro i n w hi _
      rw [impl_AssignsTo_step l o name hl hi, assignsStep]
      split <;> rfl)
    (fun _ _ _ _ _ _ _ => trivial)
    (by
      intro w _
      simp only [M.impl_AssignsTo_l2_b, M.impl_AssignsTo_l2_C]
      rw [decide_eq_false (by omega), cond_false]) () trivial
  have h0' : ((0 : Nat) : Int) = 0 := rfl
  rw [h0'] at hloop
  rw [M.impl_AssignsTo_l2, hloop, foldE_assigns, some_bind]
  cases l.any (assigns l name) <;> rfl

end Go.Proofs.YtodbelembghegaaGreatDoor
