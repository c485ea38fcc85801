import Derived.Test.YtghbceiigeialaaZDepth
namespace Go.Proofs.Ytghbceiigeialaa
set_option linter.unusedVariables false
set_option linter.unusedSimpArgs false
open Go Go.Vm
def allP {α : Type} (p : Nat → α → Bool) : List α → Nat → Bool
  | [], _ => true
  | x :: l, i => p i x && allP p l (i + 1)
theorem all_loop {α : Type} (l : List α) (p : Nat → α → Bool) {b : Int → Option (Int ⊕ (Unit ⊕ Int))}
    (hb : ∀ (i : Nat) x, l[i]? = some x → b (i : Int) = some (bif p i x then .inl ((i : Int) + 1) else .inr (.inl ()))) (he : b (l.length : Int) = some (.inr (.inr (l.length : Int)))) :
    loopM b 0 = some (bif allP p l 0 then .inr (l.length : Int) else .inl ()) := by
  have key : ∀ (t : List α) (i : Nat), l.drop i = t → i ≤ l.length → loopM b (i : Int) = some (bif allP p t i then .inr (l.length : Int) else .inl ()) := by
    intro t
    induction t with
    | nil =>
      intro i hd hi
      have : i = l.length := by
        have := congrArg List.length hd
        simp at this
        omega
      subst this
      exact loopM_end he
    | cons x t ih =>
      intro i hd hi
      have hx : l[i]? = some x := by
        have : (l.drop i)[0]? = some x := by rw [hd]; rfl
        simpa using this
      have hlt : i < l.length := (List.getElem?_eq_some_iff.1 hx).1
      have hd' : l.drop (i + 1) = t := by
        rw [← List.drop_drop, hd]
        rfl
      have hs := hb i x hx
      rw [allP]
      cases hw : p i x with
      | true =>
        rw [hw, cond_true] at hs
        rw [loopM_next hs, show (i : Int) + 1 = ((i + 1 : Nat) : Int) by omega, ih (i + 1) hd' hlt, Bool.true_and]
      | false =>
        rw [hw, cond_false] at hs
        rw [loopM_end hs]
        rfl
  exact key l 0 rfl (Nat.zero_le _)
structure Small (n : Nd) : Prop where
  text : n.text.length ≤ 1048576
  other : n.other.length ≤ 1048576
section
variable {l : List Nd} {r : List Int} {o : Bool}
end
section
variable (l : List Nd) (o : Bool) (hl : l.length ≤ 1048576) (hk : ∀ n, n ∈ l → n.kids.length ≤ 1048576) (hsm : ∀ n, n ∈ l → Small n)
include hl hk hsm
end
end Go.Proofs.Ytghbceiigeialaa
