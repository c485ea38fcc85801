import Derived.Test.YtpcdaeebbpedoaaGreatDoorZMarkN
namespace Go.Proofs.YtpcdaeebbpedoaaGreatDoor
set_option linter.unusedVariables false
set_option linter.unusedSimpArgs false
open Go Go.Vm
structure Ok (l : List Nd) : Prop where
  len : l.length ≤ 1048576
  kids : ∀ n, n ∈ l → n.kids.length ≤ 1048576 ∧ ∀ e, e ∈ n.kids → I64 e
  sm : ∀ n, n ∈ l → Small n
  w : wK l ≤ 10000000
theorem Ok.k {l : List Nd} (h : Ok l) : ∀ n, n ∈ l → n.kids.length ≤ 1048576 := fun n hn => by have := (h.kids n hn).1; omega
theorem treeOk_shape {l : List Nd} (h : treeOk l = true) : lshape l = true := by
  unfold treeOk at h
  rw [Bool.and_eq_true] at h
  exact h.1
theorem ok_of {l : List Nd} (hs : (l.length + wNs l : Int) ≤ 1048576) (hf : ∀ n, n ∈ l → Fit n) (hl : l.length ≤ 1048576) (hk : ∀ n, n ∈ l → n.kids.length ≤ 1048576) : Ok l := by
  have hw : ∀ l : List Nd, wK l ≤ 4 * l.length + wNs l := by
    intro l
    induction l with
    | nil => exact Nat.le_refl _
    | cons n l ih => rw [wK, wNs, wN, List.length_cons]; omega
  have := hw l
  exact ⟨hl, fun n hn => ⟨hk n hn, (hf n hn).kid⟩, fun n hn => by
    have h1 := wNs_mem hn
    have h2 : wN n = n.text.length + n.other.length + n.kids.length := rfl
    exact ⟨by omega, by omega⟩, by omega⟩
end Go.Proofs.YtpcdaeebbpedoaaGreatDoor
