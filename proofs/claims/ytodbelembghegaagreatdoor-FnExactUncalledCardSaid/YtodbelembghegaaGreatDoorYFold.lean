import Derived.Test.YtodbelembghegaaGreatDoorYReach
namespace Go.Proofs.YtodbelembghegaaGreatDoor
set_option linter.unusedVariables false
set_option linter.unusedSimpArgs false
open Go Go.Vm
theorem putsS_mem {l : List Str} {x : Str} : ∀ {w : List Str}, x ∈ l.foldl putS w ↔ x ∈ w ∨ x ∈ l := by
  induction l with
  | nil => intro w; simp
  | cons y l ih =>
    intro w
    rw [List.foldl_cons, ih, mem_putS, List.mem_cons]
    constructor
    · rintro ((h | h) | h) <;> simp [h]
    · rintro (h | h | h) <;> simp [h]
theorem putsS_up {l : List Str} : ∀ {w : List Str}, up w → up (l.foldl putS w) := by
  induction l with
  | nil => intro w h; exact h
  | cons y l ih => intro w h; exact ih (up_putS h)
theorem putsS_length {l : List Str} : ∀ {w : List Str}, (l.foldl putS w).length ≤ w.length + l.length := by
  induction l with
  | nil => intro w; exact Nat.le_refl _
  | cons y l ih =>
    intro w
    have h1 := ih (w := putS w y)
    have h2 := putS_length w y
    rw [List.foldl_cons, List.length_cons]
    omega
theorem putsS_once (l : List Str) : l.foldl putS [] = onceS l := (onceS_eq (putsS_up List.Pairwise.nil) fun x => by rw [putsS_mem]; simp).symm
theorem fold_pick {α : Type} (c : α → Bool) (g : α → Str) : ∀ (l : List α) (w : List Str), l.foldl (fun w x => if c x = true then putS w (g x) else w) w = ((l.filter c).map g).foldl putS w
  | [], w => rfl
  | x :: l, w => by
    rw [List.foldl_cons, fold_pick c g l]
    by_cases h : c x = true
    · rw [if_pos h, List.filter_cons_of_pos h, List.map_cons, List.foldl_cons]
    · rw [if_neg h, List.filter_cons_of_neg h]
theorem fold_app {α β : Type} (c : α → Bool) (g : α → β) : ∀ (l : List α) (w : List β), l.foldl (fun w x => if c x = true then w ++ [g x] else w) w = w ++ (l.filter c).map g
  | [], w => by simp
  | x :: l, w => by
    rw [List.foldl_cons, fold_app c g l]
    by_cases h : c x = true
    · rw [if_pos h, List.filter_cons_of_pos h, List.map_cons, List.append_assoc]; rfl
    · rw [if_neg h, List.filter_cons_of_neg h]
theorem passes_le (E : List Ed) (s : Str) (n : Nat) : (passes E s n).length ≤ E.length := (good_passes (l := E) (s := s) n).len
end Go.Proofs.YtodbelembghegaaGreatDoor
