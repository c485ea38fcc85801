import Derived.Test.YtodbelembghegaaGreatDoorVm4
import Derived.Test.YtodbelembghegaaGreatDoorBack
namespace Go.Proofs.YtodbelembghegaaGreatDoor
set_option linter.unusedVariables false
set_option linter.unusedSimpArgs false
open Go Go.Proofs Go.RowKit Go.Shelf
set_option maxHeartbeats 1000000 in
theorem slices_Grow_nil (n : Nat) (hn : n ≤ 1000000) (w : World) :
    Calls Tryz.prog 82 #[.slice none 0 0, .int .i64 n] w fun e w' => ∃ v', e = .returned v' ∧ w'.ownsRow w.heap.size 56 5 v' 0 [] ∧ Below w.heap.size w w' := by
  by_cases h0 : n = 0
  · subst h0
    go_enter Tryz.func82, Tryz.ntmps82
    go_wp2
    go_ret
    exact ⟨_, rfl, ⟨rfl, .inl ⟨rfl, rfl⟩⟩, Below.refl _ _⟩
  · have hby : Tryz.t56.bytes = 72 := by kernel_rfl
    have hns : Builtin.nextslicecap n 0 = n := nextslicecap_zero (by omega)
    have hcap := grownCap_ge w n 0 56
    go_enter Tryz.func82, Tryz.ntmps82
    go_wp2
    go_ret
    have hcm := grownCap_le_maxLen w n 0 56 (by unfold maxLen; omega)
    refine ⟨_, rfl, ⟨rfl, .inr ⟨w.heap.size, grownCap w n 0 56, _, rfl, Nat.le_refl _, by simp only [World.alloc, World.drew, Array.getElem?_push_size]; rfl, Nat.zero_le _, hcm, ?_, by simp⟩⟩, ?_⟩
    · rw [Array.size_append]
      simp only [Builtin.zeroCells, Array.size_map, Array.size_range]
      show n * 5 + (grownCap w n 0 56 - n) * 5 = grownCap w n 0 56 * 5
      omega
    · exact (Below.refl _ w).alloc (Nat.le_refl _) _ |>.drew
end Go.Proofs.YtodbelembghegaaGreatDoor
