import Derived.Test.YtodbelembghegaaGreatDoorVm4
import Derived.Test.YtodbelembghegaaGreatDoorShelf2
import Derived.Test.YtodbelembghegaaGreatDoorCompE
import Derived.StillTailTactics
import Derived.BigQuiet
import Derived.Deep.RegionWith
namespace Go.Proofs.YtodbelembghegaaGreatDoor
set_option linter.unusedVariables false
set_option linter.unusedSimpArgs false
open Go Go.Proofs Go.RowKit Go.Shelf Go.Lib Go.Sort
open Go.Vm (Ed Str ltE)
def cmpS (a b : Str) : Int := if a < b then -1 else if b < a then 1 else 0
theorem isNaN_str (s : ByteArray) (w : World) : Calls Tryz.prog 97 #[.string s] w fun e w' => e = .returned (.bool false) ∧ w' = w := by
  go_enter Tryz.func97, Tryz.ntmps97
  go_wp2
  go_ret
  exact ⟨by simp, rfl⟩
theorem gtr_str (a b : Str) (w : World) : Sem.run Tryz.prog (binOp BinOp.gtr 9 (.string ⟨⟨a⟩⟩) (.string ⟨⟨b⟩⟩)) w = .ok (.bool (decide (b < a))) w := by
  rw [← Go.Vm.gt_eq]
  simp [binOp, Op.stringOp]
theorem cmp_str (a b : Str) (w : World) : Calls Tryz.prog 59 #[.string ⟨⟨a⟩⟩, .string ⟨⟨b⟩⟩] w fun e w' => e = .returned (.int .i64 (cmpS a b)) ∧ w' = w := by
  have hl := Go.Vm.less_eq a b
  have hg := fun w => gtr_str a b w
  by_cases h1 : a < b
  · rw [decide_eq_true h1] at hl
    clear hg
    go_enter Tryz.func59, Tryz.ntmps59
    go_wp2_with (go_at_call 97; refine (isNaN_str _ _).mono ?_; rintro e w' ⟨rfl, hw⟩; rw [hw])
    go_ret
    exact ⟨by rw [cmpS, if_pos h1]; rfl, rfl⟩
  · rw [decide_eq_false h1] at hl
    by_cases h2 : b < a
    · rw [decide_eq_true h2] at hg
      go_enter Tryz.func59, Tryz.ntmps59
      go_wp2_with (go_at_call 97; refine (isNaN_str _ _).mono ?_; rintro e w' ⟨rfl, hw⟩; rw [hw])
      go_ret
      exact ⟨by rw [cmpS, if_neg h1, if_pos h2]; rfl, rfl⟩
    · rw [decide_eq_false h2] at hg
      go_enter Tryz.func59, Tryz.ntmps59
      go_wp2_with (go_at_call 97; refine (isNaN_str _ _).mono ?_; rintro e w' ⟨rfl, hw⟩; rw [hw])
      go_ret
      exact ⟨by rw [cmpS, if_neg h1, if_neg h2]; rfl, rfl⟩
theorem or_ints (blk cap : Nat) (x y : Int) (w : World) (h0 : w.cell? ⟨blk, 0, none⟩ = some (.int .i64 x)) (h1 : w.cell? ⟨blk, 1, none⟩ = some (.int .i64 y)) : Calls Tryz.prog 65 #[.slice (some ⟨blk, 0, none⟩) 2 cap] w fun e w' => e = .returned (.int .i64 (if x ≠ 0 then x else y)) ∧ w' = w := by
  by_cases hx : x = 0
  · subst hx
    by_cases hy : y = 0
    · subst hy
      go_enter Tryz.func65, Tryz.ntmps65
      go_wp2
      refine wp_loop_rounds 3 ?_
      rw [rounds_succ]
      go_wp2
      rw [rounds_succ]
      go_wp2
      rw [rounds_succ]
      go_wp2
      go_ret
      exact ⟨by simp, rfl⟩
    · go_enter Tryz.func65, Tryz.ntmps65
      go_wp2
      refine wp_loop_rounds 2 ?_
      rw [rounds_succ]
      go_wp2
      rw [rounds_succ]
      go_wp2
      go_ret
      exact ⟨by simp, rfl⟩
  · go_enter Tryz.func65, Tryz.ntmps65
    go_wp2
    refine wp_loop_rounds 1 ?_
    rw [rounds_succ]
    go_wp2
    go_ret
    exact ⟨by simp [hx], rfl⟩
def cmpE (x y : Ed) : Int := if cmpS x.1 y.1 ≠ 0 then cmpS x.1 y.1 else cmpS x.2 y.2
theorem two0 (w : World) (u v : Value) (T : TypeId) : (w.alloc (.cells #[u, v] T)).cell? ⟨w.heap.size, 0, none⟩ = some u := World.cell?_alloc_mark w #[u, v] T (0, 0) 0
theorem two1 (w : World) (u v : Value) (T : TypeId) : (w.alloc (.cells #[u, v] T)).cell? ⟨w.heap.size, 1, none⟩ = some v := World.cell?_alloc_mark w #[u, v] T (0, 0) 1
theorem or_call (W : World) (x y : Int) (T : TypeId) (cap : Nat) : Calls Tryz.prog 65 #[.slice (some ⟨W.heap.size, 0, none⟩) 2 cap] (W.alloc (.cells #[.int .i64 x, .int .i64 y] T)) fun e w' => e = .returned (.int .i64 (if x ≠ 0 then x else y)) ∧ w' = W.alloc (.cells #[.int .i64 x, .int .i64 y] T) :=
  or_ints _ _ _ _ _ (two0 _ _ _ T) (two1 _ _ _ T)
set_option maxRecDepth 1000000 in
set_option maxHeartbeats 600000 in
theorem closure64 (x y : Ed) (w : World) : Calls Tryz.prog 64 #[.agg #[.string ⟨⟨x.1⟩⟩, .string ⟨⟨x.2⟩⟩], .agg #[.string ⟨⟨y.1⟩⟩, .string ⟨⟨y.2⟩⟩]] w fun e w' => e = .returned (.int .i64 (cmpE x y)) ∧ ∃ q os', w' = grow (w.drewN q) os' := by
  obtain ⟨x1, x2⟩ := x
  obtain ⟨y1, y2⟩ := y
  show Calls Tryz.prog 64 #[.agg #[.string ⟨⟨x1⟩⟩, .string ⟨⟨x2⟩⟩], .agg #[.string ⟨⟨y1⟩⟩, .string ⟨⟨y2⟩⟩]] w fun e w' => e = .returned (.int .i64 (if cmpS x1 y1 ≠ 0 then cmpS x1 y1 else cmpS x2 y2)) ∧ ∃ q os', w' = grow (w.drewN q) os'
  have k1 := cmp_str x1 y1
  have k2 := cmp_str x2 y2
  generalize cmpS x1 y1 = c1 at k1 ⊢
  generalize cmpS x2 y2 = c2 at k2 ⊢
  have hor := fun W2 => or_call W2 c1 c2 3 2
  generalize (if c1 ≠ 0 then c1 else c2) = r at hor ⊢
  have hW : ∃ W, W = (w.alloc (Obj.cells #[.string ⟨⟨x1⟩⟩, .string ⟨⟨x2⟩⟩] 73)).alloc (Obj.cells #[.string ⟨⟨y1⟩⟩, .string ⟨⟨y2⟩⟩] 73) := ⟨_, rfl⟩
  obtain ⟨W, hW⟩ := hW
  have hs : (w.alloc (Obj.cells #[.string ⟨⟨x1⟩⟩, .string ⟨⟨x2⟩⟩] 73)).heap.size = w.heap.size + 1 := Array.size_push ..
  have a0 : W.cell? ⟨w.heap.size, 0, none⟩ = some (.string ⟨⟨x1⟩⟩) := by rw [hW]; exact Go.Lib.cell?_alloc_some _ (two0 w _ _ 73)
  have a1 : W.cell? ⟨w.heap.size, 1, none⟩ = some (.string ⟨⟨x2⟩⟩) := by rw [hW]; exact Go.Lib.cell?_alloc_some _ (two1 w _ _ 73)
  have b0 : W.cell? ⟨w.heap.size + 1, 0, none⟩ = some (.string ⟨⟨y1⟩⟩) := by rw [hW, ← hs]; exact two0 _ _ _ 73
  have b1 : W.cell? ⟨w.heap.size + 1, 1, none⟩ = some (.string ⟨⟨y2⟩⟩) := by rw [hW, ← hs]; exact two1 _ _ _ 73
  have hg : W = grow w #[Obj.cells #[.string ⟨⟨x1⟩⟩, .string ⟨⟨x2⟩⟩] 73, Obj.cells #[.string ⟨⟨y1⟩⟩, .string ⟨⟨y2⟩⟩] 73] := by rw [hW, alloc_eq_grow, alloc_eq_grow, grow_grow]; rfl
  go_enter Tryz.func64, Tryz.ntmps64
  go_wp2
  rw [← hW]
  clear hW
  generalize w.heap.size = n at a0 a1 b0 b1 ⊢
  refine wp_region_still_tail 10 (by kernel_rfl) (by kernel_rfl) ?_
  simp only [List.take_succ_cons, List.take_zero, List.drop_succ_cons, List.drop_zero]
  change wpStill _ _ W.drew _ _ _
  have a0' : W.drew.cell? ⟨n, 0, none⟩ = some (.string ⟨⟨x1⟩⟩) := a0
  have a1' : W.drew.cell? ⟨n, 1, none⟩ = some (.string ⟨⟨x2⟩⟩) := a1
  have b0' : W.drew.cell? ⟨n + 1, 0, none⟩ = some (.string ⟨⟨y1⟩⟩) := b0
  have b1' : W.drew.cell? ⟨n + 1, 1, none⟩ = some (.string ⟨⟨y2⟩⟩) := b1
  generalize W.drew = W1 at a0' a1' b0' b1' ⊢
  clear a0 a1 b0 b1
  still_step
  still_step
  still_step
  still_step
  still_call (k1 W1)
  still_step
  still_step
  still_step
  still_step
  still_call (k2 W1)
  refine wpStill_nil ?_
  change wpList _ _ _ _ _ W.drew
  have hg' : ∃ q os, W.drew = grow (w.drewN q) os := ⟨1, _, by rw [hg]; rfl⟩
  generalize W.drew = W2 at hg' ⊢
  have hor := hor W2
  clear hg k1 k2
  go_wp2_with (go_at_call 65; refine hor.mono ?_; rintro e w' ⟨rfl, rfl⟩)
  go_ret
  obtain ⟨q, os, rfl⟩ := hg'
  exact ⟨rfl, q, _, by rw [alloc_eq_grow, grow_grow]⟩
theorem closure64' (x y : Ed) (w : World) : Calls Tryz.prog 64 #[.agg (cE x).toArray, .agg (cE y).toArray] w fun e w' => e = .returned (.int .i64 (cmpE x y)) ∧ ∃ q os', w' = grow (w.drewN q) os' := closure64 x y w
theorem cmpS_lt {a b : Str} : cmpS a b < 0 ↔ a < b := by
  unfold cmpS
  split
  · rename_i h; simp [h]
  · rename_i h
    split
    · simp [h]
    · simp [h]
theorem cmpS_eq {a b : Str} : cmpS a b = 0 ↔ a = b := by
  unfold cmpS
  rcases Go.Vm.Str.lt_or a b with h | h | h
  · rw [if_pos h]
    constructor
    · intro k; cases k
    · rintro rfl; exact absurd h (Go.Vm.Str.lt_irrefl _)
  · subst h
    simp [Go.Vm.Str.lt_irrefl]
  · have h1 : ¬ a < b := fun k => Go.Vm.Str.lt_irrefl _ (Go.Vm.Str.lt_trans h k)
    rw [if_neg h1, if_pos h]
    constructor
    · intro k; cases k
    · rintro rfl; exact absurd h (Go.Vm.Str.lt_irrefl _)
theorem ltOf_ed (x y : Ed) : ltOf cmpE x y = decide (ltE x y) := by
  unfold ltOf
  rw [decide_eq_decide]
  unfold cmpE ltE
  by_cases h : cmpS x.1 y.1 = 0
  · rw [if_neg (by simp [h]), cmpS_lt]
    have e := cmpS_eq.1 h
    constructor
    · intro k; exact .inr ⟨e, k⟩
    · rintro (k | ⟨_, k⟩)
      · rw [e] at k; exact absurd k (Go.Vm.Str.lt_irrefl _)
      · exact k
  · rw [if_pos h, cmpS_lt]
    constructor
    · exact .inl
    · rintro (k | ⟨k, _⟩)
      · exact k
      · exact absurd (cmpS_eq.2 k) h
theorem swo_ed : SWO (ltOf cmpE) where
  irrefl x := by rw [ltOf_ed]; simpa using Go.Vm.ltE_irrefl x
  trans x y z h1 h2 := by
    rw [ltOf_ed] at *
    simp only [decide_eq_true_eq] at *
    exact Go.Vm.ltE_trans h1 h2
  ntrans x y z h1 h2 := by
    rw [ltOf_ed] at *
    simp only [decide_eq_false_iff_not] at *
    exact Go.Vm.leE_trans h2 h1
theorem slices_SortFunc_edge (blk cap : Nat) (l : List Ed) (w : World) (hH : HoldsK cE 2 w blk 0 l.toArray) (hblk : blk < w.heap.size) (hsz : l.length < 4611686018427387904) :
    Calls Tryz.prog 63 #[.slice (some ⟨blk, 0, none⟩) l.length cap, .func (.func 64) #[] #[]] w fun e w' => e = .returned (.tuple #[]) ∧ ∃ n os, w' = sortWorldK cE 2 w blk 0 n (Go.Vm.sortE l).toArray os := by
  have eg : ∀ args w, (callFunc 64 args).run Tryz.prog w = .ok (.enter 64 args) w := enters_of Tryz.func64 (by kernel_rfl) rfl
  have h := AnyQ.slices_SortFunc_total Tryz.sortEd 2 Tryz.isAgg73 Tryz.sizeOf73 cE (fun _ => rfl) (fun x v hv => by simp [cE] at hv; rcases hv with rfl | rfl <;> rfl) cmpE swo_ed 64 #[] blk 0 cap l.toArray w eg (fun _ _ _ _ x y => closure64' x y _) hH hblk (by simpa using hsz) (fun x y h1 h2 => by
    rw [ltOf_ed] at h1 h2
    simp only [decide_eq_false_iff_not] at h1 h2
    rcases Go.Vm.ltE_or x y with k | k | k
    · exact absurd k h1
    · exact k
    · exact absurd k h2)
  change Calls Tryz.prog 63 _ _ _ at h
  have e : (fun x y : Ed => !(ltOf cmpE) y x) = fun x y => !decide (ltE y x) := by funext x y; rw [ltOf_ed]
  rw [e] at h
  simpa [Go.Vm.sortE] using h
theorem slices_SortFunc_none (p : Option Addr) (cap : Nat) (fv : Value) (w : World) : Calls Tryz.prog 63 #[.slice p 0 cap, fv] w fun e w' => e = .returned (.tuple #[]) ∧ w' = w := AnyF.slices_SortFunc_none Tryz.sortEd p cap fv w
theorem slices_Compact_none (cap : Nat) (w : World) : Calls Tryz.prog 66 #[.slice none 0 cap] w fun e w' => e = .returned (.slice none 0 cap) ∧ w' = w := by
  go_enter Tryz.func66, Tryz.ntmps66
  go_wp2
  go_ret
  exact ⟨rfl, rfl⟩
end Go.Proofs.YtodbelembghegaaGreatDoor
