import Derived.Test.YtghbceiigeialaaP1Path2
namespace Go.Proofs.Ytghbceiigeialaa
set_option linter.unusedVariables false
set_option linter.unusedSimpArgs false
open Go Go.Vm
theorem shape_zero {l : List Nd} {r : List Int} (h : Val l r) (hs : lshape l = true) : sta r ((l.length - 1 : Nat) : Int) = 0 := by
  unfold lshape at hs
  rw [startsOk, if_pos (by rw [ks_length]; exact ⟨h.pos, h.le⟩), h.st] at hs
  rw [sta, Int.toNat_natCast]
  simpa using hs
def pathOf (l : List Nd) (i : Int) : List Int := if lshape l && (decide (0 ≤ i) && decide (i ≤ (l.length : Int) - 1)) then (pt l l.length ((l.length - 1 : Nat) : Int) i).getD [] else []
theorem pathOf_len (l : List Nd) (i : Int) : (pathOf l i).length ≤ 400 := by
  unfold pathOf
  split
  · rename_i hs
    rw [Bool.and_eq_true] at hs
    obtain ⟨r, h⟩ := val_of hs.1
    have h1 := h.pos
    have h2 := h.le
    cases hp : pt l l.length ((l.length - 1 : Nat) : Int) i with
    | none => simp
    | some p =>
      have := pt_in h l.length (l.length - 1) i p (by omega) hp
      simp only [Option.getD_some]
      omega
  · simp
theorem impl_PathOf_ok (l : List Nd) (o : Bool) (hl : l.length ≤ 1048576) (hk : ∀ n, n ∈ l → n.kids.length ≤ 1048576) (i : Int) : M.impl_PathOf (encNs o l) i = some (encI (pathOf l i)) := by
  simp only [M.impl_PathOf, M.impl_PathOf_C, impl_ShapeOk_ok l o hl hk, some_bind, encNs_length, pathOf]
  cases hs : lshape l with
  | false => rfl
  | true =>
    obtain ⟨r, h⟩ := val_of hs
    have h1 := h.pos
    have h2 := h.le
    rw [Bool.not_true, cond_false, impl_within_ok, some_bind, wrap_ok (by omega) (by omega), Bool.true_and]
    cases hb : (decide (0 ≤ i) && decide (i ≤ (l.length : Int) - 1)) with
    | false => rfl
    | true =>
      rw [Bool.not_true, cond_false, show (l.length : Int) - 1 = ((l.length - 1 : Nat) : Int) by omega, M.impl_pathTo_of (impl_pt_ok (o := o) h hk i l.length (l.length - 1) (by omega) (by omega)), some_bind, if_pos rfl]
      cases pt l l.length ((l.length - 1 : Nat) : Int) i with
      | none => rfl
      | some p =>
        simp only [ptR, flat_encI, cond_true, Option.getD_some]
end Go.Proofs.Ytghbceiigeialaa
