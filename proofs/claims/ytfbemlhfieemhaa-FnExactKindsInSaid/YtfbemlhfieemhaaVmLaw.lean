/-
  A law's call: it returns true, and nothing that was there has turned.
-/
import Derived.Test.YtfbemlhfieemhaaVmOpen
import Derived.WideShapes
import Derived.ProofKit
namespace Go.Vm
open Go Go.RowKit

/-- no primitive: nothing to show -/
theorem primOk_none {X : Ctx} (h : ∀ f, X.prim f = none) : PrimOk X := by
  intro f p fn args cells rows outs hp
  rw [h] at hp
  cases hp

theorem simVs_mix {A : Adv} {f : Nat} (hm : A.move f = []) {μ : Nat → Value} {m : Mem} {H : Heap} {h : View} : ∀ {vs : List V} {gs : List Value} (i : Nat), simVs μ m h vs gs → mixS A f μ m H h i vs gs []
  | [], gs, i, q => by simp only [simVs] at q; simp only [mixS]; exact ⟨q, trivial⟩
  | v :: vs, gs, i, q => by
    simp only [simVs] at q
    obtain ⟨g, gs', rfl, h1, h2⟩ := q
    simp only [mixS]
    refine ⟨g, gs', [], [], rfl, rfl, ?_, simVs_mix hm (i + 1) h2⟩
    split
    · rename_i hmo
      simp only [modeOf, hm, mem?, cond_false] at hmo
      cases hr : mem? i (A.ref f) <;> simp [hr] at hmo
    · exact ⟨rfl, h1⟩

theorem law_calls {X : Ctx} (hp : PrimOk X) {f : Nat} {fn : Func} {t : TypeId} {args : List V} {gargs : List Value} {w : World} (hf : X.P.funcs[f]? = some fn) (hb : fn.body.isSome = true) (hr : fn.resultTypes = #[t]) (ht : aggT X.P t = false) (hm : X.adv.move f = [])
    (hs : simVs (impμ []) [] (full w) args gargs) (h : call X f args [] = some ([[.bool true]], [])) :
    Calls X.P f gargs.toArray w fun e w' => e = .returned (.bool true) ∧ Below w.heap.size w w' := by
  have hG : Given X 0 (fun _ => True) w f args [] gargs [] [] [] := by
    have hv : (full w).le (view w (fun _ => True) (· ∈ ([] : List Nat) ++ [])) := by
      intro b o v h
      exact view_mk trivial (by simp) h
    refine ⟨by simp, by simp, fun _ _ => trivial, Nat.zero_le _, ?_, ⟨rfl, rfl⟩⟩
    exact mixS_mono (memLe_refl _ _) hv (fun _ _ => rfl) (simVs_mix (H := heapOf w) hm 0 hs)
  refine (call_ok hp f fn args [] [[.bool true]] [] hf hb h 0 (fun _ => True) w gargs [] [] [] hG).mono ?_
  rintro e w' ⟨gs, M1, M2, rfl, D⟩
  have hres := D.res
  rw [hr] at hres
  simp only [retsS] at hres
  obtain ⟨row, rows', g, gs', cs, N1, N2, e1, e2, _, hv, ho, hl, e3, e4, _⟩ := hres
  simp only [List.cons.injEq] at e1
  obtain ⟨rfl, rfl⟩ := e1
  subst e4
  subst e2
  simp only [valOf, ht, Bool.false_eq_true, if_false] at hv
  subst hv
  simp only [owRow, ow] at ho
  obtain ⟨v, cs', N1, N2, e5, _, ⟨rfl, _⟩, _⟩ := ho
  simp only [List.cons.injEq] at e5
  obtain ⟨rfl, _⟩ := e5
  refine ⟨rfl, ⟨D.keep.os, D.keep.tape, D.keep.output, D.keep.size, fun k hk => D.keep.block k hk (by simp)⟩⟩

/-! ### arguments -/
section
variable {H : Type} {enc : TypeId × Value → H} {P : Program} {w : World} {base : Nat} {spare : Nat → Bool} {held : Bool} {t : TypeId} {v : Value} {d : DataW H} {ps : List MemPlace}
/-- an argument of one cell -/
theorem arg_one {μ : Nat → Value} {m : Mem} (h : DataW.Trod enc P w base spare held t v d ps) (hg : ∀ n, goodT P (n + 8) t = true) (hv : v.cells.toList = [v]) :
    ∃ n x, tyD P (n + 8) t [x] ∧ simV μ m (full w) (.d x) v := by
  obtain ⟨n, hn⟩ := h
  have hn' : DataW.trod enc P w base spare held (n + 8) t v.cells.toList = some (d, ps) := DataW.trod_le (Nat.le_add_right n 8) hn
  obtain ⟨row, hl, ht, hs⟩ := trod_ro (n + 8) t _ d ps (hg n) hn'
  rw [hv] at hl hs
  cases row with
  | nil => simp at hl
  | cons x r =>
    cases r with
    | cons _ _ => simp at hl
    | nil =>
      obtain ⟨u, cs', e, h1, _⟩ := hs
      simp only [List.cons.injEq] at e
      obtain ⟨rfl, _⟩ := e
      exact ⟨_, x, ht, by simpa [simV] using h1⟩
end
section
variable {P : Program} {n : Nat} {t : TypeId} {row : Row}
theorem tyD_int {k : IntKind} (hu : P.underlying t = some (.int k)) (h : tyD P (n + 1) t row) : ∃ x, row = [.int k x] ∧ (Lit.int k x).wf = true := by simpa [tyD, hu] using h
theorem tyD_bool (hu : P.underlying t = some .bool) (h : tyD P (n + 1) t row) : ∃ b, row = [.bool b] := by simpa [tyD, hu] using h
theorem tyD_str (hu : P.underlying t = some .string) (h : tyD P (n + 1) t row) : ∃ s, row = [.str s] ∧ s.length ≤ maxLen := by simpa [tyD, hu] using h
theorem tyD_sl {e : TypeId} (hu : P.underlying t = some (.slice e)) (h : tyD P (n + 1) t row) : ∃ rows, row = [.sl false (szT P e) rows] ∧ rows.length ≤ maxLen ∧ ∀ r, r ∈ rows → tyD P n e r := by simpa [tyD, hu] using h
theorem tyD_struct {fs : Array Field} (hu : P.underlying t = some (.struct fs)) (h : tyD P (n + 1) t row) : tyFs P n fs.toList row := by simpa [tyD, hu] using h
theorem tyFs_cons {f : Field} {fs : List Field} (h : tyFs P n (f :: fs) row) : ∃ r1 r2, row = r1 ++ r2 ∧ tyD P n f.type r1 ∧ tyFs P n fs r2 := by simpa [tyFs] using h
theorem tyFs_nil (h : tyFs P n [] row) : row = [] := by simpa [tyFs] using h
theorem list_enc {α : Type} {f : α → Row} {p : α → Prop} : ∀ {rows : List Row}, (∀ r, r ∈ rows → ∃ x, r = f x ∧ p x) → ∃ l : List α, rows = l.map f ∧ ∀ x, x ∈ l → p x
  | [], _ => ⟨[], rfl, fun x h => by simp at h⟩
  | r :: rows, h => by
    obtain ⟨x, hx, hp⟩ := h r (by simp)
    obtain ⟨l, hl, hq⟩ := list_enc (rows := rows) (fun r hr => h r (by simp [hr]))
    refine ⟨x :: l, by simp [hx, hl], fun y hy => ?_⟩
    rcases List.mem_cons.1 hy with rfl | hy
    · exact hp
    · exact hq y hy
end
end Go.Vm
