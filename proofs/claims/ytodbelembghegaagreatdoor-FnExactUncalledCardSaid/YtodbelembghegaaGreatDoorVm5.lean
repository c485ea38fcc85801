import Derived.Test.YtodbelembghegaaGreatDoorVm4
import Derived.WideShapes
import Derived.ProofKit
import Derived.Handed
import Derived.LaidLaws
import Derived.LaidHandle
import Derived.Shelf.Vars
import Derived.OpenShut
import Derived.ChangeArms
import Derived.LaidMore
set_option linter.unusedVariables false
set_option linter.unusedSimpArgs false
namespace Go.Vm
open Go Go.RowKit
theorem primOk_none {X : Ctx} (h : ∀ f, X.prim f = none) : PrimOk X := by
  intro f p fn args cells rows outs hp
  rw [h] at hp
  cases hp
theorem simVs_mix {A : Adv} {f : Nat} (hm : A.move f = []) {μ : Nat → Value} {m : Mem} {H : Heap} {h : View} : ∀ {vs : List V} {gs : List Value} (i : Nat), simVs μ m h vs gs → mixS A f μ m H h i vs gs []
  | [], gs, i, q => by simp only [simVs] at q; simp only [mixS]; exact ⟨q, trivial⟩
  | v :: vs, gs, i, q => by
    simp only [simVs] at q
    obtain ⟨g, gs', rfl, h1, h2⟩ := q
    simp only [mixS]
    refine ⟨g, gs', [], [], rfl, rfl, ?_, simVs_mix hm (i + 1) h2⟩
    split
    · rename_i hmo
      simp only [modeOf, hm, mem?, cond_false] at hmo
      cases hr : mem? i (A.ref f) <;> cases hr2 : mem? i (A.raw f) <;> simp [hr, hr2] at hmo
    · exact ⟨rfl, h1⟩
theorem law_calls {X : Ctx} (hp : PrimOk X) {f : Nat} {fn : Func} {t : TypeId} {args : List V} {gargs : List Value} {w : World} (hf : X.P.funcs[f]? = some fn) (hb : fn.body.isSome = true) (hr : fn.resultTypes = #[t]) (ht : aggT X.P t = false) (hm : X.adv.move f = []) (hgl : globS X (full w))
    (hs : simVs (impμ []) [] (full w) args gargs) (h : call X f args [] = some ([[.bool true]], [])) :
    Calls X.P f gargs.toArray w fun e w' => e = .returned (.bool true) ∧ Below w.heap.size w w' := by
  have hG : Given X 0 (fun _ => True) w f args [] gargs [] [] [] := by
    have hv : (full w).le (view w (fun _ => True) (· ∈ ([] : List Nat) ++ [])) := by
      intro b o v h
      exact view_mk trivial (by simp) h
    refine ⟨by simp, by simp, fun _ _ => trivial, Nat.zero_le _, ?_, ⟨rfl, rfl⟩, globS_mono hv hgl⟩
    exact mixS_mono (memLe_refl _ _) hv (fun _ _ => rfl) (simVs_mix (H := heapOf w) hm 0 hs)
  refine (call_ok hp f fn args [] [[.bool true]] [] hf hb h 0 (fun _ => True) w gargs [] [] [] hG).mono ?_
  rintro e w' ⟨gs, M1, M2, rfl, D⟩
  have hres := D.res
  rw [hr] at hres
  simp only [retsS] at hres
  obtain ⟨row, rows', g, gs', cs, N1, N2, e1, e2, _, hv, ho, hl, e3, e4, _⟩ := hres
  simp only [List.cons.injEq] at e1
  obtain ⟨rfl, rfl⟩ := e1
  subst e4
  subst e2
  simp only [valOf, ht, Bool.false_eq_true, if_false] at hv
  subst hv
  simp only [owRow, ow] at ho
  obtain ⟨v, cs', N1, N2, e5, _, ⟨rfl, _⟩, _⟩ := ho
  simp only [List.cons.injEq] at e5
  obtain ⟨rfl, _⟩ := e5
  refine ⟨rfl, ⟨D.keep.os, D.keep.tape, D.keep.output, D.keep.size, fun k hk => D.keep.block k hk (by simp)⟩⟩
section
variable {H : Type} {enc : TypeId × Value → H} {P : Program} {w : World} {base : Nat} {spare : Nat → Bool} {held : Bool} {t : TypeId} {v : Value} {d : DataW H} {ps : List MemPlace}
theorem arg_one {μ : Nat → Value} {m : Mem} (h : DataW.Trod enc P w base spare held t v d ps) (hg : ∀ n, goodT P (n + 8) t = true) (hv : v.cells.toList = [v]) :
    ∃ n x, tyD P (n + 8) t [x] ∧ simV μ m (full w) (.d x) v := by
  obtain ⟨n, hn⟩ := h
  have hn' : DataW.trod enc P w base spare held (n + 8) t v.cells.toList = some (d, ps) := DataW.trod_le (Nat.le_add_right n 8) hn
  obtain ⟨row, hl, ht, hs⟩ := trod_ro (n + 8) t _ d ps (hg n) hn'
  rw [hv] at hl hs
  cases row with
  | nil => simp at hl
  | cons x r =>
    cases r with
    | cons _ _ => simp at hl
    | nil =>
      obtain ⟨u, cs', e, h1, _⟩ := hs
      simp only [List.cons.injEq] at e
      obtain ⟨rfl, _⟩ := e
      exact ⟨_, x, ht, by simpa [simV] using h1⟩
end
section
variable {P : Program} {n : Nat} {t : TypeId} {row : Row}
theorem tyD_int {k : IntKind} (hu : P.underlying t = some (.int k)) (h : tyD P (n + 1) t row) : ∃ x, row = [.int k x] ∧ (Lit.int k x).wf = true := by simpa [tyD, hu] using h
theorem tyD_bool (hu : P.underlying t = some .bool) (h : tyD P (n + 1) t row) : ∃ b, row = [.bool b] := by simpa [tyD, hu] using h
theorem tyD_str (hu : P.underlying t = some .string) (h : tyD P (n + 1) t row) : ∃ s, row = [.str s] ∧ s.length ≤ maxLen := by simpa [tyD, hu] using h
theorem tyD_sl {e : TypeId} (hu : P.underlying t = some (.slice e)) (h : tyD P (n + 1) t row) : ∃ rows, row = [.sl false (szT P e) rows] ∧ rows.length ≤ maxLen ∧ ∀ r, r ∈ rows → tyD P n e r := by simpa [tyD, hu] using h
theorem tyD_struct {fs : Array Field} (hu : P.underlying t = some (.struct fs)) (h : tyD P (n + 1) t row) : tyFs P n fs.toList row := by simpa [tyD, hu] using h
theorem tyFs_cons {f : Field} {fs : List Field} (h : tyFs P n (f :: fs) row) : ∃ r1 r2, row = r1 ++ r2 ∧ tyD P n f.type r1 ∧ tyFs P n fs r2 := by simpa [tyFs] using h
theorem tyFs_nil (h : tyFs P n [] row) : row = [] := by simpa [tyFs] using h
theorem list_enc {α : Type} {f : α → Row} {p : α → Prop} : ∀ {rows : List Row}, (∀ r, r ∈ rows → ∃ x, r = f x ∧ p x) → ∃ l : List α, rows = l.map f ∧ ∀ x, x ∈ l → p x
  | [], _ => ⟨[], rfl, fun x h => by simp at h⟩
  | r :: rows, h => by
    obtain ⟨x, hx, hp⟩ := h r (by simp)
    obtain ⟨l, hl, hq⟩ := list_enc (rows := rows) (fun r hr => h r (by simp [hr]))
    refine ⟨x :: l, by simp [hx, hl], fun y hy => ?_⟩
    rcases List.mem_cons.1 hy with rfl | hy
    · exact hp
    · exact hq y hy
end
end Go.Vm
namespace Go.Vm
open Go
section
variable {H : Type} {enc : TypeId × Value → H}
theorem returns_shaped {a : Assume} {C : Checked} {os : Os} {f : FuncId} {fn : Func} {s : ChangeSpec} {conds : List PathCond} {apart fresh handsOn again : Bool} {X : World → Array Value → Prop}
    (hX : ∀ (w w' : World) (args : Array Value), w.heap = w'.heap → X w args → X w' args)
    (own : ownKnob C.prog.godebug = none) (started : os.Started) (noInit : C.prog.inits.idxOf? f = none) (hfn : C.prog.funcs[f]? = some fn)
    (witness : ∃ (w : World) (tape : Tape) (i : Input), w.os = os ∧ (w.forCall tape i).Shaped C.prog ∧ i.vars = [] ∧ Input.okWide C.prog (w.forCall tape i) .any w.heap.size f i ∧
      ((s.pre enc C.prog fn conds apart (w.forCall tape i).memory i.args ∧ X (w.forCall tape i).memory i.args) ∧ sizedMet enc C.prog fn (OpenSpec.ofChange s) apart (w.forCall tape i).memory i.args) ∧ a.holds C.prog (lone (Frame.enter C.prog f i.args .normal) [] (w.forCall tape i)))
    (contract : ∀ (W : World) (base : Nat) (args : Array Value) (ds gs : List (DataW H)) (before : List MemPlace),
      (∀ (j : Nat) t v, fn.params[j]? = some t → args[j]? = some v → Value.okWide C.prog W .any base t v) →
      DataW.Whole enc C.prog fn.params.toList s.vars apart W args.toList ds gs before → X W args → W.ShapedOpen C.prog →
      Calls C.prog f args W fun e W' => ∃ v, e = .returned v ∧ s.post enc C.prog fn apart fresh handsOn again W args v W') :
    ReturnsInHanded a C os f .any (fun w args => (s.pre enc C.prog fn conds apart w args ∧ X w args) ∧ sizedMet enc C.prog fn (OpenSpec.ofChange s) apart w args) (s.post enc C.prog fn apart fresh handsOn again) := by
  refine returnsInHanded_of_calls own started noInit witness ?_
  rintro w tape i _ shp _ ⟨_, _, _, g, hg, _, _, _, _, val⟩ ⟨⟨⟨ds, gs, before, whole, _⟩, hx⟩, _⟩ _
  have e : g = fn := Option.some.inj (hg.symm.trans hfn)
  rw [e] at val
  have c := contract (w.forCall tape i) w.heap.size i.args ds gs before val (DataW.Whole.of_heap (w' := w.forCall tape i) (by rfl) whole) (hX _ _ _ (by rfl) hx) shp
  refine c.mono ?_
  rintro e W' ⟨v, rfl, hp⟩
  exact ChangeSpec.post_blind hp
end
def litV : DataW Unit → Value
  | .lit (.int k n) => .int k n
  | .lit (.bool b) => .bool b
  | .lit (.string b) => .string ⟨b.toArray⟩
  | _ => .tuple #[]
def dataCells : Nat → DataW Unit → List Value
  | 0, _ => []
  | n + 1, d => match d with
    | .agg ds => ds.flatMap (dataCells n)
    | d => [litV d]
def layAt (h : Array Obj) (g : Nat) (d : DataW Unit) : Array Obj := h.modify g fun o => match o with
  | .cells _ t fr => .cells (dataCells 4 d).toArray t fr
  | o => o
def layAll (h : Array Obj) : List (Nat × DataW Unit) → Array Obj
  | [] => h
  | (g, d) :: l => layAll (layAt h g d) l
noncomputable def laidWorld (P : Program) (l : List (Nat × DataW Unit)) (os : Os) : World :=
  let w := World.holding P os ⟨#[], #[], []⟩
  { w with heap := layAll w.heap l }
theorem roRow_at {h : View} {g : Nat} : ∀ (row : Row) (o : Nat), (∀ (j : Nat) x, row[j]? = some x → ∃ v, h g (o + j) = some v ∧ ro h x v) → roRow h row g o
  | [], _, _ => trivial
  | x :: row, o, q => ⟨by simpa using q 0 x rfl, roRow_at row (o + 1) fun j y hj => by
      have := q (j + 1) y (by simpa using hj)
      rwa [show o + (j + 1) = o + 1 + j by omega] at this⟩
theorem strRow_of {P : Program} {w : World} {nm : String} {g t e n fuel : Nat} {cs : Array Value} {ss : List (List UInt8)} {p : List MemPlace} (hu : P.underlying t = some (.array n e)) (he : P.underlying e = some .string) (hc : P.cellsOf e = 1)
    (hg : P.globalNamed nm = some g) (hv : w.var? P nm = some cs) (h : DataW.trod (fun _ => ()) P w 0 (fun _ => true) false fuel t cs.toList = some (.agg (ss.map fun s => .lit (.string s)), p)) : roRow (full w) (ss.map D.str) g 0 := by
  obtain ⟨xs, m, rfl, hx, hcl, hxl, hel⟩ := DataW.trod_array hu h
  simp only [Prod.mk.injEq, DataW.agg.injEq] at hx
  refine roRow_at _ 0 fun j x hj => ?_
  rw [List.getElem?_map] at hj
  cases hs : ss[j]? with
  | none => rw [hs] at hj; cases hj
  | some s =>
    rw [hs] at hj
    cases hj
    have hjl : j < ss.length := (List.getElem?_eq_some_iff.1 hs).1
    have hlen : ss.length = xs.length := by
      have := congrArg List.length hx.1
      simpa using this
    obtain ⟨y, hy⟩ : ∃ y, xs[j]? = some y := ⟨xs[j]'(by omega), by simp⟩
    have hh := hel j (by omega)
    rw [hy] at hh
    obtain ⟨b, hb1, hb2, _⟩ := DataW.trod_string he hh
    have hyx : y.1 = .lit (.string s) := by
      have := congrArg (fun l => l[j]?) hx.1
      simp only [List.getElem?_map, hs, hy, Option.map_some, Option.some.injEq] at this
      exact this.symm
    rw [hb2] at hyx
    simp only [DataW.lit.injEq, Lit.string.injEq] at hyx
    rw [hc, Nat.mul_one] at hb1
    have hcell : cs[j]? = some (.string b) := by
      have := congrArg (fun l => l[0]?) hb1
      simpa using this
    refine ⟨.string b, ?_, ?_⟩
    · have := World.var?_cell hg hv j
      rw [Nat.zero_add]
      show w.cell? ⟨g, j, none⟩ = _
      rw [this]
      exact hcell
    · simp only [ro]
      rw [← hyx]
end Go.Vm
