/-
  The machine's calls are Go's, where the called function keeps to its contract.
-/
import Derived.Test.YtfbemlhfieemhaaVmOps12
namespace Go.Vm
open Go

def retV (gs : List Value) : Value := match gs with
  | [g] => g
  | gs => .tuple gs.toArray
def kindL : List Cell → List Cell → Prop
  | [], cs => cs = []
  | c :: cs, ds => ∃ d ds', ds = d :: ds' ∧ sameKind c d ∧ kindL cs ds'
theorem sameKind_trans {a b c : Cell} (h : sameKind a b) (k : sameKind b c) : sameKind a c := by
  cases a <;> cases b <;> cases c <;> simp only [sameKind] at h k ⊢
  · exact h.trans k
  · exact ⟨h.1, k.2.1, h.2.2.1.trans k.2.2.1, h.2.2.2.trans k.2.2.2⟩
theorem kinds_trans {m : Mem} : ∀ {rs : List Nat} {cs ds : List Cell}, kinds m rs cs → kindL cs ds → kinds m rs ds
  | [], cs, ds, h, k => by
    simp only [kinds] at h
    subst h
    exact k
  | r :: rs, cs, ds, h, k => by
    obtain ⟨c, c', cs', rfl, h1, h2, h3⟩ := h
    obtain ⟨d, ds', rfl, k1, k2⟩ := k
    exact ⟨c, d, ds', rfl, h1, sameKind_trans h2 k1, kinds_trans h3 k2⟩

/-- what a function is given -/
structure Given (X : Ctx) (base : Nat) (U : Nat → Prop) (w : World) (f : FuncId) (args : List V) (cells : List Cell) (gargs gcells : List Value) (N1 N2 : List Nat) : Prop where
  nd : (N1 ++ N2).Nodup
  lt : ∀ b, b ∈ N1 ++ N2 → b < w.heap.size ∧ base ≤ b ∧ U b
  up : ∀ b, w.heap.size ≤ b → U b
  bs : base ≤ w.heap.size
  args : mixS X.adv f (impμ gcells) (impMem 0 cells) (heapOf w) (view w U (· ∈ N1 ++ N2)) 0 args gargs N1
  cells : cellsB (heapOf w) (view w U (· ∈ N1 ++ N2)) cells gcells N2
/-- what it leaves -/
structure Did (P : Program) (U : Nat → Prop) (w w' : World) (N : List Nat) (ts : List TypeId) (cells outs : List Cell) (gcells : List Value) (rows : List Row) (gs : List Value) (M1 M2 : List Nat) : Prop where
  keep : Keep N w w'
  nd : (M1 ++ M2).Nodup
  mem : ∀ b, b ∈ M1 ++ M2 → (b ∈ N ∨ w.heap.size ≤ b) ∧ b < w'.heap.size
  kd : kindL cells outs
  cells : cellsB (heapOf w') (view w' U (· ∈ M1 ++ M2)) outs gcells M1
  res : retsS P (heapOf w') (view w' U (· ∈ M1 ++ M2)) ts rows gs M2
def Sound (X : Ctx) (K : Kont) : Prop := ∀ (f : FuncId) (fn : Func) (args : List V) (cells : List Cell) (rows : List Row) (outs : List Cell), X.P.funcs[f]? = some fn → fn.body.isSome = true → K f args cells = some (rows, outs) →
  ∀ (base : Nat) (U : Nat → Prop) (w : World) (gargs gcells : List Value) (N1 N2 : List Nat), Given X base U w f args cells gargs gcells N1 N2 →
    Calls X.P f gargs.toArray w fun e w' => ∃ gs M1 M2, e = .returned (retV gs) ∧ Did X.P U w w' (N1 ++ N2) fn.resultTypes.toList cells outs gcells rows gs M1 M2

section
variable {base : Nat} {U : Nat → Prop} {M0 : List Nat} {w0 w w' : World} {m m' : Mem} {G G' : GS} {X : Ctx}

theorem Gok.outs (hg : Gok base U w m G) {out : List Nat} (h : ∀ r, r ∈ G.out ↔ r ∈ out) : Gok base U w m { G with out := out } :=
  ⟨fun r c hc ho => hg.cell r c hc (fun hx => ho ((h r).1 hx)), hg.dj, hg.djE, hg.nd, hg.ndE, hg.lt, hg.up, hg.bs, hg.none_, fun r hr => hg.out_ r ((h r).2 hr)⟩

theorem cellsB_nil {H : Heap} {h : View} {gs : List Value} {N : List Nat} (q : cellsB H h [] gs N) : gs = [] ∧ N = [] := q

theorem callV_ok {K : Kont} (hK : Sound X K) (hA : At base U M0 w0 w m G) {fn dst f : Nat} {args : List V} {gargs : List Value} (hs : simVs G.μ m (Gh U w G) args gargs) {v : V} {l l' : Log} (h : (callV X K fn dst f args).run m l = some (v, m', l')) :
    (callFunc f gargs.toArray).run X.P w = .ok (.enter f gargs.toArray) w ∧
    Calls X.P f gargs.toArray w fun e w' => ∃ g G', e = .returned g ∧ Nx base U M0 w0 w m G w' m' G' ∧ simV G'.μ m' (Gh U w' G') v g := by
  simp only [callV] at h
  replace h := run_bind_some h; obtain ⟨g, m1, l1, h1, h⟩ := h
  obtain ⟨hf, rfl, rfl⟩ := run_op' h1
  replace h := run_bind_some h; obtain ⟨_, m1, l1, h1, h⟩ := h
  obtain ⟨hbody, rfl, rfl⟩ := run_ck h1
  simp only [Bool.and_eq_true, Bool.not_eq_true'] at hbody
  have hnone : g.body ≠ none := by
    intro hb
    simp [hb] at hbody
  have hnm : g.name ≠ "runtime.NumGoroutine" := by
    intro he
    simp [he] at hbody
  refine ⟨by simp [callFunc, hf, hnm, hnone], ?_⟩
  generalize himp : impArgs X.adv f 0 [] args = imp at h
  have hnd : imp.Nodup := by rw [← himp]; exact impArgs_nodup _ _ _ _ _ (by simp)
  replace h := run_bind_some h; obtain ⟨args1, m1, l1, h1, h⟩ := h
  obtain ⟨G1, N1, t1, q1⟩ := moveArgs_ok hA.ok hs hA.out h1
  have hout1 : G1.out = [] := t1.out.trans hA.out
  have hE1 : G1.E = N1 := by rw [t1.E, hA.E]; rfl
  replace h := run_bind_some h; obtain ⟨cells, m2, l2, h2, h⟩ := h
  obtain ⟨G2, N2, t2, q2, kd2⟩ := expAll_ok t1.ok hnd (fun r hr => ⟨hr, by rw [hout1]; simp⟩) (fun r hr => by rw [hout1] at hr; simp at hr) h2
  have hout2 : ∀ r, r ∈ G2.out ↔ r ∈ imp := fun r => by rw [t2.out, hout1]; simp
  have hE2 : G2.E = N1 ++ N2 := by rw [t2.E, hE1]
  have hkd : kinds m2 imp cells := kinds_of (fun r hr => t2.here r hr) kd2
  have hq1 := mixS_mono (A := X.adv) (f := f) t2.le.mem t2.le.view (H' := heapOf w) (fun _ _ => rfl) q1
  replace h := run_bind_some h; obtain ⟨⟨args2, lent⟩, m3, l3, h3, h⟩ := h
  have C : LendC base U w m2 G2 imp cells := ⟨t2.ok, hout2, hkd⟩
  obtain ⟨rfl, hq2⟩ := lendArgs_ok C hq1 h3
  have hq2 := hq2 lent (fun _ hr => hr)
  simp only at h
  replace h := run_bind_some h; obtain ⟨_, m4, l4, h4, h⟩ := h
  obtain ⟨hlent, rfl, rfl⟩ := run_ck h4
  have hlent : ∀ r, r ∈ lent → r ∉ imp := fun r hr => mem?_not (List.all_eq_true.1 hlent r hr)
  replace h := run_bind_some h; obtain ⟨⟨rows, outs⟩, m4, l4, h4, h⟩ := h
  obtain ⟨hKr, rfl, rfl⟩ := run_op' h4
  simp only at h
  replace h := run_bind_some h; obtain ⟨_, m4, l4, h4, h⟩ := h
  obtain ⟨hlen, rfl, rfl⟩ := run_ck h4
  have hgiven : Given X base (lendU U G2 lent) w f args2 cells gargs (imp.map G2.μ) N1 N2 := by
    refine ⟨by rw [← hE2]; exact t2.ok.ndE, ?_, ?_, t2.ok.bs, by rw [← hE2]; exact hq2, ?_⟩
    · intro b hb
      rw [← hE2] at hb
      have := t2.ok.lt b (.inl hb)
      exact ⟨this.1, this.2.1, this.2.2, fun r hr => absurd hb (t2.ok.djE r b hr)⟩
    · intro b hb
      exact ⟨t2.ok.up b hb, fun r hr => by have := (t2.ok.lt b (.inr ⟨r, hr⟩)).1; omega⟩
    · rw [← hE2, t2.μ]
      exact cellsB_grow lend_le q2
  refine Calls.mono (hK f g args2 cells rows outs hf hbody.1 hKr base _ w gargs _ N1 N2 hgiven) ?_
  rintro e w' ⟨gs, M1, M2, rfl, D⟩
  have hkeep : Keep G2.E w w' := by rw [hE2]; exact D.keep
  obtain ⟨k3, v3⟩ := t2.ok.world hkeep (E' := M1 ++ M2) D.nd (fun b hb => by rw [hE2]; exact D.mem b hb)
  generalize hneed : (!(lent.isEmpty) && (allAtts X.P (X.adv.att fn dst) 0 g.resultTypes.toList && imp.isEmpty)) = need at h
  replace h := run_bind_some h; obtain ⟨_, m4, l4, h4, h⟩ := h
  obtain ⟨hpure, rfl, rfl⟩ := run_ck h4
  replace h := run_bind_some h; obtain ⟨_, m4, l4, h4, h⟩ := h
  have hL : ∀ r, r ∈ (bif need then [] else lent) → r ∈ lent := by
    intro r hr
    cases need with
    | true => simp at hr
    | false => exact hr
  obtain ⟨F', k4, le4, f1, f2, f3⟩ := freeze_ok k3 (fun r hr => by
    show r ∉ G2.out
    rw [hout2]
    exact hlent r (hL r hr)) h4
  replace h := run_bind_some h; obtain ⟨_, m5, l5, h5, h⟩ := h
  have k4' := k4.outs (out := imp) hout2
  have hkd4 : kinds m4 imp (outs.drop 0) := by
    rw [List.drop_zero]
    exact kinds_of (fun r hr => f3 r (fun hx => hlent r (hL r hx) hr)) (kinds_trans hkd D.kd)
  have hview : need = false → (view w' (lendU U G2 lent) (· ∈ M1 ++ M2)).le (Gh U w' ⟨G2.μ, F', M1 ++ M2, imp⟩) := by
    intro hn b o x hx
    obtain ⟨p1, p2, p3⟩ := view_some hx
    refine view_mk p1.1 ?_ p3
    rintro (hb | ⟨r, hb⟩)
    · exact p2 hb
    · have hb : b ∈ F' r := hb
      rcases f2 r with hr | hr
      · rw [hr] at hb; simp at hb
      · have : b ∈ G2.F r := by rw [hr] at hb; exact hb
        have hrl := p1.2 r this
        have := f1 r (by rw [hn]; exact hrl)
        rw [this] at hb; simp at hb
  have hcells : cellsB (heapOf w') (Gh U w' ⟨G2.μ, F', M1 ++ M2, imp⟩) (outs.drop 0) (imp.map G2.μ) M1 := by
    rw [List.drop_zero]
    cases need with
    | false => exact cellsB_grow (hview rfl) D.cells
    | true =>
      simp only [Bool.and_eq_true, List.isEmpty_iff] at hneed
      have himp0 := hneed.2.2
      subst himp0
      have hc0 : cells = [] := by simpa [kinds] using hkd
      subst hc0
      have ho0 : outs = [] := D.kd
      subst ho0
      exact D.cells
  have hres : retsS X.P (heapOf w') (Gh U w' ⟨G2.μ, F', M1 ++ M2, imp⟩) g.resultTypes.toList rows gs M2 := by
    cases need with
    | false => exact retsS_mono (hview rfl) (fun _ _ => rfl) D.res
    | true => exact pure_retsS hpure D.res
  obtain ⟨G5, c5⟩ := reAll_ok k4' hnd rfl hkd4 (N := M1) (E := M2) (List.Perm.refl _) hcells h5
  replace h := run_bind_some h; obtain ⟨vs, m6, l6, h6, h⟩ := h
  obtain ⟨G6, c6, s6⟩ := resAll_ok (ri := 0) c5.ok (fun r hr => by rw [c5.out] at hr; simp at hr) (N := M2) (E := []) (by rw [c5.E]; simp) (by
    rw [List.drop_zero]
    exact retsS_mono c5.le.view (fun _ _ => rfl) hres) h6
  have hm6 : m' = m6 ∧ simV G6.μ m6 (Gh U w' G6) v (retV gs) := by
    have hlen6 := simVs_length s6
    split at h
    · simp only [run_pure, Option.some.injEq, Prod.mk.injEq] at h
      obtain ⟨rfl, rfl, _⟩ := h
      obtain ⟨g0, gs0, rfl, q1, q2⟩ := simVs_cons s6
      simp only [simVs] at q2
      subst q2
      exact ⟨rfl, q1⟩
    · rename_i hne
      simp only [run_pure, Option.some.injEq, Prod.mk.injEq] at h
      obtain ⟨rfl, rfl, _⟩ := h
      refine ⟨rfl, ?_⟩
      unfold retV
      split
      · rename_i g0
        cases vs with
        | nil => simp at hlen6
        | cons v0 vs =>
          cases vs with
          | nil => exact absurd rfl (hne v0)
          | cons _ _ => simp at hlen6
      · simp only [simV]
        exact ⟨_, rfl, by simpa using s6⟩
  obtain ⟨rfl, hsim⟩ := hm6
  have hexG : ∀ b, excl G2.F G2.E b → excl G.F G.E b := fun b hb => t1.le.ex b (t2.le.ex b hb)
  have hold : ∀ b, excl G2.F G2.E b → b ∈ M0 ∨ w0.heap.size ≤ b := fun b hb => hA.fr.fr b (hexG b hb)
  refine ⟨retV gs, G6, rfl, ⟨c6.ok, c6.E, c6.out.trans c5.out, ?_, ?_, ?_, ?_⟩, hsim⟩
  · have a1 := memLe_trans t1.le.mem t2.le.mem
    have a2 := memLe_trans a1 le4.mem
    exact memLe_trans (memLe_trans a2 c5.le.mem) c6.le.mem
  · exact (((t1.le.view.trans' t2.le.view).trans' v3).trans' le4.view).trans' (c5.le.view.trans' c6.le.view)
  · exact hA.fr.keep.trans hkeep (fun x hx => hold x (.inl hx))
  · intro b hb
    have hb := c5.le.ex b (c6.le.ex b hb)
    rcases hb with hb | ⟨r, hb⟩
    · rcases (D.mem b hb).1 with h' | h'
      · exact hold b (.inl (by rw [hE2]; exact h'))
      · exact .inr (Nat.le_trans hA.fr.keep.size h')
    · have hb : b ∈ F' r := hb
      rcases f2 r with hr | hr
      · have : F' r = [] := hr
        rw [this] at hb; simp at hb
      · exact hold b (.inr ⟨r, by have : F' r = G2.F r := hr; rw [← this]; exact hb⟩)
end
end Go.Vm
