/-
  The machine's operations are Go's: loads, stores, addresses, new boxes and arrays.
-/
import Derived.Test.YtfbemlhfieemhaaVmRuns
namespace Go.Vm
open Go

structure Fr (M0 : List Nat) (w0 w : World) (G : GS) : Prop where
  keep : Keep M0 w0 w
  fr : ∀ b, excl G.F G.E b → b ∈ M0 ∨ w0.heap.size ≤ b
/-- from one moment of a frame to the next -/
structure Nx (base : Nat) (U : Nat → Prop) (M0 : List Nat) (w0 w : World) (m : Mem) (G : GS) (w' : World) (m' : Mem) (G' : GS) : Prop where
  ok : Gok base U w' m' G'
  E : G'.E = []
  out : G'.out = []
  mem : memLe G.μ m G'.μ m'
  view : (Gh U w G).le (Gh U w' G')
  fr : Fr M0 w0 w' G'
/-- a frame at a moment -/
structure At (base : Nat) (U : Nat → Prop) (M0 : List Nat) (w0 w : World) (m : Mem) (G : GS) : Prop where
  ok : Gok base U w m G
  E : G.E = []
  out : G.out = []
  fr : Fr M0 w0 w G

theorem wp_value {P : Program} {o : Oper} {a : Act} {w w' : World} {K : Act → World → Prop} {Q : Exit → Act → World → Prop} {g : Value} (h : (execOp a.eval o).run P w = .ok (.value g) w') (hn : K (a.put o.dst g) w') : o.wp P a w K Q := by
  unfold Oper.wp
  rw [h]
  exact hn
theorem wp_skip {P : Program} {o : Oper} {a : Act} {w w' : World} {K : Act → World → Prop} {Q : Exit → Act → World → Prop} (h : (execOp a.eval o).run P w = .ok .skip w') (hn : K (a.put o.dst undef) w') : o.wp P a w K Q := by
  unfold Oper.wp
  rw [h]
  exact hn

section
variable {base : Nat} {U : Nat → Prop} {M0 : List Nat} {w0 w w' : World} {m m' : Mem} {G G' : GS} {P : Program}

theorem At.nx (h : At base U M0 w0 w m G) : Nx base U M0 w0 w m G w m G := ⟨h.ok, h.E, h.out, memLe_refl _ _, View.le_refl _, h.fr⟩
theorem Nx.at_ (h : Nx base U M0 w0 w m G w' m' G') : At base U M0 w0 w' m' G' := ⟨h.ok, h.E, h.out, h.fr⟩
theorem Nx.trans {w2 : World} {m2 : Mem} {G2 : GS} (h : Nx base U M0 w0 w m G w' m' G') (k : Nx base U M0 w0 w' m' G' w2 m2 G2) : Nx base U M0 w0 w m G w2 m2 G2 :=
  ⟨k.ok, k.E, k.out, memLe_trans h.mem k.mem, h.view.trans' k.view, k.fr⟩
theorem Nx.simV (h : Nx base U M0 w0 w m G w' m' G') {v : V} {g : Value} (q : simV G.μ m (Gh U w G) v g) : simV G'.μ m' (Gh U w' G') v g := simV_mono h.mem h.view v g q
theorem Nx.simVs (h : Nx base U M0 w0 w m G w' m' G') {v : List V} {g : List Value} (q : simVs G.μ m (Gh U w G) v g) : simVs G'.μ m' (Gh U w' G') v g := simVs_mono h.mem h.view v g q
theorem Fr.less (h : Fr M0 w0 w G) (hx : ∀ b, excl G'.F G'.E b → excl G.F G.E b) : Fr M0 w0 w G' := ⟨h.keep, fun b hb => h.fr b (hx b hb)⟩
/-- Go's memory has stood still -/
theorem At.still (h : At base U M0 w0 w m G) (hg : Gok base U w m' G') (hl : GLe m G m' G') (ho : G'.out = []) :
    Nx base U M0 w0 w m G w m' { G' with E := [] } := by
  obtain ⟨k1, k2⟩ := hg.less [] (by simp) (by simp)
  have := hl.trans k2
  exact ⟨k1, rfl, ho, this.mem, this.view, h.fr.less this.ex⟩

theorem simVs_append {μ : Nat → Value} {h : View} : ∀ {a b : List V} {g k : List Value}, simVs μ m h a g → simVs μ m h b k → simVs μ m h (a ++ b) (g ++ k)
  | [], b, g, k, ha, hb => by simp only [simVs] at ha; subst ha; simpa using hb
  | v :: a, b, g, k, ha, hb => by
    obtain ⟨g0, g', rfl, h1, h2⟩ := simVs_cons ha
    simp only [List.cons_append, simVs]
    exact ⟨g0, g' ++ k, rfl, h1, simVs_append h2 hb⟩
theorem simVs_drop {μ : Nat → Value} {h : View} : ∀ {a : List V} {g : List Value} (n : Nat), simVs μ m h a g → simVs μ m h (a.drop n) (g.drop n)
  | a, g, 0, ha => by simpa using ha
  | [], g, n + 1, ha => by simp only [simVs] at ha; subst ha; simp [simVs]
  | v :: a, g, n + 1, ha => by
    obtain ⟨g0, g', rfl, h1, h2⟩ := simVs_cons ha
    simpa using simVs_drop n h2
theorem simVs_take {μ : Nat → Value} {h : View} : ∀ {a : List V} {g : List Value} (n : Nat), simVs μ m h a g → simVs μ m h (a.take n) (g.take n)
  | a, g, 0, ha => by simp [simVs]
  | [], g, n + 1, ha => by simp only [simVs] at ha; subst ha; simp [simVs]
  | v :: a, g, n + 1, ha => by
    obtain ⟨g0, g', rfl, h1, h2⟩ := simVs_cons ha
    simp only [List.take_succ_cons, simVs]
    exact ⟨g0, g'.take n, rfl, h1, simVs_take n h2⟩
theorem simVs_part {μ : Nat → Value} {h : View} {a : List V} {g : List Value} (o n : Nat) (q : simVs μ m h a g) : simVs μ m h (part a o n) ((g.drop o).take n) := simVs_take n (simVs_drop o q)
theorem simVs_splice {μ : Nat → Value} {h : View} {a b : List V} {g k : List Value} (o : Nat) (q : simVs μ m h a g) (q' : simVs μ m h b k) : simVs μ m h (splice a o b) (splice g o k) := by
  have hl : k.length = b.length := simVs_length q'
  unfold splice
  rw [hl]
  exact simVs_append (simVs_append (simVs_take o q) q') (simVs_drop _ q)
theorem simVs_get {μ : Nat → Value} {h : View} : ∀ {a : List V} {g : List Value} {i : Nat} {v : V}, simVs μ m h a g → a[i]? = some v → ∃ x, g[i]? = some x ∧ simV μ m h v x
  | [], g, i, v, ha, hi => by simp at hi
  | v0 :: a, g, i, v, ha, hi => by
    obtain ⟨g0, g', rfl, h1, h2⟩ := simVs_cons ha
    cases i with
    | zero => simp at hi; subst hi; exact ⟨g0, rfl, h1⟩
    | succ i => simpa using simVs_get h2 (by simpa using hi)
theorem mkVal {t : TypeId} {vs : List V} {v : V} (h : ofCells P t vs = some v) {μ : Nat → Value} {hh : View} {cs : List Value} (hq : simVs μ m hh vs cs) : ∃ g, valOf P t cs g := by
  unfold ofCells at h
  unfold valOf
  cases ha : aggT P t with
  | true => exact ⟨_, by simp; rfl⟩
  | false =>
    simp only [ha, cond_false] at h
    split at h
    · obtain ⟨g', gs', e, q1, q2⟩ := simVs_cons hq
      simp only [simVs] at q2
      subst q2
      exact ⟨g', by simpa using e⟩
    · cases h

/-! ### values of one cell, and cells of a value -/
theorem oneCell_of_ro {h : View} {x : D} {g : Value} (q : ro h x g) : g.oneCell' = true := by
  cases x with
  | sl o s rows => simp only [ro] at q; obtain ⟨a, cap, rfl, _⟩ := q; rfl
  | _ => simp only [ro] at q; subst q; rfl
/-! ### loads -/
theorem nth_get {row : Row} {j : Nat} {x : D} (h : nth row j = x) (hx : x ≠ .nilf) : row[j]? = some x := by
  unfold nth at h
  cases hr : row[j]? with
  | none => rw [hr] at h; exact absurd h.symm hx
  | some y => rw [hr] at h; exact congrArg some h
theorem asRo_some {s : Nat} {x : D} {rows : List Row} (h : asRo s x = some rows) : ∃ o, x = .sl o s rows ∧ (o = false ∨ rows = []) := by
  cases x <;> simp [asRo] at h
  rename_i o s' rows'
  by_cases e : s' = s
  · subst e
    simp at h
    cases o with
    | false => simp at h; subst h; exact ⟨false, rfl, .inl rfl⟩
    | true =>
      cases rows' with
      | nil => simp at h; subst h; exact ⟨true, rfl, .inr rfl⟩
      | cons _ _ => simp at h
  · rw [beq_no e] at h; simp at h

theorem nCells_ok {strict : Bool} {row : Row} {μ : Nat → Value} {h : View} (cell : Nat → Option Value) (Rel : D → Value → Prop) (hrow : ∀ k x, row[k]? = some x → ∃ g, cell k = some g ∧ Rel x g)
    (hint : ∀ k n g, Rel (.int k n) g → g = .int k n) (hbool : ∀ b g, Rel (.bool b) g → g = .bool b) (hstr : ∀ s g, Rel (.str s) g → g = .string ⟨⟨s⟩⟩)
    (hsl : ∀ o s rs g, Rel (.sl o s rs) g → (strict = true → o = false ∨ rs = []) → ro h (.sl false s rs) g) :
    ∀ (cts : List CT) (j : Nat) (c : List V → Acc V) (m0 : Mem) (l : Log) (r : V × Mem × Log), (nCells strict cts row j c).run m0 l = some r →
      ∃ vs cs, (c vs).run m0 l = some r ∧ cs.length = cts.length ∧ simVs μ m h vs cs ∧ ∀ i g, cs[i]? = some g → cell (j + i) = some g
  | [], j, c, m0, l, r, hr => ⟨[], [], hr, rfl, by simp [simVs], by simp⟩
  | ct :: cts, j, c, m0, l, r, hr => by
    have go : ∀ (x : D) (y : V), nth row j = x → x ≠ .nilf → (∀ g, Rel x g → simV μ m h y g) → (nCells strict cts row (j + 1) fun vs => c (y :: vs)).run m0 l = some r →
        ∃ vs cs, (c vs).run m0 l = some r ∧ cs.length = (ct :: cts).length ∧ simVs μ m h vs cs ∧ ∀ i g, cs[i]? = some g → cell (j + i) = some g := by
      intro x y hx hxn hs hr
      obtain ⟨g, hg, hrel⟩ := hrow j x (nth_get hx hxn)
      obtain ⟨vs, cs, h1, h2, h3, h4⟩ := nCells_ok cell Rel hrow hint hbool hstr hsl cts (j + 1) _ m0 l r hr
      refine ⟨y :: vs, g :: cs, h1, by simp [h2], by simp only [simVs]; exact ⟨g, cs, rfl, hs g hrel, h3⟩, ?_⟩
      intro i g' hi
      cases i with
      | zero => simp at hi; subst hi; exact hg
      | succ i =>
        have := h4 i g' (by simpa using hi)
        rw [show j + (i + 1) = j + 1 + i from by omega]
        exact this
    cases ct with
    | int k =>
      simp only [nCells, Acc.run, cInt] at hr
      cases ha : asInt k (nth row j) with
      | none => simp [ha, Acc.run] at hr
      | some n =>
        simp only [ha, Acc.run] at hr
        exact go _ _ (asInt_some ha) (by simp) (fun g hg => by rw [hint _ _ g hg]; simp [simV, ro]) hr
    | bool =>
      simp only [nCells, Acc.run, cBool] at hr
      cases ha : asBool (nth row j) with
      | none => simp [ha, Acc.run] at hr
      | some n =>
        simp only [ha, Acc.run] at hr
        exact go _ _ (asBool_some ha) (by simp) (fun g hg => by rw [hbool _ g hg]; simp [simV, ro]) hr
    | str =>
      simp only [nCells, Acc.run, cStr] at hr
      cases ha : asStr (nth row j) with
      | none => simp [ha, Acc.run] at hr
      | some n =>
        simp only [ha, Acc.run] at hr
        exact go _ _ (asStr_some ha) (by simp) (fun g hg => by rw [hstr _ g hg]; simp [simV, ro]) hr
    | other => simp [nCells, Acc.run] at hr
    | sl s =>
      simp only [nCells, Acc.run, cRo, cSl] at hr
      cases strict with
      | true =>
        simp only [cond_true] at hr
        cases ha : asRo s (nth row j) with
        | none => simp [ha, Acc.run] at hr
        | some n =>
          simp only [ha, Acc.run] at hr
          obtain ⟨o, hx, ho⟩ := asRo_some ha
          exact go _ _ hx (by simp) (fun g hg => by simp only [simV]; exact hsl _ _ _ g hg (fun _ => ho)) hr
      | false =>
        simp only [cond_false] at hr
        cases ha : asSl s (nth row j) with
        | none => simp [ha, Acc.run] at hr
        | some n =>
          simp only [ha, Acc.run] at hr
          obtain ⟨o, hx⟩ := asSl_some ha
          exact go _ _ hx (by simp) (fun g hg => by simp only [simV]; exact hsl _ _ _ g hg (fun h => by cases h)) hr

theorem roRow_get {h : View} {b : Nat} : ∀ {r : Row} {o k : Nat} {x : D}, roRow h r b o → r[k]? = some x → ∃ g, h b (o + k) = some g ∧ ro h x g
  | [], _, _, _, _, hk => by simp at hk
  | y :: r, o, 0, x, q, hk => by
    simp only [roRow] at q
    simp at hk; subst hk
    simpa using q.1
  | y :: r, o, k + 1, x, q, hk => by
    simp only [roRow] at q
    have := roRow_get q.2 (by simpa using hk)
    rwa [show o + (k + 1) = o + 1 + k from by omega]
theorem seenRow_get {h : View} : ∀ {r : Row} {cs : List Value} {k : Nat} {x : D}, seenRow h r cs → r[k]? = some x → ∃ g, cs[k]? = some g ∧ ro h x g
  | [], _, _, _, _, hk => by simp at hk
  | y :: r, cs, 0, x, ⟨v, cs', e, h1, h2⟩, hk => by simp at hk; subst hk; subst e; exact ⟨v, rfl, h1⟩
  | y :: r, cs, k + 1, x, ⟨v, cs', e, h1, h2⟩, hk => by subst e; simpa using seenRow_get h2 (by simpa using hk)
theorem owRow_get {H : Heap} {h : View} : ∀ {r : Row} {cs : List Value} {N : List Nat} {k : Nat} {x : D}, owRow H h r cs N → r[k]? = some x → ∃ g N1, cs[k]? = some g ∧ ow H h x g N1
  | [], _, _, _, _, _, hk => by simp at hk
  | y :: r, cs, N, 0, x, q, hk => by
    obtain ⟨v, cs', N1, N2, rfl, rfl, h1, h2⟩ := owRow_cons q
    simp at hk; subst hk; exact ⟨v, N1, rfl, h1⟩
  | y :: r, cs, N, k + 1, x, q, hk => by
    obtain ⟨v, cs', N1, N2, rfl, rfl, h1, h2⟩ := owRow_cons q
    simpa using owRow_get h2 (by simpa using hk)
theorem roRows_get {h : View} {s b : Nat} : ∀ {rs : List Row} {o k : Nat} {r : Row}, roRows h s rs b o → rs[k]? = some r → r.length = s ∧ roRow h r b (o + k * s)
  | [], _, _, _, _, hk => by simp at hk
  | y :: rs, o, 0, x, q, hk => by
    simp only [roRows] at q
    simp at hk; subst hk
    simpa using ⟨q.1, q.2.1⟩
  | y :: rs, o, k + 1, x, q, hk => by
    simp only [roRows] at q
    have := roRows_get q.2.2 (by simpa using hk)
    rwa [show o + (k + 1) * s = o + s + k * s from by rw [Nat.add_mul]; omega]
theorem seenRows_get {h : View} {s : Nat} : ∀ {rs : List Row} {cs : List Value} {k : Nat} {r : Row}, seenRows h s rs cs → rs[k]? = some r → r.length = s ∧ seenRow h r (cs.drop (k * s))
  | [], _, _, _, _, hk => by simp at hk
  | y :: rs, cs, 0, x, q, hk => by
    simp at hk; subst hk
    simpa using ⟨q.1, q.2.1⟩
  | y :: rs, cs, k + 1, x, q, hk => by
    have := seenRows_get q.2.2 (by simpa using hk)
    rw [List.drop_drop] at this
    rwa [show (k + 1) * s = s + k * s from by rw [Nat.add_mul]; omega]
theorem owRows_get {H : Heap} {h : View} {s : Nat} : ∀ {rs : List Row} {cs : List Value} {N : List Nat} {k : Nat} {r : Row}, owRows H h s rs cs N → rs[k]? = some r → r.length = s ∧ ∃ N1, owRow H h r (cs.drop (k * s)) N1
  | [], _, _, _, _, _, hk => by simp at hk
  | y :: rs, cs, N, 0, x, q, hk => by
    simp only [owRows] at q
    obtain ⟨h1, N1, N2, rfl, h2, h3⟩ := q
    simp at hk; subst hk
    exact ⟨h1, N1, by simpa using h2⟩
  | y :: rs, cs, N, k + 1, x, q, hk => by
    simp only [owRows] at q
    obtain ⟨h1, N1, N2, rfl, h2, h3⟩ := q
    have := owRows_get h3 (by simpa using hk)
    rw [List.drop_drop] at this
    rwa [show (k + 1) * s = s + k * s from by rw [Nat.add_mul]; omega]

/-- what stands in a row of an array of one's own -/
theorem arr_row {h : View} {fz fl : Bool} {ver s : Nat} {rows : List Row} {r i : Nat} {row : Row} {N : List Nat} (hq : simCell G.μ m (heapOf w) h r (.arr fz fl ver s rows) N) (hl : h.le (full w)) (hi : rows[i]? = some row) :
    ∃ b o cap, G.μ r = .slice (some ⟨b, o, none⟩) rows.length cap ∧ (fz = false → o = 0) ∧ row.length = s ∧
      ∃ Rel : D → Value → Prop, (∀ k x, row[k]? = some x → ∃ g, full w b (o + i * s + k) = some g ∧ Rel x g) ∧
      (∀ k n g, Rel (.int k n) g → g = .int k n) ∧ (∀ b g, Rel (.bool b) g → g = .bool b) ∧ (∀ s g, Rel (.str s) g → g = .string ⟨⟨s⟩⟩) ∧
      (∀ o s rs g, Rel (.sl o s rs) g → (o = false ∨ rs = []) → ro h (.sl false s rs) g) := by
  have hne : rows ≠ [] := by intro e; subst e; simp at hi
  cases fz with
  | true =>
    obtain ⟨h1, _⟩ := hq
    simp only [ro] at h1
    obtain ⟨a, cap, h2, h3, h4⟩ := h1
    obtain ⟨b, o, rfl, h5⟩ := h4 hne
    obtain ⟨h6, h7⟩ := roRows_get h5 hi
    refine ⟨b, o, cap, h2, by simp, h6, ro h, fun k x hk => ?_, ?_, ?_, ?_, ?_⟩
    · obtain ⟨g, hg1, hg2⟩ := roRow_get h7 hk
      exact ⟨g, hl _ _ _ hg1, hg2⟩
    · intro k n g hg; simpa [ro] using hg
    · intro b g hg; simpa [ro] using hg
    · intro s g hg; simpa [ro] using hg
    · intro o s rs g hg _; exact ro_own hg
  | false =>
    simp only [simCell] at hq
    rcases hq with ⟨rfl, _, _⟩ | ⟨b, cap, cs, t, N', h1, h2, h3, h4, h5, _⟩
    · exact absurd rfl hne
    · have hfull : ∀ k g, (cs.toList.drop (i * s))[k]? = some g → full w b (0 + i * s + k) = some g := by
        intro k g hg
        rw [List.getElem?_drop] at hg
        rw [full_cell h3, Nat.zero_add]
        exact hg
      cases fl with
      | true =>
        obtain ⟨h6, h7⟩ := seenRows_get h5.1 hi
        refine ⟨b, 0, cap, h1, by simp, h6, ro h, fun k x hk => ?_, ?_, ?_, ?_, ?_⟩
        · obtain ⟨g, hg1, hg2⟩ := seenRow_get h7 hk
          exact ⟨g, hfull k g hg1, hg2⟩
        · intro k n g hg; simpa [ro] using hg
        · intro b g hg; simpa [ro] using hg
        · intro s g hg; simpa [ro] using hg
        · intro o s rs g hg _; exact ro_own hg
      | false =>
        obtain ⟨h6, N1, h7⟩ := owRows_get h5 hi
        refine ⟨b, 0, cap, h1, by simp, h6, fun x g => ∃ N, ow (heapOf w) h x g N, fun k x hk => ?_, ?_, ?_, ?_, ?_⟩
        · obtain ⟨g, N2, hg1, hg2⟩ := owRow_get h7 hk
          exact ⟨g, hfull k g hg1, N2, hg2⟩
        · rintro k n g ⟨N, hg⟩; simp only [ow] at hg; exact hg.1
        · rintro b g ⟨N, hg⟩; simp only [ow] at hg; exact hg.1
        · rintro s g ⟨N, hg⟩; simp only [ow] at hg; exact hg.1
        · rintro o s rs g ⟨N, hg⟩ ho
          cases o with
          | false => simp only [ow] at hg; exact hg.2
          | true =>
            rcases ho with ho | rfl
            · cases ho
            · simp only [ow] at hg
              rcases hg with ⟨_, rfl, _⟩ | ⟨b, cap, cs, t, N', e1, e2, _⟩
              · simp [ro]
              · simp only [ro]; exact ⟨_, cap, e1, by simp, fun e => absurd rfl e⟩

theorem loadV_ok (hA : At base U M0 w0 w m G) {t : TypeId} {a : V} {ga : Value} (ha : simV G.μ m (Gh U w G) a ga) {v : V} {l l' : Log} (h : (loadV P t a).run m l = some (v, m', l')) :
    ∃ g, (Instr.loadAt t ga).run P w = .ok g w ∧ m' = m ∧ simV G.μ m (Gh U w G) v g := by
  simp only [loadV] at h
  replace h := run_bind_some h; obtain ⟨_, m1, l1, h1, h⟩ := h
  obtain ⟨hok, rfl, rfl⟩ := run_ck h1
  simp only [Bool.and_eq_true] at hok
  obtain ⟨hok, hsz⟩ := hok
  have hsz := Nat.eq_of_beq_eq_true hsz
  cases a with
  | ptr r off =>
    simp only at h
    replace h := run_bind_some h; obtain ⟨c, m2, l2, h2, h⟩ := h
    rw [run_rd] at h2
    cases h2
    cases hc : get r m1 with
    | none => rw [hc] at h; exact (run_fail h).elim
    | some c =>
      rw [hc] at h
      cases c with
      | arr _ _ _ _ _ => exact (run_fail h).elim
      | dead => exact (run_fail h).elim
      | box T cs =>
        simp only at h
        replace h := run_bind_some h; obtain ⟨_, m2, l2, h2, h⟩ := h
        obtain ⟨hfit, rfl, rfl⟩ := run_ck h2
        obtain ⟨hv, rfl, rfl⟩ := run_op' h
        simp only [simV, hc] at ha
        obtain ⟨_, b, hμ, rfl⟩ := ha
        obtain ⟨b', arr, e1, e2, e3, e4⟩ := hA.ok.cell r _ hc (by rw [hA.out]; simp)
        rw [hμ] at e1
        cases e1
        have hp := simVs_part off (szT P t) e3
        have hlen : arr.size = cs.length := by simpa using simVs_length e3
        have hfit := Nat.le_of_ble_eq_true hfit
        obtain ⟨g, hg⟩ := mkVal hv hp
        refine ⟨g, run_loadAt hok (by simp; omega) ?_ hg, rfl, ofCells_ok hv hp hg⟩
        intro j x hj
        have hj' : j < szT P t := by
          have := (List.getElem?_eq_some_iff.1 hj).1
          simp at this
          omega
        rw [List.getElem?_take, if_pos hj', List.getElem?_drop] at hj
        have := full_cell (w := w) e2 (off + j)
        rw [hj] at this
        exact this
  | rptr row off =>
    simp only at h
    simp only [simV] at ha
    obtain ⟨b, o, rfl, hrow⟩ := ha
    obtain ⟨vs, cs, h2, h3, h4, h5⟩ := nCells_ok (m := m1) (μ := G.μ) (h := Gh U w G) (fun k => Gh U w G b (o + k)) (ro (Gh U w G)) (fun k x hk => roRow_get hrow hk)
      (fun k n g hg => by simpa [ro] using hg) (fun b g hg => by simpa [ro] using hg) (fun s g hg => by simpa [ro] using hg) (fun _ s rs g hg _ => ro_own hg) _ _ _ _ _ _ h
    obtain ⟨hv, rfl, rfl⟩ := run_op' h2
    obtain ⟨g, hg⟩ := mkVal hv h4
    refine ⟨g, run_loadAt hok (by rw [h3, hsz]) ?_ hg, rfl, ofCells_ok hv h4 hg⟩
    intro j x hj
    have := h5 j x hj
    rw [Nat.add_assoc]
    exact view_le_full _ _ _ _ _ _ this
  | eptr r ver i off =>
    simp only at h
    replace h := run_bind_some h; obtain ⟨c, m2, l2, h2, h⟩ := h
    rw [run_rd] at h2
    cases h2
    cases hc : get r m1 with
    | none => rw [hc] at h; exact (run_fail h).elim
    | some c =>
      rw [hc] at h
      cases c with
      | box _ _ => exact (run_fail h).elim
      | dead => exact (run_fail h).elim
      | arr fz fl ver' s rows =>
        simp only at h
        replace h := run_bind_some h; obtain ⟨_, m2, l2, h2, h⟩ := h
        obtain ⟨hb, rfl, rfl⟩ := run_ck h2
        have hb := Nat.eq_of_beq_eq_true hb
        subst hb
        replace h := run_bind_some h; obtain ⟨row, m2, l2, h2, h⟩ := h
        obtain ⟨hrow, rfl, rfl⟩ := run_op' h2
        simp only [simV, hc] at ha
        obtain ⟨b, n, cap, hμ, rfl⟩ := ha.2.2 trivial
        have hcell := hA.ok.cell r _ hc (by rw [hA.out]; simp)
        obtain ⟨b', o, cap', e1, e2, e3, Rel, q1, q2, q3, q4, q5⟩ := arr_row hcell (view_le_full _ _ _) hrow
        rw [hμ] at e1
        simp only [Value.slice.injEq, Option.some.injEq, Addr.mk.injEq] at e1
        obtain ⟨⟨rfl, ho, _⟩, _, _⟩ := e1
        subst ho
        obtain ⟨vs, cs, h2, h3, h4, h5⟩ := nCells_ok (m := _) (μ := G.μ) (h := Gh U w G) (fun k => full w b (0 + i * s + k)) Rel q1 q2 q3 q4 (fun o s rs g hg hs => q5 o s rs g hg (hs rfl)) _ _ _ _ _ _ h
        obtain ⟨hv, rfl, rfl⟩ := run_op' h2
        obtain ⟨g, hg⟩ := mkVal hv h4
        refine ⟨g, run_loadAt hok (by rw [h3, hsz]) ?_ hg, rfl, ofCells_ok hv h4 hg⟩
        intro j x hj
        have := h5 j x hj
        rw [show i * s + off + j = 0 + i * s + (off + j) from by omega]
        exact this
  | d _ => exact (run_fail h).elim
  | nil _ => exact (run_fail h).elim
  | own _ _ => exact (run_fail h).elim
  | clo _ _ _ => exact (run_fail h).elim
  | agg _ => exact (run_fail h).elim
  | tup _ => exact (run_fail h).elim
  | undef => exact (run_fail h).elim
end
end Go.Vm
