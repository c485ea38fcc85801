/-
  The machine's steps on its cells: what comes back from a call.
-/
import Derived.Test.YtfbemlhfieemhaaVmGhost4
namespace Go.Vm
open Go

theorem view_some {w : World} {U X : Nat → Prop} {b o : Nat} {v : Value} (h : view w U X b o = some v) : U b ∧ ¬ X b ∧ w.cell? ⟨b, o, none⟩ = some v := by
  unfold view at h
  split at h
  · rename_i hc; exact ⟨hc.1, hc.2, h⟩
  · cases h
theorem view_mk {w : World} {U X : Nat → Prop} {b o : Nat} {v : Value} (h1 : U b) (h2 : ¬ X b) (h3 : w.cell? ⟨b, o, none⟩ = some v) : view w U X b o = some v := by
  unfold view
  rw [if_pos ⟨h1, h2⟩]
  exact h3
theorem cell_of_heap {w w' : World} {b : Nat} (h : w'.heap[b]? = w.heap[b]?) (o : Nat) : w'.cell? ⟨b, o, none⟩ = w.cell? ⟨b, o, none⟩ := by simp [World.cell?, h]
theorem lt_of_cell {w : World} {b o : Nat} {v : Value} (h : w.cell? ⟨b, o, none⟩ = some v) : b < w.heap.size := by
  have := block_lt_of_cell h
  simpa using this

section
variable {base : Nat} {U : Nat → Prop} {w w' : World} {m : Mem} {G : GS}

/-- Go's memory turns; what is in hand is another -/
theorem Gok.world (hg : Gok base U w m G) (hk : Keep G.E w w') {E' : List Nat} (hn : E'.Nodup) (hE : ∀ b, b ∈ E' → (b ∈ G.E ∨ w.heap.size ≤ b) ∧ b < w'.heap.size) :
    Gok base U w' m { G with E := E' } ∧ (Gh U w G).le (Gh U w' { G with E := E' }) := by
  have hnE : ∀ b, b < w.heap.size → b ∉ G.E → b ∉ E' := fun b hb hx he => by
    rcases (hE b he).1 with h | h
    · exact hx h
    · omega
  have hF : ∀ r b, b ∈ G.F r → w'.heap[b]? = w.heap[b]? := fun r b hb => hk.block b (hg.lt b (.inr ⟨r, hb⟩)).1 (hg.djE r b hb)
  have hle : (Gh U w G).le (Gh U w' { G with E := E' }) := by
    intro b o v hv
    obtain ⟨h1, h2, h3⟩ := view_some hv
    have hlt := lt_of_cell h3
    have hbE : b ∉ G.E := fun h => h2 (.inl h)
    refine view_mk h1 ?_ ((cell_of_heap (hk.block b hlt hbE) o).trans h3)
    rintro (h | h)
    · exact hnE b hlt hbE h
    · exact h2 (.inr h)
  refine ⟨⟨?_, hg.dj, fun r b hb => hnE b (hg.lt b (.inr ⟨r, hb⟩)).1 (hg.djE r b hb), hg.nd, hn, ?_, fun b hb => hg.up b (Nat.le_trans hk.size hb), Nat.le_trans hg.bs hk.size, hg.none_, hg.out_⟩, hle⟩
  · intro r c hc ho
    exact simCell_mono (memLe_refl _ _) hle rfl (fun b hb => hF r b hb) (hg.cell r c hc ho)
  · rintro b (h | ⟨r, h⟩)
    · refine ⟨(hE b h).2, ?_⟩
      rcases (hE b h).1 with h' | h'
      · exact (hg.lt b (.inl h')).2
      · exact ⟨Nat.le_trans hg.bs h', hg.up b h'⟩
    · have := hg.lt b (.inr ⟨r, h⟩)
      exact ⟨Nat.lt_of_lt_of_le this.1 hk.size, this.2⟩

theorem freeze_ok : ∀ {L : List Nat} {m : Mem} {G : GS} (_ : Gok base U w m G) (_ : ∀ r, r ∈ L → r ∉ G.out) {x : Unit} {m' : Mem} {l l' : Log} (_ : (freeze L).run m l = some (x, m', l')),
    ∃ F', Gok base U w m' ⟨G.μ, F', G.E, G.out⟩ ∧ GLe m G m' ⟨G.μ, F', G.E, G.out⟩ ∧ (∀ r, r ∈ L → F' r = []) ∧ (∀ r, F' r = [] ∨ F' r = G.F r) ∧ (∀ k, k ∉ L → get k m' = get k m)
  | [], m, G, hg, ho, x, m', l, l', h => by
    simp only [Vm.freeze, run_pure, Option.some.injEq, Prod.mk.injEq] at h
    obtain ⟨_, rfl, rfl⟩ := h
    exact ⟨G.F, hg, GLe.refl _ _, by simp, fun r => .inr rfl, fun _ _ => rfl⟩
  | r :: L, m, G, hg, ho, x, m', l, l', h => by
    simp only [Vm.freeze] at h
    replace h := run_bind_some h; obtain ⟨c, m1, l1, h1, h⟩ := h
    rw [run_rd] at h1
    cases h1
    cases hc : get r m with
    | none => rw [hc] at h; exact (run_fail h).elim
    | some c =>
      rw [hc] at h
      cases c with
      | box _ _ => exact (run_fail h).elim
      | dead => exact (run_fail h).elim
      | arr fz fl ver s rows =>
        replace h := run_bind_some h; obtain ⟨_, m1, l1, h1, h⟩ := h
        simp only [run_wr, Option.some.injEq, Prod.mk.injEq] at h1
        obtain ⟨_, rfl, rfl⟩ := h1
        obtain ⟨k1, k2, _⟩ := hg.freeze hc (ho r (by simp))
        obtain ⟨F', q1, q2, q3, q4, q5⟩ := freeze_ok k1 (fun k hk => ho k (by simp [hk])) h
        refine ⟨F', q1, k2.trans q2, ?_, ?_, ?_⟩
        · intro k hk
          simp only [List.mem_cons] at hk
          rcases hk with rfl | hk
          · rcases q4 k with e | e
            · exact e
            · rw [e]; simp
          · exact q3 k hk
        · intro k
          rcases q4 k with e | e
          · exact .inl e
          · by_cases ek : k = r
            · subst ek; rw [e]; left; simp
            · have e' : F' k = upF G.F r [] k := e
              rw [e', upF_other _ ek]; exact .inr rfl
        · intro k hk
          simp only [List.mem_cons, not_or] at hk
          rw [q5 k hk.2, get_put_other hk.1]

/-! ### cells that come back -/
theorem asInt_some {k : IntKind} {x : D} {n : Int} (h : asInt k x = some n) : x = .int k n := by
  cases x <;> simp [asInt] at h
  rename_i k' n'
  by_cases e : k' = k
  · subst e; simp at h; subst h; rfl
  · simp [e] at h
theorem asBool_some {x : D} {b : Bool} (h : asBool x = some b) : x = .bool b := by
  cases x <;> simp [asBool] at h; subst h; rfl
theorem asStr_some {x : D} {b : List UInt8} (h : asStr x = some b) : x = .str b := by
  cases x <;> simp [asStr] at h; subst h; rfl
theorem asSl_some {s : Nat} {x : D} {rows : List Row} (h : asSl s x = some rows) : ∃ o, x = .sl o s rows := by
  cases x <;> simp [asSl] at h
  rename_i o s' rows'
  by_cases e : s' = s
  · subst e; simp at h; subst h; exact ⟨o, rfl⟩
  · rw [beq_no e] at h; simp at h
theorem asOwn_some {s : Nat} {x : D} {rows : List Row} (h : asOwn s x = some rows) : x = .sl true s rows := by
  cases x <;> simp [asOwn] at h
  rename_i o s' rows'
  cases o <;> simp at h
  by_cases e : s' = s
  · subst e; simp at h; subst h; rfl
  · rw [beq_no e] at h; simp at h
theorem nth_cons (x : D) (r : Row) (j : Nat) : nth (x :: r) (j + 1) = nth r j := by simp [nth]
theorem nth_drop {row : Row} {j : Nat} {x : D} {r : Row} (h : row.drop j = x :: r) : nth row j = x ∧ row.drop (j + 1) = r := by
  have h1 : row[j]? = some x := by
    have : (row.drop j)[0]? = some x := by rw [h]; rfl
    rwa [List.getElem?_drop, Nat.add_zero] at this
  refine ⟨by simp [nth, h1], ?_⟩
  rw [← List.drop_drop, h]
  rfl

theorem Gok.dropN (hg : Gok base U w m G) {N E : List Nat} (hE : (N ++ E).Perm G.E) : Gok base U w m { G with E := E } ∧ GLe m G m { G with E := E } ∧ ∀ {x : D} {g : Value}, ow (heapOf w) (Gh U w G) x g N → ro (Gh U w { G with E := E }) x g := by
  have hnd := hE.nodup_iff.2 hg.ndE
  have hmem : ∀ b, b ∈ N ++ E → b ∈ G.E := fun b hb => hE.mem_iff.1 hb
  obtain ⟨h1, h2⟩ := hg.less E (List.nodup_append.1 hnd).2.1 (fun b hb => hmem b (by simp [hb]))
  refine ⟨h1, h2, fun {x g} q => ow_ro h2.view x g N (sees_view fun b hb => ⟨(hg.lt b (.inl (hmem b (by simp [hb])))).2.2, ?_⟩) q⟩
  rintro (h | ⟨r, h⟩)
  · exact (List.nodup_append.1 hnd).2.2 b hb b h rfl
  · exact hg.djE r b h (hmem b (by simp [hb]))

/-- a step that leaves all cells there were -/
structure Grew (base : Nat) (U : Nat → Prop) (w : World) (m : Mem) (G : GS) (m' : Mem) (G' : GS) (E : List Nat) : Prop where
  ok : Gok base U w m' G'
  le : GLe m G m' G'
  E : G'.E = E
  out : G'.out = G.out
  old : ∀ k c, get k m = some c → get k m' = some c
  μ : ∀ k c, get k m = some c → G'.μ k = G.μ k
theorem Grew.trans {m1 m2 m3 : Mem} {G1 G2 G3 : GS} {E E' : List Nat} (a : Grew base U w m1 G1 m2 G2 E) (b : Grew base U w m2 G2 m3 G3 E') : Grew base U w m1 G1 m3 G3 E' :=
  ⟨b.ok, a.le.trans b.le, b.E, b.out.trans a.out, fun k c h => b.old k c (a.old k c h), fun k c h => (b.μ k c (a.old k c h)).trans (a.μ k c h)⟩

theorem run_new {k : Nat} {c : Cell} {x : Unit} {m' : Mem} {l l' : Log} (h : (new k c).run m l = some (x, m', l')) : get k m = none ∧ m' = put k c m := by
  simp only [new] at h
  replace h := run_bind_some h; obtain ⟨_, m1, l1, h1, h⟩ := h
  simp only [free] at h1
  replace h1 := run_bind_some h1; obtain ⟨c', m2, l2, h2, h1⟩ := h1
  rw [run_rd] at h2
  cases h2
  cases hc : get k m with
  | some c => rw [hc] at h1; exact (run_fail h1).elim
  | none =>
    rw [hc] at h1
    simp only [run_pure, Option.some.injEq, Prod.mk.injEq] at h1
    obtain ⟨_, rfl, rfl⟩ := h1
    simp only [run_wr, Option.some.injEq, Prod.mk.injEq] at h
    exact ⟨rfl, h.2.1.symm⟩

/-- an owned slice that comes back becomes an array -/
theorem newArr_ok (hg : Gok base U w m G) (ho : ∀ r, r ∈ G.out → ∃ c, get r m = some c) {k : Nat} {fl : Bool} {s : Nat} {rows : List Row} {g : Value} {N E : List Nat} (hE : (N ++ E).Perm G.E)
    (hq : ow (heapOf w) (Gh U w G) (.sl true s rows) g N) {x : Unit} {m' : Mem} {l l' : Log} (h : (new k (.arr false fl 0 s rows)).run m l = some (x, m', l')) :
    ∃ G', Grew base U w m G m' G' E ∧ simV G'.μ m' (Gh U w G') (.own k 0) g := by
  obtain ⟨hn, rfl⟩ := run_new h
  have hk : k ∉ G.out := fun hx => by obtain ⟨c, hc⟩ := ho k hx; rw [hn] at hc; cases hc
  obtain ⟨F', h1, h2⟩ := hg.newArr fl hn hk hE hq
  refine ⟨_, ⟨h1, h2, rfl, rfl, fun j c hj => ?_, fun j c hj => ?_⟩, ?_⟩
  · have hne : j ≠ k := fun e => by subst e; rw [hn] at hj; cases hj
    rw [get_put_other hne]; exact hj
  · exact upM_other _ (fun e => by subst e; rw [hn] at hj; cases hj)
  · have : isSl g := by
      simp only [ow] at hq
      rcases hq with ⟨_, rfl, _⟩ | ⟨b, cap, cs, t, N', rfl, _⟩ <;> exact ⟨_, _, _, rfl⟩
    simp [simV, get_put_same, this]

/-- one cell that comes back, by its type -/
theorem backCell_ok (hg : Gok base U w m G) (ho : ∀ r, r ∈ G.out → ∃ c, get r m = some c) {row : Row} {j : Nat} {x : D} {g : Value} {N E : List Nat} (hE : (N ++ E).Perm G.E) (hx : nth row j = x)
    (hq : ow (heapOf w) (Gh U w G) x g N) {ct : CT} {own fl : Bool} {key : Nat} {v : V} {m' : Mem} {l l' : Log}
    (h : (backCell own fl key row j ct).run m l = some (v, m', l')) :
    ∃ G', Grew base U w m G m' G' E ∧ simV G'.μ m' (Gh U w G') v g := by
  obtain ⟨d1, d2, d3⟩ := hg.dropN hE
  have plain : Grew base U w m G m { G with E := E } E := ⟨d1, d2, rfl, rfl, fun _ _ h => h, fun _ _ _ => rfl⟩
  have hro := d3 hq
  cases ct with
  | int k =>
    simp only [backCell, cInt, hx, Acc.run] at h
    cases ha : asInt k x with
    | none => simp [ha, Acc.run] at h
    | some n =>
      simp only [ha, Acc.run, Option.some.injEq, Prod.mk.injEq] at h
      obtain ⟨rfl, rfl, rfl⟩ := h
      refine ⟨_, plain, ?_⟩
      rw [asInt_some ha] at hro
      simpa [simV] using hro
  | bool =>
    simp only [backCell, cBool, hx, Acc.run] at h
    cases ha : asBool x with
    | none => simp [ha, Acc.run] at h
    | some n =>
      simp only [ha, Acc.run, Option.some.injEq, Prod.mk.injEq] at h
      obtain ⟨rfl, rfl, rfl⟩ := h
      refine ⟨_, plain, ?_⟩
      rw [asBool_some ha] at hro
      simpa [simV] using hro
  | str =>
    simp only [backCell, cStr, hx, Acc.run] at h
    cases ha : asStr x with
    | none => simp [ha, Acc.run] at h
    | some n =>
      simp only [ha, Acc.run, Option.some.injEq, Prod.mk.injEq] at h
      obtain ⟨rfl, rfl, rfl⟩ := h
      refine ⟨_, plain, ?_⟩
      rw [asStr_some ha] at hro
      simpa [simV] using hro
  | other => exact (run_fail h).elim
  | sl s =>
    cases own with
    | false =>
      simp only [backCell, cSl, hx, Acc.run] at h
      cases ha : asSl s x with
      | none => simp [ha, Acc.run] at h
      | some n =>
        simp only [ha, Acc.run, Option.some.injEq, Prod.mk.injEq] at h
        obtain ⟨rfl, rfl, rfl⟩ := h
        refine ⟨_, plain, ?_⟩
        obtain ⟨o, rfl⟩ := asSl_some ha
        simp only [simV]
        exact ro_vw hro
    | true =>
      simp only [backCell, cOwn, hx, Acc.run] at h
      cases ha : asOwn s x with
      | none => simp [ha, Acc.run] at h
      | some n =>
        simp only [ha, Acc.run] at h
        have := asOwn_some ha
        subst this
        replace h := run_bind_some h; obtain ⟨_, m1, l1, h1, h⟩ := h
        simp only [run_pure, Option.some.injEq, Prod.mk.injEq] at h
        obtain ⟨rfl, rfl, rfl⟩ := h
        exact newArr_ok hg ho hE hq h1

theorem owRow_cons {H : Heap} {h : View} {x : D} {r : Row} {cs : List Value} {N : List Nat} (q : owRow H h (x :: r) cs N) : ∃ v cs' N1 N2, cs = v :: cs' ∧ N = N1 ++ N2 ∧ ow H h x v N1 ∧ owRow H h r cs' N2 := by simpa [owRow] using q
theorem perm_next {N1 N2 E E0 : List Nat} (h : (N1 ++ N2 ++ E).Perm E0) : (N1 ++ (N2 ++ E)).Perm E0 := by rwa [List.append_assoc] at h

theorem reCells_ok {own : List Nat} {r dst : Nat} {row : Row} : ∀ {cts : List CT} {fs : List Bool} {j : Nat} {m : Mem} {G : GS} {gs : List Value} {N E : List Nat} (_ : Gok base U w m G) (_ : ∀ r, r ∈ G.out → ∃ c, get r m = some c)
    (_ : (N ++ E).Perm G.E) (_ : owRow (heapOf w) (Gh U w G) (row.drop j) gs N) (_ : row.length = j + cts.length) (_ : gs.length = cts.length) {vs : List V} {m' : Mem} {l l' : Log}
    (_ : (reCells own r dst row j cts fs).run m l = some (vs, m', l')), ∃ G', Grew base U w m G m' G' E ∧ simVs G'.μ m' (Gh U w G') vs gs
  | [], fs, j, m, G, gs, N, E, hg, ho, hE, hq, hlen, hgl, vs, m', l, l', h => by
    simp only [reCells, run_pure, Option.some.injEq, Prod.mk.injEq] at h
    obtain ⟨rfl, rfl, rfl⟩ := h
    rw [List.drop_eq_nil_of_le (by simp at hlen; omega)] at hq
    simp only [owRow] at hq
    subst hq
    simp at hgl
    subst hgl
    obtain ⟨d1, d2, _⟩ := hg.dropN hE
    exact ⟨_, ⟨d1, d2, rfl, rfl, fun _ _ h => h, fun _ _ _ => rfl⟩, by simp [simVs]⟩
  | ct :: cts, fs, j, m, G, gs, N, E, hg, ho, hE, hq, hlen, hgl, vs, m', l, l', h => by
    cases hd : row.drop j with
    | nil =>
      have := congrArg List.length hd
      simp at this hlen
      omega
    | cons x rest =>
      obtain ⟨hx, hrest⟩ := nth_drop hd
      rw [hd] at hq
      obtain ⟨g, gs', N1, N2, rfl, rfl, q1, q2⟩ := owRow_cons hq
      simp only [reCells] at h
      replace h := run_bind_some h; obtain ⟨v, m1, l1, h1, h⟩ := h
      replace h := run_bind_some h; obtain ⟨vs', m2, l2, h2, h⟩ := h
      simp only [run_pure, Option.some.injEq, Prod.mk.injEq] at h
      obtain ⟨rfl, rfl, rfl⟩ := h
      obtain ⟨G1, t1, s1⟩ := backCell_ok hg ho (perm_next hE) hx q1 h1
      obtain ⟨G2, t2, s2⟩ := reCells_ok t1.ok (fun k hk => by
        rw [t1.out] at hk
        obtain ⟨c, hc⟩ := ho k hk
        exact ⟨c, t1.old k c hc⟩) (by rw [t1.E]) (by rw [hrest]; exact owRow_keep t1.le.view q2) (by simp at hlen; omega) (by simpa using hgl) h2
      refine ⟨G2, t1.trans t2, ?_⟩
      simp only [simVs]
      exact ⟨g, gs', rfl, t2.le.simV s1, s2⟩
theorem resCells_ok {att : List Nat} {dst ri : Nat} {row : Row} : ∀ {cts : List CT} {fs : List Bool} {j : Nat} {m : Mem} {G : GS} {gs : List Value} {N E : List Nat} (_ : Gok base U w m G) (_ : ∀ r, r ∈ G.out → ∃ c, get r m = some c)
    (_ : (N ++ E).Perm G.E) (_ : owRow (heapOf w) (Gh U w G) (row.drop j) gs N) (_ : row.length = j + cts.length) (_ : gs.length = cts.length) {vs : List V} {m' : Mem} {l l' : Log}
    (_ : (resCells att dst ri row j cts fs).run m l = some (vs, m', l')), ∃ G', Grew base U w m G m' G' E ∧ simVs G'.μ m' (Gh U w G') vs gs
  | [], fs, j, m, G, gs, N, E, hg, ho, hE, hq, hlen, hgl, vs, m', l, l', h => by
    simp only [resCells, run_pure, Option.some.injEq, Prod.mk.injEq] at h
    obtain ⟨rfl, rfl, rfl⟩ := h
    rw [List.drop_eq_nil_of_le (by simp at hlen; omega)] at hq
    simp only [owRow] at hq
    subst hq
    simp at hgl
    subst hgl
    obtain ⟨d1, d2, _⟩ := hg.dropN hE
    exact ⟨_, ⟨d1, d2, rfl, rfl, fun _ _ h => h, fun _ _ _ => rfl⟩, by simp [simVs]⟩
  | ct :: cts, fs, j, m, G, gs, N, E, hg, ho, hE, hq, hlen, hgl, vs, m', l, l', h => by
    cases hd : row.drop j with
    | nil =>
      have := congrArg List.length hd
      simp at this hlen
      omega
    | cons x rest =>
      obtain ⟨hx, hrest⟩ := nth_drop hd
      rw [hd] at hq
      obtain ⟨g, gs', N1, N2, rfl, rfl, q1, q2⟩ := owRow_cons hq
      simp only [resCells] at h
      replace h := run_bind_some h; obtain ⟨v, m1, l1, h1, h⟩ := h
      replace h := run_bind_some h; obtain ⟨vs', m2, l2, h2, h⟩ := h
      simp only [run_pure, Option.some.injEq, Prod.mk.injEq] at h
      obtain ⟨rfl, rfl, rfl⟩ := h
      obtain ⟨G1, t1, s1⟩ := backCell_ok hg ho (perm_next hE) hx q1 h1
      obtain ⟨G2, t2, s2⟩ := resCells_ok t1.ok (fun k hk => by
        rw [t1.out] at hk
        obtain ⟨c, hc⟩ := ho k hk
        exact ⟨c, t1.old k c hc⟩) (by rw [t1.E]) (by rw [hrest]; exact owRow_keep t1.le.view q2) (by simp at hlen; omega) (by simpa using hgl) h2
      refine ⟨G2, t1.trans t2, ?_⟩
      simp only [simVs]
      exact ⟨g, gs', rfl, t2.le.simV s1, s2⟩

/-! ### results -/
def valOf (P : Program) (t : TypeId) (cs : List Value) (g : Value) : Prop := if aggT P t = true then g = .agg cs.toArray else cs = [g]
def retsS (P : Program) (H : Heap) (h : View) : List TypeId → List Row → List Value → List Nat → Prop
  | [], rows, gs, N => rows = [] ∧ gs = [] ∧ N = []
  | t :: ts, rows, gs, N => ∃ row rows' g gs' cs N1 N2, rows = row :: rows' ∧ gs = g :: gs' ∧ N = N1 ++ N2 ∧ valOf P t cs g ∧ owRow H h row cs N1 ∧ row.length = cs.length ∧ retsS P H h ts rows' gs' N2
theorem retsS_mono {P : Program} {H H' : Heap} {h h' : View} (hl : h.le h') : ∀ {ts : List TypeId} {rows : List Row} {gs : List Value} {N : List Nat}, (∀ b, b ∈ N → H' b = H b) → retsS P H h ts rows gs N → retsS P H' h' ts rows gs N
  | [], _, _, _, _, q => q
  | t :: ts, _, _, _, hb, ⟨row, rows', g, gs', cs, N1, N2, e1, e2, e3, h1, h2, h3, h4⟩ => by
    subst e3
    exact ⟨row, rows', g, gs', cs, N1, N2, e1, e2, rfl, h1, owRow_mono hl _ _ _ (fun b hx => hb b (by simp [hx])) h2, h3, retsS_mono hl (fun b hx => hb b (by simp [hx])) h4⟩
theorem ofCells_ok {P : Program} {t : TypeId} {vs : List V} {v : V} (h : ofCells P t vs = some v) {μ : Nat → Value} {hh : View} {cs : List Value} {g : Value} (hq : simVs μ m hh vs cs) (hg : valOf P t cs g) : simV μ m hh v g := by
  unfold ofCells at h
  unfold valOf at hg
  cases ha : aggT P t with
  | true =>
    simp only [ha, cond_true, if_true, Option.some.injEq] at h hg
    subst h
    simp only [simV]
    exact ⟨_, hg, by simpa using hq⟩
  | false =>
    simp only [ha, cond_false, Bool.false_eq_true, if_false] at h hg
    split at h
    · cases h
      obtain ⟨g', gs', e, q1, q2⟩ := simVs_cons hq
      rw [hg] at e
      cases e
      exact q1
    · cases h
theorem resRowOf_drop {res : List Row} {ri : Nat} {row : Row} {rows : List Row} (h : res.drop ri = row :: rows) : resRowOf res ri = row ∧ res.drop (ri + 1) = rows := by
  have h1 : res[ri]? = some row := by
    have : (res.drop ri)[0]? = some row := by rw [h]; rfl
    rwa [List.getElem?_drop, Nat.add_zero] at this
  refine ⟨by simp [resRowOf, h1], ?_⟩
  rw [← List.drop_drop, h]
  rfl
theorem resAll_ok {X : Ctx} {att : List Nat} {dst : Nat} {res : List Row} : ∀ {ts : List TypeId} {ri : Nat} {m : Mem} {G : GS} {gs : List Value} {N E : List Nat} (_ : Gok base U w m G) (_ : ∀ r, r ∈ G.out → ∃ c, get r m = some c)
    (_ : (N ++ E).Perm G.E) (_ : retsS X.P (heapOf w) (Gh U w G) ts (res.drop ri) gs N) {vs : List V} {m' : Mem} {l l' : Log}
    (_ : (resAll X att dst res ri ts).run m l = some (vs, m', l')), ∃ G', Grew base U w m G m' G' E ∧ simVs G'.μ m' (Gh U w G') vs gs
  | [], ri, m, G, gs, N, E, hg, ho, hE, hq, vs, m', l, l', h => by
    simp only [resAll, run_pure, Option.some.injEq, Prod.mk.injEq] at h
    obtain ⟨rfl, rfl, rfl⟩ := h
    obtain ⟨_, rfl, rfl⟩ := hq
    obtain ⟨d1, d2, _⟩ := hg.dropN hE
    exact ⟨_, ⟨d1, d2, rfl, rfl, fun _ _ h => h, fun _ _ _ => rfl⟩, by simp [simVs]⟩
  | t :: ts, ri, m, G, gs, N, E, hg, ho, hE, hq, vs, m', l, l', h => by
    obtain ⟨row, rows', g, gs', cs, N1, N2, e1, rfl, rfl, h1, h2, h3, h4⟩ := hq
    obtain ⟨hrow, hrest⟩ := resRowOf_drop e1
    simp only [resAll] at h
    replace h := run_bind_some h; obtain ⟨_, m1, l1, k1, h⟩ := h
    obtain ⟨hlen, rfl, rfl⟩ := run_ck k1
    replace h := run_bind_some h; obtain ⟨vc, m2, l2, k2, h⟩ := h
    replace h := run_bind_some h; obtain ⟨v, m3, l3, k3, h⟩ := h
    obtain ⟨hv, rfl, rfl⟩ := run_op' k3
    replace h := run_bind_some h; obtain ⟨vs', m4, l4, k4, h⟩ := h
    simp only [run_pure, Option.some.injEq, Prod.mk.injEq] at h
    obtain ⟨rfl, rfl, rfl⟩ := h
    have hlen := Nat.eq_of_beq_eq_true hlen
    rw [hrow] at hlen k2
    obtain ⟨G1, t1, s1⟩ := resCells_ok hg ho (perm_next hE) (by simpa using h2) (by simpa using hlen) (by rw [← h3]; exact hlen) k2
    obtain ⟨G2, t2, s2⟩ := resAll_ok t1.ok (fun k hk => by
      rw [t1.out] at hk
      obtain ⟨c, hc⟩ := ho k hk
      exact ⟨c, t1.old k c hc⟩) (by rw [t1.E]) (by rw [hrest]; exact retsS_mono t1.le.view (fun _ _ => rfl) h4) k4
    refine ⟨G2, t1.trans t2, ?_⟩
    simp only [simVs]
    exact ⟨g, gs', rfl, t2.le.simV (ofCells_ok hv s1 h1), s2⟩

/-! ### what has no eyes outside itself -/
mutual
theorem pure_ow {H : Heap} {h h' : View} : ∀ (x : D) (v : Value) (N : List Nat), x.pure = true → ow H h x v N → ow H h' x v N
  | .int _ _, _, _, _, q => by simpa [ow] using q
  | .bool _, _, _, _, q => by simpa [ow] using q
  | .str _, _, _, _, q => by simpa [ow] using q
  | .nilf, _, _, _, q => by simpa [ow] using q
  | .sl false s rows, v, N, hp, q => by
    simp only [D.pure, List.isEmpty_iff] at hp
    subst hp
    simp only [ow, ro] at q ⊢
    exact ⟨q.1, by obtain ⟨a, cap, h1, h2, _⟩ := q.2; exact ⟨a, cap, h1, h2, fun e => absurd rfl e⟩⟩
  | .sl true s rows, v, N, hp, q => by
    simp only [D.pure] at hp
    simp only [ow] at q ⊢
    rcases q with q | ⟨b, cap, cs, t, N', h1, h2, h3, h4, h5, rfl⟩
    · exact .inl q
    · exact .inr ⟨b, cap, cs, t, N', h1, h2, h3, h4, pure_owRows s rows _ N' hp h5, rfl⟩
theorem pure_owRows {H : Heap} {h h' : View} (s : Nat) : ∀ (rows : List Row) (cs : List Value) (N : List Nat), pureRows rows = true → owRows H h s rows cs N → owRows H h' s rows cs N
  | [], _, _, _, q => by simpa [owRows] using q
  | r :: rs, cs, N, hp, q => by
    simp only [pureRows, Bool.and_eq_true] at hp
    simp only [owRows] at q ⊢
    obtain ⟨h1, N1, N2, rfl, h2, h3⟩ := q
    exact ⟨h1, N1, N2, rfl, pure_owRow r _ N1 hp.1 h2, pure_owRows s rs _ N2 hp.2 h3⟩
theorem pure_owRow {H : Heap} {h h' : View} : ∀ (r : Row) (cs : List Value) (N : List Nat), pureRow r = true → owRow H h r cs N → owRow H h' r cs N
  | [], _, _, _, q => by simpa [owRow] using q
  | x :: r, cs, N, hp, q => by
    simp only [pureRow, Bool.and_eq_true] at hp
    simp only [owRow] at q ⊢
    obtain ⟨v, cs', N1, N2, rfl, rfl, h2, h3⟩ := q
    exact ⟨v, cs', N1, N2, rfl, rfl, pure_ow x v N1 hp.1 h2, pure_owRow r cs' N2 hp.2 h3⟩
end
theorem pure_retsS {P : Program} {H : Heap} {h h' : View} : ∀ {ts : List TypeId} {rows : List Row} {gs : List Value} {N : List Nat}, rows.all pureRow = true → retsS P H h ts rows gs N → retsS P H h' ts rows gs N
  | [], _, _, _, _, q => q
  | t :: ts, _, _, _, hp, ⟨row, rows', g, gs', cs, N1, N2, e1, e2, e3, h1, h2, h3, h4⟩ => by
    subst e1
    simp only [List.all_cons, Bool.and_eq_true] at hp
    exact ⟨row, rows', g, gs', cs, N1, N2, rfl, e2, e3, h1, pure_owRow _ _ _ hp.1 h2, h3, pure_retsS hp.2 h4⟩
end
end Go.Vm
