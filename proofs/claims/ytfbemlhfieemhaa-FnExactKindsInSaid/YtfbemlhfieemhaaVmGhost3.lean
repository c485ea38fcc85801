/-
  The machine's steps on its cells: what goes out for a call, what comes back.
-/
import Derived.Test.YtfbemlhfieemhaaVmGhost2
namespace Go.Vm
open Go

section
variable {base : Nat} {U : Nat → Prop} {w : World} {m : Mem} {G : GS}

/-- an array as it is read in the full view -/
theorem Gok.look (hg : Gok base U w m G) {r : Nat} {fz fl : Bool} {ver s : Nat} {rows : List Row} (hc : get r m = some (.arr fz fl ver s rows)) (hro : r ∉ G.out) (o : Bool) : ro (full w) (.sl o s rows) (G.μ r) := by
  have hq := hg.cell r _ hc hro
  cases fz with
  | true => exact ro_own (ro_mono (view_le_full _ _ _) _ _ hq.1)
  | false => exact arrS_ro (view_le_full _ _ _) sees_full hq o
theorem seen_ok (hg : Gok base U w m G) {v : V} {g : Value} (hv : simV G.μ m (Gh U w G) v g) (ho : G.out = []) {s : Nat} {rows : List Row} {m' : Mem} {l l' : Log} (h : (seen v).run m l = some ((s, rows), m', l')) :
    m' = m ∧ ro (full w) (.sl false s rows) g := by
  cases v with
  | d y =>
    cases y with
    | sl own s' rows' =>
      simp only [seen, run_pure, Option.some.injEq, Prod.mk.injEq] at h
      obtain ⟨⟨rfl, rfl⟩, rfl, rfl⟩ := h
      simp only [simV] at hv
      exact ⟨rfl, ro_own (ro_mono (view_le_full _ _ _) _ _ hv)⟩
    | int _ _ => exact (run_fail h).elim
    | bool _ => exact (run_fail h).elim
    | str _ => exact (run_fail h).elim
    | nilf => exact (run_fail h).elim
  | nil s' =>
    simp only [seen, run_pure, Option.some.injEq, Prod.mk.injEq] at h
    obtain ⟨⟨rfl, rfl⟩, rfl, rfl⟩ := h
    simp only [simV] at hv
    exact ⟨rfl, by simp [ro, hv]⟩
  | own r ver =>
    simp only [seen] at h
    replace h := run_bind_some h; obtain ⟨c, m1, l1, h1, h⟩ := h
    rw [run_rd] at h1
    cases h1
    cases hc : get r m with
    | none => rw [hc] at h; exact (run_fail h).elim
    | some c =>
      rw [hc] at h
      cases c with
      | box _ _ => exact (run_fail h).elim
      | dead => exact (run_fail h).elim
      | arr fz fl ver' s' rows' =>
        simp only at h
        replace h := run_bind_some h; obtain ⟨_, m2, l2, h1, h⟩ := h
        obtain ⟨hb, rfl, rfl⟩ := run_ck h1
        have hb := Nat.eq_of_beq_eq_true hb
        subst hb
        simp only [run_pure, Option.some.injEq, Prod.mk.injEq] at h
        obtain ⟨⟨rfl, rfl⟩, rfl, rfl⟩ := h
        simp only [simV, hc] at hv
        have hv := hv.2.2 trivial
        subst hv
        exact ⟨rfl, ro_vw (hg.look hc (by simp [ho]) true)⟩
  | ptr _ _ => exact (run_fail h).elim
  | eptr _ _ _ _ => exact (run_fail h).elim
  | rptr _ _ => exact (run_fail h).elim
  | clo _ _ _ => exact (run_fail h).elim
  | agg _ => exact (run_fail h).elim
  | tup _ => exact (run_fail h).elim
  | undef => exact (run_fail h).elim

theorem mem?_iff (k : Nat) : ∀ l : List Nat, mem? k l = true ↔ k ∈ l
  | [] => by simp [mem?]
  | j :: l => by
    simp only [mem?, List.mem_cons]
    by_cases e : k = j
    · subst e; simp
    · rw [beq_no e]; simp [e, mem?_iff k l]
theorem mem?_not {k : Nat} {l : List Nat} (h : (!(mem? k l)) = true) : k ∉ l := by
  intro hk
  rw [(mem?_iff k l).2 hk] at h
  cases h

theorem expV_ok (hg : Gok base U w m G) {v : V} {g : Value} (hv : simV G.μ m (Gh U w G) v g) {imp : List Nat} (ho : ∀ r, r ∈ G.out → r ∈ imp) {own : Bool} {v' : V} {m' : Mem} {l l' : Log} (h : (expV imp own v).run m l = some (v', m', l')) :
    ∃ G' N x, v' = .d x ∧ Took base U w m G m' G' N ∧ ow (heapOf w) (Gh U w G') x g N ∧ ∀ k, k ∈ imp → get k m' = get k m := by
  cases v with
  | d y =>
    simp only [expV, run_pure, Option.some.injEq, Prod.mk.injEq] at h
    obtain ⟨rfl, rfl, rfl⟩ := h
    exact ⟨G, [], _, rfl, Took.same hg, ow_roD (by simpa [simV] using hv), fun _ _ => rfl⟩
  | nil s =>
    simp only [expV, run_pure, Option.some.injEq, Prod.mk.injEq] at h
    obtain ⟨rfl, rfl, rfl⟩ := h
    refine ⟨G, [], _, rfl, Took.same hg, ?_, fun _ _ => rfl⟩
    simp only [simV] at hv
    cases own <;> simp [ow, ro, hv]
  | own r ver =>
    simp only [expV] at h
    replace h := run_bind_some h; obtain ⟨c, m1, l1, h1, h⟩ := h
    rw [run_rd] at h1
    cases h1
    cases hc : get r m with
    | none => rw [hc] at h; exact (run_fail h).elim
    | some c =>
      rw [hc] at h
      cases c with
      | box _ _ => exact (run_fail h).elim
      | dead => exact (run_fail h).elim
      | arr fz fl ver' s rows =>
        simp only at h
        replace h := run_bind_some h; obtain ⟨_, m2, l2, h1, h⟩ := h
        obtain ⟨hb, rfl, rfl⟩ := run_ck h1
        have hb := Nat.eq_of_beq_eq_true hb
        subst hb
        replace h := run_bind_some h; obtain ⟨_, m2, l2, h1, h⟩ := h
        obtain ⟨hi, rfl, rfl⟩ := run_ck h1
        simp only [simV, hc] at hv
        have hv := hv.2.2 trivial
        subst hv
        have hro : r ∉ G.out := fun hr => mem?_not hi (ho r hr)
        have hni : ∀ k, k ∈ imp → k ≠ r := fun k hk e => mem?_not hi (e ▸ hk)
        cases own with
        | false =>
          simp only at h
          replace h := run_bind_some h; obtain ⟨_, m3, l3, h1, h⟩ := h
          rw [run_wr] at h1
          cases h1
          simp only [run_pure, Option.some.injEq, Prod.mk.injEq] at h
          obtain ⟨rfl, rfl, rfl⟩ := h
          obtain ⟨k1, k2, k3⟩ := hg.freeze hc hro
          refine ⟨_, [], _, rfl, ⟨k1, k2, by simp, rfl, rfl⟩, ?_, fun k hk => get_put_other (hni k hk) _ _⟩
          simp only [ow, true_and]
          exact ro_vw k3
        | true =>
          simp only at h
          replace h := run_bind_some h; obtain ⟨_, m2, l2, h1, h⟩ := h
          obtain ⟨hfz, rfl, rfl⟩ := run_ck h1
          replace h := run_bind_some h; obtain ⟨_, m2, l2, h1, h⟩ := h
          obtain ⟨hok, rfl, rfl⟩ := run_ck h1
          have hfz : fz = false := by simpa using hfz
          subst hfz
          replace h := run_bind_some h; obtain ⟨_, m3, l3, h1, h⟩ := h
          rw [run_wr] at h1
          cases h1
          simp only [run_pure, Option.some.injEq, Prod.mk.injEq] at h
          obtain ⟨rfl, rfl, rfl⟩ := h
          obtain ⟨k1, k2, k3⟩ := hg.kill hc hro
          exact ⟨_, G.F r, _, rfl, ⟨k1, k2, rfl, rfl, rfl⟩, ow_keep k2.view (arrS_ow hok k3), fun k hk => get_put_other (hni k hk) _ _⟩
  | ptr _ _ => exact (run_fail h).elim
  | eptr _ _ _ _ => exact (run_fail h).elim
  | rptr _ _ => exact (run_fail h).elim
  | clo _ _ _ => exact (run_fail h).elim
  | agg _ => exact (run_fail h).elim
  | tup _ => exact (run_fail h).elim
  | undef => exact (run_fail h).elim

theorem expCells_ok {imp own : List Nat} : ∀ {vs : List V} {gs : List Value} {m : Mem} {G : GS} {j : Nat} (_ : Gok base U w m G) (_ : simVs G.μ m (Gh U w G) vs gs) (_ : ∀ r, r ∈ G.out → r ∈ imp) {vs' : List V} {m' : Mem} {l l' : Log}
    (_ : (expCells imp own j vs).run m l = some (vs', m', l')), ∃ G' N xs, vs' = xs.map V.d ∧ xs.length = gs.length ∧ Took base U w m G m' G' N ∧ owRow (heapOf w) (Gh U w G') xs gs N ∧ ∀ k, k ∈ imp → get k m' = get k m
  | [], gs, m, G, j, hg, hv, ho, vs', m', l, l', h => by
    simp only [expCells, run_pure, Option.some.injEq, Prod.mk.injEq] at h
    obtain ⟨rfl, rfl, rfl⟩ := h
    simp only [simVs] at hv
    subst hv
    exact ⟨G, [], [], rfl, rfl, Took.same hg, by simp [owRow], fun _ _ => rfl⟩
  | v :: vs, gs, m, G, j, hg, hv, ho, vs', m', l, l', h => by
    obtain ⟨g, gs', rfl, hv1, hv2⟩ := simVs_cons hv
    simp only [expCells] at h
    replace h := run_bind_some h; obtain ⟨x, m1, l1, h1, h⟩ := h
    replace h := run_bind_some h; obtain ⟨ys, m2, l2, h2, h⟩ := h
    simp only [run_pure, Option.some.injEq, Prod.mk.injEq] at h
    obtain ⟨rfl, rfl, rfl⟩ := h
    obtain ⟨G1, N1, x1, rfl, t1, q1, i1⟩ := expV_ok hg hv1 ho h1
    obtain ⟨G2, N2, xs, rfl, hlen, t2, q2, i2⟩ := expCells_ok t1.ok (t1.le.simVs hv2) (fun r hr => ho r (t1.out ▸ hr)) h2
    refine ⟨G2, N1 ++ N2, x1 :: xs, rfl, by simp [hlen], t1.trans t2, ?_, fun k hk => (i2 k hk).trans (i1 k hk)⟩
    simp only [owRow]
    exact ⟨g, gs', N1, N2, rfl, rfl, ow_keep t2.le.view q1, q2⟩

/-- a cell as it stands between two frames -/
def cellB (H : Heap) (h : View) : Cell → Value → List Nat → Prop
  | .box t vs, g, N => ∃ b a xs N', g = .pointer (some ⟨b, 0, none⟩) ∧ H b = some (.cells a t (0, 0)) ∧ vs = xs.map V.d ∧ xs.length = a.toList.length ∧ owRow H h xs a.toList N' ∧ N = b :: N'
  | .arr fz fl ver s rows, g, N => fz = false ∧ ver = 0 ∧ arrS H h fl s rows g N
  | .dead, _, _ => False
def cellsB (H : Heap) (h : View) : List Cell → List Value → List Nat → Prop
  | [], gs, N => gs = [] ∧ N = []
  | c :: cs, gs, N => ∃ g gs' N1 N2, gs = g :: gs' ∧ N = N1 ++ N2 ∧ cellB H h c g N1 ∧ cellsB H h cs gs' N2
theorem cellB_mono {H H' : Heap} {h h' : View} (hl : h.le h') {c : Cell} {g : Value} {N : List Nat} (hb : ∀ b, b ∈ N → H' b = H b) (q : cellB H h c g N) : cellB H' h' c g N := by
  cases c with
  | box t vs =>
    obtain ⟨b, a, xs, N', h1, h2, h3, h4, h5, rfl⟩ := q
    exact ⟨b, a, xs, N', h1, by rw [hb b (by simp)]; exact h2, h3, h4, owRow_mono hl _ _ _ (fun b' hb' => hb b' (by simp [hb'])) h5, rfl⟩
  | arr fz fl ver s rows => exact ⟨q.1, q.2.1, arrS_mono hl hb q.2.2⟩
  | dead => exact q
theorem cellsB_mono {H H' : Heap} {h h' : View} (hl : h.le h') : ∀ {cs : List Cell} {gs : List Value} {N : List Nat}, (∀ b, b ∈ N → H' b = H b) → cellsB H h cs gs N → cellsB H' h' cs gs N
  | [], _, _, _, q => q
  | c :: cs, _, _, hb, ⟨g, gs', N1, N2, h1, h2, h3, h4⟩ => by
    subst h2
    exact ⟨g, gs', N1, N2, h1, rfl, cellB_mono hl (fun b hx => hb b (by simp [hx])) h3, cellsB_mono hl (fun b hx => hb b (by simp [hx])) h4⟩

/-- a cell goes out -/
theorem Gok.goOut (hg : Gok base U w m G) {r : Nat} {c : Cell} (hc : get r m = some c) (hro : r ∉ G.out) :
    Gok base U w m ⟨G.μ, upF G.F r [], G.E ++ G.F r, r :: G.out⟩ ∧ GLe m G m ⟨G.μ, upF G.F r [], G.E ++ G.F r, r :: G.out⟩ := by
  have hex : ∀ b, excl (upF G.F r []) (G.E ++ G.F r) b → excl G.F G.E b := by
    rintro b (hb | ⟨k, hb⟩)
    · simp only [List.mem_append] at hb
      rcases hb with h | h
      · exact .inl h
      · exact .inr ⟨r, h⟩
    · by_cases e : k = r
      · subst e; simp at hb
      · rw [upF_other _ e] at hb; exact .inr ⟨k, hb⟩
  have hv : (view w U (excl G.F G.E)).le (view w U (excl (upF G.F r []) (G.E ++ G.F r))) := view_le (fun _ x => x) hex
  refine ⟨show MInv base U m w G.μ (upF G.F r []) (G.E ++ G.F r) (r :: G.out) from ?_, ⟨memLe_refl _ _, hex⟩⟩
  refine ⟨?_, ?_, ?_, ?_, List.nodup_append.2 ⟨hg.ndE, hg.nd r, fun a ha b hb e => hg.djE r b hb (e ▸ ha)⟩, fun b hb => hg.lt b (hex b hb), hg.up, hg.bs, ?_, ?_⟩
  · intro k c hk hko
    simp only [List.mem_cons, not_or] at hko
    rw [upF_other _ hko.1]
    exact simCell_mono (memLe_refl _ _) hv rfl (fun _ _ => rfl) (hg.cell k c hk hko.2)
  · intro k k' hne b hb hb'
    by_cases e : k = r
    · subst e; simp at hb
    · rw [upF_other _ e] at hb
      by_cases e' : k' = r
      · subst e'; simp at hb'
      · rw [upF_other _ e'] at hb'; exact hg.dj _ _ hne b hb hb'
  · intro k b hb hE
    by_cases e : k = r
    · subst e; simp at hb
    · rw [upF_other _ e] at hb
      simp only [List.mem_append] at hE
      rcases hE with h | h
      · exact hg.djE _ b hb h
      · exact hg.dj _ _ e b hb h
  · intro k
    by_cases e : k = r
    · subst e; simp
    · rw [upF_other _ e]; exact hg.nd k
  · intro k hk
    by_cases e : k = r
    · subst e; simp
    · rw [upF_other _ e]; exact hg.none_ k hk
  · intro k hk
    by_cases e : k = r
    · subst e; simp
    · rw [upF_other _ e]; exact hg.out_ k (by simpa [e] using hk)

/-- what stands behind handing cells out: 'rs' have gone -/
structure Out (base : Nat) (U : Nat → Prop) (w : World) (m : Mem) (G : GS) (m' : Mem) (G' : GS) (imp rs : List Nat) (N : List Nat) : Prop where
  ok : Gok base U w m' G'
  le : GLe m G m' G'
  E : G'.E = G.E ++ N
  out : ∀ r, r ∈ G'.out ↔ r ∈ G.out ∨ r ∈ rs
  μ : G'.μ = G.μ
  here : ∀ k, k ∈ imp → get k m' = get k m
/-- two cells of one kind -/
def sameKind : Cell → Cell → Prop
  | .box t _, .box t' _ => t = t'
  | .arr _ fl ver s _, .arr _ fl' ver' s' _ => ver = 0 ∧ ver' = 0 ∧ fl = fl' ∧ s = s'
  | _, _ => False
def kinds (m : Mem) : List Nat → List Cell → Prop
  | [], cs => cs = []
  | r :: rs, cs => ∃ c c' cs', cs = c' :: cs' ∧ get r m = some c ∧ sameKind c c' ∧ kinds m rs cs'
theorem kinds_of {m m' : Mem} : ∀ {rs : List Nat} {cs : List Cell}, (∀ r, r ∈ rs → get r m' = get r m) → kinds m rs cs → kinds m' rs cs
  | [], _, _, q => q
  | r :: rs, _, h, ⟨c, c', cs', h1, h2, h3, h4⟩ => ⟨c, c', cs', h1, (h r (by simp)).trans h2, h3, kinds_of (fun k hk => h k (by simp [hk])) h4⟩

theorem expAll_ok {A : Adv} {imp : List Nat} : ∀ {rs : List Nat} {m : Mem} {G : GS} (_ : Gok base U w m G) (_ : rs.Nodup) (_ : ∀ r, r ∈ rs → r ∈ imp ∧ r ∉ G.out) (_ : ∀ r, r ∈ G.out → r ∈ imp) {cs : List Cell} {m' : Mem} {l l' : Log}
    (_ : (expAll A imp rs).run m l = some (cs, m', l')), ∃ G' N, Out base U w m G m' G' imp rs N ∧ cellsB (heapOf w) (Gh U w G') cs (rs.map G.μ) N ∧ kinds m rs cs
  | [], m, G, hg, hn, hr, ho, cs, m', l, l', h => by
    simp only [expAll, run_pure, Option.some.injEq, Prod.mk.injEq] at h
    obtain ⟨rfl, rfl, rfl⟩ := h
    exact ⟨G, [], ⟨hg, GLe.refl _ _, by simp, fun r => by simp, rfl, fun _ _ => rfl⟩, ⟨rfl, rfl⟩, rfl⟩
  | r :: rs, m, G, hg, hn, hr, ho, cs, m', l, l', h => by
    simp only [expAll] at h
    replace h := run_bind_some h; obtain ⟨c, m1, l1, h1, h⟩ := h
    rw [run_rd] at h1
    cases h1
    replace h := run_bind_some h; obtain ⟨c1, m1, l1, h1, h⟩ := h
    replace h := run_bind_some h; obtain ⟨cs1, m2, l2, h2, h⟩ := h
    simp only [run_pure, Option.some.injEq, Prod.mk.injEq] at h
    obtain ⟨rfl, rfl, rfl⟩ := h
    have hri := hr r (by simp)
    have hnr := List.nodup_cons.1 hn
    -- the first cell
    have step : ∃ G' N, Out base U w m G m1 G' imp [r] N ∧ cellB (heapOf w) (Gh U w G') c1 (G.μ r) N ∧ ∃ c, get r m = some c ∧ sameKind c c1 := by
      cases hc : get r m with
      | none => rw [hc] at h1; exact (run_fail h1).elim
      | some c =>
        rw [hc] at h1
        have hq := hg.cell r c hc hri.2
        obtain ⟨k1, k2⟩ := hg.goOut hc hri.2
        cases c with
        | dead => exact (run_fail h1).elim
        | box t vs =>
          simp only [expCell] at h1
          replace h1 := run_bind_some h1; obtain ⟨vs', m3, l3, h3, h1⟩ := h1
          simp only [run_pure, Option.some.injEq, Prod.mk.injEq] at h1
          obtain ⟨rfl, rfl, rfl⟩ := h1
          obtain ⟨b, a, e1, e2, e3, e4⟩ := hq
          obtain ⟨G2, N2, xs, rfl, hlen, t2, q2, i2⟩ := expCells_ok k1 (k2.simVs e3) (fun k hk => by
            simp only [List.mem_cons] at hk
            rcases hk with rfl | hk
            · exact hri.1
            · exact ho k hk) h3
          refine ⟨G2, b :: N2, ⟨t2.ok, k2.trans t2.le, by rw [t2.E, e4]; simp, fun k => by rw [t2.out]; simp [or_comm], t2.μ, i2⟩, ⟨b, a, xs, N2, e1, e2, rfl, hlen, q2, rfl⟩, _, rfl, rfl⟩
        | arr fz fl ver s rows =>
          simp only [expCell] at h1
          replace h1 := run_bind_some h1; obtain ⟨_, m3, l3, h3, h1⟩ := h1
          obtain ⟨hfz, rfl, rfl⟩ := run_ck h3
          replace h1 := run_bind_some h1; obtain ⟨_, m3, l3, h3, h1⟩ := h1
          obtain ⟨hv0, rfl, rfl⟩ := run_ck h3
          simp only [run_pure, Option.some.injEq, Prod.mk.injEq] at h1
          obtain ⟨rfl, rfl, rfl⟩ := h1
          have hfz : fz = false := by simpa using hfz
          subst hfz
          have hv0 := Nat.eq_of_beq_eq_true hv0
          subst hv0
          refine ⟨_, G.F r, ⟨k1, k2, rfl, fun k => by simp [or_comm], rfl, fun _ _ => rfl⟩, ⟨rfl, rfl, arrS_mono k2.view (fun _ _ => rfl) hq⟩, _, rfl, rfl, rfl, rfl, rfl⟩
    obtain ⟨G1, N1, o1, q1, c0, hc0, hk0⟩ := step
    obtain ⟨G2, N2, o2, q2, kd2⟩ := expAll_ok o1.ok hnr.2 (fun k hk => ⟨(hr k (by simp [hk])).1, fun hko => by
      rcases (o1.out k).1 hko with h | h
      · exact (hr k (by simp [hk])).2 h
      · simp at h; subst h; exact hnr.1 hk⟩) (fun k hk => by
      rcases (o1.out k).1 hk with h | h
      · exact ho k h
      · simp at h; subst h; exact hri.1) h2
    refine ⟨G2, N1 ++ N2, ⟨o2.ok, o1.le.trans o2.le, by rw [o2.E, o1.E, List.append_assoc], fun k => ?_, o2.μ.trans o1.μ, fun k hk => (o2.here k hk).trans (o1.here k hk)⟩, ⟨G.μ r, rs.map G.μ, N1, N2, rfl, rfl, cellB_mono o2.le.view (fun _ _ => rfl) q1, by rw [← o1.μ]; exact q2⟩, c0, c1, cs1, rfl, hc0, hk0, kinds_of (fun k hk => (o1.here k (hr k (by simp [hk])).1).symm) kd2⟩
    rw [o2.out, o1.out]; simp [or_assoc]
end
end Go.Vm
