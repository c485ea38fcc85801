/-
  The machine's operations are Go's: stores, new boxes.
-/
import Derived.Test.YtfbemlhfieemhaaVmOps
namespace Go.Vm
open Go

section
variable {base : Nat} {U : Nat → Prop} {M0 : List Nat} {w0 w w' : World} {m m' : Mem} {G G' : GS} {P : Program}

theorem oneCell_of_sim {μ : Nat → Value} {h : View} {v : V} {g : Value} (h1 : one v = true) (q : simV μ m h v g) : g.oneCell' = true := by
  cases v with
  | d x => simp only [simV] at q; exact oneCell_of_ro q
  | nil s => simp only [simV] at q; subst q; rfl
  | own _ _ => simp only [simV] at q; obtain ⟨⟨a, n, c, rfl⟩, _⟩ := q; rfl
  | ptr _ _ => simp only [simV] at q; obtain ⟨⟨b, o, rfl⟩, _⟩ := q; rfl
  | eptr _ _ _ _ => simp only [simV] at q; obtain ⟨⟨b, o, rfl⟩, _⟩ := q; rfl
  | rptr _ _ => simp only [simV] at q; obtain ⟨b, o, rfl, _⟩ := q; rfl
  | clo _ _ _ => simp only [simV] at q; obtain ⟨a, c, rfl, _⟩ := q; rfl
  | agg _ => simp [one] at h1
  | tup _ => simp [one] at h1
  | undef => simp [one] at h1
theorem cells_one {g : Value} (h : g.oneCell' = true) : g.cells = #[g] := by cases g <;> first | rfl | simp [Value.oneCell'] at h
theorem simVs_one {μ : Nat → Value} {h : View} : ∀ {vs : List V} {gs : List Value}, vs.all one = true → simVs μ m h vs gs → ∀ x ∈ gs, x.oneCell' = true
  | [], gs, _, q => by simp only [simVs] at q; subst q; simp
  | v :: vs, gs, h1, q => by
    obtain ⟨g, gs', rfl, q1, q2⟩ := simVs_cons q
    simp only [List.all_cons, Bool.and_eq_true] at h1
    intro x hx
    simp only [List.mem_cons] at hx
    rcases hx with rfl | hx
    · exact oneCell_of_sim h1.1 q1
    · exact simVs_one h1.2 q2 x hx
theorem cells_ok {μ : Nat → Value} {h : View} {v : V} {g : Value} (h1 : v.cells.all one = true) (q : simV μ m h v g) : simVs μ m h v.cells g.cells.toList ∧ ∀ x ∈ g.cells.toList, x.oneCell' = true := by
  have single : one v = true → v.cells = [v] → simVs μ m h v.cells g.cells.toList ∧ ∀ x ∈ g.cells.toList, x.oneCell' = true := by
    intro ho hv
    have := oneCell_of_sim ho q
    rw [cells_one this, hv]
    exact ⟨by simp only [simVs]; exact ⟨g, [], rfl, q, rfl⟩, by simpa using this⟩
  cases v with
  | agg cs =>
    simp only [simV] at q
    obtain ⟨a, rfl, q⟩ := q
    exact ⟨q, simVs_one h1 q⟩
  | tup _ => simp [V.cells, one] at h1
  | undef => simp [V.cells, one] at h1
  | _ => exact single rfl rfl

/-! ### operands -/
theorem cvCell_ok {μ : Nat → Value} {h : View} (c : CT) (g : Value) : simV μ m h (cvCell c g) g := by
  unfold cvCell
  split <;> simp [simV, ro]
theorem cvCells_ok {μ : Nat → Value} {h : View} : ∀ (cs : List CT) (gs : List Value), simVs μ m h (cvCells cs gs) gs
  | [], [] => by simp [cvCells, simVs]
  | _ :: _, [] => by simp [cvCells, simVs]
  | [], g :: gs => by simp only [cvCells, simVs]; exact ⟨g, gs, rfl, by simp [simV], cvCells_ok [] gs⟩
  | c :: cs, g :: gs => by simp only [cvCells, simVs]; exact ⟨g, gs, rfl, cvCell_ok c g, cvCells_ok cs gs⟩
theorem cv_ok {μ : Nat → Value} {h : View} (t : TypeId) (g : Value) : simV μ m h (cv P t g) g := by
  unfold cv
  split
  · simp only [simV]; exact ⟨_, rfl, cvCells_ok _ _⟩
  · split
    · exact cvCell_ok _ _
    · simp [simV]
/-- the slots -/
def simT (μ : Nat → Value) (m : Mem) (h : View) (tm : Tmps) (a : Act) : Prop := ∀ t v, get t tm = some v → t < a.tmps.size ∧ simV μ m h v (a.tmps.getD t undef)
theorem ev_ok {μ : Nat → Value} {h : View} {tm : Tmps} {a : Act} (hT : simT μ m h tm a) (t : TypeId) (x : Operand) : simV μ m h (ev P tm t x) (a.eval x) := by
  cases x with
  | tmp i =>
    simp only [ev, getT]
    cases hg : get i tm with
    | none => simp [simV]
    | some v => exact (hT i v hg).2
  | const v => exact cv_ok t v
  | global g => simp [ev, simV]
  | func f => simp only [ev, simV]; exact ⟨#[], #[], rfl, by simp [simVs], by simp [simVs]⟩
theorem evArgs_ok {μ : Nat → Value} {h : View} {tm : Tmps} {a : Act} (hT : simT μ m h tm a) : ∀ (xs : List Operand) (ts : List TypeId), simVs μ m h (evArgs P tm xs ts) (xs.map a.eval)
  | [], _ => by simp [evArgs, simVs]
  | x :: xs, ts => by simp only [evArgs, simVs, List.map_cons]; exact ⟨_, _, rfl, ev_ok hT _ x, evArgs_ok hT xs _⟩
theorem zeroRow_ok {μ : Nat → Value} {h : View} {t : TypeId} {z : List V} (hz : zeroRow P t = some z) : ∃ i zv, P.info? t = some i ∧ i.zero = some zv ∧ simVs μ m h z zv.cells.toList := by
  unfold zeroRow at hz
  cases hi : P.info? t with
  | none => simp [hi] at hz
  | some i =>
    simp only [hi] at hz
    cases hzv : i.zero with
    | none => simp [hzv] at hz
    | some zv =>
      simp only [hzv, Option.some.injEq] at hz
      subst hz
      exact ⟨i, zv, rfl, hzv, cvCells_ok _ _⟩

/-! ### a cell is written -/
/-- a cell is written, what is in hand laid into it or let go -/
theorem Gok.rewrite (hg : Gok base U w m G) (ho : G.out = []) (hfr : Fr M0 w0 w G) {r : Nat} {c c' : Cell} {μ' : Nat → Value} {N : List Nat} (hc : get r m = some c) (hk : Keep (G.F r) w w') (hN : N.Nodup)
    (hNs : ∀ b, b ∈ N → (b ∈ G.F r ∨ b ∈ G.E ∨ w.heap.size ≤ b) ∧ b < w'.heap.size) (hμ : ∀ k, k ≠ r → μ' k = G.μ k) (hle : cellLe G.μ μ' r c c')
    (hcell : ∀ h' : View, (Gh U w G).le h' → memLe G.μ m μ' (put r c' m) → (∀ k, k ∈ G.E → k ∉ N → Sees h' (heapOf w) [k]) → simCell μ' (put r c' m) (heapOf w') h' r c' N) :
    Nx base U M0 w0 w m G w' (put r c' m) ⟨μ', upF G.F r N, [], []⟩ := by
  have hro : r ∉ G.out := by rw [ho]; simp
  obtain ⟨k1, k2⟩ := hg.goOut hc hro
  have hk' : Keep (G.E ++ G.F r) w w' := ⟨hk.os, hk.tape, hk.output, hk.size, fun b hb hn => hk.block b hb (fun h => hn (by simp [h]))⟩
  obtain ⟨q1, q2⟩ := Gok.world k1 hk' (E' := N) hN (fun b hb => by
    have := hNs b hb
    refine ⟨?_, this.2⟩
    rcases this.1 with h | h | h
    · left; simp [h]
    · left; simp [h]
    · exact .inr h)
  have hup : upF (upF G.F r []) r N = upF G.F r N := by
    funext k
    by_cases e : k = r
    · subst e; simp
    · simp [upF_other _ e]
  have hml : memLe G.μ m μ' (put r c' m) := memLe_put hμ (fun c0 h0 => by rw [hc] at h0; cases h0; exact hle)
  have hset := Gok.set (U := U) (w := w') q1 r c' μ' N [] [] (by simpa using hN) (by simp) hml hμ (fun k hkr => by simp [ho, hkr]) (by simp)
    (fun hv _ => hcell _ (k2.view.trans' (q2.trans' hv)) hml (fun k hkE hkN b hb cs t fr hH o v hv => by
      simp only [List.mem_singleton] at hb
      subst hb
      have hbF : ∀ j, b ∉ G.F j := fun j hj => hg.djE j b hj hkE
      have hlt := hg.lt b (.inl hkE)
      have hsame : heapOf w' b = heapOf w b := hk.block b hlt.1 (hbF r)
      refine sees_view (w := w') (N := [b]) (fun x hx => ?_) b (by simp) cs t fr (hsame.trans hH) o v hv
      simp only [List.mem_singleton] at hx
      subst hx
      refine ⟨hlt.2.2, ?_⟩
      rintro (h | ⟨j, h⟩)
      · simp at h
      · rw [hup] at h
        by_cases e : j = r
        · subst e; rw [upF_same] at h; exact hkN h
        · rw [upF_other _ e] at h; exact hbF j h))
  simp only [hup] at hset
  obtain ⟨s1, s2⟩ := hset
  refine ⟨s1, rfl, rfl, hml, k2.view.trans' (q2.trans' s2.view), ?_⟩
  refine ⟨hfr.keep.trans hk (fun x hx => hfr.fr x (.inr ⟨r, hx⟩)), ?_⟩
  rintro b (hb | ⟨k, hb⟩)
  · simp at hb
  · by_cases e : k = r
    · subst e
      simp only [upF_same] at hb
      rcases (hNs b hb).1 with h | h | h
      · exact hfr.fr b (.inr ⟨_, h⟩)
      · exact hfr.fr b (.inl h)
      · exact .inr (Nat.le_trans hfr.keep.size h)
    · simp only [upF_other _ e] at hb
      exact hfr.fr b (.inr ⟨k, hb⟩)
theorem At.rewrite (hA : At base U M0 w0 w m G) {r : Nat} {c c' : Cell} {μ' : Nat → Value} {N : List Nat} (hc : get r m = some c) (hk : Keep (G.F r) w w') (hN : N.Nodup)
    (hNs : ∀ b, b ∈ N → (b ∈ G.F r ∨ w.heap.size ≤ b) ∧ b < w'.heap.size) (hμ : ∀ k, k ≠ r → μ' k = G.μ k) (hle : cellLe G.μ μ' r c c')
    (hcell : ∀ h' : View, (Gh U w G).le h' → memLe G.μ m μ' (put r c' m) → simCell μ' (put r c' m) (heapOf w') h' r c' N) :
    Nx base U M0 w0 w m G w' (put r c' m) ⟨μ', upF G.F r N, [], []⟩ :=
  hA.ok.rewrite hA.out hA.fr hc hk hN (fun b hb => ⟨(hNs b hb).1.imp id .inr, (hNs b hb).2⟩) hμ hle (fun h' h1 h2 _ => hcell h' h1 h2)
/-- a step of the frame behind a step of what is in hand -/
theorem Nx.after {G1 : GS} {m1 : Mem} (hl : GLe m G m1 G1) (h : Nx base U M0 w0 w m1 G1 w' m' G') : Nx base U M0 w0 w m G w' m' G' :=
  ⟨h.ok, h.E, h.out, memLe_trans hl.mem h.mem, hl.view.trans' h.view, h.fr⟩

theorem keep_setRow {b : Nat} {cs : Array Value} {M : List Nat} (hb : b ∈ M) : Keep M w (w.setRow b cs) :=
  ⟨rfl, rfl, rfl, by simp [World.setRow], fun k _ hk => setRow_other w b k cs (fun e => hk (e ▸ hb))⟩
theorem keep_alloc {o : Obj} {M : List Nat} : Keep M w (w.alloc o) := ⟨rfl, rfl, rfl, by simp, fun k hk _ => heap_alloc_old w o k hk⟩
theorem keep_drew {M : List Nat} : Keep M w w.drew := ⟨rfl, rfl, rfl, Nat.le_refl _, fun _ _ _ => rfl⟩

/-! ### rows that are written into -/
theorem owRow_take {H : Heap} {h : View} : ∀ {r : Row} {cs cs' : List Value} {N : List Nat}, cs.take r.length = cs'.take r.length → owRow H h r cs N → owRow H h r cs' N
  | [], _, _, _, _, q => by simpa [owRow] using q
  | x :: r, cs, cs', N, e, q => by
    obtain ⟨v, cs1, N1, N2, rfl, rfl, h1, h2⟩ := owRow_cons q
    cases cs' with
    | nil => simp at e
    | cons v' cs1' =>
      simp only [List.length_cons, List.take_succ_cons, List.cons.injEq] at e
      obtain ⟨rfl, e⟩ := e
      simp only [owRow]
      exact ⟨v, cs1', N1, N2, rfl, rfl, h1, owRow_take e h2⟩
theorem owRow_append {H : Heap} {h : View} : ∀ {a b : Row} {cs : List Value} {N : List Nat}, owRow H h (a ++ b) cs N ↔ ∃ N1 N2, N = N1 ++ N2 ∧ owRow H h a cs N1 ∧ owRow H h b (cs.drop a.length) N2
  | [], b, cs, N => by
    simp only [List.nil_append, owRow, List.length_nil, List.drop_zero]
    constructor
    · intro q; exact ⟨[], N, rfl, rfl, q⟩
    · rintro ⟨N1, N2, rfl, rfl, q⟩; simpa using q
  | x :: a, b, cs, N => by
    simp only [List.cons_append, owRow]
    constructor
    · rintro ⟨v, cs', N1, N2, rfl, rfl, h1, h2⟩
      obtain ⟨N3, N4, rfl, h3, h4⟩ := owRow_append.1 h2
      exact ⟨N1 ++ N3, N4, by simp, ⟨v, cs', N1, N3, rfl, rfl, h1, h3⟩, by simpa using h4⟩
    · rintro ⟨N1, N2, rfl, ⟨v, cs', N3, N4, rfl, rfl, h1, h3⟩, h4⟩
      exact ⟨v, cs', N3, N4 ++ N2, rfl, by simp, h1, owRow_append.2 ⟨N4, N2, rfl, h3, by simpa using h4⟩⟩
theorem owRow_le {H : Heap} {h : View} : ∀ {r : Row} {cs : List Value} {N : List Nat}, owRow H h r cs N → r.length ≤ cs.length
  | [], _, _, _ => by simp
  | x :: r, cs, N, q => by
    obtain ⟨v, cs', N1, N2, rfl, rfl, _, h2⟩ := owRow_cons q
    have := owRow_le h2
    simp; omega
theorem splice_length {α : Type} {l xs : List α} {o : Nat} (h : o + xs.length ≤ l.length) : (splice l o xs).length = l.length := by
  simp [splice]; omega
theorem owRow_splice {H : Heap} {h : View} {row xs : Row} {cs gs : List Value} {N N1 : List Nat} {o : Nat} (q : owRow H h row cs N) (q1 : owRow H h xs gs N1) (hl : xs.length = gs.length) (ho : o + xs.length ≤ row.length) :
    ∃ N' Dr, owRow H h (splice row o xs) (splice cs o gs) N' ∧ (N' ++ Dr).Perm (N ++ N1) := by
  have hrow : row = row.take o ++ ((row.drop o).take xs.length ++ row.drop (o + xs.length)) := by
    rw [← List.drop_drop, List.take_append_drop, List.take_append_drop]
  have hcl := owRow_le q
  rw [hrow] at q
  obtain ⟨Na, Nb, rfl, qa, qb⟩ := owRow_append.1 q
  obtain ⟨Nc, Nd, rfl, qc, qd⟩ := owRow_append.1 qb
  have l1 : (row.take o).length = o := by simp; omega
  have l2 : ((row.drop o).take xs.length).length = xs.length := by simp; omega
  rw [l1, List.drop_drop, l2] at qd
  refine ⟨Na ++ (N1 ++ Nd), Nc, ?_, ?_⟩
  · have e : splice row o xs = row.take o ++ (xs ++ row.drop (o + xs.length)) := by simp [splice]
    rw [e]
    refine owRow_append.2 ⟨Na, N1 ++ Nd, rfl, ?_, ?_⟩
    · refine owRow_take ?_ qa
      rw [l1]
      simp only [splice, List.append_assoc]
      rw [List.take_append_of_le_length (by simp; omega)]
      rw [List.take_take]; congr 1; omega
    · rw [l1]
      have hd : (splice cs o gs).drop o = gs ++ cs.drop (o + gs.length) := by
        simp only [splice, List.append_assoc]
        rw [List.drop_append_of_le_length (by simp; omega)]
        have : (cs.take o).drop o = [] := by simp
        rw [this]; rfl
      rw [hd]
      refine owRow_append.2 ⟨N1, Nd, rfl, ?_, ?_⟩
      · refine owRow_take ?_ q1
        rw [hl]; simp
      · rw [hl]; rw [hl] at qd; simpa using qd
  · simp only [List.append_assoc]
    refine List.Perm.append_left Na ?_
    have h1 : (N1 ++ (Nd ++ Nc)).Perm ((Nd ++ Nc) ++ N1) := List.perm_append_comm
    have h2 : ((Nd ++ Nc) ++ N1).Perm ((Nc ++ Nd) ++ N1) := List.Perm.append_right N1 List.perm_append_comm
    simpa using h1.trans h2
theorem owRows_take {H : Heap} {h : View} {s : Nat} : ∀ {rs : List Row} {cs cs' : List Value} {N : List Nat}, cs.take (rs.length * s) = cs'.take (rs.length * s) → owRows H h s rs cs N → owRows H h s rs cs' N
  | [], _, _, _, _, q => by simpa [owRows] using q
  | r :: rs, cs, cs', N, e, q => by
    simp only [owRows] at q ⊢
    obtain ⟨h1, N1, N2, rfl, h2, h3⟩ := q
    have hs : (r :: rs).length * s = s + rs.length * s := by simp [Nat.add_mul]; omega
    rw [hs] at e
    refine ⟨h1, N1, N2, rfl, owRow_take ?_ h2, owRows_take ?_ h3⟩
    · rw [h1]
      have := congrArg (List.take s) e
      simpa [List.take_take, Nat.min_eq_left] using this
    · have := congrArg (List.drop s) e
      simpa [List.drop_take] using this
theorem owRows_append {H : Heap} {h : View} {s : Nat} : ∀ {a b : List Row} {cs : List Value} {N : List Nat}, owRows H h s (a ++ b) cs N ↔ ∃ N1 N2, N = N1 ++ N2 ∧ owRows H h s a cs N1 ∧ owRows H h s b (cs.drop (a.length * s)) N2
  | [], b, cs, N => by
    simp only [List.nil_append, owRows, List.length_nil, Nat.zero_mul, List.drop_zero]
    constructor
    · intro q; exact ⟨[], N, rfl, rfl, q⟩
    · rintro ⟨N1, N2, rfl, rfl, q⟩; simpa using q
  | x :: a, b, cs, N => by
    have hs : (x :: a).length * s = s + a.length * s := by simp [Nat.add_mul]; omega
    simp only [List.cons_append, owRows, hs]
    constructor
    · rintro ⟨h0, N1, N2, rfl, h1, h2⟩
      obtain ⟨N3, N4, rfl, h3, h4⟩ := owRows_append.1 h2
      exact ⟨N1 ++ N3, N4, by simp, ⟨h0, N1, N3, rfl, h1, h3⟩, by simpa using h4⟩
    · rintro ⟨N1, N2, rfl, ⟨h0, N3, N4, rfl, h1, h3⟩, h4⟩
      exact ⟨h0, N3, N4 ++ N2, by simp, h1, owRows_append.2 ⟨N4, N2, rfl, h3, by simpa using h4⟩⟩
theorem seenRow_take {h : View} : ∀ {r : Row} {cs cs' : List Value}, cs.take r.length = cs'.take r.length → seenRow h r cs → seenRow h r cs'
  | [], _, _, _, _ => trivial
  | x :: r, cs, cs', e, ⟨v, cs1, e1, h1, h2⟩ => by
    subst e1
    cases cs' with
    | nil => simp at e
    | cons v' cs1' =>
      simp only [List.length_cons, List.take_succ_cons, List.cons.injEq] at e
      obtain ⟨rfl, e⟩ := e
      exact ⟨v, cs1', rfl, h1, seenRow_take e h2⟩
theorem seenRow_append {h : View} : ∀ {a b : Row} {cs : List Value}, seenRow h (a ++ b) cs ↔ seenRow h a cs ∧ seenRow h b (cs.drop a.length)
  | [], b, cs => by simp [seenRow]
  | x :: a, b, cs => by
    simp only [List.cons_append, seenRow]
    constructor
    · rintro ⟨v, cs', rfl, h1, h2⟩
      obtain ⟨h3, h4⟩ := seenRow_append.1 h2
      exact ⟨⟨v, cs', rfl, h1, h3⟩, by simpa using h4⟩
    · rintro ⟨⟨v, cs', rfl, h1, h3⟩, h4⟩
      exact ⟨v, cs', rfl, h1, seenRow_append.2 ⟨h3, by simpa using h4⟩⟩
theorem seenRow_le {h : View} : ∀ {r : Row} {cs : List Value}, seenRow h r cs → r.length ≤ cs.length
  | [], _, _ => by simp
  | x :: r, cs, ⟨v, cs', e, _, h2⟩ => by subst e; have := seenRow_le h2; simp; omega
theorem seenRow_splice {h : View} {row xs : Row} {cs gs : List Value} {o : Nat} (q : seenRow h row cs) (q1 : seenRow h xs gs) (hl : xs.length = gs.length) (ho : o + xs.length ≤ row.length) : seenRow h (splice row o xs) (splice cs o gs) := by
  have hrow : row = row.take o ++ ((row.drop o).take xs.length ++ row.drop (o + xs.length)) := by
    rw [← List.drop_drop, List.take_append_drop, List.take_append_drop]
  have hcl := seenRow_le q
  rw [hrow] at q
  obtain ⟨qa, qb⟩ := seenRow_append.1 q
  obtain ⟨qc, qd⟩ := seenRow_append.1 qb
  have l1 : (row.take o).length = o := by simp; omega
  have l2 : ((row.drop o).take xs.length).length = xs.length := by simp; omega
  rw [l1, List.drop_drop, l2] at qd
  have e : splice row o xs = row.take o ++ (xs ++ row.drop (o + xs.length)) := by simp [splice]
  rw [e]
  refine seenRow_append.2 ⟨?_, ?_⟩
  · refine seenRow_take ?_ qa
    rw [l1]
    simp only [splice, List.append_assoc]
    rw [List.take_append_of_le_length (by simp; omega)]
    rw [List.take_take]; congr 1; omega
  · rw [l1]
    have hd : (splice cs o gs).drop o = gs ++ cs.drop (o + gs.length) := by
      simp only [splice, List.append_assoc]
      rw [List.drop_append_of_le_length (by simp; omega)]
      have : (cs.take o).drop o = [] := by simp
      rw [this]; rfl
    rw [hd]
    refine seenRow_append.2 ⟨seenRow_take (by rw [hl]; simp) q1, ?_⟩
    rw [hl]; rw [hl] at qd; simpa using qd
theorem seenRows_take {h : View} {s : Nat} : ∀ {rs : List Row} {cs cs' : List Value}, cs.take (rs.length * s) = cs'.take (rs.length * s) → seenRows h s rs cs → seenRows h s rs cs'
  | [], _, _, _, _ => trivial
  | r :: rs, cs, cs', e, ⟨h1, h2, h3⟩ => by
    have hs : (r :: rs).length * s = s + rs.length * s := by simp [Nat.add_mul]; omega
    rw [hs] at e
    refine ⟨h1, seenRow_take ?_ h2, seenRows_take ?_ h3⟩
    · rw [h1]
      have := congrArg (List.take s) e
      simpa [List.take_take, Nat.min_eq_left] using this
    · have := congrArg (List.drop s) e
      simpa [List.drop_take] using this
theorem seenRows_append {h : View} {s : Nat} : ∀ {a b : List Row} {cs : List Value}, seenRows h s (a ++ b) cs ↔ seenRows h s a cs ∧ seenRows h s b (cs.drop (a.length * s))
  | [], b, cs => by simp [seenRows]
  | x :: a, b, cs => by
    have hs : (x :: a).length * s = s + a.length * s := by simp [Nat.add_mul]; omega
    simp only [List.cons_append, seenRows, hs]
    rw [seenRows_append, List.drop_drop]
    constructor
    · rintro ⟨h0, h1, h2, h3⟩; exact ⟨⟨h0, h1, h2⟩, h3⟩
    · rintro ⟨⟨h0, h1, h2⟩, h3⟩; exact ⟨h0, h1, h2, h3⟩
end
end Go.Vm
