/-
  The machine's operations are Go's: stores, new boxes, addresses.
-/
import Derived.Test.YtfbemlhfieemhaaVmOps2
namespace Go.Vm
open Go

section
variable {base : Nat} {U : Nat → Prop} {M0 : List Nat} {w0 w w' : World} {m m' : Mem} {G G' : GS} {P : Program}

theorem set_eq_take {α : Type} {l : List α} {i : Nat} {a b : α} (h : l[i]? = some a) : l.set i b = l.take i ++ (b :: l.drop (i + 1)) ∧ l = l.take i ++ (a :: l.drop (i + 1)) := by
  have hi := (List.getElem?_eq_some_iff.1 h).1
  have ha := (List.getElem?_eq_some_iff.1 h).2
  refine ⟨?_, ?_⟩
  · rw [List.set_eq_take_append_cons_drop, if_pos hi]
  · rw [← ha, List.getElem_cons_drop, List.take_append_drop]
theorem owRows_set {H : Heap} {h : View} {s i o : Nat} {rows : List Row} {row xs : Row} {cs gs : List Value} {N N1 : List Nat} (q : owRows H h s rows cs N) (hi : rows[i]? = some row) (q1 : owRow H h xs gs N1) (hl : xs.length = gs.length) (ho : o + xs.length ≤ s) :
    ∃ N' Dr, owRows H h s (rows.set i (splice row o xs)) (splice cs (i * s + o) gs) N' ∧ (N' ++ Dr).Perm (N ++ N1) := by
  obtain ⟨e1, e2⟩ := set_eq_take (b := splice row o xs) hi
  have hil := (List.getElem?_eq_some_iff.1 hi).1
  rw [e2] at q
  obtain ⟨Na, Nb, rfl, qa, qb⟩ := owRows_append.1 q
  have l1 : (rows.take i).length = i := by simp; omega
  rw [l1] at qb
  simp only [owRows] at qb
  obtain ⟨h0, Nc, Nd, rfl, qc, qd⟩ := qb
  have hcl := owRow_le qc
  simp only [List.length_drop] at hcl
  obtain ⟨N', Dr, qe, hp⟩ := owRow_splice (o := o) qc q1 hl (by omega)
  have hsplen : (splice row o xs).length = s := by rw [splice_length (l := row) (xs := xs) (o := o) (by omega)]; exact h0
  have his : i * s ≤ cs.length := by
    rcases Nat.eq_zero_or_pos s with e | e
    · rw [e]; simp
    · omega
  refine ⟨Na ++ (N' ++ Nd), Dr, ?_, ?_⟩
  · rw [e1]
    refine owRows_append.2 ⟨Na, N' ++ Nd, rfl, ?_, ?_⟩
    · refine owRows_take ?_ qa
      rw [l1]
      simp only [splice, List.append_assoc]
      rw [List.take_append_of_le_length (by simp; omega), List.take_take]
      congr 1; omega
    · rw [l1]
      have hd : (splice cs (i * s + o) gs).drop (i * s) = splice (cs.drop (i * s)) o gs := by
        simp only [splice]
        rw [List.append_assoc, List.drop_append_of_le_length (by simp; omega), List.drop_take, List.drop_drop]
        rw [show i * s + o - i * s = o from by omega, List.append_assoc, Nat.add_assoc]
      simp only [owRows, hd]
      refine ⟨hsplen, N', Nd, rfl, qe, ?_⟩
      have hd2 : (splice (cs.drop (i * s)) o gs).drop s = (cs.drop (i * s)).drop s := by
        simp only [splice]
        rw [List.drop_append, List.drop_eq_nil_of_le (by simp; omega)]
        simp only [List.nil_append, List.drop_drop, List.length_append, List.length_take, List.length_drop]
        congr 1
        omega
      rw [hd2]
      exact qd
  · simp only [List.append_assoc]
    refine List.Perm.append_left Na ?_
    have h1 : (N' ++ (Nd ++ Dr)).Perm (N' ++ (Dr ++ Nd)) := List.Perm.append_left N' List.perm_append_comm
    have h2 : ((N' ++ Dr) ++ Nd).Perm ((Nc ++ N1) ++ Nd) := List.Perm.append_right Nd hp
    have h3 : (Nc ++ (N1 ++ Nd)).Perm (Nc ++ (Nd ++ N1)) := List.Perm.append_left Nc List.perm_append_comm
    have h2' : (N' ++ (Dr ++ Nd)).Perm (Nc ++ (N1 ++ Nd)) := by simpa using h2
    exact h1.trans (h2'.trans h3)
theorem seenRows_set {h : View} {s i o : Nat} {rows : List Row} {row xs : Row} {cs gs : List Value} (q : seenRows h s rows cs) (hi : rows[i]? = some row) (q1 : seenRow h xs gs) (hl : xs.length = gs.length) (ho : o + xs.length ≤ s) :
    seenRows h s (rows.set i (splice row o xs)) (splice cs (i * s + o) gs) := by
  obtain ⟨e1, e2⟩ := set_eq_take (b := splice row o xs) hi
  have hil := (List.getElem?_eq_some_iff.1 hi).1
  rw [e2] at q
  obtain ⟨qa, qb⟩ := seenRows_append.1 q
  have l1 : (rows.take i).length = i := by simp; omega
  rw [l1] at qb
  obtain ⟨h0, qc, qd⟩ := qb
  have hcl := seenRow_le qc
  simp only [List.length_drop] at hcl
  have qe := seenRow_splice (o := o) qc q1 hl (by omega)
  have hsplen : (splice row o xs).length = s := by rw [splice_length (l := row) (xs := xs) (o := o) (by omega)]; exact h0
  have his : i * s ≤ cs.length := by
    rcases Nat.eq_zero_or_pos s with e | e
    · rw [e]; simp
    · omega
  rw [e1]
  refine seenRows_append.2 ⟨?_, ?_⟩
  · refine seenRows_take ?_ qa
    rw [l1]
    simp only [splice, List.append_assoc]
    rw [List.take_append_of_le_length (by simp; omega), List.take_take]
    congr 1; omega
  · rw [l1]
    have hd : (splice cs (i * s + o) gs).drop (i * s) = splice (cs.drop (i * s)) o gs := by
      simp only [splice]
      rw [List.append_assoc, List.drop_append_of_le_length (by simp; omega), List.drop_take, List.drop_drop]
      rw [show i * s + o - i * s = o from by omega, List.append_assoc, Nat.add_assoc]
    rw [hd]
    refine ⟨hsplen, qe, ?_⟩
    have hd2 : (splice (cs.drop (i * s)) o gs).drop s = (cs.drop (i * s)).drop s := by
      simp only [splice]
      rw [List.drop_append, List.drop_eq_nil_of_le (by simp; omega)]
      simp only [List.nil_append, List.drop_drop, List.length_append, List.length_take, List.length_drop]
      congr 1
      omega
    rw [hd2]
    exact qd

theorem At.took (hA : At base U M0 w0 w m G) {N : List Nat} (ht : Took base U w m G m' G' N) : G'.E = N ∧ G'.out = [] ∧ Fr M0 w0 w G' :=
  ⟨by rw [ht.E, hA.E]; rfl, ht.out.trans hA.out, hA.fr.less ht.le.ex⟩

theorem storeV_ok (hA : At base U M0 w0 w m G) {t : TypeId} {a x : V} {ga gx : Value} (ha : simV G.μ m (Gh U w G) a ga) (hx : simV G.μ m (Gh U w G) x gx) {u : Unit} {l l' : Log} (h : (storeV P t a x).run m l = some (u, m', l')) :
    ∃ w' G', (Instr.storeAt t ga gx).run P w = .ok () w' ∧ Nx base U M0 w0 w m G w' m' G' := by
  simp only [storeV] at h
  replace h := run_bind_some h; obtain ⟨_, m1, l1, h1, h⟩ := h
  obtain ⟨hok, rfl, rfl⟩ := run_ck h1
  replace h := run_bind_some h; obtain ⟨_, m1, l1, h1, h⟩ := h
  obtain ⟨hlen, rfl, rfl⟩ := run_ck h1
  replace h := run_bind_some h; obtain ⟨_, m1, l1, h1, h⟩ := h
  obtain ⟨hone, rfl, rfl⟩ := run_ck h1
  have hlen := Nat.eq_of_beq_eq_true hlen
  obtain ⟨hxs, hx1⟩ := cells_ok hone hx
  have hgl : gx.cells.size = szT P t := by rw [← hlen, ← simVs_length hxs, Array.length_toList]
  cases a with
  | ptr r off =>
    simp only at h
    replace h := run_bind_some h; obtain ⟨c, m2, l2, h2, h⟩ := h
    rw [run_rd] at h2
    cases h2
    cases hc : get r m1 with
    | none => rw [hc] at h; exact (run_fail h).elim
    | some c =>
      rw [hc] at h
      cases c with
      | arr _ _ _ _ _ => exact (run_fail h).elim
      | dead => exact (run_fail h).elim
      | box T cs =>
        simp only at h
        replace h := run_bind_some h; obtain ⟨_, m2, l2, h2, h⟩ := h
        obtain ⟨hfit, rfl, rfl⟩ := run_ck h2
        simp only [run_wr, Option.some.injEq, Prod.mk.injEq] at h
        obtain ⟨_, rfl, _⟩ := h
        simp only [simV, hc] at ha
        obtain ⟨_, b, hμ, rfl⟩ := ha
        obtain ⟨b', arr, e1, e2, e3, e4⟩ := hA.ok.cell r _ hc (by rw [hA.out]; simp)
        rw [hμ] at e1
        cases e1
        have hal : arr.size = cs.length := by simpa using simVs_length e3
        have hfit := Nat.le_of_ble_eq_true hfit
        have hrun := run_storeAt (P := P) hok e2 hgl (off := off) (by omega) hx1
        have hb : b ∈ G.F r := by rw [e4]; simp
        refine ⟨_, _, hrun, hA.rewrite (μ' := G.μ) (N := [b]) hc (keep_setRow hb) (by simp) (fun k hk => ?_) (fun _ _ => rfl) ⟨rfl, rfl⟩ (fun h' hv hml => ?_)⟩
        · simp at hk; subst hk
          refine ⟨.inl hb, ?_⟩
          have := (hA.ok.lt _ (.inr ⟨r, hb⟩)).1
          simpa [World.setRow] using this
        · refine ⟨b, _, hμ, setRow_heap w b arr _ T (0, 0) e2, ?_, rfl⟩
          have := simVs_splice off e3 hxs
          simpa using simVs_mono hml hv _ _ this
  | eptr r ver i off =>
    simp only at h
    replace h := run_bind_some h; obtain ⟨xs, m2, l2, h2, h⟩ := h
    obtain ⟨G1, N1, t1, hrow, hxl⟩ := toRow_ok hA.ok hxs hA.out h2
    obtain ⟨hE1, ho1, hfr1⟩ := hA.took t1
    replace h := run_bind_some h; obtain ⟨c, m3, l3, h3, h⟩ := h
    rw [run_rd] at h3
    cases h3
    replace ha := t1.le.simV ha
    cases hc : get r m2 with
    | none => rw [hc] at h; exact (run_fail h).elim
    | some c =>
      rw [hc] at h
      cases c with
      | box _ _ => exact (run_fail h).elim
      | dead => exact (run_fail h).elim
      | arr fz fl ver' s rows =>
        cases fz with
        | true => exact (run_fail h).elim
        | false =>
        simp only at h
        replace h := run_bind_some h; obtain ⟨_, m4, l4, h4, h⟩ := h
        obtain ⟨hb, rfl, rfl⟩ := run_ck h4
        have hb := Nat.eq_of_beq_eq_true hb
        subst hb
        replace h := run_bind_some h; obtain ⟨_, m4, l4, h4, h⟩ := h
        obtain ⟨hfit, rfl, rfl⟩ := run_ck h4
        have hfit := Nat.le_of_ble_eq_true hfit
        replace h := run_bind_some h; obtain ⟨row, m4, l4, h4, h⟩ := h
        obtain ⟨hrw, rfl, rfl⟩ := run_op' h4
        simp only [run_wr, Option.some.injEq, Prod.mk.injEq] at h
        obtain ⟨_, rfl, _⟩ := h
        simp only [simV, hc] at ha
        obtain ⟨b, n, cap, hμ, rfl⟩ := ha.2.2 trivial
        have hcell := t1.ok.cell r _ hc (by rw [ho1]; simp)
        have hne : rows ≠ [] := by intro e; subst e; simp at hrw
        have hil := (List.getElem?_eq_some_iff.1 hrw).1
        simp only [simCell] at hcell
        rcases hcell with ⟨e, _, _⟩ | ⟨b', cap', cs, T, N', k1, k2, k3, k4, k5, k6⟩
        · exact absurd e hne
        rw [hμ] at k1
        simp only [Value.slice.injEq, Option.some.injEq, Addr.mk.injEq] at k1
        obtain ⟨⟨rfl, _⟩, rfl, rfl⟩ := k1
        have hbF : b ∈ G1.F r := by rw [k6]; simp
        have hxlen : xs.length = gx.cells.toList.length := by rw [hxl, simVs_length hxs]
        have hsz : i * s + off + gx.cells.size ≤ cs.size := by
          rw [k4, hgl]
          have : (i + 1) * s ≤ cap * s := Nat.mul_le_mul_right s (by omega)
          rw [Nat.add_mul] at this
          omega
        have hrun := run_storeAt (P := P) hok k3 hgl (off := i * s + off) hsz hx1
        have hh := setRow_heap w b cs (splice cs.toList (i * s + off) gx.cells.toList).toArray T (0, 0) k3
        have hxs2 : off + xs.length ≤ s := by rw [hxlen, Array.length_toList, hgl]; exact hfit
        have hspl : (splice cs.toList (i * s + off) gx.cells.toList).length = cs.size := by rw [splice_length (by simpa using hsz)]; simp
        -- the frame, its things in hand laid into the array
        have key : ∃ N2, N2.Nodup ∧ (fl = true → N2 = []) ∧ (∀ k, k ∈ N2 → k ∈ G1.F r ∨ k ∈ G1.E) ∧ ∀ h' : View, (Gh U w G1).le h' → (fl = true → Sees h' (heapOf w) N1) → arrS (heapOf (w.setRow b (splice cs.toList (i * s + off) gx.cells.toList).toArray)) h' fl s (rows.set i (splice row off xs)) (G1.μ r) (b :: N2) ∧ b ∉ N2 := by
          have hoth : ∀ k, k ≠ b → heapOf (w.setRow b (splice cs.toList (i * s + off) gx.cells.toList).toArray) k = heapOf w k := fun k hk => setRow_other w b k _ hk
          cases fl with
          | true =>
            refine ⟨[], by simp, fun _ => rfl, by simp, fun h' hv hs => ⟨.inr ⟨b, cap, _, T, [], ?_, ?_, hh, ?_, ⟨?_, rfl⟩, rfl⟩, by simp⟩⟩
            · rw [hμ]; simp
            · simpa using k2
            · simpa [hspl] using k4
            · have q1 : seenRow h' xs gx.cells.toList := owRow_seen hv xs _ N1 (hs rfl) hrow
              simpa using seenRows_set (seenRows_mono hv s rows _ k5.1) hrw q1 hxlen hxs2
          | false =>
            obtain ⟨N2, Dr, q1, hp⟩ := owRows_set k5 hrw hrow hxlen hxs2
            have hnd0 : (N' ++ N1).Nodup := by
              have h1 := t1.ok.nd r
              rw [k6] at h1
              have h2 := t1.ok.ndE
              rw [hE1] at h2
              exact List.nodup_append.2 ⟨(List.nodup_cons.1 h1).2, h2, fun x hx y hy e => t1.ok.djE r x (by rw [k6]; simp [hx]) (by rw [hE1, e]; exact hy)⟩
            have hnd := List.nodup_append.1 (hp.nodup_iff.2 hnd0)
            have hmem : ∀ k, k ∈ N2 → k ∈ N' ∨ k ∈ N1 := fun k hk => by simpa using hp.mem_iff.1 (List.mem_append_left Dr hk)
            have hbn : b ∉ N2 := by
              intro hb2
              rcases hmem b hb2 with h | h
              · have := t1.ok.nd r; rw [k6] at this; exact (List.nodup_cons.1 this).1 h
              · exact t1.ok.djE r b hbF (by rw [hE1]; exact h)
            refine ⟨N2, hnd.1, (fun e => by cases e), fun k hk => ?_, fun h' hv _ => ⟨.inr ⟨b, cap, _, T, N2, ?_, ?_, hh, ?_, ?_, rfl⟩, hbn⟩⟩
            · rcases hmem k hk with h | h
              · left; rw [k6]; simp [h]
              · right; rw [hE1]; exact h
            · rw [hμ]; simp
            · simpa using k2
            · simpa [hspl] using k4
            · have := owRows_mono hv s _ _ N2 (fun k hk => hoth k (fun e => hbn (e ▸ hk))) q1
              simpa using this
        obtain ⟨N2, hN2, hfl2, hN2s, hsim⟩ := key
        refine ⟨_, _, hrun, Nx.after t1.le (t1.ok.rewrite ho1 hfr1 (μ' := G1.μ) (N := b :: N2) hc (keep_setRow hbF) ?_ ?_ (fun _ _ => rfl) ⟨Nat.le_refl _, rfl, fun _ => ⟨rfl, rfl⟩⟩ ?_)⟩
        · exact List.nodup_cons.2 ⟨(hsim (full w) (view_le_full _ _ _) (fun _ => sees_full)).2, hN2⟩
        · intro k hk
          have hsz' : (w.setRow b (splice cs.toList (i * s + off) gx.cells.toList).toArray).heap.size = w.heap.size := by simp [World.setRow]
          rw [hsz']
          simp only [List.mem_cons] at hk
          rcases hk with rfl | hk
          · exact ⟨.inl hbF, (t1.ok.lt _ (.inr ⟨r, hbF⟩)).1⟩
          · rcases hN2s k hk with h | h
            · exact ⟨.inl h, (t1.ok.lt _ (.inr ⟨r, h⟩)).1⟩
            · exact ⟨.inr (.inl h), (t1.ok.lt _ (.inl h)).1⟩
        · intro h' hv hml hvis
          refine (hsim h' hv (fun hfl => ?_)).1
          intro k hk
          have hkE : k ∈ G1.E := by rw [hE1]; exact hk
          refine hvis k hkE ?_ k (by simp)
          rw [hfl2 hfl]
          simp only [List.mem_singleton]
          intro e
          subst e
          exact t1.ok.djE r _ hbF hkE
  | d _ => exact (run_fail h).elim
  | nil _ => exact (run_fail h).elim
  | own _ _ => exact (run_fail h).elim
  | rptr _ _ => exact (run_fail h).elim
  | clo _ _ _ => exact (run_fail h).elim
  | agg _ => exact (run_fail h).elim
  | tup _ => exact (run_fail h).elim
  | undef => exact (run_fail h).elim
end
end Go.Vm
