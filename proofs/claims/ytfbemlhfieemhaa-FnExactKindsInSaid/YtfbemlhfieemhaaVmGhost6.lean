/-
  The machine's steps on its cells: boxes and arrays that come back from a call; what is appended; zero values.
-/
import Derived.Test.YtfbemlhfieemhaaVmGhost5
namespace Go.Vm
open Go
section
variable {base : Nat} {U : Nat → Prop} {w w' : World} {m : Mem} {G : GS}

theorem drop_cons {α : Type} {l : List α} {i : Nat} {a : α} {r : List α} (h : l.drop i = a :: r) : l[i]? = some a ∧ l.drop (i + 1) = r := by
  refine ⟨?_, by rw [← List.drop_drop, h]; rfl⟩
  have : (l.drop i)[0]? = some a := by rw [h]; rfl
  rwa [List.getElem?_drop, Nat.add_zero] at this
theorem map_vD (xs : List D) : (xs.map V.d).map vD = xs := by
  induction xs with
  | nil => rfl
  | cons x xs ih => simp [vD, ih]

theorem kinds_grow {m m' : Mem} (h : ∀ k c, get k m = some c → get k m' = some c) : ∀ {rs : List Nat} {cs : List Cell}, kinds m rs cs → kinds m' rs cs
  | [], _, q => q
  | r :: rs, _, ⟨c, c', cs', h1, h2, h3, h4⟩ => ⟨c, c', cs', h1, h r c h2, h3, kinds_grow h h4⟩
theorem kinds_put {m : Mem} {r : Nat} {c0 : Cell} : ∀ {rs : List Nat} {cs : List Cell}, r ∉ rs → kinds m rs cs → kinds (put r c0 m) rs cs
  | [], _, _, q => q
  | k :: rs, _, hr, ⟨c, c', cs', h1, h2, h3, h4⟩ => by
    simp only [List.mem_cons, not_or] at hr
    exact ⟨c, c', cs', h1, by rw [get_put_other (Ne.symm hr.1)]; exact h2, h3, kinds_put hr.2 h4⟩

/-- the cells of a frame behind a step -/
structure Came (base : Nat) (U : Nat → Prop) (w : World) (m : Mem) (G : GS) (m' : Mem) (G' : GS) (E : List Nat) : Prop where
  ok : Gok base U w m' G'
  le : GLe m G m' G'
  E : G'.E = E
  out : G'.out = []

theorem cellsB_grow {H : Heap} {h h' : View} (hl : h.le h') {cs : List Cell} {gs : List Value} {N : List Nat} (q : cellsB H h cs gs N) : cellsB H h' cs gs N := cellsB_mono hl (fun _ _ => rfl) q

theorem reAll_ok {X : Ctx} {dst : Nat} {outs : List Cell} : ∀ {rs : List Nat} {i : Nat} {m : Mem} {G : GS} {N E : List Nat} (_ : Gok base U w m G) (_ : rs.Nodup) (_ : G.out = rs) (_ : kinds m rs (outs.drop i))
    (_ : (N ++ E).Perm G.E) (_ : cellsB (heapOf w) (Gh U w G) (outs.drop i) (rs.map G.μ) N) {x : Unit} {m' : Mem} {l l' : Log} (_ : (reAll X dst outs i rs).run m l = some (x, m', l')),
    ∃ G', Came base U w m G m' G' E
  | [], i, m, G, N, E, hg, hn, ho, hk, hE, hq, x, m', l, l', h => by
    simp only [reAll, run_pure, Option.some.injEq, Prod.mk.injEq] at h
    obtain ⟨_, rfl, rfl⟩ := h
    obtain ⟨d1, d2, _⟩ := hg.dropN hE
    exact ⟨_, d1, d2, rfl, ho⟩
  | r :: rs, i, m, G, N, E, hg, hn, ho, hk, hE, hq, x, m', l, l', h => by
    obtain ⟨c, c', cs', e1, hc, hsk, hk'⟩ := hk
    have hnr := List.nodup_cons.1 hn
    obtain ⟨hi, hdrop⟩ := drop_cons e1
    rw [e1] at hq
    obtain ⟨g, gs', N1, N2, eg, rfl, q1, q2⟩ := hq
    simp only [List.map_cons, List.cons.injEq] at eg
    obtain ⟨rfl, rfl⟩ := eg
    have hout : ∀ k, k ∈ G.out → ∃ c, get k m = some c := by
      intro k hkm
      rw [ho] at hkm
      simp only [List.mem_cons] at hkm
      rcases hkm with rfl | hkm
      · exact ⟨c, hc⟩
      · obtain ⟨j, hj⟩ := List.getElem?_of_mem hkm
        obtain ⟨c2, _, h2, _⟩ := kinds_at hk' hj
        exact ⟨c2, h2⟩
    simp only [reAll] at h
    replace h := run_bind_some h; obtain ⟨c0, m1, l1, h1, h⟩ := h
    rw [run_rd] at h1
    cases h1
    rw [hc] at h
    cases c with
    | dead => exact hsk.elim
    | box t cs =>
      cases c' with
      | dead => exact hsk.elim
      | arr _ _ _ _ _ => exact hsk.elim
      | box t' vs =>
        obtain rfl : t = t' := hsk
        obtain ⟨b, a, xs, N', hμ, hH, hvs, hxl, hrow, rfl⟩ := q1
        simp only at h
        replace h := run_bind_some h; obtain ⟨_, m2, l2, h2, h⟩ := h
        obtain ⟨hbl, rfl, rfl⟩ := run_ck h2
        replace h := run_bind_some h; obtain ⟨vs', m3, l3, h3, h⟩ := h
        replace h := run_bind_some h; obtain ⟨_, m4, l4, h4, h⟩ := h
        rw [run_wr] at h4
        cases h4
        have hbx : bxRow outs i = xs := by simp only [bxRow, hi, hvs]; exact map_vD xs
        have hbl : xs.length = (ctsOf X.P t).length := by
          simp only [boxLen, hi] at hbl
          have := Nat.eq_of_beq_eq_true hbl
          rw [hvs, List.length_map] at this
          exact this
        rw [hbx] at h3
        obtain ⟨G1, t1, s1⟩ := reCells_ok hg hout (N := N') (E := b :: (N2 ++ E)) (List.Perm.trans (by
          have : (N' ++ b :: (N2 ++ E)).Perm (b :: (N' ++ (N2 ++ E))) := List.perm_middle
          refine this.trans ?_
          simp [List.append_assoc]) hE) (by simpa using hrow) (by simpa using hbl) (by rw [← hxl]; exact hbl) h3
        have hc1 := t1.old r _ hc
        have hndE := t1.ok.ndE
        rw [t1.E] at hndE
        have hset := t1.ok.set r (.box t vs') G1.μ [b] (N2 ++ E) rs (by simpa using hndE) (fun k hk => .inr (by rw [t1.E]; simpa using hk))
          (memLe_put (fun _ _ => rfl) (fun c h => by rw [hc1] at h; cases h; exact ⟨rfl, rfl⟩)) (fun _ _ => rfl)
          (fun k hne => by rw [t1.out, ho]; simp [hne]) (fun hr => absurd hr hnr.1)
          (fun hv _ => ⟨b, a, by rw [t1.μ r _ hc]; exact hμ, hH, simVs_mono (memLe_put (fun _ _ => rfl) (fun c h => by rw [hc1] at h; cases h; exact ⟨rfl, rfl⟩)) hv _ _ s1, rfl⟩)
        obtain ⟨k1, k2⟩ := hset
        obtain ⟨G2, f1, f2, f3, f4⟩ := reAll_ok k1 hnr.2 rfl (kinds_put hnr.1 (kinds_grow t1.old (by rw [hdrop]; exact hk'))) (N := N2) (E := E) (List.Perm.refl _)
          (by
            rw [hdrop]
            have hmap : rs.map G1.μ = rs.map G.μ := List.map_congr_left fun k hk => by
              obtain ⟨c2, h2⟩ := hout k (by rw [ho]; simp [hk])
              exact t1.μ k c2 h2
            simp only [hmap]
            exact cellsB_grow (t1.le.view.trans' k2.view) q2) h
        exact ⟨G2, f1, (t1.le.trans k2).trans f2, f3, f4⟩
    | arr fz fl ver s rows =>
      cases c' with
      | dead => exact hsk.elim
      | box _ _ => exact hsk.elim
      | arr fz' fl' ver' s' rows' =>
        obtain ⟨rfl, rfl, rfl, rfl⟩ := hsk
        obtain ⟨rfl, _, hrow⟩ := q1
        simp only at h
        replace h := run_bind_some h; obtain ⟨rows2, m2, l2, h2, h⟩ := h
        obtain ⟨har, rfl, rfl⟩ := run_op' h2
        replace h := run_bind_some h; obtain ⟨_, m4, l4, h4, h⟩ := h
        rw [run_wr] at h4
        cases h4
        have hrr : rows2 = rows' := by
          simp [arRows, hi] at har
          exact har.symm
        subst hrr
        have hndE := hE.nodup_iff.2 hg.ndE
        have hset := hg.set r (.arr false fl 0 s rows2) G.μ N1 (N2 ++ E) rs (by rwa [List.append_assoc] at hndE) (fun k hk => .inr (hE.mem_iff.1 (by rw [List.append_assoc]; exact hk)))
          (memLe_put (fun _ _ => rfl) (fun c h => by rw [hc] at h; cases h; exact ⟨Nat.le_refl _, rfl, fun _ => ⟨rfl, rfl⟩⟩)) (fun _ _ => rfl)
          (fun k hne => by rw [ho]; simp [hne]) (fun hr => absurd hr hnr.1)
          (fun hv _ => arrS_mono hv (fun _ _ => rfl) hrow)
        obtain ⟨k1, k2⟩ := hset
        obtain ⟨G2, f1, f2, f3, f4⟩ := reAll_ok k1 hnr.2 rfl (kinds_put hnr.1 (by rw [hdrop]; exact hk')) (N := N2) (E := E) (List.Perm.refl _)
          (by rw [hdrop]; exact cellsB_grow k2.view q2) h
        exact ⟨G2, f1, k2.trans f2, f3, f4⟩

/-! ### what is appended -/
theorem str_seen {h : View} (s : List UInt8) : ∀ (cs : List Value), cs = s.map (fun b => Value.int .u8 b.toNat) → seenRows h 1 (s.map byteRow) cs := by
  induction s with
  | nil => intro cs _; simp [seenRows]
  | cons b s ih =>
    intro cs e
    subst e
    simp only [List.map_cons, seenRows, byteRow]
    exact ⟨rfl, by simp [seenRow, ro], ih _ rfl⟩

end
end Go.Vm
