/-
  The machine's operations are Go's: append.
-/
import Derived.Test.YtfbemlhfieemhaaVmOps5
namespace Go.Vm
open Go

section
variable {base : Nat} {U : Nat → Prop} {M0 : List Nat} {w0 w w' : World} {m m' : Mem} {G G' : GS} {P : Program}

theorem roRow_cells {h : View} {b : Nat} : ∀ (r : Row) (o : Nat), roRow h r b o → ∃ cs : List Value, cs.length = r.length ∧ (∀ j v, cs[j]? = some v → h b (o + j) = some v) ∧ seenRow h r cs
  | [], _, _ => ⟨[], rfl, by simp, trivial⟩
  | x :: r, o, q => by
    simp only [roRow] at q
    obtain ⟨⟨v, h1, h2⟩, h3⟩ := q
    obtain ⟨cs, e1, e2, e3⟩ := roRow_cells r (o + 1) h3
    refine ⟨v :: cs, by simp [e1], ?_, ⟨v, cs, rfl, h2, e3⟩⟩
    intro j u hj
    cases j with
    | zero => simp at hj; subst hj; exact h1
    | succ j =>
      have := e2 j u (by simpa using hj)
      rwa [show o + (j + 1) = o + 1 + j from by omega]
theorem roRows_cells {h : View} {s b : Nat} : ∀ (rs : List Row) (o : Nat), roRows h s rs b o → ∃ cs : List Value, cs.length = rs.length * s ∧ (∀ j v, cs[j]? = some v → h b (o + j) = some v) ∧ seenRows h s rs cs
  | [], _, _ => ⟨[], by simp, by simp, trivial⟩
  | r :: rs, o, q => by
    simp only [roRows] at q
    obtain ⟨h1, h2, h3⟩ := q
    obtain ⟨cs1, a1, a2, a3⟩ := roRow_cells r o h2
    obtain ⟨cs2, b1, b2, b3⟩ := roRows_cells rs (o + s) h3
    have hl : cs1.length = s := by rw [a1, h1]
    refine ⟨cs1 ++ cs2, by simp [hl, b1, Nat.add_mul]; omega, ?_, h1, ?_, ?_⟩
    · intro j u hj
      by_cases hlt : j < s
      · rw [List.getElem?_append_left (by omega)] at hj
        exact a2 j u hj
      · rw [List.getElem?_append_right (by omega), hl] at hj
        have := b2 (j - s) u hj
        rwa [show o + j = o + s + (j - s) from by omega]
    · refine seenRow_take ?_ a3
      rw [List.take_append_of_le_length (by omega)]
    · rw [List.drop_append_of_le_length (by omega), List.drop_eq_nil_of_le (by omega)]
      exact b3
theorem seenRow_one {h : View} : ∀ {r : Row} {cs : List Value}, seenRow h r cs → ∀ u ∈ cs.take r.length, u.oneCell' = true
  | [], _, _ => by simp
  | x :: r, cs, ⟨v, cs', e, h1, h2⟩ => by
    subst e
    intro u hu
    simp only [List.length_cons, List.take_succ_cons, List.mem_cons] at hu
    rcases hu with rfl | hu
    · exact oneCell_of_ro h1
    · exact seenRow_one h2 u hu
theorem seenRows_one {h : View} {s : Nat} : ∀ {rs : List Row} {cs : List Value}, seenRows h s rs cs → ∀ u ∈ cs.take (rs.length * s), u.oneCell' = true
  | [], _, _ => by simp
  | r :: rs, cs, ⟨h1, h2, h3⟩ => by
    intro u hu
    have hs : (r :: rs).length * s = s + rs.length * s := by simp [Nat.add_mul]; omega
    rw [hs, List.take_add] at hu
    simp only [List.mem_append] at hu
    rcases hu with hu | hu
    · exact seenRow_one h2 u (by rw [h1]; exact hu)
    · exact seenRows_one h3 u hu
theorem oneCell_of_ow {H : Heap} {h : View} {x : D} {g : Value} {N : List Nat} (q : ow H h x g N) : g.oneCell' = true := by
  cases x with
  | sl o s rows =>
    cases o with
    | false => simp only [ow] at q; exact oneCell_of_ro q.2
    | true =>
      simp only [ow] at q
      rcases q with ⟨_, rfl, _⟩ | ⟨b, cap, cs, t, N', rfl, _⟩ <;> rfl
  | _ => simp only [ow] at q; rw [q.1]; rfl
theorem owRow_one {H : Heap} {h : View} : ∀ {r : Row} {cs : List Value} {N : List Nat}, owRow H h r cs N → ∀ u ∈ cs.take r.length, u.oneCell' = true
  | [], _, _, _ => by simp
  | x :: r, cs, N, q => by
    obtain ⟨v, cs', N1, N2, rfl, rfl, h1, h2⟩ := owRow_cons q
    intro u hu
    simp only [List.length_cons, List.take_succ_cons, List.mem_cons] at hu
    rcases hu with rfl | hu
    · exact oneCell_of_ow h1
    · exact owRow_one h2 u hu
theorem owRows_one {H : Heap} {h : View} {s : Nat} : ∀ {rs : List Row} {cs : List Value} {N : List Nat}, owRows H h s rs cs N → ∀ u ∈ cs.take (rs.length * s), u.oneCell' = true
  | [], _, _, _ => by simp
  | r :: rs, cs, N, q => by
    simp only [owRows] at q
    obtain ⟨h1, N1, N2, rfl, h2, h3⟩ := q
    intro u hu
    have hs : (r :: rs).length * s = s + rs.length * s := by simp [Nat.add_mul]; omega
    rw [hs, List.take_add] at hu
    simp only [List.mem_append] at hu
    rcases hu with hu | hu
    · exact owRow_one h2 u (by rw [h1]; exact hu)
    · exact owRows_one h3 u hu
theorem owRows_le {H : Heap} {h : View} {s : Nat} : ∀ {rs : List Row} {cs : List Value} {N : List Nat}, owRows H h s rs cs N → rs.length * s ≤ cs.length
  | [], _, _, _ => by simp
  | r :: rs, cs, N, q => by
    simp only [owRows] at q
    obtain ⟨h1, N1, N2, rfl, h2, h3⟩ := q
    have := owRows_le h3
    have := owRow_le h2
    simp at *
    rw [Nat.add_mul]; omega

/-- rows behind each other; fl: what they lead to is only read -/
def rowsS (H : Heap) (h : View) (fl : Bool) (s : Nat) (rows : List Row) (cs : List Value) (N : List Nat) : Prop := match fl with
  | true => seenRows h s rows cs ∧ N = []
  | false => owRows H h s rows cs N
theorem rowsS_take {H : Heap} {h : View} {fl : Bool} {s : Nat} {rows : List Row} {cs cs' : List Value} {N : List Nat} (e : cs.take (rows.length * s) = cs'.take (rows.length * s)) (q : rowsS H h fl s rows cs N) : rowsS H h fl s rows cs' N := by
  cases fl with
  | true => exact ⟨seenRows_take e q.1, q.2⟩
  | false => exact owRows_take e q
theorem rowsS_append {H : Heap} {h : View} {fl : Bool} {s : Nat} {a b : List Row} {cs : List Value} {N N' : List Nat} (q : rowsS H h fl s a cs N) (q' : rowsS H h fl s b (cs.drop (a.length * s)) N') : rowsS H h fl s (a ++ b) cs (N ++ N') := by
  cases fl with
  | true => exact ⟨seenRows_append.2 ⟨q.1, q'.1⟩, by rw [q.2, q'.2]; rfl⟩
  | false => exact owRows_append.2 ⟨N, N', rfl, q, q'⟩
theorem rowsS_mono {H H' : Heap} {h h' : View} (hl : h.le h') {fl : Bool} {s : Nat} {rows : List Row} {cs : List Value} {N : List Nat} (hb : ∀ b, b ∈ N → H' b = H b) (q : rowsS H h fl s rows cs N) : rowsS H' h' fl s rows cs N := by
  cases fl with
  | true => exact ⟨seenRows_mono hl s rows _ q.1, q.2⟩
  | false => exact owRows_mono hl s rows _ N hb q

mutual
theorem ow_of_fz {H : Heap} {h : View} : ∀ (x : D) (v : Value), ro h x.fz v → ow H h x.fz v []
  | .int _ _, _, q => by simpa [D.fz, ow, ro] using q
  | .bool _, _, q => by simpa [D.fz, ow, ro] using q
  | .str _, _, q => by simpa [D.fz, ow, ro] using q
  | .nilf, _, q => by simpa [D.fz, ow, ro] using q
  | .sl _ s rows, v, q => by simp only [D.fz, ow, true_and] at q ⊢; exact q
end
theorem owRow_of_fz {H : Heap} {h : View} : ∀ (r : Row) (cs : List Value), seenRow h (fzRow r) cs → owRow H h (fzRow r) cs []
  | [], _, _ => by simp [fzRow, owRow]
  | x :: r, cs, q => by
    simp only [fzRow, seenRow] at q
    obtain ⟨v, cs', e, h1, h2⟩ := q
    simp only [fzRow, owRow]
    exact ⟨v, cs', [], [], e, rfl, ow_of_fz x v h1, owRow_of_fz r cs' h2⟩
theorem owRows_of_fz {H : Heap} {h : View} {s : Nat} : ∀ (rs : List Row) (cs : List Value), seenRows h s (fzRows rs) cs → owRows H h s (fzRows rs) cs []
  | [], _, _ => by simp [fzRows, owRows]
  | r :: rs, cs, q => by
    simp only [fzRows, seenRows] at q
    obtain ⟨h1, h2, h3⟩ := q
    simp only [fzRows, owRows]
    exact ⟨h1, [], [], rfl, owRow_of_fz r cs h2, owRows_of_fz rs _ h3⟩
theorem seenRow_fz {h : View} : ∀ {r : Row} {cs : List Value}, seenRow h r cs → seenRow h (fzRow r) cs
  | [], _, _ => by simp [fzRow, seenRow]
  | x :: r, cs, ⟨v, cs', e, h1, h2⟩ => by simp only [fzRow, seenRow]; exact ⟨v, cs', e, ro_fz x v h1, seenRow_fz h2⟩
theorem seenRows_fz {h : View} {s : Nat} : ∀ {rs : List Row} {cs : List Value}, seenRows h s rs cs → seenRows h s (fzRows rs) cs
  | [], _, _ => by simp [fzRows, seenRows]
  | r :: rs, cs, ⟨h1, h2, h3⟩ => by simp only [fzRows, seenRows]; exact ⟨by rw [fzRow_length]; exact h1, seenRow_fz h2, seenRows_fz h3⟩

/-- what is appended, in hand -/
structure Tail (P : Program) (base : Nat) (U : Nat → Prop) (w : World) (m : Mem) (G : GS) (size : Nat) (fl : Bool) (gy : Value) (ys : List Row) (m' : Mem) : Prop where
  ex : ∃ G' news, Gok base U w m' G' ∧ GLe m G m' G' ∧ G'.out = G.out ∧ G'.μ = G.μ ∧ Src P size w gy ys.length news ∧ rowsS (heapOf w) (Gh U w G') fl size ys news G'.E ∧ ∀ r c, get r m = some c → get r m' = some c ∨ get r m' = some .dead

theorem tail_ok (hA : At base U M0 w0 w m G) {e : TypeId} {y : V} {gy : Value} (hy : simV G.μ m (Gh U w G) y gy) (hsz : 1 ≤ szT P e) {ys : List Row} {l l' : Log} (h : (tail P e y).run m l = some (ys, m', l')) :
    Tail P base U w m G (szT P e) (flatT P e) gy ys m' := by
  have plain : ∀ (ys : List Row) (news : List Value), Src P (szT P e) w gy ys.length news → (flatT P e = true → seenRows (Gh U w G) (szT P e) ys news) → (flatT P e = false → owRows (heapOf w) (Gh U w G) (szT P e) ys news []) →
      Tail P base U w m G (szT P e) (flatT P e) gy ys m := by
    intro ys news h1 h2 h3
    refine ⟨G, news, hA.ok, GLe.refl _ _, rfl, rfl, h1, ?_, fun r c h => .inl h⟩
    rw [hA.E]
    cases hf : flatT P e with
    | true => exact ⟨h2 hf, rfl⟩
    | false => exact h3 hf
  -- what is only read
  have seen : ∀ (rows : List Row) (o : Bool), ro (Gh U w G) (.sl o (szT P e) rows) gy → Tail P base U w m G (szT P e) (flatT P e) gy (vw (flatT P e) rows) m := by
    intro rows o hq
    simp only [ro] at hq
    obtain ⟨a, cap, rfl, hcap, hne⟩ := hq
    have hvl : (vw (flatT P e) rows).length = rows.length := by unfold vw; cases flatT P e <;> simp [fzRows_length]
    by_cases hr : rows = []
    · subst hr
      have hv : vw (flatT P e) [] = [] := by unfold vw; cases flatT P e <;> simp [fzRows]
      rw [hv]
      exact plain [] [] (Src.slice (by simp) (by simp) (by simp)) (fun _ => trivial) (fun _ => by simp [owRows])
    · obtain ⟨b, o', rfl, hrows⟩ := hne hr
      obtain ⟨cs, c1, c2, c3⟩ := roRows_cells rows o' hrows
      refine plain _ cs ?_ (fun hf => ?_) (fun hf => ?_)
      · rw [hvl]
        refine Src.slice c1 (fun u hu => ?_) (fun _ => ⟨b, o', rfl, fun j v hj => view_le_full _ _ _ _ _ _ (c2 j v hj)⟩)
        exact seenRows_one c3 u (by rw [← c1, List.take_length]; exact hu)
      · rw [hf]; exact c3
      · rw [hf]; simp only [vw, cond_false]; exact owRows_of_fz rows cs (seenRows_fz c3)
  cases y with
  | d x =>
    cases x with
    | str s =>
      simp only [Vm.tail] at h
      replace h := run_bind_some h; obtain ⟨_, m1, l1, h1, h⟩ := h
      obtain ⟨hs, rfl, rfl⟩ := run_ck h1
      simp only [run_pure, Option.some.injEq, Prod.mk.injEq] at h
      obtain ⟨rfl, rfl, _⟩ := h
      have hs := Nat.eq_of_beq_eq_true hs
      simp only [simV, ro] at hy
      subst hy
      have hseen := str_seen (h := Gh U w G) s _ rfl
      refine plain _ _ (by rw [hs]; simpa using Src.string) (fun _ => by rw [hs]; exact hseen) (fun _ => ?_)
      rw [hs]
      refine owRows_flat 1 _ _ ?_ hseen
      simp [flatRows, byteRow, D.flat]
    | sl o s rows =>
      simp only [Vm.tail] at h
      replace h := run_bind_some h; obtain ⟨_, m1, l1, h1, h⟩ := h
      obtain ⟨hs, rfl, rfl⟩ := run_ck h1
      simp only [run_pure, Option.some.injEq, Prod.mk.injEq] at h
      obtain ⟨rfl, rfl, _⟩ := h
      have hs := Nat.eq_of_beq_eq_true hs
      subst hs
      simp only [simV] at hy
      exact seen rows o hy
    | int _ _ => exact (run_fail h).elim
    | bool _ => exact (run_fail h).elim
    | nilf => exact (run_fail h).elim
  | nil s =>
    simp only [Vm.tail, run_pure, Option.some.injEq, Prod.mk.injEq] at h
    obtain ⟨rfl, rfl, _⟩ := h
    simp only [simV] at hy
    subst hy
    exact plain [] [] (Src.slice (by simp) (by simp) (by simp)) (fun _ => trivial) (fun _ => by simp [owRows])
  | own r ver =>
    simp only [Vm.tail] at h
    replace h := run_bind_some h; obtain ⟨c, m1, l1, h1, h⟩ := h
    rw [run_rd] at h1
    cases h1
    cases hc : get r m with
    | none => rw [hc] at h; exact (run_fail h).elim
    | some c =>
      rw [hc] at h
      cases c with
      | box _ _ => exact (run_fail h).elim
      | dead => exact (run_fail h).elim
      | arr fz fl ver' s rows =>
        simp only at h
        replace h := run_bind_some h; obtain ⟨_, m1, l1, h1, h⟩ := h
        obtain ⟨hb, rfl, rfl⟩ := run_ck h1
        have hb := Nat.eq_of_beq_eq_true hb
        subst hb
        replace h := run_bind_some h; obtain ⟨_, m1, l1, h1, h⟩ := h
        obtain ⟨hs, rfl, rfl⟩ := run_ck h1
        have hs := Nat.eq_of_beq_eq_true hs
        subst hs
        simp only [simV, hc] at hy
        have hy := hy.2.2 trivial
        subst hy
        have hro : r ∉ G.out := by rw [hA.out]; simp
        have hcell := hA.ok.cell r _ hc hro
        cases hf : flatT P e with
        | true =>
          rw [hf] at h
          simp only at h
          replace h := run_bind_some h; obtain ⟨_, m1, l1, h1, h⟩ := h
          obtain ⟨hff, rfl, rfl⟩ := run_ck h1
          simp only [run_pure, Option.some.injEq, Prod.mk.injEq] at h
          obtain ⟨rfl, rfl, _⟩ := h
          cases fz with
          | true =>
            have := seen rows true hcell.1
            rw [hf] at this
            simpa [vw] using this
          | false =>
            have hfl : fl = true := by simpa using hff
            subst hfl
            rw [hf] at plain
            simp only [simCell] at hcell
            rcases hcell with ⟨rfl, hμ, _⟩ | ⟨b, cap, cs, T, N', h1, h2, h3, h4, h5, _⟩
            · rw [hμ] at plain ⊢
              exact plain [] [] (Src.slice (by simp) (by simp) (by simp)) (fun _ => trivial) (fun e => by cases e)
            · rw [h1] at plain ⊢
              have hle : rows.length * szT P e ≤ cs.toList.length := by
                have hcl : cs.toList.length = cap * szT P e := by simpa using h4
                rw [hcl]; exact Nat.mul_le_mul_right _ h2
              refine plain rows (cs.toList.take (rows.length * szT P e)) (Src.slice (by rw [List.length_take]; omega) (fun u hu => seenRows_one h5.1 u hu) (fun _ => ⟨b, 0, rfl, fun j v hj => ?_⟩)) (fun _ => seenRows_take (by rw [List.take_take, Nat.min_self]) h5.1) (fun e => by cases e)
              rw [List.getElem?_take] at hj
              split at hj
              · have := full_cell (w := w) h3 (0 + j)
                rw [Nat.zero_add] at this ⊢
                rw [hj] at this
                exact this
              · cases hj
        | false =>
          rw [hf] at h
          simp only at h
          replace h := run_bind_some h; obtain ⟨_, m1, l1, h1, h⟩ := h
          obtain ⟨hff, rfl, rfl⟩ := run_ck h1
          have hfl : fl = false := by simpa using hff
          subst hfl
          cases fz with
          | true =>
            simp only [run_pure, Option.some.injEq, Prod.mk.injEq] at h
            obtain ⟨rfl, rfl, _⟩ := h
            have := seen rows true hcell.1
            rw [hf] at this
            simpa [vw] using this
          | false =>
            simp only at h
            replace h := run_bind_some h; obtain ⟨_, m1, l1, h1, h⟩ := h
            rw [run_wr] at h1
            cases h1
            simp only [run_pure, Option.some.injEq, Prod.mk.injEq] at h
            obtain ⟨rfl, rfl, _⟩ := h
            obtain ⟨k1, k2, k3⟩ := hA.ok.kill hc hro
            have hold : ∀ j c, get j m1 = some c → get j (put r .dead m1) = some c ∨ get j (put r .dead m1) = some .dead := by
              intro j c hj
              by_cases e : j = r
              · subst e; right; exact get_put_same _ _ _
              · left; rw [get_put_other e]; exact hj
            rcases k3 with ⟨rfl, hμ, hF⟩ | ⟨b, cap, cs, T, N', h1, h2, h3, h4, h5, hF⟩
            · refine ⟨_, [], k1, k2, rfl, rfl, ?_, ?_, hold⟩
              · rw [hμ]; exact Src.slice (by simp) (by simp) (by simp)
              · rw [hA.E, hF]; simp [rowsS, owRows]
            · have hnd : (b :: N').Nodup := by rw [← hF]; exact hA.ok.nd r
              obtain ⟨q1, q2⟩ := k1.less N' (List.nodup_cons.1 hnd).2 (fun x hx => by rw [hA.E, hF]; simp [hx])
              have hle : rows.length * szT P e ≤ cs.toList.length := by
                have hcl : cs.toList.length = cap * szT P e := by simpa using h4
                rw [hcl]; exact Nat.mul_le_mul_right _ h2
              refine ⟨_, cs.toList.take (rows.length * szT P e), q1, k2.trans q2, rfl, rfl, ?_, ?_, hold⟩
              · rw [h1]
                refine Src.slice (by rw [List.length_take]; omega) (fun u hu => owRows_one h5 u hu) (fun _ => ⟨b, 0, rfl, fun j v hj => ?_⟩)
                rw [List.getElem?_take] at hj
                split at hj
                · have := full_cell (w := w) h3 (0 + j)
                  rw [Nat.zero_add] at this ⊢
                  rw [hj] at this
                  exact this
                · cases hj
              · exact owRows_take (by rw [List.take_take, Nat.min_self]) (owRows_keep (k2.view.trans' q2.view) h5)
  | ptr _ _ => exact (run_fail h).elim
  | eptr _ _ _ _ => exact (run_fail h).elim
  | rptr _ _ => exact (run_fail h).elim
  | clo _ _ _ => exact (run_fail h).elim
  | agg _ => exact (run_fail h).elim
  | tup _ => exact (run_fail h).elim
  | undef => exact (run_fail h).elim
end
end Go.Vm
