/-
  The machine's operations are Go's: addresses, indices, slices of slices, numbers, strings.
-/
import Derived.Test.YtfbemlhfieemhaaVmOps7
namespace Go.Vm
open Go

section
variable {base : Nat} {U : Nat → Prop} {M0 : List Nat} {w0 w w' : World} {m m' : Mem} {G G' : GS} {P : Program}

theorem fieldAddrV_ok (hA : At base U M0 w0 w m G) {T f : Nat} {a : V} {ga : Value} (ha : simV G.μ m (Gh U w G) a ga) {v : V} {l l' : Log} (h : (fieldAddrV P T a f).run m l = some (v, m', l')) :
    OpR base U M0 w0 w m G P (Instr.fieldAt T ga f) v m' := by
  simp only [fieldAddrV] at h
  replace h := run_bind_some h; obtain ⟨⟨o, n, t⟩, m1, l1, h1, h⟩ := h
  obtain ⟨hf, rfl, rfl⟩ := run_op' h1
  simp only at h
  replace h := run_bind_some h; obtain ⟨_, m2, l2, h2, h⟩ := h
  obtain ⟨hn, rfl, rfl⟩ := run_ck h2
  have hn := Nat.le_of_ble_eq_true hn
  cases a with
  | ptr r off =>
    simp only [run_pure, Option.some.injEq, Prod.mk.injEq] at h
    obtain ⟨rfl, rfl, _⟩ := h
    simp only [simV] at ha
    obtain ⟨⟨b, o', rfl⟩, ha⟩ := ha
    refine OpR.same hA (run_fieldAt hf hn) ?_
    simp only [simV]
    refine ⟨⟨_, _, rfl⟩, ?_⟩
    split at ha
    · obtain ⟨b1, hμ, e⟩ := ha
      simp only [Value.pointer.injEq, Option.some.injEq, Addr.mk.injEq] at e
      obtain ⟨rfl, rfl, _⟩ := e
      exact ⟨_, hμ, rfl⟩
    · trivial
    · exact ha
  | rptr row off =>
    simp only [run_pure, Option.some.injEq, Prod.mk.injEq] at h
    obtain ⟨rfl, rfl, _⟩ := h
    simp only [simV] at ha
    obtain ⟨b, o', rfl, hrow⟩ := ha
    refine OpR.same hA (run_fieldAt hf hn) ?_
    simp only [simV]
    exact ⟨b, o', by rw [Nat.add_assoc], hrow⟩
  | eptr r ver i off =>
    simp only [run_pure, Option.some.injEq, Prod.mk.injEq] at h
    obtain ⟨rfl, rfl, _⟩ := h
    simp only [simV] at ha
    obtain ⟨⟨b, o', rfl⟩, ha⟩ := ha
    refine OpR.same hA (run_fieldAt hf hn) ?_
    simp only [simV]
    refine ⟨⟨_, _, rfl⟩, ?_⟩
    split at ha
    · refine ⟨ha.1, fun e => ?_⟩
      obtain ⟨b1, n1, cap, hμ, e1⟩ := ha.2 e
      simp only [Value.pointer.injEq, Option.some.injEq, Addr.mk.injEq] at e1
      obtain ⟨rfl, rfl, _⟩ := e1
      exact ⟨_, n1, cap, hμ, by rw [Nat.add_assoc]⟩
    · trivial
    · exact ha
  | d _ => exact (run_fail h).elim
  | nil _ => exact (run_fail h).elim
  | own _ _ => exact (run_fail h).elim
  | clo _ _ _ => exact (run_fail h).elim
  | agg _ => exact (run_fail h).elim
  | tup _ => exact (run_fail h).elim
  | undef => exact (run_fail h).elim

theorem fieldV_ok (hA : At base U M0 w0 w m G) {T f : Nat} {a : V} {ga : Value} (ha : simV G.μ m (Gh U w G) a ga) {v : V} {l l' : Log} (h : (fieldV P T a f).run m l = some (v, m', l')) :
    OpR base U M0 w0 w m G P (Instr.field T ga f) v m' := by
  simp only [fieldV] at h
  replace h := run_bind_some h; obtain ⟨⟨o, n, t⟩, m1, l1, h1, h⟩ := h
  obtain ⟨hf, rfl, rfl⟩ := run_op' h1
  simp only at h
  cases a with
  | agg cs =>
    simp only at h
    replace h := run_bind_some h; obtain ⟨_, m2, l2, h2, h⟩ := h
    obtain ⟨hfit, rfl, rfl⟩ := run_ck h2
    replace h := run_bind_some h; obtain ⟨_, m2, l2, h2, h⟩ := h
    obtain ⟨hok, rfl, rfl⟩ := run_ck h2
    obtain ⟨hv, rfl, rfl⟩ := run_op' h
    simp only [simV] at ha
    obtain ⟨arr, rfl, hs⟩ := ha
    have hfit := Nat.le_of_ble_eq_true hfit
    have hp := simVs_part o n hs
    have hal : arr.size = cs.length := by simpa using simVs_length hs
    obtain ⟨g, hg⟩ := mkVal hv hp
    refine OpR.same hA (g := g) ?_ (ofCells_ok hv hp hg)
    unfold fieldOf at hf
    cases hu : P.underlying T with
    | none => simp [hu] at hf
    | some d =>
      rw [hu] at hf
      cases d with
      | struct fs =>
        simp only at hf
        cases hfd : fs[f]? with
        | none => simp [hfd] at hf
        | some fd =>
          simp only [hfd, Option.some.injEq, Prod.mk.injEq] at hf
          obtain ⟨rfl, rfl, rfl⟩ := hf
          obtain ⟨d', hd'⟩ := okT_some hok
          obtain ⟨i, hi⟩ := info_some hd'
          unfold Instr.field
          simp only [Sem.run_bind, run_underlying hu, Result.andThen_ok, hfd]
          unfold Go.part
          simp only [Sem.run_bind, asAgg, Sem.run_pure, Result.andThen_ok, run_isAgg hd']
          unfold valOf at hg
          cases hag : aggT P fd.type with
          | true =>
            simp only [hag, if_true] at hg
            subst hg
            rw [szT_eq hi]
            have hex : arr.extract fd.offset (fd.offset + i.size) = (List.take i.size (List.drop fd.offset arr.toList)).toArray := by
              apply Array.ext'
              simp [Array.toList_extract, List.extract_eq_take_drop]
            simp [sizeOf, typeInfo, hi, hex]
          | false =>
            simp only [hag, Bool.false_eq_true, if_false] at hg
            have h0 : arr[fd.offset]? = some g := by
              have : (List.take (szT P fd.type) (List.drop fd.offset arr.toList))[0]? = some g := by rw [hg]; rfl
              rw [List.getElem?_take] at this
              split at this
              · rw [List.getElem?_drop, Nat.add_zero] at this
                simpa using this
              · cases this
            simp [h0]
      | _ => simp at hf
  | d _ => exact (run_fail h).elim
  | nil _ => exact (run_fail h).elim
  | own _ _ => exact (run_fail h).elim
  | ptr _ _ => exact (run_fail h).elim
  | eptr _ _ _ _ => exact (run_fail h).elim
  | rptr _ _ => exact (run_fail h).elim
  | clo _ _ _ => exact (run_fail h).elim
  | tup _ => exact (run_fail h).elim
  | undef => exact (run_fail h).elim

theorem idx_some {α : Type} {l : List α} {i : Int} {x : α} (h : idx l i = some x) : 0 ≤ i ∧ i.toNat < l.length ∧ l[i.toNat]? = some x := by
  unfold idx at h
  by_cases h0 : 0 ≤ i
  · simp only [h0, decide_true, cond_true] at h
    exact ⟨h0, (List.getElem?_eq_some_iff.1 h).1, h⟩
  · simp [h0] at h

theorem indexAddrV_ok (hA : At base U M0 w0 w m G) {t : TypeId} {x i : V} {gx gi : Value} (hx : simV G.μ m (Gh U w G) x gx) (hi : simV G.μ m (Gh U w G) i gi) {v : V} {l l' : Log} (h : (indexAddrV P t x i).run m l = some (v, m', l')) :
    OpR base U M0 w0 w m G P (Instr.indexAt t gx gi) v m' := by
  simp only [indexAddrV] at h
  replace h := run_bind_some h; obtain ⟨e, m1, l1, h1, h⟩ := h
  obtain ⟨he, rfl, rfl⟩ := run_op' h1
  cases i with
  | d xi =>
    cases xi with
    | int k n =>
      simp only at h
      simp only [simV, ro] at hi
      subst hi
      -- rows that are only read
      have seen : ∀ (rows : List Row) (o : Bool), ro (Gh U w G) (.sl o (szT P e) rows) gx → ∀ row, idx rows n = some row → 1 ≤ szT P e ∨ True → (∃ inf, P.info? e = some inf) → OpR base U M0 w0 w m1 G P (Instr.indexAt t gx (.int k n)) (.rptr row 0) m1 := by
        intro rows o hq row hrow _ hinf
        obtain ⟨inf, hinf⟩ := hinf
        obtain ⟨h0, hlt, hget⟩ := idx_some hrow
        simp only [ro] at hq
        obtain ⟨a, cap, rfl, hcap, hne⟩ := hq
        obtain ⟨b, o', rfl, hrows⟩ := hne (by intro e; subst e; simp at hlt)
        obtain ⟨hl, hr⟩ := roRows_get hrows hget
        refine OpR.same hA (run_indexAt he hinf h0 (by omega)) ?_
        simp only [simV]
        rw [← szT_eq hinf]
        exact ⟨b, o' + n.toNat * szT P e, rfl, hr⟩
      cases x with
      | d y =>
        cases y with
        | sl o s rows =>
          simp only at h
          replace h := run_bind_some h; obtain ⟨_, m2, l2, h2, h⟩ := h
          obtain ⟨hs, rfl, rfl⟩ := run_ck h2
          replace h := run_bind_some h; obtain ⟨_, m2, l2, h2, h⟩ := h
          obtain ⟨hok, rfl, rfl⟩ := run_ck h2
          replace h := run_bind_some h; obtain ⟨row, m2, l2, h2, h⟩ := h
          obtain ⟨hrow, rfl, rfl⟩ := run_op' h2
          simp only [run_pure, Option.some.injEq, Prod.mk.injEq] at h
          obtain ⟨rfl, rfl, _⟩ := h
          have hs := Nat.eq_of_beq_eq_true hs
          subst hs
          simp only [simV] at hx
          obtain ⟨d', hd'⟩ := okT_some hok
          exact seen rows o hx row hrow (.inr trivial) (info_some hd')
        | int _ _ => exact (run_fail h).elim
        | bool _ => exact (run_fail h).elim
        | str _ => exact (run_fail h).elim
        | nilf => exact (run_fail h).elim
      | own r ver =>
        simp only at h
        replace h := run_bind_some h; obtain ⟨c, m2, l2, h2, h⟩ := h
        rw [run_rd] at h2
        cases h2
        cases hc : get r m1 with
        | none => rw [hc] at h; exact (run_fail h).elim
        | some c =>
          rw [hc] at h
          cases c with
          | box _ _ => exact (run_fail h).elim
          | dead => exact (run_fail h).elim
          | arr fz fl ver' s rows =>
            simp only at h
            replace h := run_bind_some h; obtain ⟨_, m2, l2, h2, h⟩ := h
            obtain ⟨hb, rfl, rfl⟩ := run_ck' h2
            have hb := Nat.eq_of_beq_eq_true hb
            subst hb
            replace h := run_bind_some h; obtain ⟨_, m2, l2, h2, h⟩ := h
            obtain ⟨hs, rfl, rfl⟩ := run_ck' h2
            have hs := Nat.eq_of_beq_eq_true hs
            subst hs
            replace h := run_bind_some h; obtain ⟨_, m2, l2, h2, h⟩ := h
            obtain ⟨hok, rfl, rfl⟩ := run_ck' h2
            obtain ⟨d', hd'⟩ := okT_some hok
            obtain ⟨inf, hinf⟩ := info_some hd'
            simp only [simV, hc] at hx
            have hx := hx.2.2 trivial
            subst hx
            have hcell := hA.ok.cell r _ hc (by rw [hA.out]; simp)
            cases fz with
            | true =>
              simp only at h
              replace h := run_bind_some h; obtain ⟨row, m2, l2, h2, h⟩ := h
              obtain ⟨hrow, rfl, rfl⟩ := run_op' h2
              simp only [run_pure, Option.some.injEq, Prod.mk.injEq] at h
              obtain ⟨rfl, rfl, _⟩ := h
              exact seen (vw fl rows) false (ro_vw hcell.1) row hrow (.inr trivial) ⟨inf, hinf⟩
            | false =>
              simp only at h
              replace h := run_bind_some h; obtain ⟨row, m2, l2, h2, h⟩ := h
              obtain ⟨hrow, rfl, rfl⟩ := run_op' h2
              simp only [run_pure, Option.some.injEq, Prod.mk.injEq] at h
              obtain ⟨rfl, rfl, _⟩ := h
              obtain ⟨h0, hlt, hget⟩ := idx_some hrow
              obtain ⟨b, o, cap, hμ, ho, hl, _⟩ := arr_row hcell (view_le_full _ _ _) hget
              have ho := ho rfl
              subst ho
              rw [hμ]
              refine OpR.same hA (run_indexAt he hinf h0 (by omega)) ?_
              simp only [simV, hc, hμ]
              exact ⟨⟨_, _, rfl⟩, Nat.le_refl _, fun _ => ⟨b, _, _, rfl, by rw [szT_eq hinf]; simp⟩⟩
      | nil _ => exact (run_fail h).elim
      | ptr _ _ => exact (run_fail h).elim
      | eptr _ _ _ _ => exact (run_fail h).elim
      | rptr _ _ => exact (run_fail h).elim
      | clo _ _ _ => exact (run_fail h).elim
      | agg _ => exact (run_fail h).elim
      | tup _ => exact (run_fail h).elim
      | undef => exact (run_fail h).elim
    | bool _ => exact (run_fail h).elim
    | str _ => exact (run_fail h).elim
    | nilf => exact (run_fail h).elim
    | sl _ _ _ => exact (run_fail h).elim
  | nil _ => exact (run_fail h).elim
  | own _ _ => exact (run_fail h).elim
  | ptr _ _ => exact (run_fail h).elim
  | eptr _ _ _ _ => exact (run_fail h).elim
  | rptr _ _ => exact (run_fail h).elim
  | clo _ _ _ => exact (run_fail h).elim
  | agg _ => exact (run_fail h).elim
  | tup _ => exact (run_fail h).elim
  | undef => exact (run_fail h).elim
end
end Go.Vm
