/-
  The machine's operations are Go's: slices of strings and of slices.
-/
import Derived.Test.YtfbemlhfieemhaaVmOps9
namespace Go.Vm
open Go

section
variable {base : Nat} {U : Nat → Prop} {M0 : List Nat} {w0 w w' : World} {m m' : Mem} {G G' : GS} {P : Program}

def optS (μ : Nat → Value) (m : Mem) (h : View) : Option V → Option Value → Prop
  | none, g => g = none
  | some v, g => ∃ x, g = some x ∧ simV μ m h v x
theorem bound_ok {μ : Nat → Value} {h : View} {o : Option V} {g : Option Value} {d n : Int} {l l' : Log} (hq : optS μ m h o g) (hr : (bound o d).run m l = some (n, m', l')) :
    m' = m ∧ ((g = none ∧ n = d) ∨ ∃ k, g = some (.int k n)) := by
  unfold bound at hr
  split at hr
  · change some (_, _, _) = _ at hr
    simp only [Option.some.injEq, Prod.mk.injEq] at hr
    obtain ⟨rfl, rfl, _⟩ := hr
    exact ⟨rfl, .inl ⟨hq, rfl⟩⟩
  · change some (_, _, _) = _ at hr
    simp only [Option.some.injEq, Prod.mk.injEq] at hr
    obtain ⟨rfl, rfl, _⟩ := hr
    obtain ⟨x, rfl, hx⟩ := hq
    simp only [simV, ro] at hx
    exact ⟨rfl, .inr ⟨_, by rw [hx]⟩⟩
  · exact (run_fail hr).elim
theorem cut_some {α : Type} {l r : List α} {a b : Int} (h : cut l a b = some r) : 0 ≤ a ∧ a ≤ b ∧ b ≤ l.length ∧ r = (l.drop a.toNat).take (b.toNat - a.toNat) := by
  unfold cut at h
  cases hc : (decide (0 ≤ a) && decide (a ≤ b) && decide (b ≤ (l.length : Int))) with
  | false => simp [hc] at h
  | true =>
    simp only [hc, cond_true, Option.some.injEq] at h
    simp only [Bool.and_eq_true, decide_eq_true_eq] at hc
    exact ⟨hc.1.1, hc.1.2, hc.2, h.symm⟩

theorem run_bounds {isSl : Bool} {len cap : Nat} {lo hi : Option Value} {a b : Int} (ha : (lo = none ∧ a = 0) ∨ ∃ k, lo = some (.int k a)) (hb : (hi = none ∧ b = len) ∨ ∃ k, hi = some (.int k b))
    (h0 : 0 ≤ a) (h1 : a ≤ b) (h2 : b ≤ len) (h3 : len ≤ cap) : (Instr.sliceBounds isSl len cap lo hi none).run P w = .ok (a.toNat, b.toNat, cap) w := by
  have hbc : b ≤ cap := by omega
  have h0b : 0 ≤ b := by omega
  rcases ha with ⟨rfl, rfl⟩ | ⟨k, rfl⟩ <;> rcases hb with ⟨rfl, rfl⟩ | ⟨k', rfl⟩
  · simp [Instr.sliceBounds]
  · simp [Instr.sliceBounds, Instr.sliceBound, asIntOf, h0b, hbc]
  · simp [Instr.sliceBounds, Instr.sliceBound, asIntOf, h0, h2, h1]
  · have : (a : Int) ≤ (b.toNat : Int) := by omega
    simp [Instr.sliceBounds, Instr.sliceBound, asIntOf, h0b, hbc, h0, this]
    omega

theorem roRows_drop {h : View} {s : Nat} : ∀ {rows : List Row} {b o : Nat} (n : Nat), roRows h s rows b o → roRows h s (rows.drop n) b (o + n * s)
  | rows, b, o, 0, q => by simpa using q
  | [], b, o, n + 1, q => by simp [roRows]
  | r :: rows, b, o, n + 1, q => by
    simp only [roRows] at q
    have := roRows_drop n q.2.2
    rw [List.drop_succ_cons, Nat.add_mul, Nat.one_mul, show o + (n * s + s) = o + s + n * s by omega]
    exact this
theorem roRows_take {h : View} {s : Nat} : ∀ {rows : List Row} {b o : Nat} (n : Nat), roRows h s rows b o → roRows h s (rows.take n) b o
  | rows, b, o, 0, q => by simp [roRows]
  | [], b, o, n + 1, q => by simp [roRows]
  | r :: rows, b, o, n + 1, q => by
    simp only [roRows] at q
    simp only [List.take_succ_cons, roRows]
    exact ⟨q.1, q.2.1, roRows_take n q.2.2⟩

/-- a piece of a slice -/
theorem piece_ok {h : View} {o : Bool} {s : Nat} {rows rows' : List Row} {t e : TypeId} {inf : TypeInfo} {g : Value} {lo hi : Option Value} {a b : Int} (hu : P.underlying t = some (.slice e)) (hi' : P.info? e = some inf) (hs : s = inf.size)
    (hq : ro h (.sl o s rows) g) (ha : (lo = none ∧ a = 0) ∨ ∃ k, lo = some (.int k a)) (hb : (hi = none ∧ b = rows.length) ∨ ∃ k, hi = some (.int k b)) (hc : cut rows a b = some rows') :
    ∃ g', (Instr.sliceAt t g lo hi none).run P w = .ok g' w ∧ ro h (.sl false s rows') g' := by
  obtain ⟨h0, h1, h2, rfl⟩ := cut_some hc
  simp only [ro] at hq
  obtain ⟨ad, cap, rfl, hcap, hne⟩ := hq
  have hrun := run_bounds (P := P) (w := w) (isSl := true) ha hb h0 h1 (by omega) hcap
  have hlen : (List.take (b.toNat - a.toNat) (List.drop a.toNat rows)).length = b.toNat - a.toNat := by simp; omega
  refine ⟨.slice (if cap = a.toNat then ad else ad.map (·.add (a.toNat * inf.size))) (b.toNat - a.toNat) (cap - a.toNat), ?_, ?_⟩
  · simp only [Instr.sliceAt, Sem.run_bind, run_underlying hu, Result.andThen_ok, Instr.slice, hrun, sizeOf, typeInfo]
    simp [hi']
  · simp only [ro]
    refine ⟨_, cap - a.toNat, by rw [hlen], by rw [hlen]; omega, ?_⟩
    intro hne'
    have hpos : 0 < b.toNat - a.toNat := by
      rw [← hlen]
      exact List.length_pos_iff.2 hne'
    have hrows : rows ≠ [] := by
      intro e
      subst e
      simp at hne'
    obtain ⟨bb, oo, rfl, hr⟩ := hne hrows
    have hca : ¬ cap = a.toNat := by omega
    refine ⟨bb, oo + a.toNat * s, ?_, roRows_take _ (roRows_drop _ hr)⟩
    subst hs
    simp [hca, Addr.add]

theorem extract_bytes (s : List UInt8) (a b : Nat) (h : a ≤ b) (hb : b ≤ s.length) : (ByteArray.mk ⟨s⟩).extract a b = ⟨⟨(s.drop a).take (b - a)⟩⟩ := by
  have : ((ByteArray.mk ⟨s⟩).extract a b).data = ⟨(s.drop a).take (b - a)⟩ := by
    rw [ByteArray.data_extract]
    apply Array.ext'
    simp [Array.toList_extract, List.extract_eq_take_drop]
  exact congrArg ByteArray.mk this

theorem sliceV_ok (hA : At base U M0 w0 w m G) {t : TypeId} {x : V} {gx : Value} {lo hi : Option V} {glo ghi : Option Value} (hx : simV G.μ m (Gh U w G) x gx) (hlo : optS G.μ m (Gh U w G) lo glo) (hhi : optS G.μ m (Gh U w G) hi ghi)
    {v : V} {l l' : Log} (hh0 : (sliceV P t x lo hi).run m l = some (v, m', l')) : OpR base U M0 w0 w m G P (Instr.sliceAt t gx glo ghi none) v m' := by
  have gen : ∀ (x : V), simV G.μ m (Gh U w G) x gx → (do
      let e ← op' (elT P t)
      ck (okT P e)
      let (s, rows) ← seen x
      ck (Nat.beq s (szT P e))
      let l ← bound lo 0
      let h ← bound hi rows.length
      let rows' ← op' (cut rows l h)
      match x with
      | .own r ver => do
        match ← rd r with
        | some (.arr _ fl ver' s rows) => do
          ck (Nat.beq ver ver')
          wr r (.arr true fl ver s rows)
          pure (.d (.sl false s rows'))
        | _ => .fail
      | _ => pure (.d (.sl false s rows')) : Acc V).run m l = some (v, m', l') → OpR base U M0 w0 w m G P (Instr.sliceAt t gx glo ghi none) v m' := by
    intro x hx h
    replace h := run_bind_some h; obtain ⟨e, m1, l1, h1, h⟩ := h
    obtain ⟨he, rfl, rfl⟩ := run_op' h1
    have he := elT_some he
    replace h := run_bind_some h; obtain ⟨_, m1, l1, h1, h⟩ := h
    obtain ⟨hok, rfl, rfl⟩ := run_ck h1
    obtain ⟨d', hd'⟩ := okT_some hok
    obtain ⟨inf, hinf⟩ := info_some hd'
    have hsz := szT_eq hinf
    replace h := run_bind_some h; obtain ⟨⟨s, rows⟩, m1, l1, h1, h⟩ := h
    obtain ⟨rfl, hfull⟩ := seen_ok hA.ok hx hA.out h1
    simp only at h
    replace h := run_bind_some h; obtain ⟨_, m2, l2, h2, h⟩ := h
    obtain ⟨hs, rfl, rfl⟩ := run_ck h2
    have hs := Nat.eq_of_beq_eq_true hs
    replace h := run_bind_some h; obtain ⟨a, m2, l2, h2, h⟩ := h
    obtain ⟨rfl, ha⟩ := bound_ok hlo h2
    replace h := run_bind_some h; obtain ⟨b, m3, l3, h3, h⟩ := h
    obtain ⟨rfl, hb⟩ := bound_ok hhi h3
    replace h := run_bind_some h; obtain ⟨rows', m4, l4, h4, h⟩ := h
    obtain ⟨hcut, rfl, rfl⟩ := run_op' h4
    have base_ : ∀ {h' : View} {G1 : GS} {m1' : Mem} {o : Bool}, Nx base U M0 w0 w m4 G w m1' G1 → h' = Gh U w G1 → ro h' (.sl o s rows) gx → OpR base U M0 w0 w m4 G P (Instr.sliceAt t gx glo ghi none) (.d (.sl false s rows')) m1' := by
      intro h' G1 m1' o hnx hh hro
      subst hh
      obtain ⟨g', hrun, hg'⟩ := piece_ok (w := w) he hinf (hs.trans hsz) hro ha hb hcut
      exact ⟨g', w, G1, hrun, hnx, hg'⟩
    cases x with
    | own r ver =>
      simp only at h
      replace h := run_bind_some h; obtain ⟨c, m5, l5, h5, h⟩ := h
      rw [run_rd] at h5
      cases h5
      cases hc : get r m4 with
      | none => rw [hc] at h; exact (run_fail h).elim
      | some c =>
        rw [hc] at h
        cases c with
        | box _ _ => exact (run_fail h).elim
        | dead => exact (run_fail h).elim
        | arr fz fl ver' s2 rows2 =>
          simp only at h
          replace h := run_bind_some h; obtain ⟨_, m5, l5, h5, h⟩ := h
          obtain ⟨hbq, rfl, rfl⟩ := run_ck h5
          have hbq := Nat.eq_of_beq_eq_true hbq
          subst hbq
          replace h := run_bind_some h; obtain ⟨_, m5, l5, h5, h⟩ := h
          rw [run_wr] at h5
          simp only [Option.some.injEq, Prod.mk.injEq] at h5
          obtain ⟨_, rfl, _⟩ := h5
          simp only [run_pure, Option.some.injEq, Prod.mk.injEq] at h
          obtain ⟨rfl, rfl, _⟩ := h
          -- what was seen
          simp only [seen] at h1
          replace h1 := run_bind_some h1; obtain ⟨c, m6, l6, h6, h1⟩ := h1
          rw [run_rd] at h6
          cases h6
          rw [hc] at h1
          simp only at h1
          replace h1 := run_bind_some h1; obtain ⟨_, m6, l6, h6, h1⟩ := h1
          obtain ⟨_, rfl, rfl⟩ := run_ck h6
          simp only [run_pure, Option.some.injEq, Prod.mk.injEq] at h1
          obtain ⟨⟨rfl, rfl⟩, _⟩ := h1
          obtain ⟨k1, k2, k3⟩ := hA.ok.freeze hc (by rw [hA.out]; simp)
          simp only [simV, hc] at hx
          have hgx := hx.2.2 trivial
          rw [← hgx] at k3
          rw [hA.E] at k3
          exact base_ (hA.still k1 k2 hA.out) rfl (ro_vw (fl := fl) k3)
    | d y =>
      cases y with
      | sl o s2 rows2 =>
        simp only [seen, run_pure, Option.some.injEq, Prod.mk.injEq] at h1 h
        obtain ⟨⟨rfl, rfl⟩, _⟩ := h1
        obtain ⟨rfl, rfl, _⟩ := h
        exact base_ (o := o) hA.nx rfl hx
      | _ => exact (run_fail h1).elim
    | nil s2 =>
      simp only [seen, run_pure, Option.some.injEq, Prod.mk.injEq] at h1 h
      obtain ⟨⟨rfl, rfl⟩, _⟩ := h1
      obtain ⟨rfl, rfl, _⟩ := h
      refine base_ (o := false) hA.nx rfl ?_
      simp only [simV] at hx
      subst hx
      simp [ro]
    | _ => exact (run_fail h1).elim
  have h := hh0
  cases x with
  | d y =>
    cases y with
    | str s =>
      simp only [sliceV] at h
      replace h := run_bind_some h; obtain ⟨_, m1, l1, h1, h⟩ := h
      obtain ⟨hu, rfl, rfl⟩ := run_ck h1
      replace h := run_bind_some h; obtain ⟨a, m2, l2, h2, h⟩ := h
      obtain ⟨rfl, ha⟩ := bound_ok hlo h2
      replace h := run_bind_some h; obtain ⟨b, m3, l3, h3, h⟩ := h
      obtain ⟨rfl, hb⟩ := bound_ok hhi h3
      replace h := run_bind_some h; obtain ⟨s', m4, l4, h4, h⟩ := h
      obtain ⟨hcut, rfl, rfl⟩ := run_op' h4
      simp only [run_pure, Option.some.injEq, Prod.mk.injEq] at h
      obtain ⟨rfl, rfl, _⟩ := h
      obtain ⟨h0, h1, h2, rfl⟩ := cut_some hcut
      simp only [simV, ro] at hx
      subst hx
      have hu : P.underlying t = some .string := by
        cases hd : P.underlying t with
        | none => simp [hd] at hu
        | some d => rw [hd] at hu; cases d <;> simp at hu; rfl
      have hrun := run_bounds (P := P) (w := w) (isSl := false) (len := s.length) (cap := s.length) ha hb h0 h1 h2 (Nat.le_refl _)
      have hsize : (ByteArray.mk ⟨s⟩).size = s.length := rfl
      refine OpR.same hA (g := .string ((ByteArray.mk ⟨s⟩).extract a.toNat b.toNat)) ?_ ?_
      · simp only [Instr.sliceAt, Sem.run_bind, run_underlying hu, Result.andThen_ok, Instr.slice]
        simp [hsize, hrun]
      · simp only [simV, ro]
        rw [extract_bytes s _ _ (by omega) (by omega)]
    | sl o s rows => exact gen _ hx h
    | int _ _ => exact gen _ hx h
    | bool _ => exact gen _ hx h
    | nilf => exact gen _ hx h
  | nil _ => exact gen _ hx h
  | own _ _ => exact gen _ hx h
  | ptr _ _ => exact gen _ hx h
  | eptr _ _ _ _ => exact gen _ hx h
  | rptr _ _ => exact gen _ hx h
  | clo _ _ _ => exact gen _ hx h
  | agg _ => exact gen _ hx h
  | tup _ => exact gen _ hx h
  | undef => exact gen _ hx h
end
end Go.Vm
