/-
  One operation of a region, wanted or not; a region in the order of its text.
-/
import Derived.Test.YtfbemlhfieemhaaVmLocal
namespace Go.Vm
open Go

/-- a frame of the machine and Go's, at a moment. 'B', 'M': what was handed in. -/
structure Rel (base : Nat) (U : Nat → Prop) (M0 : List Nat) (w0 : World) (ν : Nat → Value) (M : Mem) (nt : Nat) (w : World) (S : St) (G : GS) (a : Act) : Prop where
  at_ : At base U M0 w0 w S.mem G
  tm : simT G.μ S.mem (Gh U w G) S.tm a
  size : a.tmps.size = nt
  defers : a.defers = []
  imp : memLe ν M G.μ S.mem

section
variable {base : Nat} {U : Nat → Prop} {M0 : List Nat} {w0 w w' : World} {ν : Nat → Value} {M : Mem} {nt : Nat} {S S' : St} {G G' : GS} {a : Act} {X : Ctx}

theorem put_size (a : Act) (dst : Option Tmp) (g : Value) : (a.put dst g).tmps.size = a.tmps.size := by cases dst <;> simp [Act.put]
theorem put_defers (a : Act) (dst : Option Tmp) (g : Value) : (a.put dst g).defers = a.defers := by cases dst <;> rfl

theorem Rel.put (R : Rel base U M0 w0 ν M nt w S G a) {m' : Mem} {v : V} {g : Value} {dst : Option Nat} (hx : Nx base U M0 w0 w S.mem G w' m' G') (hs : simV G'.μ m' (Gh U w' G') v g) (hd : dstOk nt dst = true) :
    Rel base U M0 w0 ν M nt w' ⟨putT dst v S.tm, m'⟩ G' (a.put dst g) := by
  refine ⟨hx.at_, ?_, by rw [put_size, R.size], by rw [put_defers, R.defers], memLe_trans R.imp hx.mem⟩
  intro t u hu
  cases dst with
  | none =>
    simp only [putT] at hu
    obtain ⟨h1, h2⟩ := R.tm t u hu
    exact ⟨h1, hx.simV h2⟩
  | some d =>
    simp only [putT] at hu
    have hdn : d < nt := by simpa [dstOk] using hd
    rw [put_size]
    rw [get_put] at hu
    split at hu
    · rename_i htd
      simp only [Option.some.injEq] at hu
      subst hu htd
      refine ⟨by rw [R.size]; exact hdn, ?_⟩
      have : ((a.put (some t) g).tmps).getD t undef = g := by
        simp only [Act.put, Array.getD_eq_getD_getElem?]
        rw [Array.getElem?_setIfInBounds_self_of_lt (by rw [R.size]; exact hdn)]
        rfl
      rw [this]
      exact hs
    · rename_i htd
      obtain ⟨h1, h2⟩ := R.tm t u hu
      refine ⟨h1, ?_⟩
      have : ((a.put (some d) g).tmps).getD t undef = a.tmps.getD t undef := by
        simp only [Act.put, Array.getD_eq_getD_getElem?]
        rw [Array.getElem?_setIfInBounds_ne (Ne.symm htd)]
      rw [this]
      exact hx.simV h2
theorem Rel.skip (R : Rel base U M0 w0 ν M nt w S G a) (dst : Option Nat) : Rel base U M0 w0 ν M nt w ⟨delT dst S.tm, S.mem⟩ G (a.put dst Go.undef) := by
  refine ⟨R.at_, ?_, by rw [put_size, R.size], by rw [put_defers, R.defers], R.imp⟩
  intro t u hu
  cases dst with
  | none => exact R.tm t u hu
  | some d =>
    simp only [delT] at hu
    rw [get_del] at hu
    split at hu
    · cases hu
    · rename_i htd
      obtain ⟨h1, h2⟩ := R.tm t u hu
      refine ⟨by rw [put_size]; exact h1, ?_⟩
      have : ((a.put (some d) Go.undef).tmps).getD t Go.undef = a.tmps.getD t Go.undef := by
        simp only [Act.put, Array.getD_eq_getD_getElem?]
        rw [Array.getElem?_setIfInBounds_ne (Ne.symm htd)]
      rw [this]
      exact h2
theorem Rel.skip' (R : Rel base U M0 w0 ν M nt w S G a) (dst : Option Nat) : Rel base U M0 w0 ν M nt w ⟨skipT nt dst S.tm, S.mem⟩ G (a.put dst Go.undef) := by
  unfold skipT
  cases hd : dstOk nt dst with
  | false => exact R.skip dst
  | true => exact R.put R.at_.nx (by simp only [simV, simVs]; exact ⟨#[], rfl, rfl⟩) hd

theorem Rel.tms (R : Rel base U M0 w0 ν M nt w S G a) {tm : Tmps} (h : ∀ t, get t tm = get t S.tm) : Rel base U M0 w0 ν M nt w ⟨tm, S.mem⟩ G a :=
  ⟨R.at_, fun t u hu => R.tm t u (by rw [← h t]; exact hu), R.size, R.defers, R.imp⟩
theorem getT_put {t d : Nat} {x : V} {tm : Tmps} (h : getT d tm = x) (hx : x ≠ .undef) : get t (put d x tm) = get t tm := by
  rw [get_put]
  split
  · rename_i e
    subst e
    unfold getT at h
    cases hg : get t tm with
    | none => rw [hg] at h; exact absurd h.symm hx
    | some v => rw [hg] at h; simp at h; rw [h]
  · rfl
theorem wantedV_same {ops : Array Oper} {o : Oper} {b : Bool} {tm tm' : Tmps} (h : wantedV ops tm o = some (b, tm')) : ∀ t, get t tm' = get t tm := by
  intro t
  unfold wantedV at h
  split at h
  · simp only [Option.some.injEq, Prod.mk.injEq] at h; rw [h.2]
  · split at h
    · split at h
      · split at h
        · rename_i c he
          split at h
          all_goals
            simp only [Option.some.injEq, Prod.mk.injEq] at h
            rw [← h.2]
            exact getT_put he (by simp)
        · rename_i vs he
          split at h
          · simp only [Option.some.injEq, Prod.mk.injEq] at h
            rw [← h.2]
            exact getT_put he (by simp)
          · cases h
        · cases h
      · cases h
    · cases h
theorem wanted_ok {ops : Array Oper} {o : Oper} {b : Bool} {tm' : Tmps} (R : Rel base U M0 w0 ν M nt w S G a) (h : wantedV ops S.tm o = some (b, tm')) : Region.wanted o (yielded ops a.tmps) = b := by
  unfold wantedV at h
  unfold Region.wanted
  cases hg : o.guard with
  | none => simp only [hg, Option.some.injEq, Prod.mk.injEq] at h; simpa using h.1
  | some jw =>
    obtain ⟨j, want⟩ := jw
    simp only [hg] at h ⊢
    cases hj : ops[j]? with
    | none => simp [hj] at h
    | some oj =>
      simp only [hj] at h
      cases hd : oj.dst with
      | none => simp [hd] at h
      | some d =>
        simp only [hd] at h
        unfold getT at h
        cases ht : get d S.tm with
        | none => simp [ht] at h
        | some v =>
          simp only [ht] at h
          obtain ⟨h1, h2⟩ := R.tm d v ht
          cases v with
          | d x =>
            cases x with
            | bool c =>
              simp only [simV, ro] at h2
              have hy : yielded ops a.tmps j = some c := by
                simp only [yielded, hj, Option.bind_some, hd]
                have : a.tmps[d]? = some (.bool c) := by
                  rw [← h2, Array.getD_eq_getD_getElem?, Array.getElem?_eq_getElem h1]
                  rfl
                rw [this]
              rw [hy]
              cases c <;> simp only [Option.some.injEq, Prod.mk.injEq] at h <;> obtain ⟨rfl, _⟩ := h <;> cases want <;> rfl
            | _ => simp at h
          | tup vs =>
            cases vs with
            | cons _ _ => simp at h
            | nil =>
              simp only [Option.some.injEq, Prod.mk.injEq] at h
              simp only [simV, simVs] at h2
              obtain ⟨arr, h3, h4⟩ := h2
              have hy : yielded ops a.tmps j = none := by
                simp only [yielded, hj, Option.bind_some, hd]
                have : a.tmps[d]? = some (.tuple arr) := by
                  rw [← h3, Array.getD_eq_getD_getElem?, Array.getElem?_eq_getElem h1]
                  rfl
                rw [this]
              rw [hy, ← h.1]
              rfl
          | _ => simp at h

theorem runOp_ok {K : Kont} (hK : Sound X K) {fn : Nat} (hnt : ntOf X.P fn = nt) (R : Rel base U M0 w0 ν M nt w S G a) {ops : Array Oper} {i : Nat} {lg : Log} (h : runOp X K fn ops i S = some (S', lg))
    {next : Act → World → Prop} {Q : Exit → Act → World → Prop} (hn : ∀ w' G' a', Rel base U M0 w0 ν M nt w' S' G' a' → (Gh U w G).le (Gh U w' G') → next a' w') : wpOp X.P ops Q i next a w := by
  unfold runOp at h
  unfold wpOp
  cases ho : ops[i]? with
  | none => simp [ho] at h
  | some o =>
    simp only [ho] at h ⊢
    cases hw : wantedV ops S.tm o with
    | none => simp [hw] at h
    | some bt =>
      obtain ⟨b, tm⟩ := bt
      rw [wanted_ok R hw]
      have R' := R.tms (wantedV_same hw)
      cases b with
      | false =>
        simp only [hw, Option.some.injEq, Prod.mk.injEq] at h
        obtain ⟨rfl, rfl⟩ := h
        simp only [Bool.false_eq_true, if_false]
        exact hn _ _ _ (hnt ▸ R'.skip' o.dst) (View.le_refl _)
      | true =>
        simp only [hw] at h
        simp only [if_true]
        cases hv : (vop X K fn tm o).run S.mem .none with
        | none => simp [hv] at h
        | some r =>
          obtain ⟨v, m', l⟩ := r
          simp only [hv] at h
          cases hd : dstOk (ntOf X.P fn) o.dst with
          | false => simp [hd] at h
          | true =>
            simp only [hd, cond_true, Option.some.injEq, Prod.mk.injEq] at h
            obtain ⟨rfl, rfl⟩ := h
            rw [hnt] at hd
            exact .inl (vop_ok hK R'.at_ R'.tm hv fun g w' G' hx hs => hn w' G' _ (R'.put hx hs hd) hx.view)

theorem runOps_ok' {K : Kont} (hK : Sound X K) {fn : Nat} (hnt : ntOf X.P fn = nt) {ops : Array Oper} {Q : Exit → Act → World → Prop} {rest : List Nat} : ∀ {is : List Nat} {w : World} {S S' : St} {G : GS} {a : Act} {L L' : List (Nat × Log)}
    (_ : Rel base U M0 w0 ν M nt w S G a) (_ : runOps X K fn ops is S L = some (S', L')) (_ : ∀ w' G' a', Rel base U M0 w0 ν M nt w' S' G' a' → (Gh U w G).le (Gh U w' G') → wpOps X.P ops Q rest a' w'), wpOps X.P ops Q (is ++ rest) a w
  | [], w, S, S', G, a, L, L', R, h, hn => by
    simp only [runOps, Option.some.injEq, Prod.mk.injEq] at h
    obtain ⟨rfl, rfl⟩ := h
    exact hn w G a R (View.le_refl _)
  | i :: is, w, S, S', G, a, L, L', R, h, hn => by
    rw [List.cons_append, wpOps_cons]
    simp only [runOps] at h
    cases h1 : runOp X K fn ops i S with
    | none => simp [h1] at h
    | some r =>
      obtain ⟨S1, l1⟩ := r
      simp only [h1] at h
      exact runOp_ok hK hnt R h1 fun w1 G1 a1 R1 v1 => runOps_ok' hK hnt R1 h fun w' G' a' R' v' => hn w' G' a' R' (v1.trans' v')
theorem runOps_ok {K : Kont} (hK : Sound X K) {fn : Nat} (hnt : ntOf X.P fn = nt) {ops : Array Oper} {Q : Exit → Act → World → Prop} {is : List Nat} {w : World} {S S' : St} {G : GS} {a : Act} {L L' : List (Nat × Log)}
    (R : Rel base U M0 w0 ν M nt w S G a) (h : runOps X K fn ops is S L = some (S', L')) (hn : ∀ w' G' a', Rel base U M0 w0 ν M nt w' S' G' a' → (Gh U w G).le (Gh U w' G') → Q .normal a' w') : wpOps X.P ops Q is a w := by
  have := runOps_ok' (rest := []) hK hnt R h hn
  rwa [List.append_nil] at this
end
end Go.Vm
