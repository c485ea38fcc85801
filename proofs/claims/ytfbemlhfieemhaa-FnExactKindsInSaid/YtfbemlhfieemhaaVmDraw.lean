/-
  Operations that touch different things may change places.
-/
import Derived.Test.YtfbemlhfieemhaaVmCode
namespace Go.Vm
open Go

/-- equal under every look -/
structure Eqv (S T : St) : Prop where
  tm : ∀ t, get t S.tm = get t T.tm
  mem : ∀ k, get k S.mem = get k T.mem
theorem Eqv.refl (S : St) : Eqv S S := ⟨fun _ => rfl, fun _ => rfl⟩
theorem Eqv.symm {S T : St} (h : Eqv S T) : Eqv T S := ⟨fun t => (h.tm t).symm, fun k => (h.mem k).symm⟩
theorem Eqv.trans {S T V : St} (h : Eqv S T) (k : Eqv T V) : Eqv S V := ⟨fun t => (h.tm t).trans (k.tm t), fun j => (h.mem j).trans (k.mem j)⟩

theorem wantedV_congr {ops : Array Oper} {o : Oper} {tm tm2 tm' : Tmps} {b : Bool} (h : ∀ t, t ∈ o.looksAt ops → get t tm2 = get t tm) (hw : wantedV ops tm o = some (b, tm')) : ∃ tm2', wantedV ops tm2 o = some (b, tm2') := by
  unfold wantedV at hw ⊢
  cases hg : o.guard with
  | none => simp only [hg, Option.some.injEq, Prod.mk.injEq] at hw; exact ⟨tm2, by simp [hw.1]⟩
  | some jw =>
    obtain ⟨j, want⟩ := jw
    simp only [hg] at hw ⊢
    cases hj : ops[j]? with
    | none => simp [hj] at hw
    | some oj =>
      simp only [hj] at hw ⊢
      cases hd : oj.dst with
      | none => simp [hd] at hw
      | some d =>
        simp only [hd, getT] at hw ⊢
        rw [h d (by simp [Oper.looksAt, hg, hj, hd])]
        split at hw
        · split at hw
          all_goals
            simp only [Option.some.injEq, Prod.mk.injEq] at hw
            exact ⟨_, congrArg (fun x => some (x, _)) hw.1⟩
        · split at hw
          · simp only [Option.some.injEq, Prod.mk.injEq] at hw
            exact ⟨_, congrArg (fun x => some (x, _)) hw.1⟩
          · cases hw
        · cases hw

section
variable {X : Ctx} {K : Kont} {fn : Nat} {ops : Array Oper}
theorem runOp_local {i : Nat} {o : Oper} {S S' : St} {lg : Log} (ho : ops[i]? = some o) (h : runOp X K fn ops i S = some (S', lg)) :
    (∀ k, k ∉ lg.w → get k S'.mem = get k S.mem) ∧ (∀ t, o.dst ≠ some t → get t S'.tm = get t S.tm) ∧
    ∀ T : St, (∀ t, t ∈ o.looksAt ops → get t T.tm = get t S.tm) → (∀ k, k ∈ lg.r → get k T.mem = get k S.mem) →
      ∃ T', runOp X K fn ops i T = some (T', lg) ∧ (∀ k, k ∈ lg.w → get k T'.mem = get k S'.mem) ∧ (∀ k, k ∉ lg.w → get k T'.mem = get k T.mem) ∧
        (∀ t, o.dst = some t → get t T'.tm = get t S'.tm) ∧ (∀ t, o.dst ≠ some t → get t T'.tm = get t T.tm) := by
  unfold runOp at h
  simp only [ho] at h
  have hdel : ∀ (tm : Tmps) t, o.dst ≠ some t → get t (skipT (ntOf X.P fn) o.dst tm) = get t tm := by
    intro tm t ht
    unfold skipT
    cases dstOk (ntOf X.P fn) o.dst <;> cases hd : o.dst with
    | none => rfl
    | some d => first | exact get_del_other (fun e => ht (by rw [hd, e])) tm | exact get_put_other (fun e => ht (by rw [hd, e])) _ tm
  have hput : ∀ (tm : Tmps) v t, o.dst ≠ some t → get t (putT o.dst v tm) = get t tm := by
    intro tm v t ht
    cases hd : o.dst with
    | none => rfl
    | some d => exact get_put_other (fun e => ht (by rw [hd, e])) v tm
  cases hw : wantedV ops S.tm o with
  | none => simp [hw] at h
  | some bt =>
    obtain ⟨b, tm⟩ := bt
    have hsame := wantedV_same hw
    cases b with
    | false =>
      simp only [hw, Option.some.injEq, Prod.mk.injEq] at h
      obtain ⟨rfl, rfl⟩ := h
      refine ⟨fun _ _ => rfl, fun t ht => by rw [hdel tm t ht, hsame t], fun T ht hk => ?_⟩
      obtain ⟨tm2, hw2⟩ := wantedV_congr ht hw
      have hsame2 := wantedV_same hw2
      refine ⟨⟨skipT (ntOf X.P fn) o.dst tm2, T.mem⟩, ?_, fun k hk => by simp [Log.none] at hk, fun _ _ => rfl, ?_, fun t ht => by rw [hdel tm2 t ht, hsame2 t]⟩
      · unfold runOp
        simp only [ho, hw2]
      · intro t htd
        rw [htd]
        simp only [skipT, delT, putT]
        cases dstOk (ntOf X.P fn) (some t) with
        | false => simp only [cond_false]; rw [get_del_same, get_del_same]
        | true => simp only [cond_true]; rw [get_put_same, get_put_same]
    | true =>
      simp only [hw] at h
      cases hv : (vop X K fn tm o).run S.mem .none with
      | none => simp [hv] at h
      | some r =>
        obtain ⟨v, m', l⟩ := r
        simp only [hv] at h
        cases hd : dstOk (ntOf X.P fn) o.dst with
        | false => simp [hd] at h
        | true =>
          simp only [hd, cond_true, Option.some.injEq, Prod.mk.injEq] at h
          obtain ⟨rfl, rfl⟩ := h
          obtain ⟨R, W, e, h1, h2⟩ := run_local _ hv
          simp only [Log.none, List.append_nil] at e
          subst e
          refine ⟨h1, fun t ht => by rw [hput tm v t ht, hsame t], fun T ht hk => ?_⟩
          obtain ⟨m2, q1, q2, q3⟩ := h2 T.mem .none hk
          obtain ⟨tm2, hw2⟩ := wantedV_congr ht hw
          have hsame2 := wantedV_same hw2
          refine ⟨⟨putT o.dst v tm2, m2⟩, ?_, q2, q3, ?_, fun t ht => by rw [hput tm2 v t ht, hsame2 t]⟩
          · unfold runOp
            have hc : vop X K fn tm2 o = vop X K fn tm o := vop_congr fun x hx i hi => by
              rw [hsame2, hsame]
              exact ht i (by
                subst hi
                exact List.mem_append_left _ (List.mem_filterMap.2 ⟨.tmp i, by simpa using hx, rfl⟩))
            simp only [ho, hw2, hc, q1, hd, cond_true]
            simp [Log.none]
          · intro t htd
            rw [htd]
            simp only [putT]
            rw [get_put_same, get_put_same]

theorem disj_spec {a b : List Nat} (h : disj a b = true) : ∀ k, k ∈ a → k ∉ b := fun k hk => mem?_not (List.all_eq_true.1 h k hk)
/-- two operations that touch different things -/
structure Indep (ops : Array Oper) (i j : Nat) (li lj : Log) : Prop where
  ex : ∃ a b, ops[i]? = some a ∧ ops[j]? = some b ∧ (∀ d, a.dst = some d → d ∉ b.looksAt ops) ∧ (∀ d, a.dst = some d → b.dst ≠ some d) ∧ (∀ d, b.dst = some d → d ∉ a.looksAt ops)
  wr : ∀ k, k ∈ li.w → k ∉ lj.r
  ww : ∀ k, k ∈ li.w → k ∉ lj.w
  rw : ∀ k, k ∈ li.r → k ∉ lj.w
theorem swap {i j : Nat} {li lj : Log} {S S1 S2 : St} (hI : Indep ops i j li lj) (h1 : runOp X K fn ops i S = some (S1, li)) (h2 : runOp X K fn ops j S1 = some (S2, lj)) :
    ∃ T1 T2, runOp X K fn ops j S = some (T1, lj) ∧ runOp X K fn ops i T1 = some (T2, li) ∧ Eqv S2 T2 := by
  obtain ⟨a, b, ha, hb, i1, i2, i3⟩ := hI.ex
  obtain ⟨a1, a2, a3⟩ := runOp_local ha h1
  obtain ⟨b1, b2, b3⟩ := runOp_local hb h2
  obtain ⟨T1, c1, c2, c3, c4, c5⟩ := b3 S (fun t ht => (a2 t (fun e => i1 t e ht)).symm) (fun k hk => (a1 k (fun hw => hI.wr k hw hk)).symm)
  obtain ⟨T2, d1, d2, d3, d4, d5⟩ := a3 T1 (fun t ht => c5 t (fun e => i3 t e ht)) (fun k hk => c3 k (hI.rw k hk))
  refine ⟨T1, T2, c1, d1, fun t => ?_, fun k => ?_⟩
  · by_cases hta : a.dst = some t
    · rw [b2 t (fun e => i2 t hta e), d4 t hta]
    · rw [d5 t hta]
      by_cases htb : b.dst = some t
      · rw [c4 t htb]
      · rw [c5 t htb, b2 t htb, a2 t hta]
  · by_cases hka : k ∈ li.w
    · rw [b1 k (hI.ww k hka), d2 k hka]
    · rw [d3 k hka]
      by_cases hkb : k ∈ lj.w
      · rw [c2 k hkb]
      · rw [c3 k hkb, b1 k hkb, a1 k hka]

def Tr (X : Ctx) (K : Kont) (fn : Nat) (ops : Array Oper) : List (Nat × Log) → St → St → Prop
  | [], S, S' => S = S'
  | (i, l) :: is, S, S' => ∃ S1, runOp X K fn ops i S = some (S1, l) ∧ Tr X K fn ops is S1 S'
theorem runOp_op {i : Nat} {S S' : St} {l : Log} (h : runOp X K fn ops i S = some (S', l)) : ∃ o, ops[i]? = some o := by
  cases ho : ops[i]? with
  | some o => exact ⟨o, rfl⟩
  | none => simp [runOp, ho] at h
theorem runOp_eqv {i : Nat} {S S1 T : St} {l : Log} (h : runOp X K fn ops i S = some (S1, l)) (hE : Eqv S T) : ∃ T1, runOp X K fn ops i T = some (T1, l) ∧ Eqv S1 T1 := by
  obtain ⟨o, ho⟩ := runOp_op h
  obtain ⟨a1, a2, a3⟩ := runOp_local ho h
  obtain ⟨T1, c1, c2, c3, c4, c5⟩ := a3 T (fun t _ => (hE.tm t).symm) (fun k _ => (hE.mem k).symm)
  refine ⟨T1, c1, fun t => ?_, fun k => ?_⟩
  · by_cases ht : o.dst = some t
    · rw [c4 t ht]
    · rw [c5 t ht, a2 t ht, hE.tm t]
  · by_cases hk : k ∈ l.w
    · rw [c2 k hk]
    · rw [c3 k hk, a1 k hk, hE.mem k]
theorem Tr.eqv : ∀ {is : List (Nat × Log)} {S S' T : St}, Tr X K fn ops is S S' → Eqv S T → ∃ T', Tr X K fn ops is T T' ∧ Eqv S' T'
  | [], S, S', T, h, hE => ⟨T, rfl, by cases h; exact hE⟩
  | (i, l) :: is, S, S', T, ⟨S1, h1, h2⟩, hE => by
    obtain ⟨T1, c1, e1⟩ := runOp_eqv h1 hE
    obtain ⟨T', c2, e2⟩ := Tr.eqv h2 e1
    exact ⟨T', ⟨T1, c1, c2⟩, e2⟩
/-- an operation that is independent of all before it may go first -/
theorem Tr.front {i : Nat} {l : Log} {post : List (Nat × Log)} : ∀ {pre : List (Nat × Log)} {S S' : St}, Tr X K fn ops (pre ++ (i, l) :: post) S S' → (∀ x, x ∈ pre → Indep ops x.1 i x.2 l) →
    ∃ S'', Tr X K fn ops ((i, l) :: (pre ++ post)) S S'' ∧ Eqv S' S''
  | [], S, S', h, _ => ⟨S', h, Eqv.refl _⟩
  | (j, lj) :: pre, S, S', ⟨S1, h1, h2⟩, hI => by
    obtain ⟨T', ⟨T1, t1, t2⟩, e1⟩ := Tr.front h2 (fun x hx => hI x (by simp [hx]))
    obtain ⟨V1, V2, v1, v2, ev⟩ := swap (hI (j, lj) (by simp)) h1 t1
    obtain ⟨V', w1, e2⟩ := Tr.eqv t2 ev
    exact ⟨V', ⟨V1, v1, V2, v2, w1⟩, e1.trans e2⟩
end
end Go.Vm
