/-
  A run of steps looks at the cells that it logs alone, and turns those that it logs alone.
-/
import Derived.Test.YtfbemlhfieemhaaVmOp
namespace Go.Vm
open Go

theorem run_local {α : Type} (A : Acc α) : ∀ {m : Mem} {l : Log} {v : α} {m' : Mem} {l' : Log}, A.run m l = some (v, m', l') →
    ∃ R W, l' = ⟨R ++ l.r, W ++ l.w⟩ ∧ (∀ k, k ∉ W → get k m' = get k m) ∧
      ∀ m2 l2, (∀ k, k ∈ R → get k m2 = get k m) → ∃ m2', A.run m2 l2 = some (v, m2', ⟨R ++ l2.r, W ++ l2.w⟩) ∧ (∀ k, k ∈ W → get k m2' = get k m') ∧ (∀ k, k ∉ W → get k m2' = get k m2) := by
  induction A with
  | ret a =>
    intro m l v m' l' h
    simp only [Acc.run, Option.some.injEq, Prod.mk.injEq] at h
    obtain ⟨rfl, rfl, rfl⟩ := h
    exact ⟨[], [], rfl, fun _ _ => rfl, fun m2 l2 _ => ⟨m2, rfl, fun _ h => by simp at h, fun _ _ => rfl⟩⟩
  | fail => intro m l v m' l' h; simp [Acc.run] at h
  | get k c ih =>
    intro m l v m' l' h
    simp only [Acc.run] at h
    obtain ⟨R, W, e, h1, h2⟩ := ih _ h
    refine ⟨R ++ [k], W, by rw [e]; simp [Log.rd], h1, fun m2 l2 hm => ?_⟩
    obtain ⟨m2', q1, q2, q3⟩ := h2 m2 (l2.rd k) (fun j hj => hm j (by simp [hj]))
    refine ⟨m2', ?_, q2, q3⟩
    simp only [Acc.run]
    rw [hm k (by simp), q1]
    simp [Log.rd]
  | set k x c ih =>
    intro m l v m' l' h
    simp only [Acc.run] at h
    obtain ⟨R, W, e, h1, h2⟩ := ih h
    refine ⟨R, W ++ [k], by rw [e]; simp [Log.wr], fun j hj => ?_, fun m2 l2 hm => ?_⟩
    · simp only [List.mem_append, List.mem_singleton, not_or] at hj
      rw [h1 j hj.1, get_put_other hj.2]
    · obtain ⟨m2', q1, q2, q3⟩ := h2 (put k x m2) (l2.wr k) (fun j hj => by
        rw [get_put, get_put]
        split
        · rfl
        · exact hm j hj)
      refine ⟨m2', ?_, fun j hj => ?_, fun j hj => ?_⟩
      · simp only [Acc.run]
        rw [q1]
        simp [Log.wr]
      · by_cases hw : j ∈ W
        · exact q2 j hw
        · have hjk : j = k := by simpa [hw] using hj
          subst hjk
          rw [q3 j hw, h1 j hw, get_put_same, get_put_same]
      · simp only [List.mem_append, List.mem_singleton, not_or] at hj
        rw [q3 j hj.1, get_put_other hj.2]
  | opt o c ih =>
    intro m l v m' l' h
    cases o with
    | none => simp [Acc.run] at h
    | some b =>
      simp only [Acc.run] at h
      obtain ⟨R, W, e, h1, h2⟩ := ih _ h
      exact ⟨R, W, e, h1, fun m2 l2 hm => by simpa only [Acc.run] using h2 m2 l2 hm⟩
  | guard b c ih =>
    intro m l v m' l' h
    cases b with
    | false => simp [Acc.run] at h
    | true =>
      simp only [Acc.run] at h
      obtain ⟨R, W, e, h1, h2⟩ := ih h
      exact ⟨R, W, e, h1, fun m2 l2 hm => by simpa only [Acc.run] using h2 m2 l2 hm⟩

theorem ev_congr {P : Program} {tm tm2 : Tmps} {t : TypeId} {x : Operand} (h : ∀ i, x = .tmp i → get i tm = get i tm2) : ev P tm t x = ev P tm2 t x := by
  cases x with
  | tmp i => simp only [ev, getT, h i rfl]
  | _ => rfl
theorem evArgs_congr {P : Program} {tm tm2 : Tmps} : ∀ {xs : List Operand} {ts : List TypeId}, (∀ x ∈ xs, ∀ i, x = .tmp i → get i tm = get i tm2) → evArgs P tm xs ts = evArgs P tm2 xs ts
  | [], _, _ => rfl
  | x :: xs, ts, h => by
    simp only [evArgs]
    rw [ev_congr (h x (by simp)), evArgs_congr fun y hy => h y (by simp [hy])]
theorem buildParts_congr {P : Program} {T : TypeId} {tm tm2 : Tmps} : ∀ {ps : List (Nat × Operand)} {cs : List V}, (∀ x ∈ ps, ∀ i, x.2 = .tmp i → get i tm = get i tm2) → buildParts P T tm ps cs = buildParts P T tm2 ps cs
  | [], _, _ => rfl
  | (f, x) :: ps, cs, h => by
    simp only [buildParts]
    have e : ∀ t, ev P tm t x = ev P tm2 t x := fun t => ev_congr (h (f, x) (by simp))
    have r : ∀ cs, buildParts P T tm ps cs = buildParts P T tm2 ps cs := fun cs => buildParts_congr fun y hy => h y (by simp [hy])
    simp only [e, r]
theorem sliceParts_congr {P : Program} {T : TypeId} {tm tm2 : Tmps} : ∀ {ps : List (Nat × Operand)} {k : Nat}, (∀ x ∈ ps, ∀ i, x.2 = .tmp i → get i tm = get i tm2) → sliceParts P T tm k ps = sliceParts P T tm2 k ps
  | [], _, _ => rfl
  | (f, x) :: ps, k, h => by
    simp only [sliceParts]
    have e : ∀ t, ev P tm t x = ev P tm2 t x := fun t => ev_congr (h (f, x) (by simp))
    have r : ∀ k, sliceParts P T tm k ps = sliceParts P T tm2 k ps := fun k => sliceParts_congr fun y hy => h y (by simp [hy])
    simp only [e, r]
theorem vop_congr {X : Ctx} {K : Kont} {fn : Nat} {tm tm2 : Tmps} {o : Oper} (h : ∀ x ∈ o.op.operands, ∀ i, x = .tmp i → get i tm = get i tm2) : vop X K fn tm o = vop X K fn tm2 o := by
  obtain ⟨dst, op, type, pos, after, guard⟩ := o
  have e : ∀ {x : Operand} (t : TypeId), x ∈ op.operands → ev X.P tm t x = ev X.P tm2 t x := fun t hx => ev_congr (h _ hx)
  cases op <;> simp only [vop]
  case call c =>
    obtain ⟨callee, args, tys⟩ := c
    have ea : ∀ ts, evArgs X.P tm args.toList ts = evArgs X.P tm2 args.toList ts := fun ts => evArgs_congr fun x hx => h x (by
      simp only [Op.operands, Call.operands]
      have hx' : x ∈ args := by simpa using hx
      cases callee <;> simp [hx'])
    cases callee with
    | value f =>
      simp only [ea, e (x := f) 0 (by simp [Op.operands, Call.operands])]
    | invoke r m => rfl
    | builtin b => cases b <;> simp only [ea]
  case build t ps =>
    simp only [buildV]
    have : ∀ cs, buildParts X.P t tm ps.toList cs = buildParts X.P t tm2 ps.toList cs := fun cs => buildParts_congr fun x hx => h x.2 (by
      simp only [Op.operands]
      simp
      exact ⟨x.1, by simpa using hx⟩)
    simp only [this]
  case buildSlice t n ps =>
    simp only [buildSliceV]
    have : ∀ e, sliceParts X.P e tm 0 ps.toList = sliceParts X.P e tm2 0 ps.toList := fun e => sliceParts_congr fun x hx => h x.2 (by
      simp only [Op.operands]
      simp
      exact ⟨x.1, by simpa using hx⟩)
    simp only [this]
  case makeFunc f first caps =>
    cases f <;> try rfl
    simp only
    rw [evArgs_congr (tm := tm) (tm2 := tm2) (xs := first.toList) fun x hx => h x (by have hx' : x ∈ _ := Array.mem_toList_iff.1 hx; simp [Op.operands, hx']),
      evArgs_congr (tm := tm) (tm2 := tm2) (xs := caps.toList) fun x hx => h x (by have hx' : x ∈ _ := Array.mem_toList_iff.1 hx; simp [Op.operands, hx'])]
  case slice t x lo hi mx =>
    cases mx with
    | some _ => rfl
    | none =>
      simp only
      rw [e t (by simp [Op.operands])]
      cases lo with
      | none => cases hi with
        | none => rfl
        | some y => simp only [Option.map_some, Option.map_none, e 3 (x := y) (by simp [Op.operands])]
      | some z => cases hi with
        | none => simp only [Option.map_some, Option.map_none, e 3 (x := z) (by simp [Op.operands])]
        | some y => simp only [Option.map_some, Option.map_none, e 3 (x := y) (by simp [Op.operands]), e 3 (x := z) (by simp [Op.operands])]
  all_goals first
    | rfl
    | (simp only [e _ (by simp [Op.operands] : _ ∈ Op.operands _)]; done)
    | skip
  all_goals (simp only [Op.operands] at e; simp_all)
end Go.Vm
