/-
  Every operation of the machine is Go's.
-/
import Derived.Test.YtfbemlhfieemhaaVmCall
namespace Go.Vm
open Go

section
variable {base : Nat} {U : Nat → Prop} {M0 : List Nat} {w0 w w' : World} {m m' : Mem} {G G' : GS} {X : Ctx}

theorem run_v (P : Program) (w : World) (s : Sem Value) : ((do pure (.value (← s))) : Sem Next).run P w = (s.run P w).andThen fun g w' => .ok (.value g) w' := by
  simp only [Sem.run_bind, Sem.run_pure]
theorem wp_op {o : Oper} {a : Act} {next : Act → World → Prop} {Q : Exit → Act → World → Prop} {s : Sem Value} {v : V}
    (he : (execOp a.eval o).run X.P w = ((do pure (.value (← s))) : Sem Next).run X.P w) (h : OpR base U M0 w0 w m G X.P s v m')
    (hn : ∀ g w' G', Nx base U M0 w0 w m G w' m' G' → simV G'.μ m' (Gh U w' G') v g → next (a.put o.dst g) w') : o.wp X.P a w next Q := by
  obtain ⟨g, w', G', hr, hx, hs⟩ := h
  exact wp_value (by rw [he, run_v, hr]; rfl) (hn g w' G' hx hs)

theorem evArgs_one {P : Program} {tm : Tmps} {xs : List Operand} {ts : List TypeId} {a : V} (h : evArgs P tm xs ts = [a]) : ∃ x, xs = [x] ∧ a = ev P tm (ts.headD 0) x := by
  cases xs with
  | nil => simp [evArgs] at h
  | cons x xs =>
    cases xs with
    | nil => simp only [evArgs, List.cons.injEq, and_true] at h; exact ⟨x, rfl, h.symm⟩
    | cons _ _ => simp [evArgs] at h
theorem evArgs_two {P : Program} {tm : Tmps} {xs : List Operand} {ts : List TypeId} {a b : V} (h : evArgs P tm xs ts = [a, b]) : ∃ x y, xs = [x, y] ∧ a = ev P tm (ts.headD 0) x ∧ b = ev P tm (ts.tail.headD 0) y := by
  cases xs with
  | nil => simp [evArgs] at h
  | cons x xs =>
    cases xs with
    | nil => simp [evArgs] at h
    | cons y xs =>
      cases xs with
      | nil => simp only [evArgs, List.cons.injEq, and_true] at h; exact ⟨x, y, rfl, h.1.symm, h.2.symm⟩
      | cons _ _ => simp [evArgs] at h
theorem array_of {α : Type} {a : Array α} {l : List α} (h : a.toList = l) : a = l.toArray := by
  rw [← h]

theorem vop_ok {K : Kont} (hK : Sound X K) (hA : At base U M0 w0 w m G) {fn : Nat} {tm : Tmps} {a : Act} (hT : simT G.μ m (Gh U w G) tm a) {o : Oper} {v : V} {l l' : Log} (h : (vop X K fn tm o).run m l = some (v, m', l'))
    {next : Act → World → Prop} {Q : Exit → Act → World → Prop} (hn : ∀ g w' G', Nx base U M0 w0 w m G w' m' G' → simV G'.μ m' (Gh U w' G') v g → next (a.put o.dst g) w') : o.wp X.P a w next Q := by
  have E := fun t x => ev_ok (P := X.P) hT t x
  unfold vop at h
  simp only at h
  split at h
  -- move
  · rename_i x hop
    simp only [run_pure, Option.some.injEq, Prod.mk.injEq] at h
    obtain ⟨rfl, rfl, _⟩ := h
    exact wp_value (by simp [execOp, hop]) (hn _ _ _ hA.nx (E _ x))
  · rename_i x hop
    simp only [run_pure, Option.some.injEq, Prod.mk.injEq] at h
    obtain ⟨rfl, rfl, _⟩ := h
    exact wp_value (by simp [execOp, hop]) (hn _ _ _ hA.nx (E _ x))
  -- pick
  · rename_i c x y hop
    refine wp_op ?_ (pickV_ok hA (E _ c) (E _ x) (E _ y) h) hn
    simp [execOp, hop]
  -- alloc
  · rename_i T hop
    replace h := run_bind_some h; obtain ⟨z, m1, l1, h1, h⟩ := h
    obtain ⟨hz, rfl, rfl⟩ := run_op' h1
    replace h := run_bind_some h; obtain ⟨u, m2, l2, h2, h⟩ := h
    simp only [run_pure, Option.some.injEq, Prod.mk.injEq] at h
    obtain ⟨rfl, rfl, _⟩ := h
    refine wp_op ?_ (alloc_ok hA hz h2) hn
    simp [execOp, hop]
  -- box
  · rename_i T x hop
    replace h := run_bind_some h; obtain ⟨_, m1, l1, h1, h⟩ := h
    obtain ⟨hsz, rfl, rfl⟩ := run_ck h1
    replace h := run_bind_some h; obtain ⟨_, m1, l1, h1, h⟩ := h
    obtain ⟨hone, rfl, rfl⟩ := run_ck h1
    replace h := run_bind_some h; obtain ⟨u, m2, l2, h2, h⟩ := h
    simp only [run_pure, Option.some.injEq, Prod.mk.injEq] at h
    obtain ⟨rfl, rfl, _⟩ := h
    refine wp_op ?_ (box_ok hA (E T x) hone h2) hn
    simp [execOp, hop]
  -- build
  · rename_i T ps hop
    refine wp_op ?_ (buildV_ok hA hT h) hn
    simp [execOp, hop]
  · rename_i t n ps hop
    refine wp_op ?_ (buildSliceV_ok hA hT h) hn
    simp [execOp, hop]
  -- load
  · rename_i t x hop
    obtain ⟨g, hr, rfl, hs⟩ := loadV_ok hA (E 0 x) h
    refine wp_op ?_ (OpR.same hA hr hs) hn
    simp [execOp, hop]
  -- store
  · rename_i t x y hop
    replace h := run_bind_some h; obtain ⟨u, m1, l1, h1, h⟩ := h
    simp only [run_pure, Option.some.injEq, Prod.mk.injEq] at h
    obtain ⟨rfl, rfl, _⟩ := h
    obtain ⟨w', G', hr, hx⟩ := storeV_ok hA (E 0 x) (E t y) h1
    refine wp_skip (w' := w') ?_ (hn _ _ _ hx trivial)
    simp [execOp, hop, hr]
  -- nilCheck
  · rename_i x hop
    have hE := E o.type x
    have key : ∀ {b : Nat} {q : Nat}, a.eval x = .pointer (some ⟨b, q, none⟩) → v = ev X.P tm o.type x → m' = m → o.wp X.P a w next Q := by
      intro b q hx hv hm
      subst hm
      refine wp_value (g := a.eval x) ?_ (hn _ _ _ hA.nx (by rw [hv]; exact hE))
      simp [execOp, hop, hx]
    split at h
    · rename_i r off hv
      simp only [run_pure, Option.some.injEq, Prod.mk.injEq] at h
      rw [hv] at hE key
      obtain ⟨b, q, hp⟩ := hE.1
      exact key hp h.1.symm h.2.1.symm
    · rename_i row off hv
      simp only [run_pure, Option.some.injEq, Prod.mk.injEq] at h
      rw [hv] at hE key
      obtain ⟨b, q, hp, _⟩ := hE
      exact key hp h.1.symm h.2.1.symm
    · rename_i r ver i off hv
      simp only [run_pure, Option.some.injEq, Prod.mk.injEq] at h
      rw [hv] at hE key
      obtain ⟨b, q, hp⟩ := hE.1
      exact key hp h.1.symm h.2.1.symm
    · exact (run_fail h).elim
  -- binOp
  · rename_i op t x y t' hop
    refine wp_op ?_ (bin_ok (ox := x) (oy := y) hA (E t x) (E t' y) h) hn
    simp [execOp, hop]
  · rename_i op t x hop
    refine wp_op ?_ (un_ok hA (E t x) h) hn
    simp [execOp, hop]
  · rename_i s d x hop
    refine wp_op ?_ (convertV_ok hA (E s x) h) hn
    simp [execOp, hop]
  -- makeFunc
  · rename_i f first caps hop
    simp only [run_pure, Option.some.injEq, Prod.mk.injEq] at h
    obtain ⟨rfl, rfl, _⟩ := h
    refine wp_value (g := .func (.func f) (first.map a.eval) (caps.map a.eval)) (by simp [execOp, hop, Instr.makeFunc]) (hn _ _ _ hA.nx ?_)
    simp only [simV]
    exact ⟨_, _, rfl, by simpa using evArgs_ok (P := X.P) hT first.toList [], by simpa using evArgs_ok (P := X.P) hT caps.toList []⟩
  -- makeSlice
  · rename_i t x y hop
    refine wp_op ?_ (makeSliceV_ok hA (E _ x) (E _ y) h) hn
    simp [execOp, hop]
  -- slice
  · rename_i t x lo hi hop
    refine wp_op ?_ (sliceV_ok (glo := lo.map a.eval) (ghi := hi.map a.eval) hA (E _ x) ?_ ?_ h) hn
    · simp [execOp, hop]
    · cases lo with
      | none => rfl
      | some x => exact ⟨_, rfl, E _ x⟩
    · cases hi with
      | none => rfl
      | some x => exact ⟨_, rfl, E _ x⟩
  -- addresses
  · rename_i T x f hop
    refine wp_op ?_ (fieldAddrV_ok hA (E _ x) h) hn
    simp [execOp, hop]
  · rename_i T x f hop
    refine wp_op ?_ (fieldV_ok hA (E _ x) h) hn
    simp [execOp, hop]
  · rename_i t x i hop
    refine wp_op ?_ (indexAddrV_ok hA (E _ x) (E _ i) h) hn
    simp [execOp, hop]
  · rename_i t x i hop
    refine wp_op ?_ (indexV_ok hA (E _ x) (E _ i) h) hn
    simp [execOp, hop]
  -- extract
  · rename_i x i hop
    split at h
    · rename_i vs hv
      obtain ⟨hi, rfl, rfl⟩ := run_op' h
      have hE := E 0 x
      rw [hv] at hE
      simp only [simV] at hE
      obtain ⟨arr, ha, hs⟩ := hE
      obtain ⟨g, hg, hq⟩ := simVs_at hs hi
      refine wp_value (g := g) ?_ (hn _ _ _ hA.nx hq)
      simp [execOp, hop, ha, Instr.extract, hg]
    · exact (run_fail h).elim
  -- calls
  · rename_i f args tys hop
    split at h
    · rename_i g first caps hv
      have hE := E 0 f
      rw [hv] at hE
      simp only [simV] at hE
      obtain ⟨fa, ca, hf, hs1, hs2⟩ := hE
      have hargs := simVs_append (simVs_append hs1 (evArgs_ok (P := X.P) hT args.toList tys.toList)) hs2
      obtain ⟨he, hc⟩ := callV_ok hK hA hargs h
      have harr : (fa.toList ++ args.toList.map a.eval ++ ca.toList).toArray = fa ++ args.map a.eval ++ ca := by
        apply Array.ext'
        simp
      rw [harr] at he hc
      unfold Oper.wp
      have hrun : (execOp a.eval o).run X.P w = .ok (.enter g (fa ++ args.map a.eval ++ ca)) w := by
        simp only [execOp, hop, resolve, hf, Deferred.ofValue, Sem.run_bind, Sem.run_pure, Result.andThen_ok, invoke, he]
      rw [hrun, Oper.upon_enter]
      refine Calls.mono hc ?_
      rintro e w' ⟨g', G', rfl, hx, hq⟩
      exact hn g' w' G' hx hq
    · exact (run_fail h).elim
  -- len
  · rename_i args tys hop
    split at h
    · rename_i x hx
      obtain ⟨ox, hxs, rfl⟩ := evArgs_one hx
      replace h := run_bind_some h; obtain ⟨_, m1, l1, h1, h⟩ := h
      obtain ⟨hk, rfl, rfl⟩ := run_ck h1
      have hx0 := E (tys.toList.headD 0) ox
      unfold lenT at hk
      split at hk
      · rename_i t ht
        have hxs := array_of hxs
        have hts := array_of ht
        refine wp_op (s := Builtin.len_ #[t] o.type #[a.eval ox]) ?_ (lenV_ok hA hx0 ?_ ?_ h) hn
        · simp [execOp, hop, resolve, invoke, builtin, hxs, hts]
        · intro s hs
          rw [hs] at hk
          simp only at hk
          cases hu : X.P.underlying t with
          | none => rw [hu] at hk; cases hk
          | some d => rw [hu] at hk; cases d <;> simp at hk; rfl
        · intro hs
          split at hk
          · rename_i s hv; exact absurd hv (hs s)
          · cases hu : X.P.underlying t with
            | none => rw [hu] at hk; cases hk
            | some d => rw [hu] at hk; cases d <;> simp at hk; exact ⟨_, rfl⟩
      · cases hk
    · exact (run_fail h).elim
  -- append
  · rename_i args tys hop
    split at h
    · rename_i x y t t' hxy ht
      obtain ⟨ox, oy, hxs, rfl, rfl⟩ := evArgs_two hxy
      have hxs := array_of hxs
      have hts := array_of ht
      refine wp_op (s := Builtin.append_ #[t, t'] o.type #[a.eval ox, a.eval oy]) ?_ (appendV_ok hA (E _ ox) (E _ oy) h) hn
      simp [execOp, hop, resolve, invoke, builtin, hxs, hts]
    · exact (run_fail h).elim
  -- max
  · rename_i args tys hop
    split at h
    · rename_i k x k' y hxy
      obtain ⟨ox, oy, hxs, h1, h2⟩ := evArgs_two hxy
      have hxs := array_of hxs
      have e1 := E (tys.toList.headD 0) ox
      have e2 := E (tys.toList.tail.headD 0) oy
      rw [← h1] at e1
      rw [← h2] at e2
      simp only [simV, ro] at e1 e2
      simp only [run_pure, Option.some.injEq, Prod.mk.injEq] at h
      obtain ⟨rfl, rfl, _⟩ := h
      refine wp_value (g := .int k (bif decide (x < y) then y else x)) ?_ (hn _ _ _ hA.nx (by simp [simV, ro]))
      by_cases hlt : x < y <;> simp [execOp, hop, resolve, invoke, builtin, hxs, e1, e2, Builtin.max_, Builtin.max2, hlt]
    · exact (run_fail h).elim
  -- min
  · rename_i args tys hop
    split at h
    · rename_i k x k' y hxy
      obtain ⟨ox, oy, hxs, h1, h2⟩ := evArgs_two hxy
      have hxs := array_of hxs
      have e1 := E (tys.toList.headD 0) ox
      have e2 := E (tys.toList.tail.headD 0) oy
      rw [← h1] at e1
      rw [← h2] at e2
      simp only [simV, ro] at e1 e2
      simp only [run_pure, Option.some.injEq, Prod.mk.injEq] at h
      obtain ⟨rfl, rfl, _⟩ := h
      refine wp_value (g := .int k (bif decide (y < x) then y else x)) ?_ (hn _ _ _ hA.nx (by simp [simV, ro]))
      by_cases hlt : y < x <;> simp [execOp, hop, resolve, invoke, builtin, hxs, e1, e2, Builtin.min_, Builtin.min2, hlt]
    · exact (run_fail h).elim
  · exact (run_fail h).elim
end
end Go.Vm
