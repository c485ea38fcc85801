/-
  A body: what goes in, what comes out.
-/
import Derived.Test.YtfbemlhfieemhaaVmDraw4
namespace Go.Vm
open Go

section
variable {base : Nat} {U : Nat → Prop} {w : World} {X : Ctx}

theorem entArg_ok {f i : Nat} {fl : Bool} {m : Mem} {G : GS} {v v' : V} {g : Value} {N N1 N2 E : List Nat} (hg : Gok base U w m G) (ho : G.out = []) (hN : N = N1 ++ N2) (hE : (N ++ E).Perm G.E)
    (hq : match modeOf X.adv f i with
      | 1 => ∃ x, v = .d x ∧ ow (heapOf w) (Gh U w G) x g N1
      | _ => N1 = [] ∧ simV G.μ m (Gh U w G) v g) {m' : Mem} {l l' : Log} (h : (entArg X.adv f i fl v).run m l = some (v', m', l')) :
    ∃ G', Gok base U w m' G' ∧ GLe m G m' G' ∧ (N2 ++ E).Perm G'.E ∧ G'.out = [] ∧ simV G'.μ m' (Gh U w G') v' g := by
  subst hN
  rw [List.append_assoc] at hE
  unfold entArg at h
  split at hq
  · rename_i hmo
    obtain ⟨x, rfl, hx⟩ := hq
    rw [hmo] at h
    simp only at h
    have hdef : ∀ y, ow (heapOf w) (Gh U w G) y g N1 → (Pure.pure (V.d (roD y)) : Acc V).run m l = some (v', m', l') →
        ∃ G', Gok base U w m' G' ∧ GLe m G m' G' ∧ (N2 ++ E).Perm G'.E ∧ G'.out = [] ∧ simV G'.μ m' (Gh U w G') v' g := by
      intro y hy h
      simp only [run_pure, Option.some.injEq, Prod.mk.injEq] at h
      obtain ⟨rfl, rfl, rfl⟩ := h
      obtain ⟨d1, d2, d3⟩ := hg.dropN hE
      refine ⟨_, d1, d2, List.Perm.refl _, ho, ?_⟩
      simp only [simV]
      exact ro_roD (d3 hy)
    split at h
    · rename_i s rows he
      cases he
      replace h := run_bind_some h; obtain ⟨x1, m1, l1, h1, h⟩ := h
      simp only [run_pure, Option.some.injEq, Prod.mk.injEq] at h
      obtain ⟨rfl, rfl, rfl⟩ := h
      obtain ⟨G1, g1, s1⟩ := newArr_ok hg (fun r hr => by rw [ho] at hr; simp at hr) hE hx h1
      exact ⟨G1, g1.ok, g1.le, by rw [g1.E], g1.out.trans ho, s1⟩
    · rename_i y hne he
      cases he
      exact hdef _ hx h
    · exact (run_fail h).elim
  · rename_i hmo
    obtain ⟨rfl, hs⟩ := hq
    split at h
    · rename_i e; exact absurd e hmo
    · simp only [run_pure, Option.some.injEq, Prod.mk.injEq] at h
      obtain ⟨rfl, rfl, rfl⟩ := h
      exact ⟨G, hg, GLe.refl _ _, by simpa using hE, ho, hs⟩

theorem entArgs_ok {f : Nat} : ∀ {vs : List V} {i : Nat} {ts : List TypeId} {gs : List Value} {m : Mem} {G : GS} {N E : List Nat} (_ : Gok base U w m G) (_ : G.out = []) (_ : (N ++ E).Perm G.E)
    (_ : mixS X.adv f G.μ m (heapOf w) (Gh U w G) i vs gs N) {tm : Tmps} {m' : Mem} {l l' : Log} (_ : (entArgs X f i ts vs).run m l = some (tm, m', l')),
    ∃ G', Came base U w m G m' G' E ∧ ∀ t v, get t tm = some v → ∃ k g, t = i + k ∧ gs[k]? = some g ∧ simV G'.μ m' (Gh U w G') v g
  | [], i, ts, gs, m, G, N, E, hg, ho, hE, hq, tm, m', l, l', h => by
    simp only [entArgs, run_pure, Option.some.injEq, Prod.mk.injEq] at h
    obtain ⟨rfl, rfl, rfl⟩ := h
    obtain ⟨d1, d2, _⟩ := hg.dropN hE
    exact ⟨_, ⟨d1, d2, rfl, ho⟩, fun t v ht => by simp [get] at ht⟩
  | v :: vs, i, ts, gs, m, G, N, E, hg, ho, hE, hq, tm, m', l, l', h => by
    simp only [mixS] at hq
    obtain ⟨g, gs', N1, N2, rfl, hN, q1, q2⟩ := hq
    simp only [entArgs] at h
    replace h := run_bind_some h; obtain ⟨v1, m1, l1, h1, h⟩ := h
    replace h := run_bind_some h; obtain ⟨r, m2, l2, h2, h⟩ := h
    simp only [run_pure, Option.some.injEq, Prod.mk.injEq] at h
    obtain ⟨rfl, rfl, rfl⟩ := h
    obtain ⟨G1, g1, le1, e1, o1, s1⟩ := entArg_ok hg ho hN hE q1 h1
    have q2' := mixS_mono (A := X.adv) (f := f) le1.mem le1.view (H' := heapOf w) (fun _ _ => rfl) q2
    obtain ⟨G2, c2, s2⟩ := entArgs_ok g1 o1 e1 q2' h2
    refine ⟨G2, ⟨c2.ok, le1.trans c2.le, c2.E, c2.out⟩, fun t u ht => ?_⟩
    simp only [get] at ht
    by_cases hti : t = i
    · subst hti
      simp only [Nat.beq_refl, cond_true, Option.some.injEq] at ht
      subst ht
      exact ⟨0, g, by simp, rfl, c2.le.simV s1⟩
    · rw [beq_no hti] at ht
      simp only [cond_false] at ht
      obtain ⟨k, g', e, hk, hs⟩ := s2 t u ht
      exact ⟨k + 1, g', by omega, by simpa using hk, hs⟩

theorem mixS_length {A : Adv} {f : Nat} {μ : Nat → Value} {m : Mem} {H : Heap} {h : View} : ∀ {vs : List V} {i : Nat} {gs : List Value} {N : List Nat}, mixS A f μ m H h i vs gs N → gs.length = vs.length
  | [], _, _, _, q => by simp only [mixS] at q; simp [q.1]
  | v :: vs, i, _, _, q => by
    simp only [mixS] at q
    obtain ⟨g, gs', N1, N2, rfl, _, _, q2⟩ := q
    simp [mixS_length q2]
theorem cellsB_length {H : Heap} {h : View} : ∀ {cs : List Cell} {gs : List Value} {N : List Nat}, cellsB H h cs gs N → gs.length = cs.length
  | [], _, _, q => by simp [q.1]
  | c :: cs, _, _, ⟨g, gs', N1, N2, e, _, _, q⟩ => by subst e; simp [cellsB_length q]
theorem cellB_same {H : Heap} {h : View} {c : Cell} {g : Value} {N : List Nat} (q : cellB H h c g N) : sameKind c c := by
  cases c with
  | box t vs => exact rfl
  | arr fz fl ver s rows => obtain ⟨_, hv, _⟩ := q; exact ⟨hv, hv, rfl, rfl⟩
  | dead => exact q
theorem kinds_imp {H : Heap} {h : View} {m : Mem} : ∀ {cs : List Cell} {k : Nat} {gs : List Value} {N : List Nat}, (∀ i, get (impBase + (k + i)) m = cs[i]?) → cellsB H h cs gs N → kinds m ((List.range' k cs.length).map (impBase + ·)) cs
  | [], k, gs, N, _, _ => by simp [kinds]
  | c :: cs, k, _, _, hm, ⟨g, gs', N1, N2, e, _, q1, q2⟩ => by
    rw [List.length_cons, List.range'_succ, List.map_cons]
    refine ⟨c, c, cs, rfl, by have := hm 0; simpa using this, cellB_same q1, kinds_imp (fun i => ?_) q2⟩
    have := hm (i + 1)
    rw [show k + 1 + i = k + (i + 1) by omega]
    simpa using this
theorem impKeys_eq (n : Nat) : impKeys n = (List.range' 0 n).map (impBase + ·) := by rw [impKeys, List.range_eq_range']
theorem impKeys_nodup (n : Nat) : (impKeys n).Nodup := by
  unfold impKeys
  exact List.Pairwise.map _ (fun a b h e => h (Nat.add_left_cancel e)) List.nodup_range
theorem impKeys_get {n i : Nat} (h : i < n) : (impKeys n)[i]? = some (impBase + i) := by simp [impKeys, h]
theorem impKeys_length (n : Nat) : (impKeys n).length = n := by simp [impKeys]
theorem impKeys_map (gs : List Value) : (impKeys gs.length).map (impμ gs) = gs := by
  apply List.ext_getElem?
  intro i
  rw [List.getElem?_map]
  by_cases h : i < gs.length
  · rw [impKeys_get h]
    simp [impμ, h]
  · rw [List.getElem?_eq_none (by rw [impKeys_length]; omega), List.getElem?_eq_none (by omega)]
    rfl
theorem get_impMem_some : ∀ {cs : List Cell} {k r : Nat} {c : Cell}, get r (impMem k cs) = some c → ∃ i, r = impBase + (k + i) ∧ cs[i]? = some c
  | [], _, _, _, h => by simp [impMem, get] at h
  | c' :: cs, k, r, c, h => by
    simp only [impMem, get] at h
    by_cases e : r = impBase + k
    · subst e
      simp only [Nat.beq_refl, cond_true, Option.some.injEq] at h
      exact ⟨0, by simp, by simp [h]⟩
    · rw [beq_no e] at h
      simp only [cond_false] at h
      obtain ⟨i, h1, h2⟩ := get_impMem_some h
      exact ⟨i + 1, by omega, by simpa using h2⟩

theorem entry_ok {f : Nat} {fn : Func} {args : List V} {cells : List Cell} {gargs gcells : List Value} {N1 N2 : List Nat} (hG : Given X base U w f args cells gargs gcells N1 N2) {tm : Tmps} {m' : Mem} {l' : Log}
    (h : (entry X f fn args cells).run (impMem 0 cells) .none = some (tm, m', l')) (hn : args.length ≤ fn.ntmps) :
    ∃ G, Rel base U (N1 ++ N2) w (impμ gcells) (impMem 0 cells) fn.ntmps w ⟨tm, m'⟩ G { tmps := gargs.toArray ++ Array.replicate (fn.ntmps - gargs.toArray.size) undef, defers := [] } := by
  simp only [entry] at h
  replace h := run_bind_some h; obtain ⟨_, m1, l1, h1, h⟩ := h
  have hlen := cellsB_length hG.cells
  have hexF : ∀ b, excl (fun _ => []) (N1 ++ N2) b ↔ b ∈ N1 ++ N2 := by
    intro b
    constructor
    · rintro (hb | ⟨r, hb⟩)
      · exact hb
      · simp at hb
    · exact fun hb => .inl hb
  have hg0 : Gok base U w (impMem 0 cells) ⟨impμ gcells, fun _ => [], N1 ++ N2, impKeys cells.length⟩ := by
    refine ⟨?_, ?_, ?_, ?_, hG.nd, ?_, hG.up, hG.bs, ?_, ?_⟩
    · intro r c hr hro
      exfalso
      apply hro
      obtain ⟨i, e, hi⟩ := get_impMem_some hr
      have hil : i < cells.length := (List.getElem?_eq_some_iff.1 hi).1
      show r ∈ impKeys cells.length
      rw [e, impKeys]
      exact List.mem_map.2 ⟨0 + i, List.mem_range.2 (by omega), rfl⟩
    · intro r r' _ b hb; simp at hb
    · intro r b hb; simp at hb
    · intro r; simp
    · intro b hb
      exact hG.lt b ((hexF b).1 hb)
    · intro r _; rfl
    · intro r _; rfl
  have hv : (view w U (· ∈ N1 ++ N2)).le (Gh U w ⟨impμ gcells, fun _ => [], N1 ++ N2, impKeys cells.length⟩) := view_le (fun _ x => x) (fun b hb => (hexF b).1 hb)
  have hk0 : kinds (impMem 0 cells) (impKeys cells.length) (cells.drop 0) := by
    rw [List.drop_zero, impKeys_eq]
    exact kinds_imp (fun i => by rw [Nat.zero_add]; exact get_impMem0 cells i) hG.cells
  obtain ⟨G1, c1⟩ := reAll_ok (i := 0) (N := N2) (E := N1) hg0 (impKeys_nodup _) rfl hk0 List.perm_append_comm (by
    rw [List.drop_zero, ← hlen, impKeys_map]
    exact cellsB_grow hv hG.cells) h1
  obtain ⟨G2, c2, s2⟩ := entArgs_ok (N := N1) (E := []) c1.ok c1.out (by rw [c1.E]; simp) (mixS_mono c1.le.mem (hv.trans' c1.le.view) (fun _ _ => rfl) hG.args) h
  have hal := mixS_length hG.args
  refine ⟨G2, ⟨c2.ok, c2.E, c2.out, ⟨Keep.refl _ _, fun b hb => .inl ((hexF b).1 (c1.le.ex b (c2.le.ex b hb)))⟩⟩, ?_, ?_, rfl, memLe_trans c1.le.mem c2.le.mem⟩
  · intro t v ht
    obtain ⟨k, g, e, hk, hs⟩ := s2 t v ht
    have hkl : k < gargs.length := (List.getElem?_eq_some_iff.1 hk).1
    have ht' : t < (gargs.toArray ++ Array.replicate (fn.ntmps - gargs.toArray.size) undef).size := by simp; omega
    refine ⟨ht', ?_⟩
    have : (gargs.toArray ++ Array.replicate (fn.ntmps - gargs.toArray.size) undef).getD t undef = g := by
      rw [Array.getD_eq_getD_getElem?, Array.getElem?_append_left (by simp; omega)]
      have : t = k := by omega
      subst this
      simp [hk]
    simp only [this]
    exact hs
  · simp
    omega
end
end Go.Vm
