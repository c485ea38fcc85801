/-
  The machine's steps on its cells: arguments; what comes back from a call.
-/
import Derived.Test.YtfbemlhfieemhaaVmGhost3
namespace Go.Vm
open Go

section
variable {base : Nat} {U : Nat → Prop} {w : World} {m : Mem} {G : GS}

/-! ### which boxes go -/
theorem addNew_nodup {r : Nat} {l : List Nat} (h : l.Nodup) : (addNew r l).Nodup := by
  unfold addNew
  cases hm : mem? r l with
  | true => exact h
  | false =>
    have : r ∉ l := fun hr => by rw [(mem?_iff r l).2 hr] at hm; cases hm
    exact List.nodup_append.2 ⟨h, by simp, fun a ha b hb e => by simp at hb; subst hb; subst e; exact this ha⟩
mutual
theorem impV_nodup : ∀ (v : V) (I : List Nat), I.Nodup → (impV I v).Nodup
  | .ptr r _, I, h => by simp only [impV]; exact addNew_nodup h
  | .clo _ a b, I, h => by simp only [impV]; exact impVs_nodup b _ (impVs_nodup a _ h)
  | .agg cs, I, h => by simp only [impV]; exact impVs_nodup cs _ h
  | .d _, I, h => h
  | .nil _, I, h => h
  | .own _ _, I, h => h
  | .eptr _ _ _ _, I, h => h
  | .rptr _ _, I, h => h
  | .tup _, I, h => h
  | .undef, I, h => h
theorem impVs_nodup : ∀ (vs : List V) (I : List Nat), I.Nodup → (impVs I vs).Nodup
  | [], I, h => h
  | v :: vs, I, h => by simp only [impVs]; exact impVs_nodup vs _ (impV_nodup v I h)
end
theorem impArgs_nodup (A : Adv) (f : Nat) : ∀ (vs : List V) (i : Nat) (I : List Nat), I.Nodup → (impArgs A f i I vs).Nodup
  | [], _, I, h => h
  | v :: vs, i, I, h => by
    simp only [impArgs]
    refine impArgs_nodup A f vs _ _ ?_
    split
    · exact addNew_nodup h
    · exact impV_nodup _ _ h

/-! ### what is taken over -/
def mixS (A : Adv) (f : Nat) (μ : Nat → Value) (m : Mem) (H : Heap) (h : View) : Nat → List V → List Value → List Nat → Prop
  | _, [], gs, N => gs = [] ∧ N = []
  | i, v :: vs, gs, N => ∃ g gs' N1 N2, gs = g :: gs' ∧ N = N1 ++ N2 ∧ (match modeOf A f i with
      | 1 => ∃ x, v = .d x ∧ ow H h x g N1
      | _ => N1 = [] ∧ simV μ m h v g) ∧ mixS A f μ m H h (i + 1) vs gs' N2
theorem mixS_mono {A : Adv} {f : Nat} {μ μ' : Nat → Value} {m m' : Mem} {H H' : Heap} {h h' : View} (hm : memLe μ m μ' m') (hl : h.le h') : ∀ {vs : List V} {i : Nat} {gs : List Value} {N : List Nat}, (∀ b, b ∈ N → H' b = H b) →
    mixS A f μ m H h i vs gs N → mixS A f μ' m' H' h' i vs gs N
  | [], _, _, _, _, q => q
  | v :: vs, i, gs, N, hb, q => by
    simp only [mixS] at q ⊢
    obtain ⟨g, gs', N1, N2, rfl, rfl, h3, h4⟩ := q
    refine ⟨g, gs', N1, N2, rfl, rfl, ?_, mixS_mono hm hl (fun b hx => hb b (by simp [hx])) h4⟩
    split at h3
    · rename_i hmo
      obtain ⟨x, hx, hq⟩ := h3
      exact ⟨x, hx, ow_mono hl x g N1 (fun b hx => hb b (by simp [hx])) hq⟩
    · exact ⟨h3.1, simV_mono hm hl v g h3.2⟩
theorem moveArgs_ok {A : Adv} {f : Nat} : ∀ {vs : List V} {gs : List Value} {m : Mem} {G : GS} {i : Nat} (_ : Gok base U w m G) (_ : simVs G.μ m (Gh U w G) vs gs) (_ : G.out = []) {vs' : List V} {m' : Mem} {l l' : Log}
    (_ : (moveArgs A f i vs).run m l = some (vs', m', l')), ∃ G' N, Took base U w m G m' G' N ∧ mixS A f G'.μ m' (heapOf w) (Gh U w G') i vs' gs N
  | [], gs, m, G, i, hg, hv, ho, vs', m', l, l', h => by
    simp only [moveArgs, run_pure, Option.some.injEq, Prod.mk.injEq] at h
    obtain ⟨rfl, rfl, rfl⟩ := h
    simp only [simVs] at hv
    exact ⟨G, [], Took.same hg, hv, rfl⟩
  | v :: vs, gs, m, G, i, hg, hv, ho, vs', m', l, l', h => by
    obtain ⟨g, gs', rfl, hv1, hv2⟩ := simVs_cons hv
    simp only [moveArgs] at h
    replace h := run_bind_some h; obtain ⟨x, m1, l1, h1, h⟩ := h
    replace h := run_bind_some h; obtain ⟨ys, m2, l2, h2, h⟩ := h
    simp only [run_pure, Option.some.injEq, Prod.mk.injEq] at h
    obtain ⟨rfl, rfl, rfl⟩ := h
    have step : ∃ G1 N1, Took base U w m G m1 G1 N1 ∧ (match modeOf A f i with
      | 1 => ∃ y, x = .d y ∧ ow (heapOf w) (Gh U w G1) y g N1
      | _ => N1 = [] ∧ simV G1.μ m1 (Gh U w G1) x g) := by
      split at h1
      · rename_i hmo
        replace h1 := run_bind_some h1; obtain ⟨y, m3, l3, h3, h1⟩ := h1
        simp only [run_pure, Option.some.injEq, Prod.mk.injEq] at h1
        obtain ⟨rfl, rfl, rfl⟩ := h1
        obtain ⟨G1, N1, t1, q1⟩ := toD_ok hg hv1 ho h3
        refine ⟨G1, N1, t1, ?_⟩
        rw [hmo]
        exact ⟨y, rfl, q1⟩
      · rename_i hmo
        simp only [run_pure, Option.some.injEq, Prod.mk.injEq] at h1
        obtain ⟨rfl, rfl, rfl⟩ := h1
        refine ⟨G, [], Took.same hg, ?_⟩
        split
        · rename_i e; exact absurd e hmo
        · exact ⟨rfl, hv1⟩
    obtain ⟨G1, N1, t1, q1⟩ := step
    obtain ⟨G2, N2, t2, q2⟩ := moveArgs_ok t1.ok (t1.le.simVs hv2) (t1.out.trans ho) h2
    refine ⟨G2, N1 ++ N2, t1.trans t2, ?_⟩
    simp only [mixS]
    refine ⟨g, gs', N1, N2, rfl, rfl, ?_, q2⟩
    split at q1
    · obtain ⟨y, hy, hq⟩ := q1
      exact ⟨y, hy, ow_keep t2.le.view hq⟩
    · exact ⟨q1.1, t2.le.simV q1.2⟩

/-! ### what is lent -/
theorem get_impMem : ∀ (cs : List Cell) (k i : Nat), get (impBase + (k + i)) (impMem k cs) = cs[i]?
  | [], _, _ => by simp [impMem, get]
  | c :: cs, k, 0 => by simp [impMem, get]
  | c :: cs, k, i + 1 => by
    simp only [impMem, get]
    rw [beq_no (by omega)]
    simp only [cond_false, List.getElem?_cons_succ]
    rw [← get_impMem cs (k + 1) i, show k + 1 + i = k + (i + 1) from by omega]
theorem get_impMem0 (cs : List Cell) (i : Nat) : get (impBase + i) (impMem 0 cs) = cs[i]? := by
  have := get_impMem cs 0 i
  rwa [Nat.zero_add] at this
/-- the handles of what goes out -/
def impμ (hs : List Value) : Nat → Value := fun k => hs.getD (k - impBase) undef
theorem idxOf_some {r : Nat} : ∀ {l : List Nat} {k i : Nat}, idxOf r k l = some i → k ≤ i ∧ l[i - k]? = some r
  | [], _, _, h => by simp [idxOf] at h
  | j :: l, k, i, h => by
    simp only [idxOf] at h
    by_cases e : r = j
    · subst e
      simp at h
      subst h
      simp
    · rw [beq_no e] at h
      simp only [cond_false] at h
      obtain ⟨h1, h2⟩ := idxOf_some h
      refine ⟨by omega, ?_⟩
      rw [show i - k = (i - (k + 1)) + 1 from by omega, List.getElem?_cons_succ]
      exact h2
theorem kinds_at {m : Mem} : ∀ {rs : List Nat} {cs : List Cell} {i r : Nat}, kinds m rs cs → rs[i]? = some r → ∃ c c', get r m = some c ∧ cs[i]? = some c' ∧ sameKind c c'
  | [], _, _, _, _, h => by simp at h
  | r :: rs, _, 0, r', ⟨c, c', cs', h1, h2, h3, _⟩, h => by
    simp at h
    subst h; subst h1
    exact ⟨c, c', h2, rfl, h3⟩
  | r :: rs, _, i + 1, r', ⟨c, c', cs', h1, h2, h3, h4⟩, h => by
    subst h1
    simp only [List.getElem?_cons_succ] at h ⊢
    exact kinds_at h4 h

/-- the view of the one that is called: what is lent can be read -/
def lendU (U : Nat → Prop) (G : GS) (L : List Nat) : Nat → Prop := fun b => U b ∧ ∀ r, b ∈ G.F r → r ∈ L
theorem lend_le {L : List Nat} : (Gh U w G).le (view w (lendU U G L) (· ∈ G.E)) := by
  intro b o v hv
  unfold Gh view at hv
  split at hv
  · rename_i hc
    unfold view
    rw [if_pos ⟨⟨hc.1, fun r hr => absurd (.inr ⟨r, hr⟩) hc.2⟩, fun hE => hc.2 (.inl hE)⟩]
    exact hv
  · cases hv

structure LendC (base : Nat) (U : Nat → Prop) (w : World) (m : Mem) (G : GS) (imp : List Nat) (cells : List Cell) : Prop where
  ok : Gok base U w m G
  out : ∀ r, r ∈ G.out ↔ r ∈ imp
  kd : kinds m imp cells

theorem lent_ro (hg : Gok base U w m G) {r : Nat} {fz fl : Bool} {ver s : Nat} {rows : List Row} (hc : get r m = some (.arr fz fl ver s rows)) (hro : r ∉ G.out) {L : List Nat} (hL : fz = false → r ∈ L) (o : Bool) :
    ro (view w (lendU U G L) (· ∈ G.E)) (.sl o s rows) (G.μ r) := by
  have hq := hg.cell r _ hc hro
  cases fz with
  | true => exact ro_own (ro_mono lend_le _ _ hq.1)
  | false =>
    refine arrS_ro lend_le (sees_view fun b hb => ⟨⟨(hg.lt b (.inr ⟨r, hb⟩)).2.2, fun k hk => ?_⟩, hg.djE r b hb⟩) hq o
    by_cases e : k = r
    · rw [e]; exact hL rfl
    · exact absurd hk (hg.dj r k (Ne.symm e) b hb)

mutual
theorem lend_ok {imp : List Nat} {cells : List Cell} (C : LendC base U w m G imp cells) : ∀ {v : V} {g : Value} (_ : simV G.μ m (Gh U w G) v g) {v' : V} {lt : List Nat} {m' : Mem} {l l' : Log}
    (_ : (lend imp v).run m l = some ((v', lt), m', l')), m' = m ∧ ∀ L : List Nat, (∀ r, r ∈ lt → r ∈ L) → simV (impμ (imp.map G.μ)) (impMem 0 cells) (view w (lendU U G L) (· ∈ G.E)) v' g
  | .d x, g, hv, v', lt, m', l, l', h => by
    simp only [lend, run_pure, Option.some.injEq, Prod.mk.injEq] at h
    obtain ⟨⟨rfl, rfl⟩, rfl, rfl⟩ := h
    refine ⟨rfl, fun L hL => ?_⟩
    simp only [simV] at hv ⊢
    exact ro_mono lend_le _ _ (ro_roD hv)
  | .nil s, g, hv, v', lt, m', l, l', h => by
    simp only [lend, run_pure, Option.some.injEq, Prod.mk.injEq] at h
    obtain ⟨⟨rfl, rfl⟩, rfl, rfl⟩ := h
    refine ⟨rfl, fun L hL => ?_⟩
    simp only [simV] at hv ⊢
    simp [ro, hv]
  | .own r ver, g, hv, v', lt, m', l, l', h => by
    simp only [lend] at h
    replace h := run_bind_some h; obtain ⟨c, m1, l1, h1, h⟩ := h
    rw [run_rd] at h1
    cases h1
    cases hc : get r m with
    | none => rw [hc] at h; exact (run_fail h).elim
    | some c =>
      rw [hc] at h
      cases c with
      | box _ _ => exact (run_fail h).elim
      | dead => exact (run_fail h).elim
      | arr fz fl ver' s rows =>
        simp only at h
        replace h := run_bind_some h; obtain ⟨_, m2, l2, h1, h⟩ := h
        obtain ⟨hb, rfl, rfl⟩ := run_ck h1
        have hb := Nat.eq_of_beq_eq_true hb
        subst hb
        replace h := run_bind_some h; obtain ⟨_, m2, l2, h1, h⟩ := h
        obtain ⟨hi, rfl, rfl⟩ := run_ck h1
        simp only [run_pure, Option.some.injEq, Prod.mk.injEq] at h
        obtain ⟨⟨rfl, rfl⟩, rfl, rfl⟩ := h
        simp only [simV, hc] at hv
        have hv := hv.2.2 trivial
        subst hv
        refine ⟨rfl, fun L hL => ?_⟩
        have hro : r ∉ G.out := fun hr => mem?_not hi ((C.out r).1 hr)
        simp only [simV]
        exact ro_vw (lent_ro C.ok hc hro (fun hf => hL r (by subst hf; simp)) true)
  | .ptr r off, g, hv, v', lt, m', l, l', h => by
    simp only [lend] at h
    replace h := run_bind_some h; obtain ⟨i, m1, l1, h1, h⟩ := h
    obtain ⟨hi, rfl, rfl⟩ := run_op' h1
    simp only [run_pure, Option.some.injEq, Prod.mk.injEq] at h
    obtain ⟨⟨rfl, rfl⟩, rfl, rfl⟩ := h
    refine ⟨rfl, fun L hL => ?_⟩
    obtain ⟨_, h2⟩ := idxOf_some hi
    rw [Nat.sub_zero] at h2
    obtain ⟨c, c', k1, k2, k3⟩ := kinds_at C.kd h2
    simp only [simV, k1] at hv
    simp only [simV, get_impMem0, k2]
    refine ⟨hv.1, ?_⟩
    replace hv := hv.2
    cases c <;> cases c' <;> simp only [sameKind] at k3 hv ⊢
    obtain ⟨b, e1, e2⟩ := hv
    refine ⟨b, ?_, e2⟩
    simp only [impμ, Nat.add_sub_cancel_left, List.getD_eq_getElem?_getD, List.getElem?_map, h2, Option.map_some, Option.getD_some, e1]
  | .rptr row off, g, hv, v', lt, m', l, l', h => by
    simp only [lend, run_pure, Option.some.injEq, Prod.mk.injEq] at h
    obtain ⟨⟨rfl, rfl⟩, rfl, rfl⟩ := h
    refine ⟨rfl, fun L hL => ?_⟩
    simp only [simV] at hv ⊢
    obtain ⟨b, o, e1, e2⟩ := hv
    exact ⟨b, o, e1, roRow_mono lend_le row b o e2⟩
  | .clo f a b, g, hv, v', lt, m', l, l', h => by
    simp only [lend] at h
    replace h := run_bind_some h; obtain ⟨⟨a', la⟩, m1, l1, h1, h⟩ := h
    simp only at h
    replace h := run_bind_some h; obtain ⟨⟨b', lb⟩, m2, l2, h2, h⟩ := h
    simp only [run_pure, Option.some.injEq, Prod.mk.injEq] at h
    obtain ⟨⟨rfl, rfl⟩, rfl, rfl⟩ := h
    simp only [simV] at hv
    obtain ⟨x, y, rfl, e2, e3⟩ := hv
    obtain ⟨hm1, q1⟩ := lends_ok C e2 h1
    rw [hm1] at h2
    obtain ⟨hm2, q2⟩ := lends_ok C e3 h2
    refine ⟨hm2, fun L hL => ?_⟩
    simp only [simV]
    exact ⟨x, y, rfl, q1 L (fun r hr => hL r (by simp [hr])), q2 L (fun r hr => hL r (by simp [hr]))⟩
  | .agg cs, g, hv, v', lt, m', l, l', h => by
    simp only [lend] at h
    replace h := run_bind_some h; obtain ⟨⟨a', la⟩, m1, l1, h1, h⟩ := h
    simp only [run_pure, Option.some.injEq, Prod.mk.injEq] at h
    obtain ⟨⟨rfl, rfl⟩, rfl, rfl⟩ := h
    simp only [simV] at hv
    obtain ⟨x, rfl, e2⟩ := hv
    obtain ⟨hm1, q1⟩ := lends_ok C e2 h1
    refine ⟨hm1, fun L hL => ?_⟩
    simp only [simV]
    exact ⟨x, rfl, q1 L hL⟩
  | .eptr _ _ _ _, g, hv, v', lt, m', l, l', h => (run_fail h).elim
  | .tup _, g, hv, v', lt, m', l, l', h => (run_fail h).elim
  | .undef, g, hv, v', lt, m', l, l', h => (run_fail h).elim
theorem lends_ok {imp : List Nat} {cells : List Cell} (C : LendC base U w m G imp cells) : ∀ {vs : List V} {gs : List Value} (_ : simVs G.μ m (Gh U w G) vs gs) {vs' : List V} {lt : List Nat} {m' : Mem} {l l' : Log}
    (_ : (lends imp vs).run m l = some ((vs', lt), m', l')), m' = m ∧ ∀ L : List Nat, (∀ r, r ∈ lt → r ∈ L) → simVs (impμ (imp.map G.μ)) (impMem 0 cells) (view w (lendU U G L) (· ∈ G.E)) vs' gs
  | [], gs, hv, v', lt, m', l, l', h => by
    simp only [lends, run_pure, Option.some.injEq, Prod.mk.injEq] at h
    obtain ⟨⟨rfl, rfl⟩, rfl, rfl⟩ := h
    simp only [simVs] at hv
    subst hv
    exact ⟨rfl, fun _ _ => by simp [simVs]⟩
  | v :: vs, gs, hv, v', lt, m', l, l', h => by
    obtain ⟨g, gs', rfl, hv1, hv2⟩ := simVs_cons hv
    simp only [lends] at h
    replace h := run_bind_some h; obtain ⟨⟨a', la⟩, m1, l1, h1, h⟩ := h
    simp only at h
    replace h := run_bind_some h; obtain ⟨⟨b', lb⟩, m2, l2, h2, h⟩ := h
    simp only [run_pure, Option.some.injEq, Prod.mk.injEq] at h
    obtain ⟨⟨rfl, rfl⟩, rfl, rfl⟩ := h
    obtain ⟨hm1, q1⟩ := lend_ok C hv1 h1
    rw [hm1] at h2
    obtain ⟨hm2, q2⟩ := lends_ok C hv2 h2
    refine ⟨hm2, fun L hL => ?_⟩
    simp only [simVs]
    exact ⟨g, gs', rfl, q1 L (fun r hr => hL r (by simp [hr])), q2 L (fun r hr => hL r (by simp [hr]))⟩
end
theorem lendArgs_ok {A : Adv} {f : Nat} {imp : List Nat} {cells : List Cell} (C : LendC base U w m G imp cells) :
    ∀ {vs : List V} {gs : List Value} {i : Nat} {N : List Nat} (_ : mixS A f G.μ m (heapOf w) (Gh U w G) i vs gs N) {vs' : List V} {lt : List Nat} {m' : Mem} {l l' : Log}
    (_ : (lendArgs A imp f i vs).run m l = some ((vs', lt), m', l')), m' = m ∧ ∀ L : List Nat, (∀ r, r ∈ lt → r ∈ L) → mixS A f (impμ (imp.map G.μ)) (impMem 0 cells) (heapOf w) (view w (lendU U G L) (· ∈ G.E)) i vs' gs N
  | [], gs, i, N, hv, v', lt, m', l, l', h => by
    simp only [lendArgs, run_pure, Option.some.injEq, Prod.mk.injEq] at h
    obtain ⟨⟨rfl, rfl⟩, rfl, rfl⟩ := h
    exact ⟨rfl, fun _ _ => hv⟩
  | v :: vs, gs, i, N, hv, v', lt, m', l, l', h => by
    simp only [mixS] at hv
    obtain ⟨g, gs', N1, N2, rfl, rfl, hv1, hv2⟩ := hv
    simp only [lendArgs] at h
    replace h := run_bind_some h; obtain ⟨⟨a', la⟩, m1, l1, h1, h⟩ := h
    simp only at h
    replace h := run_bind_some h; obtain ⟨⟨b', lb⟩, m2, l2, h2, h⟩ := h
    simp only [run_pure, Option.some.injEq, Prod.mk.injEq] at h
    obtain ⟨⟨rfl, rfl⟩, rfl, rfl⟩ := h
    have step : m1 = m ∧ ∀ L : List Nat, (∀ r, r ∈ la → r ∈ L) → (match modeOf A f i with
      | 1 => ∃ x, a' = .d x ∧ ow (heapOf w) (view w (lendU U G L) (· ∈ G.E)) x g N1
      | _ => N1 = [] ∧ simV (impμ (imp.map G.μ)) (impMem 0 cells) (view w (lendU U G L) (· ∈ G.E)) a' g) := by
      split at h1
      · rename_i hmo
        rw [hmo] at hv1 ⊢
        simp only [run_pure, Option.some.injEq, Prod.mk.injEq] at h1
        obtain ⟨⟨rfl, rfl⟩, rfl, rfl⟩ := h1
        refine ⟨rfl, fun L hL => ?_⟩
        obtain ⟨x, hx, hq⟩ := hv1
        exact ⟨x, hx, ow_keep lend_le hq⟩
      · rename_i hmo
        rw [hmo] at hv1 ⊢
        obtain ⟨hN, hv1⟩ := hv1
        cases v with
        | own r ver =>
          simp only at h1
          replace h1 := run_bind_some h1; obtain ⟨_, m3, l3, h3, h1⟩ := h1
          obtain ⟨hb, rfl, rfl⟩ := run_ck h3
          have hb := Nat.eq_of_beq_eq_true hb
          subst hb
          replace h1 := run_bind_some h1; obtain ⟨j, m3, l3, h3, h1⟩ := h1
          obtain ⟨hj, rfl, rfl⟩ := run_op' h3
          simp only [run_pure, Option.some.injEq, Prod.mk.injEq] at h1
          obtain ⟨⟨rfl, rfl⟩, rfl, rfl⟩ := h1
          refine ⟨rfl, fun L hL => ⟨hN, ?_⟩⟩
          obtain ⟨_, h2⟩ := idxOf_some hj
          rw [Nat.sub_zero] at h2
          obtain ⟨c, c', k1, k2, k3⟩ := kinds_at C.kd h2
          simp only [simV, k1] at hv1
          simp only [simV, get_impMem0, k2]
          refine ⟨hv1.1, ?_⟩
          replace hv1 := hv1.2
          cases c <;> cases c' <;> simp only [sameKind] at k3 hv1 ⊢
          refine ⟨by omega, fun _ => ?_⟩
          simp only [impμ, Nat.add_sub_cancel_left, List.getD_eq_getElem?_getD, List.getElem?_map, h2, Option.map_some, Option.getD_some]
          exact hv1.2 k3.1.symm
        | d _ => exact (run_fail h1).elim
        | nil _ => exact (run_fail h1).elim
        | ptr _ _ => exact (run_fail h1).elim
        | eptr _ _ _ _ => exact (run_fail h1).elim
        | rptr _ _ => exact (run_fail h1).elim
        | clo _ _ _ => exact (run_fail h1).elim
        | agg _ => exact (run_fail h1).elim
        | tup _ => exact (run_fail h1).elim
        | undef => exact (run_fail h1).elim
      · rename_i hmo1 hmo2
        have hm1 : ∀ (α : Prop) (β : Prop), (match modeOf A f i with | 1 => α | _ => β) = β := by
          intro α β
          split
          · rename_i e; exact absurd e hmo1
          · rfl
        rw [hm1] at hv1
        obtain ⟨hN, hv1⟩ := hv1
        obtain ⟨rfl, q⟩ := lend_ok C hv1 h1
        refine ⟨rfl, fun L hL => ?_⟩
        rw [hm1]
        exact ⟨hN, q L hL⟩
    obtain ⟨hm1, q1⟩ := step
    rw [hm1] at h2
    obtain ⟨hm2, q2⟩ := lendArgs_ok C hv2 h2
    refine ⟨hm2, fun L hL => ?_⟩
    simp only [mixS]
    exact ⟨g, gs', N1, N2, rfl, rfl, q1 L (fun r hr => hL r (by simp [hr])), q2 L (fun r hr => hL r (by simp [hr]))⟩
end
end Go.Vm
