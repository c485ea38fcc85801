/-
  The machine's steps on its cells: what is taken over, read, handed out.
-/
import Derived.Test.YtfbemlhfieemhaaVmGhost
namespace Go.Vm
open Go

section
variable {base : Nat} {U : Nat → Prop} {w : World} {m : Mem} {G : GS}

theorem Gok.kill (hg : Gok base U w m G) {r : Nat} {fl : Bool} {ver s : Nat} {rows : List Row} (hc : get r m = some (.arr false fl ver s rows)) (hro : r ∉ G.out) :
    Gok base U w (put r .dead m) ⟨G.μ, upF G.F r [], G.E ++ G.F r, G.out⟩ ∧ GLe m G (put r .dead m) ⟨G.μ, upF G.F r [], G.E ++ G.F r, G.out⟩ ∧
      arrS (heapOf w) (Gh U w G) fl s rows (G.μ r) (G.F r) := by
  have h1 := hg.set r .dead G.μ [] (G.E ++ G.F r) G.out
    (by simpa using List.nodup_append.2 ⟨hg.ndE, hg.nd r, fun a ha b hb e => hg.djE r b hb (e ▸ ha)⟩)
    (by simp; exact fun b hb => hb.symm) (memLe_put (fun _ _ => rfl) (fun c h => by rw [hc] at h; cases h; trivial)) (fun _ _ => rfl) (fun _ _ => Iff.rfl) (fun _ => rfl) (fun _ _ => rfl)
  exact ⟨h1.1, h1.2, hg.cell r _ hc hro⟩
theorem Gok.freeze (hg : Gok base U w m G) {r : Nat} {fz fl : Bool} {ver s : Nat} {rows : List Row} (hc : get r m = some (.arr fz fl ver s rows)) (hro : r ∉ G.out) :
    Gok base U w (put r (.arr true fl ver s rows) m) ⟨G.μ, upF G.F r [], G.E, G.out⟩ ∧ GLe m G (put r (.arr true fl ver s rows) m) ⟨G.μ, upF G.F r [], G.E, G.out⟩ ∧
      ro (Gh U w ⟨G.μ, upF G.F r [], G.E, G.out⟩) (.sl true s rows) (G.μ r) := by
  have hle : memLe G.μ m G.μ (put r (.arr true fl ver s rows) m) := memLe_put (fun _ _ => rfl) (fun c h => by rw [hc] at h; cases h; exact ⟨Nat.le_refl _, rfl, fun _ => ⟨rfl, rfl⟩⟩)
  have hro' : (view w U (excl G.F G.E)).le (view w U (excl (upF G.F r []) G.E)) → ro (view w U (excl (upF G.F r []) G.E)) (.sl true s rows) (G.μ r) := by
    intro hv
    have hq := hg.cell r _ hc hro
    cases fz with
    | true => exact ro_mono hv _ _ hq.1
    | false =>
      refine arrS_ro hv (sees_view fun b hb => ⟨(hg.lt b (.inr ⟨r, hb⟩)).2.2, ?_⟩) hq true
      rintro (hE | ⟨k, hk⟩)
      · exact hg.djE r b hb hE
      · by_cases e : k = r
        · subst e; simp at hk
        · rw [upF_other _ e] at hk; exact hg.dj r k (Ne.symm e) b hb hk
  have h1 := hg.set r (.arr true fl ver s rows) G.μ [] G.E G.out (by simpa using hg.ndE) (by simp; exact fun b hb => .inr hb) hle (fun _ _ => rfl) (fun _ _ => Iff.rfl) (fun _ => rfl)
    (fun hv _ => ⟨hro' hv, rfl⟩)
  exact ⟨h1.1, h1.2, hro' h1.2.view⟩
/-- what is in hand becomes an array -/
theorem Gok.newArr (hg : Gok base U w m G) {k : Nat} (fl : Bool) {s : Nat} {rows : List Row} {g : Value} {N E : List Nat} (hn : get k m = none) (hk : k ∉ G.out) (hE : (N ++ E).Perm G.E)
    (hq : ow (heapOf w) (Gh U w G) (.sl true s rows) g N) :
    ∃ F', Gok base U w (put k (.arr false fl 0 s rows) m) ⟨upM G.μ k g, F', E, G.out⟩ ∧ GLe m G (put k (.arr false fl 0 s rows) m) ⟨upM G.μ k g, F', E, G.out⟩ := by
  have hnd := hE.nodup_iff.2 hg.ndE
  have hmem : ∀ b, b ∈ N ++ E → b ∈ G.E := fun b hb => hE.mem_iff.1 hb
  have hμ : ∀ j, j ≠ k → upM G.μ k g j = G.μ j := fun j e => upM_other g e
  have hle : ∀ c', memLe G.μ m (upM G.μ k g) (put k c' m) := fun c' => memLe_put hμ (fun c h => by rw [hn] at h; cases h)
  cases fl with
  | false =>
    refine ⟨_, hg.set k (.arr false false 0 s rows) (upM G.μ k g) N E G.out hnd (fun b hb => .inr (hmem b hb)) (hle _) hμ (fun _ _ => Iff.rfl) (fun h => absurd h hk) (fun hv _ => ?_)⟩
    simp only [simCell, upM_same]
    exact arrS_mono hv (fun _ _ => rfl) (ow_arrS hq)
  | true =>
    obtain ⟨N1, N2, rfl, h2⟩ := ow_arrS_fl hq
    have hnd' : (N1 ++ E).Nodup := by
      rw [List.append_assoc] at hnd
      have := List.nodup_append.1 hnd
      exact List.nodup_append.2 ⟨this.1, (List.nodup_append.1 this.2.1).2.1, fun a ha b hb => this.2.2 a ha b (by simp [hb])⟩
    refine ⟨_, hg.set k (.arr false true 0 s rows) (upM G.μ k g) N1 E G.out hnd' (fun b hb => .inr (hmem b (by simp at hb ⊢; rcases hb with h | h <;> simp [h]))) (hle _) hμ (fun _ _ => Iff.rfl) (fun h => absurd h hk) (fun hv _ => ?_)⟩
    simp only [simCell, upM_same]
    refine h2 _ hv (sees_view fun b hb => ⟨(hg.lt b (.inl (hmem b (by simp [hb])))).2.2, ?_⟩)
    rw [List.append_assoc] at hnd
    have hd := List.nodup_append.1 hnd
    have hd2 := List.nodup_append.1 hd.2.1
    rintro (hE' | ⟨j, hj⟩)
    · exact hd2.2.2 b hb b hE' rfl
    · by_cases e : j = k
      · subst e; rw [upF_same] at hj; exact hd.2.2 b hj b (by simp [hb]) rfl
      · rw [upF_other _ e] at hj; exact hg.djE j b hj (hmem b (by simp [hb]))

/-- what a step in hand gives: x, in hand with the blocks N -/
structure Took (base : Nat) (U : Nat → Prop) (w : World) (m : Mem) (G : GS) (m' : Mem) (G' : GS) (N : List Nat) : Prop where
  ok : Gok base U w m' G'
  le : GLe m G m' G'
  E : G'.E = G.E ++ N
  out : G'.out = G.out
  μ : G'.μ = G.μ
theorem Took.same (hg : Gok base U w m G) : Took base U w m G m G [] := ⟨hg, GLe.refl _ _, by simp, rfl, rfl⟩
theorem Took.trans {m1 m2 m3 : Mem} {G1 G2 G3 : GS} {N N' : List Nat} (a : Took base U w m1 G1 m2 G2 N) (b : Took base U w m2 G2 m3 G3 N') : Took base U w m1 G1 m3 G3 (N ++ N') :=
  ⟨b.ok, a.le.trans b.le, by rw [b.E, a.E, List.append_assoc], b.out.trans a.out, b.μ.trans a.μ⟩
theorem ow_keep {H : Heap} {h h' : View} (hl : h.le h') {x : D} {v : Value} {N : List Nat} (q : ow H h x v N) : ow H h' x v N := ow_mono hl x v N (fun _ _ => rfl) q

theorem toD_ok (hg : Gok base U w m G) {v : V} {g : Value} (hv : simV G.μ m (Gh U w G) v g) (ho : G.out = []) {x : D} {m' : Mem} {l l' : Log} (h : (toD v).run m l = some (x, m', l')) :
    ∃ G' N, Took base U w m G m' G' N ∧ ow (heapOf w) (Gh U w G') x g N := by
  cases v with
  | d y =>
    simp only [toD, run_pure, Option.some.injEq, Prod.mk.injEq] at h
    obtain ⟨rfl, rfl, rfl⟩ := h
    exact ⟨G, [], Took.same hg, ow_roD (by simpa [simV] using hv)⟩
  | nil s =>
    simp only [toD, run_pure, Option.some.injEq, Prod.mk.injEq] at h
    obtain ⟨rfl, rfl, rfl⟩ := h
    refine ⟨G, [], Took.same hg, ?_⟩
    simp only [simV] at hv
    simp [ow, hv]
  | own r ver =>
    simp only [toD] at h
    replace h := run_bind_some h; obtain ⟨c, m1, l1, h1, h⟩ := h
    rw [run_rd] at h1
    cases h1
    cases hc : get r m with
    | none => rw [hc] at h; exact (run_fail h).elim
    | some c =>
      rw [hc] at h
      cases c with
      | box _ _ => exact (run_fail h).elim
      | dead => exact (run_fail h).elim
      | arr fz fl ver' s rows =>
        simp only at h
        replace h := run_bind_some h; obtain ⟨_, m2, l2, h1, h⟩ := h
        obtain ⟨hb, rfl, rfl⟩ := run_ck h1
        have hb := Nat.eq_of_beq_eq_true hb
        subst hb
        simp only [simV, hc] at hv
        have hv := hv.2.2 trivial
        subst hv
        have hro : r ∉ G.out := by simp [ho]
        cases fz with
        | true =>
          simp only [run_pure, Option.some.injEq, Prod.mk.injEq] at h
          obtain ⟨rfl, rfl, rfl⟩ := h
          refine ⟨G, [], Took.same hg, ?_⟩
          have hq := (hg.cell r _ hc hro).1
          simp only [ow, true_and]
          exact ro_vw hq
        | false =>
          simp only at h
          replace h := run_bind_some h; obtain ⟨_, m2, l2, h1, h⟩ := h
          obtain ⟨hok, rfl, rfl⟩ := run_ck h1
          replace h := run_bind_some h; obtain ⟨_, m3, l3, h1, h⟩ := h
          rw [run_wr] at h1
          cases h1
          simp only [run_pure, Option.some.injEq, Prod.mk.injEq] at h
          obtain ⟨rfl, rfl, rfl⟩ := h
          obtain ⟨k1, k2, k3⟩ := hg.kill hc hro
          exact ⟨_, G.F r, ⟨k1, k2, rfl, rfl, rfl⟩, ow_keep k2.view (arrS_ow hok k3)⟩
  | ptr _ _ => exact (run_fail h).elim
  | eptr _ _ _ _ => exact (run_fail h).elim
  | rptr _ _ => exact (run_fail h).elim
  | clo _ _ _ => exact (run_fail h).elim
  | agg _ => exact (run_fail h).elim
  | tup _ => exact (run_fail h).elim
  | undef => exact (run_fail h).elim

theorem simVs_cons {μ : Nat → Value} {h : View} {v : V} {vs : List V} {gs : List Value} (q : simVs μ m h (v :: vs) gs) : ∃ g gs', gs = g :: gs' ∧ simV μ m h v g ∧ simVs μ m h vs gs' := by
  simpa [simVs] using q
theorem simVs_length {μ : Nat → Value} {h : View} : ∀ {vs : List V} {gs : List Value}, simVs μ m h vs gs → gs.length = vs.length
  | [], gs, q => by simp [simVs] at q; simp [q]
  | v :: vs, gs, q => by
    obtain ⟨g, gs', rfl, _, h3⟩ := simVs_cons q
    simp [simVs_length h3]
theorem owRow_keep {H : Heap} {h h' : View} (hl : h.le h') {x : Row} {v : List Value} {N : List Nat} (q : owRow H h x v N) : owRow H h' x v N := owRow_mono hl x v N (fun _ _ => rfl) q
theorem owRows_keep {H : Heap} {h h' : View} (hl : h.le h') {s : Nat} {x : List Row} {v : List Value} {N : List Nat} (q : owRows H h s x v N) : owRows H h' s x v N := owRows_mono hl s x v N (fun _ _ => rfl) q

theorem toRow_ok : ∀ {vs : List V} {gs : List Value} {m : Mem} {G : GS} (_ : Gok base U w m G) (_ : simVs G.μ m (Gh U w G) vs gs) (_ : G.out = []) {xs : Row} {m' : Mem} {l l' : Log} (_ : (toRow vs).run m l = some (xs, m', l')),
    ∃ G' N, Took base U w m G m' G' N ∧ owRow (heapOf w) (Gh U w G') xs gs N ∧ xs.length = vs.length
  | [], gs, m, G, hg, hv, ho, xs, m', l, l', h => by
    simp only [toRow, run_pure, Option.some.injEq, Prod.mk.injEq] at h
    obtain ⟨rfl, rfl, rfl⟩ := h
    exact ⟨G, [], Took.same hg, by simp [owRow], rfl⟩
  | v :: vs, gs, m, G, hg, hv, ho, xs, m', l, l', h => by
    obtain ⟨g, gs', rfl, hv1, hv2⟩ := simVs_cons hv
    simp only [toRow] at h
    replace h := run_bind_some h; obtain ⟨x, m1, l1, h1, h⟩ := h
    replace h := run_bind_some h; obtain ⟨ys, m2, l2, h2, h⟩ := h
    simp only [run_pure, Option.some.injEq, Prod.mk.injEq] at h
    obtain ⟨rfl, rfl, rfl⟩ := h
    obtain ⟨G1, N1, t1, q1⟩ := toD_ok hg hv1 ho h1
    obtain ⟨G2, N2, t2, q2, hlen⟩ := toRow_ok t1.ok (t1.le.simVs hv2) (t1.out.trans ho) h2
    refine ⟨G2, N1 ++ N2, t1.trans t2, ?_, by simp [hlen]⟩
    simp only [owRow]
    exact ⟨g, gs', N1, N2, rfl, rfl, ow_keep t2.le.view q1, q2⟩
end
end Go.Vm
