/-
  What is pruned at a region's end still is what it was.
-/
import Derived.Test.YtfbemlhfieemhaaVmReg
namespace Go.Vm
open Go

theorem sortedK_tail {k : Nat} {c : Cell} {m : Mem} (h : sortedK ((k, c) :: m) = true) : sortedK m = true := by
  cases m with
  | nil => rfl
  | cons x m => obtain ⟨j, d⟩ := x; simp only [sortedK, Bool.and_eq_true] at h; exact h.2
theorem sortedK_lt : ∀ {m : Mem} {k : Nat} {c : Cell}, sortedK ((k, c) :: m) = true → ∀ j d, (j, d) ∈ m → k < j
  | [], _, _, _, _, _, h => by simp at h
  | (i, e) :: m, k, c, h, j, d, hm => by
    have h' := h
    simp only [sortedK, Bool.and_eq_true] at h
    have hki : k < i := Nat.le_of_ble_eq_true h.1
    simp only [List.mem_cons, Prod.mk.injEq] at hm
    rcases hm with ⟨rfl, _⟩ | hm
    · exact hki
    · exact Nat.lt_trans hki (sortedK_lt (sortedK_tail h') j d hm)
theorem get_mem {α : Type} {k : Nat} {x : α} : ∀ {l : List (Nat × α)}, get k l = some x → (k, x) ∈ l
  | [], h => by simp [get] at h
  | (j, y) :: l, h => by
    simp only [get] at h
    cases hb : Nat.beq k j with
    | true =>
      rw [hb] at h
      simp only [cond_true, Option.some.injEq] at h
      have := Nat.eq_of_beq_eq_true hb
      simp [this, h]
    | false =>
      rw [hb] at h
      exact List.mem_cons_of_mem _ (get_mem h)
theorem get_none {α : Type} {k : Nat} : ∀ {l : List (Nat × α)}, (∀ x, (k, x) ∉ l) → get k l = none
  | [], _ => rfl
  | (j, y) :: l, h => by
    have hne : k ≠ j := fun e => h y (by simp [e])
    simp only [get, beq_no hne, cond_false]
    exact get_none fun x hx => h x (List.mem_cons_of_mem _ hx)

def live : Cell → Bool
  | .dead => false
  | _ => true
theorem get_keepMem {all : Mem} {R : List Nat} {k : Nat} : ∀ {m : Mem}, sortedK m = true → ∀ c', get k (keepMem all R m) = some c' ↔ ∃ c, get k m = some c ∧ live c = true ∧ k ∈ R ∧ c' = fixCell all c
  | [], _, c' => by simp [keepMem, get]
  | (j, c) :: m, hs, c' => by
    have ih := get_keepMem (all := all) (R := R) (k := k) (sortedK_tail hs) c'
    have hlt := sortedK_lt hs
    by_cases hkj : k = j
    · subst hkj
      have hnone : get k m = none := get_none fun x hx => Nat.lt_irrefl _ (hlt k x hx)
      have hnone' : get k (keepMem all R m) = none := by
        cases hg : get k (keepMem all R m) with
        | none => rfl
        | some c2 =>
          obtain ⟨c3, h3, _⟩ := (get_keepMem (all := all) (R := R) (k := k) (sortedK_tail hs) c2).1 hg
          rw [hnone] at h3; cases h3
      have hget : get k ((k, c) :: m) = some c := by simp [get]
      rw [hget]
      cases c with
      | dead => simp [keepMem, hnone', live]
      | box t cs =>
        cases hm : mem? k R with
        | true =>
          have := (mem?_iff k R).1 hm
          simp only [keepMem, hm, cond_true]
          rw [show ∀ (x : Cell) l, get k ((k, x) :: l) = some x from fun x l => by simp [get]]
          constructor
          · intro h
            exact ⟨_, rfl, rfl, this, (Option.some.inj h).symm⟩
          · rintro ⟨c, h1, _, _, rfl⟩
            cases h1
            rfl
        | false =>
          have hn : k ∉ R := fun h => by rw [(mem?_iff k R).2 h] at hm; cases hm
          simp [keepMem, hm, hnone', hn]
      | arr fz fl ver s rows =>
        cases hm : mem? k R with
        | true =>
          have := (mem?_iff k R).1 hm
          simp only [keepMem, hm, cond_true]
          rw [show ∀ (x : Cell) l, get k ((k, x) :: l) = some x from fun x l => by simp [get]]
          constructor
          · intro h
            exact ⟨_, rfl, rfl, this, (Option.some.inj h).symm⟩
          · rintro ⟨c, h1, _, _, rfl⟩
            cases h1
            rfl
        | false =>
          have hn : k ∉ R := fun h => by rw [(mem?_iff k R).2 h] at hm; cases hm
          simp [keepMem, hm, hnone', hn]
    · have hget : get k ((j, c) :: m) = get k m := by simp [get, beq_no hkj]
      rw [hget, ← ih]
      cases c with
      | dead => simp [keepMem]
      | box t cs => cases hm : mem? j R <;> simp [keepMem, hm, get, beq_no hkj]
      | arr fz fl ver s rows => cases hm : mem? j R <;> simp [keepMem, hm, get, beq_no hkj]

theorem addAll_sub : ∀ (as l : List Nat) (x : Nat), x ∈ l ∨ x ∈ as → x ∈ addAll as l
  | [], l, x, h => by simpa [addAll] using h
  | a :: as, l, x, h => by
    simp only [addAll]
    cases hm : mem? a l with
    | true =>
      have := (mem?_iff a l).1 hm
      refine addAll_sub as l x ?_
      rcases h with h | h
      · exact .inl h
      · simp only [List.mem_cons] at h
        rcases h with rfl | h
        · exact .inl this
        · exact .inr h
    | false =>
      refine addAll_sub as (a :: l) x ?_
      simp only [List.mem_cons] at h ⊢
      rcases h with h | h | h
      · exact .inl (.inr h)
      · exact .inl (.inl h)
      · exact .inr h
theorem reach_sub (m : Mem) : ∀ (n : Nat) (l : List Nat) (x : Nat), x ∈ l → x ∈ reach m n l
  | 0, _, _, h => h
  | n + 1, l, x, h => reach_sub m n _ x (addAll_sub _ _ _ (.inl h))

/-- a value that was fixed is what it was -/
theorem fixV_ok {μ : Nat → Value} {m m2 : Mem} {h : View} {R : List Nat} (hm : ∀ r c, get r m = some c → live c = true → r ∈ R → get r m2 = some (fixCell m c)) :
    ∀ (v : V) (g : Value), simV μ m h v g → (∀ r, r ∈ refs (fixV m v) → r ∈ R) → simV μ m2 h (fixV m v) g
  | .d x, g, q, _ => q
  | .nil s, g, q, _ => q
  | .own r ver, g, q, hr => by
    simp only [simV] at q
    simp only [fixV] at hr ⊢
    cases hc : get r m with
    | none => simp [hc] at q
    | some c =>
      rw [hc] at hr
      cases c with
      | box _ _ => simp [simV]
      | dead => simp [simV]
      | arr fz fl ver' s rows =>
        simp only [hc] at q
        simp only at hr ⊢
        cases hb : Nat.beq ver ver' with
        | false => simp [simV]
        | true =>
          rw [hb] at hr
          have hv := Nat.eq_of_beq_eq_true hb
          have := hm r _ hc rfl (hr r (by simp [refs]))
          simp only [cond_true, simV, this, fixCell]
          exact ⟨q.1, Nat.le_refl _, fun _ => q.2.2 hv⟩
  | .ptr r off, g, q, hr => by
    simp only [simV] at q
    simp only [fixV] at hr ⊢
    cases hc : get r m with
    | none => simp [hc] at q
    | some c =>
      rw [hc] at hr
      cases c with
      | arr _ _ _ _ _ => simp [simV]
      | dead => simp [simV]
      | box t cs =>
        simp only [hc] at q
        have := hm r _ hc rfl (hr r (by simp [refs]))
        simp only [simV, this, fixCell]
        exact q
  | .eptr r ver i off, g, q, hr => by
    simp only [simV] at q
    simp only [fixV] at hr ⊢
    cases hc : get r m with
    | none => simp [hc] at q
    | some c =>
      rw [hc] at hr
      cases c with
      | box _ _ => simp [simV]
      | dead => simp [simV]
      | arr fz fl ver' s rows =>
        simp only [hc] at q
        simp only at hr ⊢
        cases hb : Nat.beq ver ver' with
        | false => simp [simV]
        | true =>
          rw [hb] at hr
          have hv := Nat.eq_of_beq_eq_true hb
          have := hm r _ hc rfl (hr r (by simp [refs]))
          simp only [cond_true, simV, this, fixCell]
          exact ⟨q.1, Nat.le_refl _, fun _ => q.2.2 hv⟩
  | .rptr row off, g, q, _ => q
  | .clo f a b, g, q, hr => by
    simp only [simV] at q
    obtain ⟨x, y, rfl, h1, h2⟩ := q
    simp only [fixV, refs] at hr
    simp only [fixV, simV]
    exact ⟨x, y, rfl, fixVs_ok hm a _ h1 fun r hx => hr r (by simp [hx]), fixVs_ok hm b _ h2 fun r hx => hr r (by simp [hx])⟩
  | .agg cs, g, q, hr => by
    simp only [simV] at q
    obtain ⟨x, rfl, h1⟩ := q
    simp only [fixV, refs] at hr
    simp only [fixV, simV]
    exact ⟨x, rfl, fixVs_ok hm cs _ h1 hr⟩
  | .tup cs, g, q, hr => by
    simp only [simV] at q
    obtain ⟨x, rfl, h1⟩ := q
    simp only [fixV, refs] at hr
    simp only [fixV, simV]
    exact ⟨x, rfl, fixVs_ok hm cs _ h1 hr⟩
  | .undef, g, q, _ => q
where
  fixVs_ok {μ : Nat → Value} {m m2 : Mem} {h : View} {R : List Nat} (hm : ∀ r c, get r m = some c → live c = true → r ∈ R → get r m2 = some (fixCell m c)) :
    ∀ (vs : List V) (gs : List Value), simVs μ m h vs gs → (∀ r, r ∈ refsAll (fixVs m vs) → r ∈ R) → simVs μ m2 h (fixVs m vs) gs
  | [], gs, q, _ => q
  | v :: vs, gs, q, hr => by
    obtain ⟨g, gs', rfl, h1, h2⟩ := simVs_cons q
    simp only [fixVs, refsAll] at hr
    simp only [fixVs, simVs]
    exact ⟨g, gs', rfl, fixV_ok hm v g h1 fun r hx => hr r (by simp [hx]), fixVs_ok hm vs gs' h2 fun r hx => hr r (by simp [hx])⟩

theorem get_keepTm {m : Mem} {tm : Tmps} {t : Nat} {v : V} : ∀ {ts : List Nat}, get t (keepTm m tm ts) = some v → ∃ u, get t tm = some u ∧ v = fixV m u
  | [], h => by simp [keepTm, get] at h
  | i :: ts, h => by
    simp only [keepTm] at h
    cases hi : get i tm with
    | none => rw [hi] at h; exact get_keepTm h
    | some u =>
      rw [hi] at h
      simp only [get] at h
      cases hb : Nat.beq t i with
      | true =>
        have := Nat.eq_of_beq_eq_true hb
        subst this
        rw [hb] at h
        simp only [cond_true, Option.some.injEq] at h
        exact ⟨u, hi, h.symm⟩
      | false =>
        rw [hb] at h
        exact get_keepTm h

section
variable {base : Nat} {U : Nat → Prop} {M0 : List Nat} {w0 w : World} {ν : Nat → Value} {M : Mem} {nt : Nat} {S S' : St} {G : GS} {a : Act}

open Classical in
theorem prune_ok (R : Rel base U M0 w0 ν M nt w S G a) (hM : ∀ r c, get r M = some c → impKey r = true) {ts : List Nat} (h : prune ts S = some S') :
    ∃ G', Rel base U M0 w0 ν M nt w S' G' a ∧ (Gh U w G).le (Gh U w G') := by
  simp only [prune] at h
  generalize htm : keepTm S.mem S.tm ts = tm at h
  generalize hRR : reach S.mem 3 (roots tm S.mem) = RR at h
  generalize hmm : keepMem S.mem RR S.mem = m2 at h
  cases hc : (closed RR m2 && (firm S.mem && sortedK S.mem)) with
  | false => simp [hc] at h
  | true =>
    simp only [hc, cond_true, Option.some.injEq] at h
    subst h
    simp only [Bool.and_eq_true] at hc
    obtain ⟨hcl, hfm, hso⟩ := hc
    have hget : ∀ k c', get k m2 = some c' ↔ ∃ c, get k S.mem = some c ∧ live c = true ∧ k ∈ RR ∧ c' = fixCell S.mem c := by
      intro k c'
      rw [← hmm]
      exact get_keepMem hso c'
    have hto : ∀ r c, get r S.mem = some c → live c = true → r ∈ RR → get r m2 = some (fixCell S.mem c) := fun r c h1 h2 h3 => (hget r _).2 ⟨c, h1, h2, h3, rfl⟩
    have hroot : ∀ r, r ∈ roots tm S.mem → r ∈ RR := fun r hr => by rw [← hRR]; exact reach_sub _ _ _ _ hr
    have hout : ∀ r, r ∉ G.out := fun r => by rw [R.at_.out]; simp
    let F2 : Nat → List Nat := fun r => if get r m2 = none then [] else G.F r
    have hF : ∀ r b, b ∈ F2 r → b ∈ G.F r := by
      intro r b hb
      simp only [F2] at hb
      split at hb
      · simp at hb
      · exact hb
    have hex : ∀ b, excl F2 [] b → excl G.F G.E b := by
      rintro b (hb | ⟨r, hb⟩)
      · simp at hb
      · exact .inr ⟨r, hF r b hb⟩
    have hv : (Gh U w G).le (Gh U w ⟨G.μ, F2, [], []⟩) := view_le (fun _ x => x) hex
    have hbox : ∀ r t cs, get r m2 = some (.box t cs) → ∀ q, q ∈ refsAll cs → q ∈ RR := by
      intro r t cs hr q hq
      have := List.all_eq_true.1 hcl (r, .box t cs) (get_mem hr)
      simp only [List.all_eq_true] at this
      exact (mem?_iff q RR).1 (this q hq)
    refine ⟨⟨G.μ, F2, [], []⟩, ⟨⟨⟨?_, ?_, ?_, ?_, by simp, ?_, R.at_.ok.up, R.at_.ok.bs, ?_, ?_⟩, rfl, rfl, R.at_.fr.less hex⟩, ?_, R.size, R.defers, ?_⟩, hv⟩
    · intro r c' hr _
      have hF2 : F2 r = G.F r := by simp [F2, hr]
      obtain ⟨c, h1, h2, h3, rfl⟩ := (hget r c').1 hr
      have hq := R.at_.ok.cell r c h1 (hout r)
      show simCell G.μ m2 (heapOf w) (Gh U w ⟨G.μ, F2, [], []⟩) r (fixCell S.mem c) (F2 r)
      rw [hF2]
      cases c with
      | dead => cases h2
      | box t cs =>
        obtain ⟨b, arr, e1, e2, e3, e4⟩ := hq
        exact ⟨b, arr, e1, e2, fixV_ok.fixVs_ok hto _ _ (simVs_mono (memLe_refl _ _) hv _ _ e3) (hbox r t _ hr), e4⟩
      | arr fz fl ver s rows =>
        cases fz with
        | true => exact ⟨ro_mono hv _ _ hq.1, hq.2⟩
        | false => exact arrS_mono hv (fun _ _ => rfl) hq
    · intro r r' hne b hb hb'
      exact R.at_.ok.dj r r' hne b (hF r b hb) (hF r' b hb')
    · intro r b hb; simp
    · intro r
      simp only [F2]
      split
      · simp
      · exact R.at_.ok.nd r
    · intro b hb
      exact R.at_.ok.lt b (hex b hb)
    · intro r hr
      simp [F2, hr]
    · intro r hr; simp at hr
    · intro t v ht
      rw [← htm] at ht
      obtain ⟨u, h1, rfl⟩ := get_keepTm ht
      obtain ⟨h2, h3⟩ := R.tm t u h1
      refine ⟨h2, fixV_ok hto u _ (simV_mono (memLe_refl _ _) hv _ _ h3) fun r hr => ?_⟩
      refine hroot r (addAll_sub _ _ _ (.inr ?_))
      rw [List.mem_flatMap]
      exact ⟨(t, fixV S.mem u), by rw [← htm]; exact get_mem ht, hr⟩
    · intro r c hr
      obtain ⟨c', h1, h2⟩ := R.imp r c hr
      have hk := hM r c hr
      have hfirm := List.all_eq_true.1 hfm (r, c') (get_mem h1)
      have hrr : r ∈ RR := hroot r (addAll_sub _ _ _ (.inl (by
        rw [List.mem_filter]
        exact ⟨List.mem_map.2 ⟨(r, c'), get_mem h1, rfl⟩, hk⟩)))
      cases c' with
      | dead => simp [hk] at hfirm
      | box t cs =>
        refine ⟨_, hto r _ h1 rfl hrr, ?_⟩
        cases c <;> simp only [cellLe, fixCell] at h2 ⊢ <;> exact h2
      | arr fz fl ver s rows =>
        simp only [hk, cond_true] at hfirm
        have hv0 := Nat.eq_of_beq_eq_true hfirm
        subst hv0
        exact ⟨_, hto r _ h1 rfl hrr, h2⟩
end
end Go.Vm
