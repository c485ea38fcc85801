import Derived.Test.YtghbceiigeialaaP1Apart2
import Derived.Test.YtghbceiigeialaaP1NodeBy
import Derived.Test.YtghbceiigeialaaZPart
namespace Go.Proofs.Ytghbceiigeialaa
set_option linter.unusedVariables false
set_option linter.unusedSimpArgs false
open Go Go.Vm
theorem ptKids_which {g : Int → Option (List Int)} : ∀ (ks : List Int) (j : Int) (p : List Int), ptKids g ks j = some p → ∃ (a : Nat) (k : Int) (q : List Int), ks[a]? = some k ∧ g k = some q ∧ p = (j + a) :: q
  | [], j, p, h => by simp [ptKids] at h
  | k :: ks, j, p, h => by
    rw [ptKids] at h
    cases hg : g k with
    | some q =>
      rw [hg] at h
      cases h
      exact ⟨0, k, q, rfl, hg, by simp⟩
    | none =>
      rw [hg] at h
      obtain ⟨a, k', q, h1, h2, h3⟩ := ptKids_which ks (j + 1) p h
      refine ⟨a + 1, k', q, by simpa using h1, h2, ?_⟩
      rw [h3]
      congr 1
      omega
theorem apKids_which {g : Int → Int → Option (List Int)} : ∀ (xs ys : List Int) (j : Int) (p : List Int), apKids g xs ys j = some p → ∃ (a : Nat) (x y : Int) (q : List Int), xs[a]? = some x ∧ ys[a]? = some y ∧ g x y = some q ∧ p = (j + a) :: q
  | [], ys, j, p, h => by simp [apKids] at h
  | x :: xs, [], j, p, h => by simp [apKids] at h
  | x :: xs, y :: ys, j, p, h => by
    rw [apKids] at h
    cases hg : g x y with
    | some q =>
      rw [hg] at h
      cases h
      exact ⟨0, x, y, q, rfl, rfl, hg, by simp⟩
    | none =>
      rw [hg] at h
      obtain ⟨a, x', y', q, h1, h2, h3, h4⟩ := apKids_which xs ys (j + 1) p h
      refine ⟨a + 1, x', y', q, by simpa using h1, by simpa using h2, h3, ?_⟩
      rw [h4]
      congr 1
      omega
theorem mx_ge : ∀ (l : List Int) (a : Int), a ≤ mx a l ∧ ∀ x, x ∈ l → x ≤ mx a l
  | [], a => ⟨Int.le_refl _, by simp⟩
  | y :: l, a => by
    rw [mx]
    obtain ⟨h1, h2⟩ := mx_ge l (bif decide (a < y) then y else a)
    have : a ≤ (bif decide (a < y) then y else a) ∧ y ≤ (bif decide (a < y) then y else a) := by
      by_cases c : a < y
      · rw [decide_eq_true c, cond_true]; omega
      · rw [decide_eq_false c, cond_false]; omega
    refine ⟨by omega, fun x hx => ?_⟩
    rcases List.mem_cons.1 hx with rfl | hx
    · omega
    · exact h2 x hx
theorem nb_step {l : List Nd} {q : Nat} {n : Nd} (hn : l[q]? = some n) {a : Nat} {k : Int} (hk : n.kids[a]? = some k) : nbStep l q ((0 : Int) + a) = .inl k := by
  have ha := (List.getElem?_eq_some_iff.1 hk).1
  have e : kidsAt l (q : Int) = n.kids := by rw [kidsAt, Int.toNat_natCast, hn]
  rw [nbStep, e, if_pos (by omega), show ((0 : Int) + a).toNat = a by omega, hk]
  rfl
section
variable {l : List Nd} {r : List Int}
theorem nb_pt (h : Val l r) : ∀ (f q : Nat) (i : Int) (p : List Int), q < l.length → pt l f q i = some p → ∀ P, foldE (nbStep l) (nbFin P) p q = .inr (i, (P.length : Int))
  | 0, q, i, p, hq, e, P => by simp [pt] at e
  | f + 1, q, i, p, hq, e, P => by
    obtain ⟨n, hn⟩ : ∃ n, l[q]? = some n := ⟨l[q], by simp⟩
    rw [pt] at e
    split at e
    · rename_i hqi
      cases e
      rw [foldE, nbFin, hqi]
    · rw [Int.toNat_natCast, kidsOf_at hn] at e
      obtain ⟨a, k, p', h1, h2, rfl⟩ := ptKids_which _ _ _ e
      have hkr := h.kids hn k (List.mem_of_getElem? h1)
      obtain ⟨k', rfl⟩ := Int.eq_ofNat_of_zero_le hkr.1
      rw [foldE, nb_step hn h1]
      exact nb_pt h f k' i p' (by omega) h2 P
theorem pt_dep (h : Val l r) : ∀ (f q : Nat) (i : Int) (p : List Int), q < l.length → pt l f q i = some p → (p.length : Int) < dep l f q
  | 0, q, i, p, hq, e => by simp [pt] at e
  | f + 1, q, i, p, hq, e => by
    obtain ⟨n, hn⟩ : ∃ n, l[q]? = some n := ⟨l[q], by simp⟩
    obtain ⟨m1, m2⟩ := mx_ge (n.kids.map fun k => dep l f k.toNat) 0
    rw [dep, kidsOf_at hn]
    rw [pt] at e
    split at e
    · cases e
      simp only [List.length_nil]
      omega
    · rw [Int.toNat_natCast, kidsOf_at hn] at e
      obtain ⟨a, k, p', h1, h2, rfl⟩ := ptKids_which _ _ _ e
      have hkm := List.mem_of_getElem? h1
      have hkr := h.kids hn k hkm
      have := pt_dep h f k.toNat i p' (by omega) (by rw [Int.toNat_of_nonneg hkr.1]; exact h2)
      have := m2 _ (List.mem_map.2 ⟨k, hkm, rfl⟩)
      simp only [List.length_cons]
      omega
theorem pt_total (h : Val l r) (h0 : sta r ((l.length - 1 : Nat) : Int) = 0) (i : Int) : ∀ (d x : Nat) (acc : List Int), x + d = l.length - 1 → pt l l.length x i = some acc → ∃ p, pt l l.length ((l.length - 1 : Nat) : Int) i = some p := by
  intro d
  induction d using Nat.strongRecOn with
  | _ d ih =>
    intro x acc hx hacc
    have hpos := h.pos
    by_cases hr : x = l.length - 1
    · exact ⟨acc, by rw [← hr]; exact hacc⟩
    · obtain ⟨q, n, hqp, hq, hm⟩ := h.parent (l.length - 1) x (by omega) (by rw [h0]; omega) (by omega)
      have hql := (List.getElem?_eq_some_iff.1 hq).1
      have hxq := h.kids hq _ hm
      obtain ⟨a, ha⟩ := List.mem_iff_getElem?.1 hm
      exact ih (l.length - 1 - q) (by omega) q _ (by omega) (pt_up h hq ha hacc)
theorem pre_all (h : Val l r) : ∀ (f i : Nat) (j : Int), i < f → i < l.length → sta r i ≤ j → j ≤ i → j ∈ pre l f i
  | 0, i, j, h1, _, _, _ => absurd h1 (Nat.not_lt_zero _)
  | f + 1, i, j, h1, h2, h3, h4 => by
    obtain ⟨n, hn⟩ : ∃ n, l[i]? = some n := ⟨l[i], by simp⟩
    rw [pre, kidsOf_at hn]
    by_cases hj : j = i
    · rw [hj]; exact List.mem_cons_self
    · obtain ⟨x, hx, k1, k2⟩ := h.cover hn h3 (by omega)
      have hxr := h.kids hn x hx
      refine List.mem_cons_of_mem _ (List.mem_flatMap.2 ⟨x, hx, pre_all h f x.toNat j (by omega) (by omega) ?_ (by omega)⟩)
      rw [Int.toNat_of_nonneg hxr.1]
      exact k1
end
theorem ap_end {a b : List Nd} {r s : List Int} (h : Val a r) (h' : Val b s) : ∀ (f i j : Nat) (p : List Int), i < a.length → j < b.length → ap a b f i j = some p → ∃ x y : Nat, x < a.length ∧ y < b.length ∧ differ (nodeAt a x) (nodeAt b y) = true ∧ ∀ P, foldE (nbStep a) (nbFin P) p i = .inr ((x : Int), (P.length : Int)) ∧ foldE (nbStep b) (nbFin P) p j = .inr ((y : Int), (P.length : Int))
  | 0, i, j, p, hi, hj, e => by simp [ap] at e
  | f + 1, i, j, p, hi, hj, e => by
    rw [ap] at e
    split at e
    · rename_i hd
      cases e
      exact ⟨i, j, hi, hj, hd, fun P => ⟨rfl, rfl⟩⟩
    · obtain ⟨n, hn⟩ : ∃ n, a[i]? = some n := ⟨a[i], by simp⟩
      obtain ⟨m, hm⟩ : ∃ m, b[j]? = some m := ⟨b[j], by simp⟩
      rw [nodeAt_some hn, nodeAt_some hm] at e
      obtain ⟨t, x, y, q, h1, h2, h3, rfl⟩ := apKids_which _ _ _ _ e
      have hxr := h.kids hn x (List.mem_of_getElem? h1)
      have hyr := h'.kids hm y (List.mem_of_getElem? h2)
      obtain ⟨x', rfl⟩ := Int.eq_ofNat_of_zero_le hxr.1
      obtain ⟨y', rfl⟩ := Int.eq_ofNat_of_zero_le hyr.1
      obtain ⟨u, v, k1, k2, k3, k4⟩ := ap_end h h' f x' y' q (by omega) (by omega) h3
      refine ⟨u, v, k1, k2, k3, fun P => ?_⟩
      rw [foldE, foldE, nb_step hn h1, nb_step hm h2]
      exact k4 P
theorem differ_self (n : Nd) : differ n n = false := by simp [differ]
theorem sizes_split : ∀ (ks : List Tn) (m : Nat), m < sizes ks → ∃ a t c, ks = a ++ t :: c ∧ sizes a ≤ m ∧ m < sizes a + t.size
  | [], m, h => by simp [sizes] at h
  | t :: ts, m, h => by
    rw [sizes] at h
    by_cases hm : m < t.size
    · exact ⟨[], t, ts, rfl, by simp [sizes], by simp only [sizes]; omega⟩
    · obtain ⟨a, u, c, h1, h2, h3⟩ := sizes_split ts (m - t.size) (by omega)
      refine ⟨t :: a, u, c, by rw [h1]; rfl, ?_, ?_⟩ <;> rw [sizes] <;> omega
theorem lies_sub {l : List Nd} : ∀ (t : Tn) (b : Nat), Lies l b t → ∀ i, b ≤ i → i < b + t.size → ∃ u c, Lies l c u ∧ c + sizes u.kids = i := by
  intro t
  induction t using Tn.ind with
  | h k o x y ks ih =>
    intro b h i h1 h2
    rw [Tn.size] at h2
    by_cases he : i = b + sizes ks
    · exact ⟨_, b, h, he.symm⟩
    · obtain ⟨a, t, c, e, h3, h4⟩ := sizes_split ks (i - b) (by omega)
      subst e
      exact ih t (by simp) (b + sizes a) h.kid i (by omega) (by omega)
theorem part_at {l : List Nd} {o : Bool} (hs : lshape l = true) {i : Nat} (hi : i < l.length) (hk : ∀ n, n ∈ l → n.kids.length ≤ 1048576) : ∃ (u : Tn) (e : List Int), M.spec_Part (encNs o l) (i : Int) = some (encNs true (u.flat 0)) ∧ u.size ≤ 400 ∧ nodeAt l i = ⟨u.kind, u.op, u.text, u.other, e⟩ ∧ e.length = u.kids.length ∧ (i = l.length - 1 → u.flat 0 = l) := by
  obtain ⟨T, hT, hz⟩ := shape_tree hs
  have hl : l.length = T.size := by rw [hT, T.flat_length]
  obtain ⟨u, c, h1, h2⟩ := lies_sub T 0 (Lies.whole T) i (Nat.zero_le _) (by omega)
  have hlt := h1.lt
  rw [T.flat_length] at hlt
  have hp := part_tn (o := o) (by omega) h1
  have hr := Lies.root' h1
  rw [h2] at hp hr
  have hus := u.size_kids
  refine ⟨u, ends u.kids c, ?_, by omega, ?_, ends_length _ _, fun hi' => ?_⟩
  · rw [← hT] at hp
    have hw : IntKind.i64.wrap ((l.length : Int) - 1) = (l.length : Int) - 1 := wrap_ok (by omega) (by omega)
    simp only [M.spec_Part, M.spec_Part_C, spec_ShapeOk_ok l o (by omega) hk, hs, some_bind, Bool.not_true, cond_false, encNs_length, hw, spec_l1In_ok]
    rw [decide_eq_true (by omega), decide_eq_true (by omega)]
    simp only [Bool.and_self, Bool.not_true, cond_false, hp, some_bind]
  · rw [hT]; exact nodeAt_some hr
  · have hTs := T.size_kids
    have hc : c = 0 := by
      by_cases h0 : c = 0
      · exact h0
      · exfalso
        have q1 := Lies.sts rfl h1
        have q2 := Lies.sts rfl (Lies.whole T)
        rw [show c + u.size - 1 = 0 + T.size - 1 by omega] at q1
        rw [q1] at q2
        injection q2 with q2
        omega
    subst hc
    have := h1.part
    rw [← this, show u.size = T.size by omega, List.drop_zero, hT, ← T.flat_length 0, List.take_length]
theorem part_differ {u v : Tn} {a b : Nd} {e e' : List Int} (ha : a = ⟨u.kind, u.op, u.text, u.other, e⟩) (hb : b = ⟨v.kind, v.op, v.text, v.other, e'⟩) (he : e.length = u.kids.length) (he' : e'.length = v.kids.length) (h : u.flat 0 = v.flat 0) : differ a b = false := by
  have hs : u.size = v.size := by have := congrArg List.length h; rwa [u.flat_length, v.flat_length] at this
  have h1 := Lies.root' (Lies.whole u)
  have h2 := Lies.root' (Lies.whole v)
  rw [show 0 + sizes u.kids = 0 + sizes v.kids by have := u.size_kids; have := v.size_kids; omega, h, h2] at h1
  injection h1 with h1
  injection h1 with k1 k2 k3 k4 k5
  have k6 := congrArg List.length k5
  rw [ends_length, ends_length] at k6
  rw [ha, hb]
  simp only [differ, k1, k2, k3, k4, he, he', k6]
  simp
theorem ints_ok (a b : List Int) (ha : a.length ≤ 1048576) : ∃ x, M.spec_l6Ints (encI a) (encI b) = some x ∧ (x = true ↔ a = b) := by
  simp only [M.spec_l6Ints, M.spec_l6Ints_C, encI_length]
  by_cases hl : a.length = b.length
  · have := all_loop (b := M.spec_l6Ints_l4_b (encI a) (encI b)) a (fun i x => b[i]? == some x) (fun i x hx => by
      have hlt := (List.getElem?_eq_some_iff.1 hx).1
      obtain ⟨y, hy⟩ : ∃ y, b[i]? = some y := ⟨b[i], by simp⟩
      simp only [M.spec_l6Ints_l4_b, M.spec_l6Ints_l4_C, encI_length, idx_nat, get_encI, hx, hy, Option.map_some, some_bind, cI0]
      rw [decide_eq_true (by omega), cond_true, wrap_ok (by omega) (by omega)]
      by_cases c : x = y
      · subst c; simp
      · have c' : ¬y = x := fun h => c h.symm
        rw [show (x != y) = true from by simp [c], show (some y == some x) = false from by simp [c']]
        rfl) (by
      simp only [M.spec_l6Ints_l4_b, M.spec_l6Ints_l4_C, encI_length]
      rw [decide_eq_false (by omega), cond_false])
    have e : M.spec_l6Ints_l4 (encI a) (encI b) 0 = _ := this
    rw [e]
    have key : ∀ (t : List Int) (i : Nat), a.drop i = t → (allP (fun i x => b[i]? == some x) t i = true ↔ t = b.drop i) := by
      intro t
      induction t with
      | nil =>
        intro i hd
        have : a.length ≤ i := by simpa using hd
        simp [allP]
        omega
      | cons x t ih =>
        intro i hd
        have hlt : i < a.length := by
          by_cases c : i < a.length
          · exact c
          · rw [List.drop_eq_nil_of_le (by omega)] at hd; cases hd
        have hd' : a.drop (i + 1) = t := by rw [← List.drop_drop, hd]; rfl
        rw [allP, Bool.and_eq_true, ih (i + 1) hd', List.drop_eq_getElem_cons (show i < b.length by omega), List.getElem?_eq_getElem (show i < b.length by omega)]
        simp only [beq_iff_eq, Option.some.injEq, List.cons.injEq]
        constructor
        · rintro ⟨h1, h2⟩; exact ⟨h1.symm, h2⟩
        · rintro ⟨h1, h2⟩; exact ⟨h1.symm, h2⟩
    have hk := key a 0 rfl
    rw [List.drop_zero] at hk
    rw [hl]
    refine ⟨allP (fun i x => b[i]? == some x) a 0, ?_, hk⟩
    cases allP (fun i x => b[i]? == some x) a 0 <;> simp [sumE, letE]
  · refine ⟨false, ?_, by simp; intro h; exact hl (by rw [h])⟩
    rw [show ((a.length : Int) != (b.length : Int)) = true from by simp; omega]
    rfl
end Go.Proofs.Ytghbceiigeialaa
