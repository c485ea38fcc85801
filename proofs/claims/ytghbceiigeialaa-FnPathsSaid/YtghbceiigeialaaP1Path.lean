import Derived.Test.YtghbceiigeialaaP1Pre
namespace Go.Proofs.Ytghbceiigeialaa
set_option linter.unusedVariables false
set_option linter.unusedSimpArgs false
open Go Go.Vm
def sta (r : List Int) (k : Int) : Int := r[k.toNat]?.getD 0
theorem walk_mem (r : List Int) (h : okSt r) : ∀ (ks : List Int) (a b : Int), walkKids r ks a = some b → b ≤ a ∧ ∀ x, x ∈ ks → b < sta r x ∧ sta r x ≤ x ∧ x ≤ a
  | [], a, b, e => by
    rw [walkKids] at e
    cases e
    exact ⟨by omega, fun x hx => by simp at hx⟩
  | k :: ks, a, b, e => by
    rw [walkKids] at e
    split at e
    · cases e
    · rename_i hc
      have hz := okSt_get h k.toNat
      obtain ⟨h1, h2⟩ := walk_mem r h ks _ b e
      refine ⟨by omega, fun x hx => ?_⟩
      rcases List.mem_cons.1 hx with rfl | hx
      · rw [sta]
        omega
      · have := h2 x hx
        omega
theorem walk_cover (r : List Int) (h : okSt r) : ∀ (ks : List Int) (a b j : Int), walkKids r ks a = some b → b < j → j ≤ a → ∃ x, x ∈ ks ∧ sta r x ≤ j ∧ j ≤ x
  | [], a, b, j, e, h1, h2 => by
    rw [walkKids] at e
    cases e
    omega
  | k :: ks, a, b, j, e, h1, h2 => by
    rw [walkKids] at e
    split at e
    · cases e
    · rename_i hc
      by_cases hj : sta r k ≤ j
      · exact ⟨k, List.mem_cons_self, hj, by omega⟩
      · rw [sta] at hj
        obtain ⟨x, hx, h3⟩ := walk_cover r h ks _ b j e h1 (by omega)
        exact ⟨x, List.mem_cons_of_mem _ hx, h3⟩
theorem walk_apart (r : List Int) (h : okSt r) : ∀ (ks : List Int) (a b : Int), walkKids r ks a = some b → ∀ (i j : Nat) x y, i < j → ks[i]? = some x → ks[j]? = some y → y < sta r x
  | [], a, b, e, i, j, x, y, hij, hx, hy => by simp at hx
  | k :: ks, a, b, e, i, j, x, y, hij, hx, hy => by
    rw [walkKids] at e
    split at e
    · cases e
    · rename_i hc
      cases j with
      | zero => omega
      | succ j =>
        simp only [List.getElem?_cons_succ] at hy
        cases i with
        | zero =>
          simp only [List.getElem?_cons_zero, Option.some.injEq] at hx
          subst hx
          have := (walk_mem r h ks _ b e).2 y (List.mem_of_getElem? hy)
          rw [sta]
          omega
        | succ i =>
          simp only [List.getElem?_cons_succ] at hx
          exact walk_apart r h ks _ b e i j x y (by omega) hx hy
section
variable {l : List Nd} {r : List Int}
theorem Val.walk (h : Val l r) {i : Nat} {n : Nd} (hn : l[i]? = some n) : walkKids r n.kids.reverse ((i : Int) - 1) = some (sta r i - 1) := by
  obtain ⟨a, h1, h2⟩ := starts_at _ _ _ okSt_nil h.st i n.kids (by simp [ks, hn])
  simp at h1 h2
  rw [h1, sta, Int.toNat_natCast, h2]
  simp
theorem Val.kid_in (h : Val l r) {i : Nat} {n : Nd} (hn : l[i]? = some n) {k : Int} (hk : k ∈ n.kids) : sta r i ≤ sta r k ∧ sta r k ≤ k ∧ k < i := by
  have := (walk_mem r h.ok _ _ _ (h.walk hn)).2 k (List.mem_reverse.2 hk)
  omega
theorem Val.cover (h : Val l r) {i : Nat} {n : Nd} (hn : l[i]? = some n) {j : Int} (h1 : sta r i ≤ j) (h2 : j < i) : ∃ x, x ∈ n.kids ∧ sta r x ≤ j ∧ j ≤ x := by
  obtain ⟨x, hx, h3⟩ := walk_cover r h.ok _ _ _ j (h.walk hn) (by omega) (by omega)
  exact ⟨x, List.mem_reverse.1 hx, h3⟩
theorem Val.apart (h : Val l r) {i : Nat} {n : Nd} (hn : l[i]? = some n) {a b : Nat} {x y : Int} (hab : a < b) (hx : n.kids[a]? = some x) (hy : n.kids[b]? = some y) : x < sta r y := by
  have hbl := (List.getElem?_eq_some_iff.1 hy).1
  have hal : a < n.kids.length := by omega
  refine walk_apart r h.ok _ _ _ (h.walk hn) (n.kids.length - 1 - b) (n.kids.length - 1 - a) y x (by omega) ?_ ?_
  · rw [List.getElem?_reverse (by omega), show n.kids.length - 1 - (n.kids.length - 1 - b) = b by omega]
    exact hy
  · rw [List.getElem?_reverse (by omega), show n.kids.length - 1 - (n.kids.length - 1 - a) = a by omega]
    exact hx
theorem Val.parent (h : Val l r) : ∀ (p : Nat) (j : Int), p < l.length → sta r p ≤ j → j < p → ∃ (q : Nat) (n : Nd), q ≤ p ∧ l[q]? = some n ∧ j ∈ n.kids := by
  intro p
  induction p using Nat.strongRecOn with
  | _ p ih =>
    intro j hp h1 h2
    obtain ⟨n, hn⟩ : ∃ n, l[p]? = some n := ⟨l[p], by simp⟩
    obtain ⟨x, hx, h3, h4⟩ := h.cover hn h1 h2
    have hxi := h.kids hn x hx
    by_cases hj : j = x
    · exact ⟨p, n, Nat.le_refl _, hn, hj ▸ hx⟩
    · have e : ((x.toNat : Nat) : Int) = x := Int.toNat_of_nonneg hxi.1
      obtain ⟨q, m, hq, hm⟩ := ih x.toNat (by omega) j (by omega) (by rw [e]; exact h3) (by omega)
      exact ⟨q, m, by omega, hm⟩
end
def ptKids (g : Int → Option (List Int)) : List Int → Int → Option (List Int)
  | [], _ => none
  | k :: ks, j => match g k with
    | some p => some (j :: p)
    | none => ptKids g ks (j + 1)
def pt (l : List Nd) : Nat → Int → Int → Option (List Int)
  | 0, _, _ => none
  | f + 1, q, i => if q = i then some [] else ptKids (fun k => pt l f k i) (kidsOf l q.toNat) 0
theorem ptKids_congr {g g' : Int → Option (List Int)} : ∀ (ks : List Int) (j : Int), (∀ k, k ∈ ks → g k = g' k) → ptKids g ks j = ptKids g' ks j
  | [], j, h => rfl
  | k :: ks, j, h => by
    rw [ptKids, ptKids, h k List.mem_cons_self]
    cases g' k with
    | none => exact ptKids_congr ks _ fun x hx => h x (List.mem_cons_of_mem _ hx)
    | some p => rfl
theorem ptKids_some {g : Int → Option (List Int)} : ∀ (ks : List Int) (j : Int) (p : List Int), ptKids g ks j = some p → ∃ k q, k ∈ ks ∧ g k = some q ∧ p.length = q.length + 1
  | [], j, p, h => by simp [ptKids] at h
  | k :: ks, j, p, h => by
    rw [ptKids] at h
    cases hg : g k with
    | some q =>
      rw [hg] at h
      cases h
      exact ⟨k, q, List.mem_cons_self, hg, rfl⟩
    | none =>
      rw [hg] at h
      obtain ⟨x, q, hx, hq⟩ := ptKids_some ks _ p h
      exact ⟨x, q, List.mem_cons_of_mem _ hx, hq⟩
theorem ptKids_at {g : Int → Option (List Int)} : ∀ (ks : List Int) (j : Int) (a : Nat) (x : Int) (p : List Int), ks[a]? = some x → g x = some p → (∀ b y, b < a → ks[b]? = some y → g y = none) → ptKids g ks j = some ((j + a) :: p)
  | [], j, a, x, p, h, _, _ => by simp at h
  | k :: ks, j, 0, x, p, h, hg, hn => by
    simp only [List.getElem?_cons_zero, Option.some.injEq] at h
    subst h
    rw [ptKids, hg]
    simp
  | k :: ks, j, a + 1, x, p, h, hg, hn => by
    simp only [List.getElem?_cons_succ] at h
    rw [ptKids, hn 0 k (by omega) rfl]
    simp only
    rw [ptKids_at ks (j + 1) a x p h hg fun b y hb hy => hn (b + 1) y (by omega) (by simpa using hy)]
    congr 2
    omega
section
variable {l : List Nd} {r : List Int}
theorem pt_fuel (h : Val l r) : ∀ (f f' : Nat) (q : Nat) (i : Int), q < f → q < f' → q < l.length → pt l f q i = pt l f' q i
  | 0, f', q, i, h1, h2, h3 => absurd h1 (Nat.not_lt_zero _)
  | f + 1, 0, q, i, h1, h2, h3 => absurd h2 (Nat.not_lt_zero _)
  | f + 1, f' + 1, q, i, h1, h2, h3 => by
    obtain ⟨n, hn⟩ : ∃ n, l[q]? = some n := ⟨l[q], by simp⟩
    rw [pt, pt]
    split
    · rfl
    · rw [Int.toNat_natCast, kidsOf_at hn]
      refine ptKids_congr _ _ fun k hk => ?_
      have hkr := h.kids hn k hk
      have e : ((k.toNat : Nat) : Int) = k := Int.toNat_of_nonneg hkr.1
      have := pt_fuel h f f' k.toNat i (by omega) (by omega) (by omega)
      rw [e] at this
      exact this
theorem pt_in (h : Val l r) : ∀ (f : Nat) (q : Nat) (i : Int) (p : List Int), q < l.length → pt l f q i = some p → sta r q ≤ i ∧ i ≤ q ∧ p.length < f
  | 0, q, i, p, hq, e => by simp [pt] at e
  | f + 1, q, i, p, hq, e => by
    obtain ⟨n, hn⟩ : ∃ n, l[q]? = some n := ⟨l[q], by simp⟩
    have hz := okSt_get h.ok q
    rw [pt] at e
    split at e
    · rename_i hqi
      cases e
      refine ⟨?_, by omega, by simp⟩
      rw [sta, Int.toNat_natCast]
      omega
    · rw [Int.toNat_natCast, kidsOf_at hn] at e
      obtain ⟨k, p', hk, hp, hlen⟩ := ptKids_some _ _ _ e
      have hkr := h.kids hn k hk
      have hki := h.kid_in hn hk
      have e2 : ((k.toNat : Nat) : Int) = k := Int.toNat_of_nonneg hkr.1
      have := pt_in h f k.toNat i p' (by omega) (by rw [e2]; exact hp)
      rw [e2] at this
      omega
theorem pt_up (h : Val l r) {q : Nat} {n : Nd} (hn : l[q]? = some n) {a : Nat} {x i : Int} {p : List Int} (hx : n.kids[a]? = some x) (hp : pt l l.length x i = some p) : pt l l.length q i = some ((a : Int) :: p) := by
  have hql := (List.getElem?_eq_some_iff.1 hn).1
  have hxm := List.mem_of_getElem? hx
  have hxr := h.kids hn x hxm
  have ex : ((x.toNat : Nat) : Int) = x := Int.toNat_of_nonneg hxr.1
  have hin := pt_in h l.length x.toNat i p (by omega) (by rw [ex]; exact hp)
  rw [ex] at hin
  obtain ⟨f, hf⟩ : ∃ f, l.length = f + 1 := ⟨l.length - 1, by have := h.pos; omega⟩
  have hsame : ∀ k, k ∈ n.kids → pt l f k i = pt l l.length k i := by
    intro k hk
    have hkr := h.kids hn k hk
    have e : ((k.toNat : Nat) : Int) = k := Int.toNat_of_nonneg hkr.1
    have := pt_fuel h f l.length k.toNat i (by omega) (by omega) (by omega)
    rw [e] at this
    exact this
  rw [hf, pt, if_neg (by omega), Int.toNat_natCast, kidsOf_at hn, ptKids_congr _ _ hsame]
  have := ptKids_at (g := fun k => pt l l.length k i) n.kids 0 a x p hx hp (by
    intro b y hb hy
    have hap := h.apart hn hb hy hx
    have hym := List.mem_of_getElem? hy
    have hyr := h.kids hn y hym
    have ey : ((y.toNat : Nat) : Int) = y := Int.toNat_of_nonneg hyr.1
    cases hq : pt l l.length y i with
    | none => rfl
    | some p' =>
      have := pt_in h l.length y.toNat i p' (by omega) (by rw [ey]; exact hq)
      rw [ey] at this
      omega)
  rw [this]
  simp
end
end Go.Proofs.Ytghbceiigeialaa
