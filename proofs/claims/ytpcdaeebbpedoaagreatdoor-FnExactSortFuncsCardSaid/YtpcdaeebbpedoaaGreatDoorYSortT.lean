import Derived.Test.YtpcdaeebbpedoaaGreatDoorVm4
namespace Go.Proofs.YtpcdaeebbpedoaaGreatDoor
set_option linter.unusedVariables false
set_option linter.unusedSimpArgs false
open Go Go.Vm
structure KO (kl : Nat → Nat → Bool) : Prop where
  irr : ∀ i, kl i i = false
  tr : ∀ i j k, kl i j = true → kl j k = true → kl i k = true
  nt : ∀ i j k, kl i j = false → kl j k = false → kl i k = false
def less (kl : Nat → Nat → Bool) (i j : Nat) : Prop := kl i j = true ∨ (kl j i = false ∧ i < j)
section
variable {kl : Nat → Nat → Bool} (K : KO kl)
include K
theorem less_tr {i j k : Nat} (h : less kl i j) (h2 : less kl j k) : less kl i k := by
  rcases h with h | ⟨h, h'⟩ <;> rcases h2 with h2 | ⟨h2, h2'⟩
  · exact .inl (K.tr _ _ _ h h2)
  · cases hk : kl i k with
    | true => exact .inl hk
    | false => have := K.nt _ _ _ hk h2; rw [h] at this; cases this
  · cases hk : kl i k with
    | true => exact .inl hk
    | false => have := K.nt _ _ _ h hk; rw [h2] at this; cases this
  · exact .inr ⟨K.nt _ _ _ h2 h, Nat.lt_trans h' h2'⟩
theorem less_irr {i : Nat} (h : less kl i i) : False := by
  rcases h with h | ⟨_, h⟩
  · rw [K.irr] at h; cases h
  · exact Nat.lt_irrefl _ h
end
def Srt (kl : Nat → Nat → Bool) (g : Nat → Nat) (a b : Nat) : Prop := ∀ p q, a ≤ p → p < q → q < b → less kl (g p) (g q)
def Crs (kl : Nat → Nat → Bool) (g : Nat → Nat) (a m b : Nat) : Prop := ∀ p q, a ≤ p → p < m → m ≤ q → q < b → kl (g p) (g q) = false → kl (g q) (g p) = false → g p < g q
structure Same (g g' : Nat → Nat) (a b : Nat) : Prop where
  out : ∀ k, (k < a ∨ b ≤ k) → g' k = g k
  to : ∀ k, a ≤ k → k < b → ∃ j, a ≤ j ∧ j < b ∧ g' k = g j
  fro : ∀ k, a ≤ k → k < b → ∃ j, a ≤ j ∧ j < b ∧ g k = g' j
theorem Same.refl (g : Nat → Nat) (a b : Nat) : Same g g a b := ⟨fun _ _ => rfl, fun k h1 h2 => ⟨k, h1, h2, rfl⟩, fun k h1 h2 => ⟨k, h1, h2, rfl⟩⟩
theorem Same.trans {g g' g'' : Nat → Nat} {a b : Nat} (h : Same g g' a b) (h2 : Same g' g'' a b) : Same g g'' a b := by
  refine ⟨fun k hk => (h2.out k hk).trans (h.out k hk), fun k h3 h4 => ?_, fun k h3 h4 => ?_⟩
  · obtain ⟨j, j1, j2, e⟩ := h2.to k h3 h4
    obtain ⟨i, i1, i2, e2⟩ := h.to j j1 j2
    exact ⟨i, i1, i2, e.trans e2⟩
  · obtain ⟨j, j1, j2, e⟩ := h.fro k h3 h4
    obtain ⟨i, i1, i2, e2⟩ := h2.fro j j1 j2
    exact ⟨i, i1, i2, e.trans e2⟩
theorem Same.wide {g g' : Nat → Nat} {a b c d : Nat} (h : Same g g' a b) (h1 : c ≤ a) (h2 : b ≤ d) : Same g g' c d := by
  refine ⟨fun k hk => h.out k (by omega), fun k h3 h4 => ?_, fun k h3 h4 => ?_⟩
  · by_cases hk : a ≤ k ∧ k < b
    · obtain ⟨j, j1, j2, e⟩ := h.to k hk.1 hk.2
      exact ⟨j, by omega, by omega, e⟩
    · exact ⟨k, h3, h4, h.out k (by omega)⟩
  · by_cases hk : a ≤ k ∧ k < b
    · obtain ⟨j, j1, j2, e⟩ := h.fro k hk.1 hk.2
      exact ⟨j, by omega, by omega, e⟩
    · exact ⟨k, h3, h4, (h.out k (by omega)).symm⟩
def swp (g : Nat → Nat) (i j : Nat) : Nat → Nat := fun k => if k = i then g j else if k = j then g i else g k
theorem swp_same {g : Nat → Nat} {i j a b : Nat} (h1 : a ≤ i) (h2 : i < b) (h3 : a ≤ j) (h4 : j < b) : Same g (swp g i j) a b := by
  refine ⟨fun k hk => ?_, fun k hk hl => ?_, fun k hk hl => ?_⟩
  · simp only [swp]; rw [if_neg (by omega), if_neg (by omega)]
  · simp only [swp]
    by_cases e : k = i
    · exact ⟨j, h3, h4, by rw [if_pos e]⟩
    · by_cases e2 : k = j
      · exact ⟨i, h1, h2, by rw [if_neg e, if_pos e2]⟩
      · exact ⟨k, hk, hl, by rw [if_neg e, if_neg e2]⟩
  · simp only [swp]
    by_cases e : k = i
    · by_cases e2 : j = i
      · exact ⟨i, h1, h2, by rw [if_pos rfl, e, e2]⟩
      · exact ⟨j, h3, h4, by rw [if_neg e2, if_pos rfl, e]⟩
    · by_cases e2 : k = j
      · exact ⟨i, h1, h2, by rw [if_pos rfl, e2]⟩
      · exact ⟨k, hk, hl, by rw [if_neg e, if_neg e2]⟩
def rot (g : Nat → Nat) (s m e : Nat) : Nat → Nat := fun k => if s ≤ k ∧ k < s + (e - m) then g (k + (m - s)) else if s + (e - m) ≤ k ∧ k < e then g (k - (e - m)) else g k
theorem rot_same {g : Nat → Nat} {s m e : Nat} (h1 : s ≤ m) (h2 : m ≤ e) : Same g (rot g s m e) s e := by
  refine ⟨fun k hk => ?_, fun k hk hl => ?_, fun k hk hl => ?_⟩
  · simp only [rot]; rw [if_neg (by omega), if_neg (by omega)]
  · simp only [rot]
    by_cases c : k < s + (e - m)
    · exact ⟨k + (m - s), by omega, by omega, by rw [if_pos ⟨hk, c⟩]⟩
    · exact ⟨k - (e - m), by omega, by omega, by rw [if_neg (by omega), if_pos (by omega)]⟩
  · by_cases c : k < m
    · refine ⟨k + (e - m), by omega, by omega, ?_⟩
      simp only [rot]
      rw [if_neg (by omega), if_pos (by omega)]
      congr 1; omega
    · refine ⟨k - (m - s), by omega, by omega, ?_⟩
      simp only [rot]
      rw [if_pos (by omega)]
      congr 1; omega
theorem rot_id {g : Nat → Nat} {s m e : Nat} (h : s = m ∨ m = e) (h1 : s ≤ m) (h2 : m ≤ e) : rot g s m e = g := by
  funext k
  simp only [rot]
  split
  · congr 1; omega
  · split
    · congr 1; omega
    · rfl
def swr (g : Nat → Nat) (p q n : Nat) : Nat → Nat := fun k => if p ≤ k ∧ k < p + n then g (k + (q - p)) else if q ≤ k ∧ k < q + n then g (k - (q - p)) else g k
theorem rot_more {g : Nat → Nat} {m i j : Nat} (h : j < i) (hi : i ≤ m) (hj : 0 < j) : rot (swr g (m - i) m j) (m - (i - j)) m (m + j) = rot g (m - i) m (m + j) := by
  funext k
  simp only [rot, swr]
  repeat' split
  all_goals first | rfl | (exfalso; omega) | (congr 1; omega)
theorem rot_less {g : Nat → Nat} {m i j : Nat} (h : i < j) (hi : i ≤ m) (h0 : 0 < i) : rot (swr g (m - i) (m + j - i) i) (m - i) m (m + (j - i)) = rot g (m - i) m (m + j) := by
  funext k
  simp only [rot, swr]
  repeat' split
  all_goals first | rfl | (exfalso; omega) | (congr 1; omega)
theorem rot_eq {g : Nat → Nat} {m i : Nat} (hi : i ≤ m) : swr g (m - i) m i = rot g (m - i) m (m + i) := by
  funext k
  simp only [rot, swr]
  repeat' split
  all_goals first | rfl | (exfalso; omega) | (congr 1; omega)
section
variable {kl : Nat → Nat → Bool} (K : KO kl)
include K
theorem split_ok {g : Nat → Nat} {a m b s e mid : Nat} (h1 : Srt kl g a m) (h2 : Srt kl g m b) (hc : Crs kl g a m b) (hs : a ≤ s) (hsm : s ≤ m) (hme : m ≤ e) (heb : e ≤ b) (hmid : mid = s + (e - m))
    (hA : a < s → e < b → kl (g e) (g (s - 1)) = false) (hB : s < m → m < e → kl (g (e - 1)) (g s) = true) :
    Srt kl (rot g s m e) a s ∧ Srt kl (rot g s m e) s mid ∧ Srt kl (rot g s m e) mid e ∧ Srt kl (rot g s m e) e b ∧ Crs kl (rot g s m e) a s mid ∧ Crs kl (rot g s m e) mid e b ∧
      ∀ p q, a ≤ p → p < mid → mid ≤ q → q < b → less kl (rot g s m e p) (rot g s m e q) := by
  have v1 : ∀ k, k < s → rot g s m e k = g k := fun k hk => by simp only [rot]; rw [if_neg (by omega), if_neg (by omega)]
  have v2 : ∀ k, s ≤ k → k < mid → rot g s m e k = g (k + (m - s)) := fun k hk hl => by simp only [rot]; rw [if_pos (by omega)]
  have v3 : ∀ k, mid ≤ k → k < e → rot g s m e k = g (k - (e - m)) := fun k hk hl => by simp only [rot]; rw [if_neg (by omega), if_pos (by omega)]
  have v4 : ∀ k, e ≤ k → rot g s m e k = g k := fun k hk => by simp only [rot]; rw [if_neg (by omega), if_neg (by omega)]
  refine ⟨fun p q q1 q2 q3 => ?_, fun p q q1 q2 q3 => ?_, fun p q q1 q2 q3 => ?_, fun p q q1 q2 q3 => ?_, fun p q q1 q2 q3 q4 => ?_, fun p q q1 q2 q3 q4 => ?_, fun p q q1 q2 q3 q4 => ?_⟩
  · rw [v1 p (by omega), v1 q (by omega)]; exact h1 _ _ (by omega) (by omega) (by omega)
  · rw [v2 p (by omega) (by omega), v2 q (by omega) (by omega)]; exact h2 _ _ (by omega) (by omega) (by omega)
  · rw [v3 p (by omega) (by omega), v3 q (by omega) (by omega)]; exact h1 _ _ (by omega) (by omega) (by omega)
  · rw [v4 p (by omega), v4 q (by omega)]; exact h2 _ _ (by omega) (by omega) (by omega)
  · rw [v1 p (by omega), v2 q (by omega) (by omega)]; exact hc _ _ (by omega) (by omega) (by omega) (by omega)
  · rw [v3 p (by omega) (by omega), v4 q (by omega)]; exact hc _ _ (by omega) (by omega) (by omega) (by omega)
  · have up : ∀ x y, a ≤ x → x ≤ y → y < m → x = y ∨ less kl (g x) (g y) := fun x y hx hxy hy => by
      by_cases e : x = y
      · exact .inl e
      · exact .inr (h1 _ _ hx (by omega) hy)
    have up2 : ∀ x y, m ≤ x → x ≤ y → y < b → x = y ∨ less kl (g x) (g y) := fun x y hx hxy hy => by
      by_cases e : x = y
      · exact .inl e
      · exact .inr (h2 _ _ hx (by omega) hy)
    by_cases hp : p < s
    · rw [v1 p hp]
      by_cases hq : q < e
      · rw [v3 q q3 hq]; exact h1 _ _ (by omega) (by omega) (by omega)
      · rw [v4 q (by omega)]
        have hne := hA (by omega) (by omega)
        have base : less kl (g (s - 1)) (g e) := by
          cases hk : kl (g (s - 1)) (g e) with
          | true => exact .inl hk
          | false => exact .inr ⟨hne, hc _ _ (by omega) (by omega) (by omega) (by omega) hk hne⟩
        have l1 := up p (s - 1) (by omega) (by omega) (by omega)
        have l2 := up2 e q (by omega) (by omega) (by omega)
        have b1 : less kl (g p) (g e) := by
          rcases l1 with l1 | l1
          · rw [l1]; exact base
          · exact less_tr K l1 base
        rcases l2 with l2 | l2
        · rw [← l2]; exact b1
        · exact less_tr K b1 l2
    · rw [v2 p (by omega) q2]
      by_cases hq : q < e
      · rw [v3 q q3 hq]
        have base : less kl (g (e - 1)) (g s) := .inl (hB (by omega) (by omega))
        have l1 := up2 (p + (m - s)) (e - 1) (by omega) (by omega) (by omega)
        have l2 := up s (q - (e - m)) (by omega) (by omega) (by omega)
        have b1 : less kl (g (p + (m - s))) (g s) := by
          rcases l1 with l1 | l1
          · rw [l1]; exact base
          · exact less_tr K l1 base
        rcases l2 with l2 | l2
        · rw [← l2]; exact b1
        · exact less_tr K b1 l2
      · rw [v4 q (by omega)]; exact h2 _ _ (by omega) (by omega) (by omega)
omit K in
theorem Same.srt {g g' : Nat → Nat} {a b c d : Nat} (h : Same g g' a b) (hs : Srt kl g c d) (ho : d ≤ a ∨ b ≤ c) : Srt kl g' c d := fun p q h1 h2 h3 => by
  rw [h.out p (by omega), h.out q (by omega)]; exact hs p q h1 h2 h3
omit K in
theorem Same.crs {g g' : Nat → Nat} {a b c m d : Nat} (h : Same g g' a b) (hs : Crs kl g c m d) (ho : d ≤ a ∨ b ≤ c) : Crs kl g' c m d := fun p q h1 h2 h3 h4 => by
  rw [h.out p (by omega), h.out q (by omega)]; exact hs p q h1 h2 h3 h4
omit K in
theorem join_ok {g g1 g2 : Nat → Nat} {a mid b : Nat} (hL : ∀ p q, a ≤ p → p < mid → mid ≤ q → q < b → less kl (g p) (g q)) (s1 : Same g g1 a mid) (s2 : Same g1 g2 mid b) (h1 : Srt kl g1 a mid) (h2 : Srt kl g2 mid b) : Srt kl g2 a b := by
  intro p q q1 q2 q3
  by_cases hq : q < mid
  · rw [s2.out p (by omega), s2.out q (by omega)]; exact h1 p q q1 q2 hq
  · by_cases hp : p < mid
    · obtain ⟨i, i1, i2, e1⟩ := s1.to p q1 hp
      obtain ⟨j, j1, j2, e2⟩ := s2.to q (by omega) q3
      rw [s2.out p (by omega), e1, e2, s1.out j (by omega)]
      exact hL i j i1 i2 j1 j2
    · exact h2 p q (by omega) q2 q3
def mvUp (g : Nat → Nat) (a i : Nat) : Nat → Nat := fun k => if a ≤ k ∧ k + 1 < i then g (k + 1) else if k + 1 = i ∧ a ≤ k then g a else g k
def mvDn (g : Nat → Nat) (i m : Nat) : Nat → Nat := fun k => if i < k ∧ k ≤ m then g (k - 1) else if k = i then g m else g k
theorem one_left {g : Nat → Nat} {a b i : Nat} (h2 : Srt kl g (a + 1) b) (hc : Crs kl g a (a + 1) b) (hi : a + 1 ≤ i) (hib : i ≤ b) (hA : a + 1 < i → kl (g (i - 1)) (g a) = true) (hB : i < b → kl (g i) (g a) = false) :
    Srt kl (mvUp g a i) a b := by
  have lo : ∀ q, a + 1 ≤ q → q < i → less kl (g q) (g a) := fun q h3 h4 => by
    have base : less kl (g (i - 1)) (g a) := .inl (hA (by omega))
    by_cases e : q = i - 1
    · rw [e]; exact base
    · exact less_tr K (h2 q (i - 1) h3 (by omega) (by omega)) base
  have hi2 : ∀ q, i ≤ q → q < b → less kl (g a) (g q) := fun q h3 h4 => by
    have hne := hB (by omega)
    have base : less kl (g a) (g i) := by
      cases hk : kl (g a) (g i) with
      | true => exact .inl hk
      | false => exact .inr ⟨hne, hc _ _ (Nat.le_refl _) (by omega) (by omega) (by omega) hk hne⟩
    by_cases e : q = i
    · rw [e]; exact base
    · exact less_tr K base (h2 i q (by omega) (by omega) h4)
  intro p q q1 q2 q3
  simp only [mvUp]
  repeat' split
  all_goals first
    | exact h2 _ _ (by omega) (by omega) (by omega)
    | exact lo _ (by omega) (by omega)
    | exact hi2 _ (by omega) (by omega)
    | (exfalso; omega)
theorem one_right {g : Nat → Nat} {a m i : Nat} (h1 : Srt kl g a m) (hc : Crs kl g a m (m + 1)) (hi : a ≤ i) (him : i ≤ m) (hA : a < i → kl (g m) (g (i - 1)) = false) (hB : i < m → kl (g m) (g i) = true) :
    Srt kl (mvDn g i m) a (m + 1) := by
  have lo : ∀ p, a ≤ p → p < i → less kl (g p) (g m) := fun p h3 h4 => by
    have hne := hA (by omega)
    have base : less kl (g (i - 1)) (g m) := by
      cases hk : kl (g (i - 1)) (g m) with
      | true => exact .inl hk
      | false => exact .inr ⟨hne, hc _ _ (by omega) (by omega) (by omega) (by omega) hk hne⟩
    by_cases e : p = i - 1
    · rw [e]; exact base
    · exact less_tr K (h1 p (i - 1) h3 (by omega) (by omega)) base
  have hi2 : ∀ p, i ≤ p → p < m → less kl (g m) (g p) := fun p h3 h4 => by
    have base : less kl (g m) (g i) := .inl (hB (by omega))
    by_cases e : p = i
    · rw [e]; exact base
    · exact less_tr K base (h1 i p (by omega) (by omega) h4)
  intro p q q1 q2 q3
  simp only [mvDn]
  repeat' split
  all_goals first
    | exact h1 _ _ (by omega) (by omega) (by omega)
    | exact lo _ (by omega) (by omega)
    | exact hi2 _ (by omega) (by omega)
    | (exfalso; omega)
omit K in
theorem sorted_eq (K : KO kl) : ∀ l l' : List Nat, l.Pairwise (less kl) → l'.Pairwise (less kl) → (∀ x, x ∈ l ↔ x ∈ l') → l = l'
  | [], [], _, _, _ => rfl
  | [], y :: l', _, _, h => by have := (h y).2 (by simp); cases this
  | x :: l, [], _, _, h => by have := (h x).1 (by simp); cases this
  | x :: l, y :: l', h1, h2, h => by
    rw [List.pairwise_cons] at h1 h2
    have hxy : x = y := by
      by_cases e : x = y
      · exact e
      · have a1 := (h x).1 (by simp)
        have a2 := (h y).2 (by simp)
        simp only [List.mem_cons] at a1 a2
        have a1 : x ∈ l' := by rcases a1 with a1 | a1; exact absurd a1 e; exact a1
        have a2 : y ∈ l := by rcases a2 with a2 | a2; exact absurd a2.symm e; exact a2
        exact (less_irr K (less_tr K (h1.1 y a2) (h2.1 x a1))).elim
    subst hxy
    congr 1
    refine sorted_eq K l l' h1.2 h2.2 fun z => ⟨fun hz => ?_, fun hz => ?_⟩
    · have := (h z).1 (List.mem_cons_of_mem _ hz)
      rcases List.mem_cons.1 this with e | e
      · subst e; exact (less_irr K (h1.1 z hz)).elim
      · exact e
    · have := (h z).2 (List.mem_cons_of_mem _ hz)
      rcases List.mem_cons.1 this with e | e
      · subst e; exact (less_irr K (h2.1 z hz)).elim
      · exact e
end
theorem mvUp_zero (g : Nat → Nat) (a : Nat) : mvUp g a (a + 1) = g := by
  funext k
  simp only [mvUp]
  split
  · exfalso; omega
  · split
    · congr 1; omega
    · rfl
theorem mvUp_step (g : Nat → Nat) {a k : Nat} (h : a ≤ k) : swp (mvUp g a (k + 1)) k (k + 1) = mvUp g a (k + 2) := by
  funext x
  unfold swp mvUp
  repeat' split
  all_goals first | rfl | (exfalso; omega) | (congr 1; omega)
theorem mvDn_zero (g : Nat → Nat) (m : Nat) : mvDn g m m = g := by
  funext k
  simp only [mvDn]
  split
  · exfalso; omega
  · split
    · congr 1; omega
    · rfl
theorem mvDn_step (g : Nat → Nat) {k m : Nat} (h : 0 < k) (h2 : k ≤ m) : swp (mvDn g k m) k (k - 1) = mvDn g (k - 1) m := by
  funext x
  unfold swp mvDn
  repeat' split
  all_goals first | rfl | (exfalso; omega) | (congr 1; omega)
theorem mvDn_at (g : Nat → Nat) (k m : Nat) : mvDn g k m k = g m := by
  unfold mvDn; rw [if_neg (by omega), if_pos rfl]
theorem mvDn_lo (g : Nat → Nat) {x k m : Nat} (h : x < k) : mvDn g k m x = g x := by
  simp only [mvDn]; rw [if_neg (by omega), if_neg (by omega)]
theorem mvDn_same (g : Nat → Nat) {a i m : Nat} (h : a ≤ i) : ∀ d k, k + d = m → i ≤ k → Same g (mvDn g k m) a (m + 1)
  | 0, k, hk, hi => by
    have : k = m := by omega
    subst this
    rw [mvDn_zero]
    exact Same.refl _ _ _
  | d + 1, k, hk, hi => by
    have h1 := mvDn_same (a := a) (i := i) (m := m) g h d (k + 1) (by omega) (by omega)
    have h2 := mvDn_step g (k := k + 1) (m := m) (by omega) (by omega)
    rw [Nat.add_sub_cancel] at h2
    rw [← h2]
    exact h1.trans (swp_same (b := m + 1) (by omega) (by omega) (by omega) (by omega))
theorem mvUp_same (g : Nat → Nat) {a b : Nat} : ∀ k, a ≤ k → k < b → Same g (mvUp g a (k + 1)) a b := by
  intro k
  induction k with
  | zero =>
    intro h1 h2
    have : a = 0 := by omega
    subst this
    rw [mvUp_zero]
    exact Same.refl _ _ _
  | succ k ih =>
    intro h1 h2
    by_cases e : a = k + 1
    · subst e
      rw [mvUp_zero]
      exact Same.refl _ _ _
    · have := ih (by omega) (by omega)
      rw [← mvUp_step g (by omega : a ≤ k)]
      exact this.trans (swp_same (by omega) (by omega) (by omega) (by omega))
def Seg (kl : Nat → Nat → Bool) (g : Nat → Nat) (x y : Nat) : Prop := Srt kl g x y ∧ ∀ k, x ≤ k → k < y → x ≤ g k ∧ g k < y
section
variable {kl : Nat → Nat → Bool}
theorem Seg.nil {g : Nat → Nat} {x y : Nat} (h : y ≤ x) : Seg kl g x y := ⟨fun p q h1 h2 h3 => by omega, fun k h1 h2 => by omega⟩
theorem Seg.crs {g : Nat → Nat} {a m b : Nat} (h1 : Seg kl g a m) (h2 : Seg kl g m b) : Crs kl g a m b := fun p q q1 q2 q3 q4 _ _ => by
  have := (h1.2 p q1 q2).2
  have := (h2.2 q q3 q4).1
  omega
theorem Seg.join {g g' : Nat → Nat} {a m b : Nat} (h1 : Seg kl g a m) (h2 : Seg kl g m b) (ham : a ≤ m) (hmb : m ≤ b) (hs : Same g g' a b) (h : Srt kl g' a b) : Seg kl g' a b := by
  refine ⟨h, fun k h3 h4 => ?_⟩
  obtain ⟨j, j1, j2, e⟩ := hs.to k h3 h4
  rw [e]
  by_cases hj : j < m
  · have := h1.2 j j1 hj; omega
  · have := h2.2 j (by omega) j2; omega
theorem Same.seg {g g' : Nat → Nat} {a b c d : Nat} (h : Same g g' a b) (hs : Seg kl g c d) (ho : d ≤ a ∨ b ≤ c) : Seg kl g' c d :=
  ⟨h.srt hs.1 ho, fun k h1 h2 => by rw [h.out k (by omega)]; exact hs.2 k h1 h2⟩
variable (K : KO kl)
include K
theorem ins_ok {g : Nat → Nat} {a i j : Nat} (h : Seg kl g a i) (hi : g i = i) (hai : a ≤ i) (haj : a ≤ j) (hji : j ≤ i) (hA : a < j → kl (g i) (g (j - 1)) = false) (hB : j < i → kl (g i) (g j) = true) :
    Seg kl (mvDn g j i) a (i + 1) := by
  have h1 : Seg kl g i (i + 1) := ⟨fun p q q1 q2 q3 => by omega, fun k h3 h4 => by
    have : k = i := by omega
    subst this
    omega⟩
  exact Seg.join h h1 hai (by omega) (mvDn_same (a := a) (i := j) (m := i) g haj (i - j) j (by omega) (Nat.le_refl _)) (one_right K h.1 (Seg.crs h h1) haj hji hA hB)
end
def Blk (kl : Nat → Nat → Bool) (s n : Nat) (g : Nat → Nat) : Prop := ∀ d, Seg kl g (d * s) (min ((d + 1) * s) n)
def Half (kl : Nat → Nat → Bool) (s n c : Nat) (g : Nat → Nat) : Prop := (∀ d, d < c → Seg kl g (d * (2 * s)) (min ((d + 1) * (2 * s)) n)) ∧ ∀ d, 2 * c ≤ d → Seg kl g (d * s) (min ((d + 1) * s) n)
section
variable {kl : Nat → Nat → Bool} {s n c : Nat} {g g' : Nat → Nat}
theorem Half.zero (h : Blk kl s n g) : Half kl s n 0 g := ⟨fun d hd => by omega, fun d _ => h d⟩
theorem two_mul' (c s : Nat) : c * (2 * s) = 2 * c * s := by rw [Nat.mul_comm 2 c, Nat.mul_assoc]
theorem Half.parts (h : Half kl s n c g) (hle : c * (2 * s) + s ≤ n) : Seg kl g (c * (2 * s)) (c * (2 * s) + s) ∧ Seg kl g (c * (2 * s) + s) (min (c * (2 * s) + 2 * s) n) := by
  have a := h.2 (2 * c) (Nat.le_refl _)
  have b := h.2 (2 * c + 1) (by omega)
  have e1 : (2 * c + 1) * s = c * (2 * s) + s := by rw [Nat.add_mul, Nat.one_mul, two_mul']
  have e2 : (2 * c + 1 + 1) * s = c * (2 * s) + 2 * s := by rw [Nat.add_mul, e1, Nat.one_mul]; omega
  rw [e1, ← two_mul', Nat.min_eq_left hle] at a
  rw [e1, e2] at b
  exact ⟨a, b⟩
theorem Half.step (h : Half kl s n c g) (hle : c * (2 * s) + s ≤ n) {b : Nat} (hb : b = min (c * (2 * s) + 2 * s) n) (hs : Same g g' (c * (2 * s)) b) (h1 : Srt kl g' (c * (2 * s)) b) : Half kl s n (c + 1) g' := by
  obtain ⟨p1, p2⟩ := h.parts hle
  rw [← hb] at p2
  have e : (c + 1) * (2 * s) = c * (2 * s) + 2 * s := by rw [Nat.add_mul, Nat.one_mul]
  have hbl : c * (2 * s) + s ≤ b := by rw [hb]; omega
  refine ⟨fun d hd => ?_, fun d hd => ?_⟩
  · by_cases hdc : d = c
    · subst hdc
      rw [e, ← hb]
      exact Seg.join p1 p2 (by omega) hbl hs h1
    · have hm : (d + 1) * (2 * s) ≤ c * (2 * s) := Nat.mul_le_mul_right _ (by omega)
      exact hs.seg (h.1 d (by omega)) (.inl (by omega))
  · have hm : (2 * (c + 1)) * s ≤ d * s := Nat.mul_le_mul_right _ hd
    have e3 : (2 * (c + 1)) * s = c * (2 * s) + 2 * s := by rw [← two_mul', e]
    exact hs.seg (h.2 d (by omega)) (.inr (by rw [hb]; omega))
theorem Half.last (h : Half kl s n c g) (hn : n ≤ c * (2 * s) + s) : Blk kl (2 * s) n g := by
  intro d
  by_cases hd : d < c
  · exact h.1 d hd
  · by_cases hdc : d = c
    · subst hdc
      have a := h.2 (2 * d) (Nat.le_refl _)
      have e1 : (2 * d + 1) * s = d * (2 * s) + s := by rw [Nat.add_mul, Nat.one_mul, two_mul']
      have e : (d + 1) * (2 * s) = d * (2 * s) + 2 * s := by rw [Nat.add_mul, Nat.one_mul]
      rw [e1, ← two_mul', Nat.min_eq_right hn] at a
      rw [e, Nat.min_eq_right (by omega)]
      exact a
    · have hm : (c + 1) * (2 * s) ≤ d * (2 * s) := Nat.mul_le_mul_right _ (by omega)
      have e : (c + 1) * (2 * s) = c * (2 * s) + 2 * s := by rw [Nat.add_mul, Nat.one_mul]
      exact Seg.nil (by omega)
theorem Half.done (h : Half kl s n c g) (hn : n ≤ c * (2 * s)) : Blk kl (2 * s) n g := by
  intro d
  by_cases hd : d < c
  · exact h.1 d hd
  · have hm : c * (2 * s) ≤ d * (2 * s) := Nat.mul_le_mul_right _ (by omega)
    exact Seg.nil (by omega)
theorem Blk.all (h : Blk kl s n g) (hn : n ≤ s) : Seg kl g 0 n := by
  have := h 0
  rw [Nat.zero_mul, Nat.zero_add, Nat.one_mul, Nat.min_eq_right hn] at this
  exact this
end
theorem Srt.pairwise {kl : Nat → Nat → Bool} {g : Nat → Nat} {n : Nat} (h : Srt kl g 0 n) : ((List.range n).map g).Pairwise (less kl) := by
  rw [List.pairwise_iff_getElem]
  intro i j hi hj hij
  simp only [List.length_map, List.length_range] at hi hj
  simp only [List.getElem_map, List.getElem_range]
  exact h i j (Nat.zero_le _) hij hj
theorem Same.mem {g : Nat → Nat} {n : Nat} (h : Same (fun k => k) g 0 n) (x : Nat) : x ∈ (List.range n).map g ↔ x < n := by
  constructor
  · intro hx
    obtain ⟨k, hk, rfl⟩ := List.mem_map.1 hx
    obtain ⟨j, _, hj, e⟩ := h.to k (Nat.zero_le _) (List.mem_range.1 hk)
    rw [e]; exact hj
  · intro hx
    obtain ⟨j, _, hj, e⟩ := h.fro x (Nat.zero_le _) hx
    exact List.mem_map.2 ⟨j, List.mem_range.2 hj, e.symm⟩
def plc (f : Nat → Bool) (n : Nat) : List Nat := (List.range n).filter f
theorem plc_inc (f : Nat → Bool) (n : Nat) : (plc f n).Pairwise (· < ·) := List.Pairwise.filter _ List.pairwise_lt_range
theorem plc_mem {f : Nat → Bool} {n x : Nat} : x ∈ plc f n ↔ x < n ∧ f x = true := by simp [plc]
theorem parts_eq {kl : Nat → Nat → Bool} (K : KO kl) {f : Nat → Bool} {n : Nat} {g h : Nat → Nat}
    (ho : ∀ i j, f i = false → kl j i = false) (hf : ∀ i j, i < n → j < n → f i = false → f j = true → kl i j = true)
    (sg : Same (fun k => k) g 0 n) (hg : Srt kl g 0 n) (sh : Same (fun k => k) h 0 (plc f n).length)
    (hh : Srt (fun i j => kl ((plc f n).getD i 0) ((plc f n).getD j 0)) h 0 (plc f n).length) :
    (List.range n).map g = plc (fun i => !f i) n ++ ((List.range (plc f n).length).map h).map fun k => (plc f n).getD k 0 := by
  have hget : ∀ k, k < (plc f n).length → (plc f n)[k]? = some ((plc f n).getD k 0) := fun k hk => by
    rw [List.getD_eq_getElem?_getD, List.getElem?_eq_getElem hk]; rfl
  have hmem : ∀ k, k < (plc f n).length → (plc f n).getD k 0 ∈ plc f n := fun k hk => List.mem_of_getElem? (hget k hk)
  have hmono : ∀ i j, i < j → j < (plc f n).length → (plc f n).getD i 0 < (plc f n).getD j 0 := fun i j hij hj => by
    have := List.pairwise_iff_getElem.1 (plc_inc f n) i j (by omega) hj hij
    rw [List.getD_eq_getElem?_getD, List.getD_eq_getElem?_getD, List.getElem?_eq_getElem (by omega), List.getElem?_eq_getElem hj]
    exact this
  have hlt : ∀ k, k < (plc f n).length → h k < (plc f n).length := fun k hk => by
    obtain ⟨j, _, hj, e⟩ := sh.to k (Nat.zero_le _) hk
    rw [e]; exact hj
  refine sorted_eq K _ _ hg.pairwise ?_ fun x => ?_
  · rw [List.pairwise_append]
    refine ⟨?_, ?_, fun x hx y hy => ?_⟩
    · refine (List.pairwise_iff_getElem.2 fun i j hi hj hij => ?_)
      have hlt := List.pairwise_iff_getElem.1 (plc_inc (fun i => !f i) n) i j hi hj hij
      have hm := (plc_mem.1 (List.getElem_mem hi)).2
      exact .inr ⟨ho _ _ (by simpa using hm), hlt⟩
    · rw [List.pairwise_iff_getElem]
      intro i j hi hj hij
      simp only [List.length_map, List.length_range] at hi hj
      simp only [List.getElem_map, List.getElem_range]
      rcases hh i j (Nat.zero_le _) hij hj with a | ⟨a, b⟩
      · exact .inl a
      · exact .inr ⟨a, hmono _ _ b (hlt j hj)⟩
    · obtain ⟨k, hk, rfl⟩ := List.mem_map.1 hy
      obtain ⟨j, hj, rfl⟩ := List.mem_map.1 hk
      have h1 := plc_mem.1 hx
      have h2 := plc_mem.1 (hmem (h j) (hlt j (List.mem_range.1 hj)))
      exact .inl (hf _ _ h1.1 h2.1 (by simpa using h1.2) h2.2)
  · rw [sg.mem]
    constructor
    · intro hx
      rw [List.mem_append]
      cases hfx : f x with
      | false => exact .inl (plc_mem.2 ⟨hx, by simp [hfx]⟩)
      | true =>
        have hm : x ∈ plc f n := plc_mem.2 ⟨hx, hfx⟩
        obtain ⟨k, hk⟩ := List.getElem?_of_mem hm
        have hkl := (List.getElem?_eq_some_iff.1 hk).1
        have e : (plc f n).getD k 0 = x := Option.some.inj ((hget k hkl).symm.trans hk)
        exact .inr (List.mem_map.2 ⟨k, (sh.mem k).2 hkl, e⟩)
    · intro hx
      rcases List.mem_append.1 hx with hx | hx
      · exact (plc_mem.1 hx).1
      · obtain ⟨k, hk, rfl⟩ := List.mem_map.1 hx
        exact (plc_mem.1 (hmem k ((sh.mem k).1 hk))).1
def kls (key : Nat → List UInt8) (i j : Nat) : Bool := decide (key i < key j)
theorem kls_ko (key : Nat → List UInt8) : KO (kls key) := by
  refine ⟨fun i => decide_eq_false (List.lt_irrefl _), fun i j k h1 h2 => ?_, fun i j k h1 h2 => ?_⟩
  · exact decide_eq_true (List.lt_trans (of_decide_eq_true h1) (of_decide_eq_true h2))
  · have h1 := List.not_lt.1 (of_decide_eq_false h1)
    have h2 := List.not_lt.1 (of_decide_eq_false h2)
    exact decide_eq_false (List.not_lt.2 (List.le_trans h2 h1))
end Go.Proofs.YtpcdaeebbpedoaaGreatDoor
