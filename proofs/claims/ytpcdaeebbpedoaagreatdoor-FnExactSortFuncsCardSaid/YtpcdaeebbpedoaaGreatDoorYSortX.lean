import Derived.Test.YtpcdaeebbpedoaaGreatDoorYSortS
namespace Go.Proofs.YtpcdaeebbpedoaaGreatDoor
set_option linter.unusedVariables false
set_option linter.unusedSimpArgs false
open Go Go.Vm
def symTail (rec : Int → Int → Int → List Row → Option (List Row)) (a s mid e b : Int) (v : List Row) : Option (List Row) :=
  bif decide (a < s) then
   (bif decide (s < mid) then
    ((rec a s mid v).bind fun r => (bif decide (mid < e) then (bif decide (e < b) then ((rec mid e b r).bind fun r' => (some r')) else (some r)) else (some r))) else
    (bif decide (mid < e) then (bif decide (e < b) then ((rec mid e b v).bind fun r' => (some r')) else (some v)) else (some v))) else
   (bif decide (mid < e) then (bif decide (e < b) then ((rec mid e b v).bind fun r' => (some r')) else (some v)) else (some v))
section
variable {tt : Nat → Tn} {g : Nat → Nat} {n : Nat}
def SymOk (tt : Nat → Tn) (n : Nat) (rec : Int → Int → Int → List Row → Option (List Row)) (f : Nat) : Prop := ∀ (a m b : Nat) (g : Nat → Nat), b - a ≤ f → a < m → m < b → b ≤ n → Srt (kls (kyT tt)) g a m → Srt (kls (kyT tt)) g m b → Crs (kls (kyT tt)) g a m b →
  ∃ g', rec (a : Int) (m : Int) (b : Int) (arrR (encT' tt) g n) = some (arrR (encT' tt) g' n) ∧ Same g g' a b ∧ Srt (kls (kyT tt)) g' a b
theorem sym_half {rec : Int → Int → Int → List Row → Option (List Row)} {f : Nat} (hr : SymOk tt n rec f) {x y z : Nat} (hf : z - x ≤ f) (h1 : x ≤ y) (h2 : y ≤ z) (h3 : z ≤ n) (s1 : Srt (kls (kyT tt)) g x y) (s2 : Srt (kls (kyT tt)) g y z) (hc : Crs (kls (kyT tt)) g x y z) :
    ∃ g', (x < y → y < z → rec (x : Int) (y : Int) (z : Int) (arrR (encT' tt) g n) = some (arrR (encT' tt) g' n)) ∧ ((¬ x < y ∨ ¬ y < z) → g' = g) ∧ Same g g' x z ∧ Srt (kls (kyT tt)) g' x z := by
  by_cases c1 : x < y
  · by_cases c2 : y < z
    · obtain ⟨g', r1, r2, r3⟩ := hr x y z g hf c1 c2 h3 s1 s2 hc
      exact ⟨g', fun _ _ => r1, fun h => by omega, r2, r3⟩
    · have : y = z := by omega
      subst this
      exact ⟨g, fun _ h => absurd h c2, fun _ => rfl, Same.refl _ _ _, s1⟩
  · have : x = y := by omega
    subst this
    exact ⟨g, fun h _ => absurd h c1, fun _ => rfl, Same.refl _ _ _, s2⟩
theorem tail_sym {rec : Int → Int → Int → List Row → Option (List Row)} {f : Nat} (hr : SymOk tt n rec f) {a s mid e b : Nat} (hf : mid - a ≤ f) (hf2 : b - mid ≤ f) (h1 : a ≤ s) (h2 : s ≤ mid) (h3 : mid ≤ e) (h4 : e ≤ b) (h5 : b ≤ n)
    (s1 : Srt (kls (kyT tt)) g a s) (s2 : Srt (kls (kyT tt)) g s mid) (s3 : Srt (kls (kyT tt)) g mid e) (s4 : Srt (kls (kyT tt)) g e b) (k1 : Crs (kls (kyT tt)) g a s mid) (k2 : Crs (kls (kyT tt)) g mid e b)
    (hL : ∀ p q, a ≤ p → p < mid → mid ≤ q → q < b → less (kls (kyT tt)) (g p) (g q)) :
    ∃ g', symTail rec (a : Int) (s : Int) (mid : Int) (e : Int) (b : Int) (arrR (encT' tt) g n) = some (arrR (encT' tt) g' n) ∧ Same g g' a b ∧ Srt (kls (kyT tt)) g' a b := by
  obtain ⟨g1, p1, p2, p3, p4⟩ := sym_half hr hf h1 h2 (by omega) s1 s2 k1
  obtain ⟨g2, q1, q2, q3, q4⟩ := sym_half (g := g1) hr hf2 h3 h4 h5 (p3.srt s3 (.inr (Nat.le_refl _))) (p3.srt s4 (.inr h3)) (p3.crs k2 (.inr (Nat.le_refl _)))
  refine ⟨g2, ?_, (p3.wide (Nat.le_refl _) (by omega)).trans (q3.wide (by omega) (Nat.le_refl _)), join_ok hL p3 q3 p4 q4⟩
  have second : (bif decide ((mid : Int) < (e : Int)) then (bif decide ((e : Int) < (b : Int)) then ((rec (mid : Int) (e : Int) (b : Int) (arrR (encT' tt) g1 n)).bind fun r' => (some r')) else (some (arrR (encT' tt) g1 n))) else (some (arrR (encT' tt) g1 n))) = some (arrR (encT' tt) g2 n) := by
    by_cases c1 : mid < e
    · rw [decide_eq_true (by omega), cond_true]
      by_cases c2 : e < b
      · rw [decide_eq_true (by omega), cond_true, q1 c1 c2, some_bind]
      · rw [decide_eq_false (by omega), cond_false, q2 (.inr c2)]
    · rw [decide_eq_false (by omega), cond_false, q2 (.inl c1)]
  unfold symTail
  by_cases c1 : a < s
  · rw [decide_eq_true (p := (a : Int) < (s : Int)) (by omega), cond_true]
    by_cases c2 : s < mid
    · rw [decide_eq_true (p := (s : Int) < (mid : Int)) (by omega), cond_true, p1 c1 c2, some_bind]
      exact second
    · rw [decide_eq_false (p := (s : Int) < (mid : Int)) (by omega), cond_false]
      rw [p2 (.inr c2)] at second
      exact second
  · rw [decide_eq_false (p := (a : Int) < (s : Int)) (by omega), cond_false]
    rw [p2 (.inl c1)] at second
    exact second
theorem sym_ok (hn : n ≤ 1000000) : ∀ f, SymOk tt n (M.slices_symMergeCmpFunc_N f) f
  | 0, a, m, b, g, hf, h1, h2, h3, s1, s2, hc => by omega
  | f + 1, a, m, b, g, hf, h1, h2, h3, s1, s2, hc => by
    have ih := sym_ok hn f
    have K := kls_ko (kyT tt)
    have w1 : IntKind.i64.wrap ((m : Int) - (a : Int)) = ((m - a : Nat) : Int) := wI (by omega) (by omega)
    have w2 : IntKind.i64.wrap ((b : Int) - (m : Int)) = ((b - m : Nat) : Int) := wI (by omega) (by omega)
    by_cases c1 : m = a + 1
    · subst c1
      obtain ⟨k, k1, k2, k3, k4, k5⟩ := l3_ok (tt := tt) (g := g) (n := n) (rec := M.slices_symMergeCmpFunc_N f) (a := a) (m := a + 1) (b := b) (by omega) (by omega) h3 hn
      have k6 := l9_ok (tt := tt) (g := g) (n := n) (rec := M.slices_symMergeCmpFunc_N f) (a := a) (i := k) k2 (by omega) hn
      refine ⟨mvUp g a k, ?_, ?_, one_left K s2 hc k2 k3 k4 k5⟩
      · have e1 : ((((a + 1 - a : Nat) : Int)) == 1) = true := by rw [beq_iff_eq]; omega
        simp only [M.slices_symMergeCmpFunc_N, M.slices_symMergeCmpFunc_C, w1, e1, cond_true, k1, some_bind, k6]
      · have := mvUp_same g (a := a) (b := b) (k - 1) (by omega) (by omega)
        rwa [show k - 1 + 1 = k by omega] at this
    · have e1 : ((((m - a : Nat) : Int)) == 1) = false := by
        rw [beq_eq_false_iff_ne]; omega
      by_cases c2 : b = m + 1
      · subst c2
        obtain ⟨k, k1, k2, k3, k4, k5⟩ := l15_ok (tt := tt) (g := g) (n := n) (rec := M.slices_symMergeCmpFunc_N f) (a := a) (m := m) (by omega) (by omega) hn
        have k6 := l21_ok (tt := tt) (g := g) (n := n) (rec := M.slices_symMergeCmpFunc_N f) (m := m) (i := k) k3 (by omega) hn
        refine ⟨mvDn g k m, ?_, mvDn_same (a := a) (i := k) (m := m) g k2 (m - k) k (by omega) (Nat.le_refl _), one_right K s1 hc k2 k3 k4 k5⟩
        have e2 : ((((m + 1 - m : Nat) : Int)) == 1) = true := by rw [beq_iff_eq]; omega
        simp only [M.slices_symMergeCmpFunc_N, M.slices_symMergeCmpFunc_C, w1, w2, e1, e2, cond_true, cond_false, k1, some_bind, k6]
      · have e2 : ((((b - m : Nat) : Int)) == 1) = false := by
          rw [beq_eq_false_iff_ne]; omega
        have wm := half_ok (x := a) (y := b) (by omega)
        generalize hmid : (a + b) / 2 = mid at wm
        have wn : IntKind.i64.wrap ((mid : Int) + (m : Int)) = ((mid + m : Nat) : Int) := wI (by omega) (by omega)
        have wp : IntKind.i64.wrap (((mid + m : Nat) : Int) - 1) = ((mid + m - 1 : Nat) : Int) := wI (by omega) (by omega)
        have fin : ∀ s : Nat, a ≤ s → s ≤ m → s ≤ mid → m ≤ mid + m - s → mid + m - s ≤ b → (a < s → mid + m - s < b → kls (kyT tt) (g (mid + m - s)) (g (s - 1)) = false) → (s < m → m < mid + m - s → kls (kyT tt) (g (mid + m - s - 1)) (g s) = true) →
            ∃ g', (bif decide ((s : Int) < (m : Int)) then (bif decide ((m : Int) < ((mid + m - s : Nat) : Int)) then ((M.slices_rotateCmpFunc (s : Int) (m : Int) ((mid + m - s : Nat) : Int) (arrR (encT' tt) g n)).bind fun v => symTail (M.slices_symMergeCmpFunc_N f) (a : Int) (s : Int) (mid : Int) ((mid + m - s : Nat) : Int) (b : Int) v) else
              symTail (M.slices_symMergeCmpFunc_N f) (a : Int) (s : Int) (mid : Int) ((mid + m - s : Nat) : Int) (b : Int) (arrR (encT' tt) g n)) else symTail (M.slices_symMergeCmpFunc_N f) (a : Int) (s : Int) (mid : Int) ((mid + m - s : Nat) : Int) (b : Int) (arrR (encT' tt) g n)) = some (arrR (encT' tt) g' n) ∧ Same g g' a b ∧ Srt (kls (kyT tt)) g' a b := by
          intro s q1 q2 q3 q4 q5 hA hB
          obtain ⟨t1, t2, t3, t4, t5, t6, t7⟩ := split_ok K s1 s2 hc q1 q2 q4 q5 (by omega : mid = s + (mid + m - s - m)) hA hB
          obtain ⟨g', u1, u2, u3⟩ := tail_sym (tt := tt) (n := n) ih (a := a) (s := s) (mid := mid) (e := mid + m - s) (b := b) (by omega) (by omega) q1 q3 (by omega) q5 h3 t1 t2 t3 t4 t5 t6 t7
          refine ⟨g', ?_, ((rot_same q2 q4).wide q1 q5).trans u2, u3⟩
          by_cases d1 : s < m
          · rw [decide_eq_true (by omega), cond_true]
            by_cases d2 : m < mid + m - s
            · rw [decide_eq_true (by omega), cond_true, rotate_ok d1 d2 (by omega) hn, some_bind]
              exact u1
            · rw [decide_eq_false (by omega), cond_false]
              rw [rot_id (.inr (by omega)) q2 q4] at u1
              exact u1
          · rw [decide_eq_false (by omega), cond_false]
            rw [rot_id (.inl (by omega)) q2 q4] at u1
            exact u1
        by_cases c3 : m > mid
        · have wl : IntKind.i64.wrap (((mid + m : Nat) : Int) - (b : Int)) = ((mid + m - b : Nat) : Int) := wI (by omega) (by omega)
          obtain ⟨s, k1, k2, k3, k4, k5⟩ := l33_ok (tt := tt) (g := g) (n := n) (rec := M.slices_symMergeCmpFunc_N f) (lo := mid + m - b) (hi := mid) (p := mid + m - 1) (x1 := (a : Int)) (x2 := (m : Int)) (x3 := (b : Int)) (x4 := (mid : Int)) (x5 := ((mid + m : Nat) : Int)) (by omega) (by omega) (by omega) (by omega) hn
          have we : IntKind.i64.wrap (((mid + m : Nat) : Int) - (s : Int)) = ((mid + m - s : Nat) : Int) := wI (by omega) (by omega)
          obtain ⟨g', v1, v2⟩ := fin s (by omega) (by omega) k3 (by omega) (by omega)
            (fun x y => by have := k4 (by omega); rwa [show mid + m - 1 - (s - 1) = mid + m - s by omega] at this)
            (fun x y => by have := k5 (by omega); rwa [show mid + m - 1 - s = mid + m - s - 1 by omega] at this)
          refine ⟨g', ?_, v2⟩
          rw [← v1]
          simp only [M.slices_symMergeCmpFunc_N, M.slices_symMergeCmpFunc_C, w1, w2, e1, e2, cond_false, wm, wn, wp, wl, k1, some_bind, we, symTail]
          rw [decide_eq_true (by omega), cond_true]
        · obtain ⟨s, k1, k2, k3, k4, k5⟩ := l33_ok (tt := tt) (g := g) (n := n) (rec := M.slices_symMergeCmpFunc_N f) (lo := a) (hi := m) (p := mid + m - 1) (x1 := (a : Int)) (x2 := (m : Int)) (x3 := (b : Int)) (x4 := (mid : Int)) (x5 := ((mid + m : Nat) : Int)) (by omega) (by omega) (by omega) (by omega) hn
          have we : IntKind.i64.wrap (((mid + m : Nat) : Int) - (s : Int)) = ((mid + m - s : Nat) : Int) := wI (by omega) (by omega)
          obtain ⟨g', v1, v2⟩ := fin s k2 k3 (by omega) (by omega) (by omega)
            (fun x y => by have := k4 (by omega); rwa [show mid + m - 1 - (s - 1) = mid + m - s by omega] at this)
            (fun x y => by have := k5 (by omega); rwa [show mid + m - 1 - s = mid + m - s - 1 by omega] at this)
          refine ⟨g', ?_, v2⟩
          rw [← v1]
          simp only [M.slices_symMergeCmpFunc_N, M.slices_symMergeCmpFunc_C, w1, w2, e1, e2, cond_false, wm, wn, wp, k1, some_bind, we, symTail]
          rw [decide_eq_false (p := (m : Int) > (mid : Int)) (by omega), cond_false]
end
end Go.Proofs.YtpcdaeebbpedoaaGreatDoor
