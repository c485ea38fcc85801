import Derived.Test.YtghbceiigeialaaDCu
namespace Go.Proofs.Ytghbceiigeialaa
set_option linter.unusedVariables false
set_option linter.unusedSimpArgs false
open Go Go.Vm
def fineN (n : Nd) : Prop := (-1000 ≤ n.kind ∧ n.kind ≤ 1000) ∧ (-1000 ≤ n.op ∧ n.op ≤ 1000) ∧ shortT n.text ∧ shortT n.other
def FineT (t : Tn) : Prop := ∀ b n, n ∈ t.flat b → fineN n
theorem flats_mem : ∀ {ts : List Tn} {b : Nat} {n : Nd}, n ∈ flats ts b → ∃ t, t ∈ ts ∧ ∃ b', n ∈ t.flat b'
  | [], b, n, h => by simp [flats] at h
  | t :: ts, b, n, h => by
    rw [flats, List.mem_append] at h
    rcases h with h | h
    · exact ⟨t, by simp, b, h⟩
    · obtain ⟨u, h1, h2⟩ := flats_mem h
      exact ⟨u, by simp [h1], h2⟩
theorem fine_mk {k op : Int} {x y : List UInt8} {ts : List Tn} (hk : -1000 ≤ k ∧ k ≤ 1000) (ho : -1000 ≤ op ∧ op ≤ 1000) (hx : shortT x) (hy : shortT y) (h : ∀ t, t ∈ ts → FineT t) : FineT (.mk k op x y ts) := by
  intro b n hn
  rw [Tn.flat, List.mem_append] at hn
  rcases hn with hn | hn
  · obtain ⟨t, h1, b', h2⟩ := flats_mem hn
    exact h t h1 b' n h2
  · rw [List.mem_singleton.1 hn]
    exact ⟨hk, ho, hx, hy⟩
theorem short_nil : shortT [] := by simp [shortT]
abbrev DF := Nat → Nat × Nat
def up (r : Nat × Nat) : Nat × Nat := (r.1 + 1, r.2)
def two (a b : DF) : DF := fun p => ((a p).1 + (b (a p).2).1, (b (a p).2).2)
def itS (e : DF) : Nat → DF
  | 0, p => (0, p)
  | n + 1, p => ((e p).1 + (itS e n (e p).2).1, (itS e n (e p).2).2)
def leafP (g : Nat → Nat) (p : Nat) : Nat := bif Nat.beq (g p % 7) 2 then p + 3 else p + 2
def leafF (g : Nat → Nat) : DF := fun p => (1, leafP g p)
def lvS (g : Nat → Nat) (e1 e2 : DF) : DF := fun p => match g p % 4 with
  | 0 => up (e1 (p + 2))
  | 1 => up (e2 (p + 1))
  | _ => (1, p + 2)
def listS (g : Nat → Nat) (e : DF) (least w : Nat) : DF := fun p => itS e (least + g p % w) (p + 1)
def exprStep (g : Nat → Nat) (e0 e1 e2 : DF) : DF := fun p => match g (p + 1) % 16 with
  | 0 => leafF g (p + 2)
  | 1 => lvS g e0 e1 (p + 2)
  | 2 => up (e0 (p + 2))
  | 3 => up (listS g e0 0 4 (p + 3))
  | 4 => up (listS g e1 0 4 (p + 3))
  | 5 => up (lvS g e1 e2 (p + 2))
  | 6 => up (lvS g e1 e2 (p + 2))
  | 7 => up (e0 (p + 3))
  | 8 => up (e0 (p + 3))
  | 9 => up (listS g e0 1 2 (p + 3))
  | 10 => up (itS e0 3 (p + 2))
  | 11 => up (two (lvS g e1 e2) e0 (p + 3))
  | _ => up (itS e0 2 (p + 3))
theorem exprStep_big {g : Nat → Nat} {e0 e1 e2 : DF} {p : Nat} (h : 12 ≤ g (p + 1) % 16) : exprStep g e0 e1 e2 p = up (itS e0 2 (p + 3)) := by
  unfold exprStep
  split <;> first | omega | rfl
def exprT (g : Nat → Nat) : Nat → DF × DF × DF
  | 0 => (leafF g, leafF g, leafF g)
  | d + 1 => (exprStep g (exprT g d).1 (exprT g d).2.1 (exprT g d).2.2, (exprT g d).1, (exprT g d).2.1)
def exprS (g : Nat → Nat) (d : Nat) : DF := (exprT g d).1
theorem exprT_eq (g : Nat → Nat) : ∀ d, exprT g d = (exprS g d, exprS g (d - 1), exprS g (d - 2))
  | 0 => rfl
  | 1 => rfl
  | d + 2 => rfl
theorem exprS_succ (g : Nat → Nat) (d : Nat) : exprS g (d + 1) = exprStep g (exprS g d) (exprS g (d - 1)) (exprS g (d - 2)) := by
  show exprStep g (exprT g d).1 (exprT g d).2.1 (exprT g d).2.2 = _
  rw [exprT_eq]
theorem exprS_zero (g : Nat → Nat) : exprS g 0 = leafF g := rfl
def Bd (b : Nat) (e : DF) : Prop := ∀ p, 1 ≤ (e p).1 ∧ p + (e p).1 ≤ (e p).2 ∧ (e p).2 ≤ p + b
theorem Bd.mono {b b' : Nat} {e : DF} (h : Bd b e) (hb : b ≤ b') : Bd b' e := fun p => by have := h p; omega
theorem itS_bd {b : Nat} {e : DF} (h : Bd b e) : ∀ n p, n ≤ (itS e n p).1 ∧ p + (itS e n p).1 ≤ (itS e n p).2 ∧ (itS e n p).2 ≤ p + n * b
  | 0, p => by simp [itS]
  | n + 1, p => by
    have h1 := h p
    have h2 := itS_bd h n (e p).2
    rw [itS, Nat.add_mul]
    simp only
    omega
theorem leaf_bd (g : Nat → Nat) : Bd 3 (leafF g) := fun p => by
  show 1 ≤ 1 ∧ p + 1 ≤ leafP g p ∧ leafP g p ≤ p + 3
  unfold leafP
  cases Nat.beq (g p % 7) 2 <;> simp
theorem lv_bd {g : Nat → Nat} {b : Nat} {e1 e2 : DF} (h1 : Bd b e1) (h2 : Bd b e2) : Bd (b + 2) (lvS g e1 e2) := fun p => by
  unfold lvS up
  have a := h1 (p + 2)
  have c := h2 (p + 1)
  split <;> first | omega | (simp only; omega)
theorem list_bd {g : Nat → Nat} {b : Nat} {e : DF} (h : Bd b e) (least w : Nat) (hw : 1 ≤ w) (p : Nat) : p + 1 + (listS g e least w p).1 ≤ (listS g e least w p).2 ∧ (listS g e least w p).2 ≤ p + 1 + (least + w - 1) * b := by
  unfold listS
  have := itS_bd h (least + g p % w) (p + 1)
  have hm := Nat.mod_lt (g p) (show 0 < w by omega)
  have h2 : (least + g p % w) * b ≤ (least + w - 1) * b := Nat.mul_le_mul_right b (by omega)
  omega
theorem step_bd {g : Nat → Nat} {b : Nat} {e0 e1 e2 : DF} (hb : 3 ≤ b) (h0 : Bd b e0) (h1 : Bd b e1) (h2 : Bd b e2) : Bd (3 * b + 4) (exprStep g e0 e1 e2) := fun p => by
  unfold exprStep up two
  have a2 := h0 (p + 2)
  have a3 := h0 (p + 3)
  have l0 := leaf_bd g (p + 2)
  have v0 := lv_bd (g := g) h0 h1 (p + 2)
  have v2 := lv_bd (g := g) h1 h2 (p + 2)
  have v3 := lv_bd (g := g) h1 h2 (p + 3)
  have b3 := h0 (lvS g e1 e2 (p + 3)).2
  have i3 := itS_bd h0 3 (p + 2)
  have i2 := itS_bd h0 2 (p + 3)
  have s0 := list_bd (g := g) h0 0 4 (by omega) (p + 3)
  have s1 := list_bd (g := g) h1 0 4 (by omega) (p + 3)
  have s9 := list_bd (g := g) h0 1 2 (by omega) (p + 3)
  split <;> first | omega | (simp only; omega)
def bE : Nat → Nat
  | 0 => 3
  | d + 1 => 3 * bE d + 4
theorem bE_le : ∀ d, 3 ≤ bE d
  | 0 => Nat.le_refl _
  | d + 1 => by have := bE_le d; rw [bE]; omega
theorem bE_mono : ∀ d, bE (d - 1) ≤ bE d ∧ bE (d - 2) ≤ bE d
  | 0 => ⟨Nat.le_refl _, Nat.le_refl _⟩
  | 1 => by decide
  | d + 2 => by
    have h1 : d + 2 - 1 = d + 1 := rfl
    have h2 : d + 2 - 2 = d := rfl
    rw [h1, h2, show bE (d + 2) = 3 * bE (d + 1) + 4 from rfl, show bE (d + 1) = 3 * bE d + 4 from rfl]
    omega
theorem expr_bd (g : Nat → Nat) (d : Nat) : Bd (bE d) (exprS g d) := by
  induction d using Nat.strongRecOn with
  | _ d ih =>
    cases d with
    | zero => exact leaf_bd g
    | succ d =>
      rw [exprS_succ]
      have hm := bE_mono d
      exact step_bd (bE_le d) (ih d (by omega)) ((ih (d - 1) (by omega)).mono hm.1) ((ih (d - 2) (by omega)).mono hm.2)
abbrev DR := Option (List Row × List Row × Int × Int)
def DT (m : DR) (s : Cu) (r : Nat × Nat) : Prop := ∃ t : Tn, m = some (encNs true (t.flat 0), cS s r.2) ∧ t.size = r.1 ∧ FineT t
def rowT (t : Tn) : Row := [D.sl true 5 (encNs true (t.flat 0))]
def DL (m : DR) (s : Cu) (r : Nat × Nat) : Prop := ∃ ts : List Tn, m = some (ts.map rowT, cS s r.2) ∧ sizes ts = r.1 ∧ ts.length ≤ 10 ∧ ∀ t, t ∈ ts → FineT t
theorem fz_rows (ts : List Tn) : fzRows (ts.map rowT) = parts ts := fz_parts true true ts
theorem bd {α : Type} {m : Option α} {x : α} {k : α → DR} {s : Cu} {r : Nat × Nat} (e : m = some x) (hk : DT (k x) s r) : DT (m.bind k) s r := by rw [e]; exact hk
theorem made {s : Cu} {q : Nat} (k op : Int) (x y : List UInt8) (ts : List Tn) {z : Nat} (hz : sizes ts + 1 = z) (hs : z ≤ 900000) (hk : -1000 ≤ k ∧ k ≤ 1000) (ho : -1000 ≤ op ∧ op ≤ 1000) (hx : shortT x) (hy : shortT y) (h : ∀ t, t ∈ ts → FineT t) :
    DT ((M.spec_l6Make k op x y [] (fzRows (ts.map rowT))).bind fun r => bif [[D.sl true 5 r]].all pureRow then some (r, (cS s q).1, (cS s q).2.1, (cS s q).2.2) else none) s (z, q) := by
  refine ⟨.mk k op x y ts, ?_, ?_, fine_mk hk ho hx hy h⟩
  · rw [fz_rows, make_ok k op x y [] ts (by omega), some_bind, pure_oneN, cond_true]
  · rw [Tn.size]; exact hz
theorem fine_one {t : Tn} (h : FineT t) : ∀ u, u ∈ [t] → FineT u := fun u hu => by rw [List.mem_singleton.1 hu]; exact h
theorem leafN {s : Cu} {q : Nat} (k : Int) (x : List UInt8) (hk : -1000 ≤ k ∧ k ≤ 1000) (hx : shortT x) : DT (some ([[D.int IntKind.i64 k, D.int IntKind.i64 0, D.str x, D.str [], D.sl true 1 []]], (cS s q).1, (cS s q).2.1, (cS s q).2.2)) s (1, q) :=
  ⟨.mk k 0 x [] [], rfl, rfl, fine_mk hk (by omega) hx short_nil (by simp)⟩
theorem loop_draws {s : Cu} {e : DF} {b : Int × List Row × Int × Int × List Row → Option ((Int × List Row × Int × Int × List Row) ⊕ (Int × List Row × Int × Int × List Row))}
    (hz : ∀ p x, b (0, (cS s p).1, (cS s p).2.1, (cS s p).2.2, x) = some (.inr (0, (cS s p).1, (cS s p).2.1, (cS s p).2.2, x)))
    (hs : ∀ (n p : Nat) (ts : List Tn), n ≤ 10 → ts.length ≤ 20 → ∃ t, b (((n + 1 : Nat) : Int), (cS s p).1, (cS s p).2.1, (cS s p).2.2, ts.map rowT) = some (.inl ((n : Int), (cS s (e p).2).1, (cS s (e p).2).2.1, (cS s (e p).2).2.2, (ts ++ [t]).map rowT)) ∧ t.size = (e p).1 ∧ FineT t) :
    ∀ (n p : Nat) (ts : List Tn), n + ts.length ≤ 10 → ∃ us : List Tn, loopM b ((n : Int), (cS s p).1, (cS s p).2.1, (cS s p).2.2, ts.map rowT) = some (0, (cS s (itS e n p).2).1, (cS s (itS e n p).2).2.1, (cS s (itS e n p).2).2.2, (ts ++ us).map rowT) ∧ sizes us = (itS e n p).1 ∧ us.length = n ∧ ∀ t, t ∈ us → FineT t
  | 0, p, ts, _ => ⟨[], by rw [nat0, loopM_end (hz p _), List.append_nil]; rfl, rfl, rfl, by simp⟩
  | n + 1, p, ts, hn => by
    obtain ⟨t, h1, h2, h3⟩ := hs n p ts (by omega) (by omega)
    obtain ⟨us, k1, k2, k3, k4⟩ := loop_draws hz hs n (e p).2 (ts ++ [t]) (by simp; omega)
    refine ⟨t :: us, ?_, ?_, by simp [k3], ?_⟩
    · rw [loopM_next h1, k1, itS, List.append_assoc]
      rfl
    · rw [sizes, h2, k2, itS]
    · intro u hu
      rcases List.mem_cons.1 hu with rfl | hu
      · exact h3
      · exact k4 u hu
theorem rows_snoc (ts : List Tn) (t : Tn) : (ts ++ [t]).map rowT = ts.map rowT ++ [[D.sl true 5 (encNs true (t.flat 0))]] := by rw [List.map_append]; rfl
section
variable {s : Cu} (h : CuOk s)
include h
theorem leaf_ok (p : Nat) : DT (M.spec_l7Leaf (cS s p).1 (cS s p).2.1 (cS s p).2.2) s (leafF s.g p) := by
  have hm := Nat.mod_lt (s.g p) (show 0 < 7 by omega)
  simp only [M.spec_l7Leaf, M.spec_l7Leaf_C, leafF, leafP]
  rw [show ((7 : Int)) = ((7 : Nat) : Int) from rfl, below_at h p 7 (by omega) (by omega), some_bind]
  obtain ⟨t1, a1, e1⟩ := num_at h (p + 1)
  obtain ⟨t2, a2, e2⟩ := str_at h (p + 1)
  obtain ⟨t3, a3, e3⟩ := ere_at h (p + 1 + 1)
  obtain ⟨t4, a4, e4⟩ := word_at h (p + 1 + 1)
  obtain ⟨t5, a5, e5⟩ := word_at h (p + 1)
  have hc : s.g p % 7 = 0 ∨ s.g p % 7 = 1 ∨ s.g p % 7 = 2 ∨ 3 ≤ s.g p % 7 := by omega
  have e6 := once_at h (p + 1) 2 (by omega) (by omega)
  rw [show ((2 : Nat) : Int) = 2 from rfl] at e6
  rcases hc with hc | hc | hc | hc
  · rw [hc]; simp only [e1, some_bind]; exact leafN 2 t1 (by omega) a1
  · rw [hc]; simp only [e2, some_bind]; exact leafN 3 t2 (by omega) a2
  · rw [hc]
    simp only [e6, some_bind]
    cases hq : s.g (p + 1) % 2 == 0 with
    | true => simp only [hq, cond_true, e3, some_bind]; exact leafN 4 t3 (by omega) a3
    | false => simp only [hq, cond_false, e4, some_bind]; exact leafN 1 t4 (by omega) a4
  · have n0 : (((s.g p % 7 : Nat) : Int) == 0) = false := beq_eq_false_iff_ne.2 (by omega)
    have n1 : (((s.g p % 7 : Nat) : Int) == 1) = false := beq_eq_false_iff_ne.2 (by omega)
    have n2 : (((s.g p % 7 : Nat) : Int) == 2) = false := beq_eq_false_iff_ne.2 (by omega)
    have n3 : Nat.beq (s.g p % 7) 2 = false := beq_no (by omega)
    simp only [n0, n1, n2, n3, cond_false, e5, some_bind]
    exact leafN 1 t5 (by omega) a5
end
end Go.Proofs.Ytghbceiigeialaa
