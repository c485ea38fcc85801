import Derived.Test.YtghbceiigeialaaDExp2
namespace Go.Proofs.Ytghbceiigeialaa
set_option linter.unusedVariables false
set_option linter.unusedSimpArgs false
open Go Go.Vm
def printS (g : Nat → Nat) (d : Nat) (p : Nat) : Nat × Nat :=
  bif Nat.beq (g (listS g (exprS g d) (g (p + 1) % 2) (4 - g (p + 1) % 2) (p + 2)).2 % 3) 0
  then up (two (listS g (exprS g d) (g (p + 1) % 2) (4 - g (p + 1) % 2)) (fun q => exprS g (d - 1) (q + 2)) (p + 2))
  else ((listS g (exprS g d) (g (p + 1) % 2) (4 - g (p + 1) % 2) (p + 2)).1 + 1, (listS g (exprS g d) (g (p + 1) % 2) (4 - g (p + 1) % 2) (p + 2)).2 + 1)
def simpleS (g : Nat → Nat) (d : Nat) : DF := fun p => match g p % 9 with
  | 0 => printS g d p
  | 1 => printS g d p
  | 2 => (1, p + 2)
  | 3 => up (listS g (exprS g d) 0 2 (p + 2))
  | 4 => up (listS g (exprS g (d - 1)) 0 3 (p + 2))
  | 5 => bif Nat.beq (g (p + 1) % 2) 0 then (1, p + 3) else up (exprS g d (p + 2))
  | _ => up (exprS g d (p + 1))
theorem simpleS_big {g : Nat → Nat} {d p : Nat} (h : 6 ≤ g p % 9) : simpleS g d p = up (exprS g d (p + 1)) := by
  unfold simpleS
  split <;> first | omega | rfl
def blkS (g : Nat → Nat) (e : DF) : DF := fun p => up (itS e (g p % 3) (p + 1))
def mayS (g : Nat → Nat) (d : Nat) : DF := fun p => bif Nat.beq (g p % 3) 0 then (1, p + 1) else exprS g d (p + 1)
def stmStep (g : Nat → Nat) (d : Nat) (b : DF) : DF := fun p => bif Nat.beq (g p % 3) 0 then (match g (p + 1) % 6 with
    | 0 => up (two (exprS g 1) b (p + 2))
    | 1 => up (two (exprS g 1) (two b b) (p + 2))
    | 2 => up (two (exprS g 1) b (p + 2))
    | 3 => up (two b (exprS g 1) (p + 2))
    | 4 => up (two (mayS g 2) (two (mayS g 1) (two (mayS g 1) b)) (p + 2))
    | _ => bif Nat.beq (g (p + 2) % 2) 0 then b (p + 3) else up (b (p + 5)))
  else simpleS g (min d 2) (p + 1)
def stmS (g : Nat → Nat) : Nat → DF
  | 0 => simpleS g 0
  | d + 1 => stmStep g (d + 1) (blkS g (stmS g d))
def itemS (g : Nat → Nat) : DF := fun p => match g (p + 1) % 8 with
  | 0 => up (blkS g (stmS g (1 + g p % 2)) (p + 3))
  | 1 => up (exprS g (1 + g p % 2) (p + 2))
  | 2 => up (blkS g (stmS g (1 + g p % 2)) (p + 2))
  | 3 => up (two (exprS g 1) (exprS g 1) (p + 2))
  | 4 => up (two (exprS g 1) (two (exprS g 1) (blkS g (stmS g (1 + g p % 2)))) (p + 2))
  | 5 => up (two (itS (fun q => (1, q + 1)) (g (p + 2) % 3)) (fun q => blkS g (stmS g (1 + g p % 2)) (q + 1)) (p + 3))
  | 6 => (1, p + 3)
  | _ => up (two (exprS g (1 + g p % 2)) (blkS g (stmS g (1 + g p % 2))) (p + 2))
def progS (g : Nat → Nat) : DF := fun p => up (itS (itemS g) (g p % 4) (p + 1))
def someS (g : Nat → Nat) : DF := fun p => exprS g (1 + g p % 4) (p + 1)
section
variable {g : Nat → Nat}
theorem simple_bd {d b b1 : Nat} (h : Bd b (exprS g d)) (h1 : Bd b1 (exprS g (d - 1))) (hb : b1 ≤ b) : Bd (3 * b + b1 + 5) (simpleS g d) := fun p => by
  have l3 := list_bd (g := g) h 0 2 (by omega) (p + 2)
  have l4 := list_bd (g := g) h1 0 3 (by omega) (p + 2)
  have e2 := h (p + 2)
  have e1 := h (p + 1)
  have hpr : 1 ≤ (printS g d p).1 ∧ p + (printS g d p).1 ≤ (printS g d p).2 ∧ (printS g d p).2 ≤ p + (3 * b + b1 + 5) := by
    unfold printS up two
    have hm := Nat.mod_lt (g (p + 1)) (show 0 < 2 by omega)
    have l := list_bd (g := g) h (g (p + 1) % 2) (4 - g (p + 1) % 2) (by omega) (p + 2)
    rw [show g (p + 1) % 2 + (4 - g (p + 1) % 2) - 1 = 3 by omega] at l
    have e := h1 ((listS g (exprS g d) (g (p + 1) % 2) (4 - g (p + 1) % 2) (p + 2)).2 + 2)
    cases Nat.beq (g (listS g (exprS g d) (g (p + 1) % 2) (4 - g (p + 1) % 2) (p + 2)).2 % 3) 0 <;> simp only [cond_true, cond_false] <;> omega
  unfold simpleS up
  split
  · exact hpr
  · exact hpr
  · simp only; omega
  · simp only; omega
  · simp only; omega
  · cases Nat.beq (g (p + 1) % 2) 0 <;> simp only [cond_true, cond_false] <;> omega
  · simp only; omega
theorem blk_bd {b : Nat} {e : DF} (h : Bd b e) : Bd (2 * b + 1) (blkS g e) := fun p => by
  have hm := Nat.mod_lt (g p) (show 0 < 3 by omega)
  have i := itS_bd h (g p % 3) (p + 1)
  have h2 : (g p % 3) * b ≤ 2 * b := Nat.mul_le_mul_right b (by omega)
  unfold blkS up
  simp only
  omega
theorem two_bd {b1 b2 : Nat} {e1 e2 : DF} (h1 : Bd b1 e1) (h2 : Bd b2 e2) : Bd (b1 + b2) (two e1 e2) := fun p => by
  have a := h1 p
  have c := h2 (e1 p).2
  unfold two
  simp only
  omega
theorem may_bd {b d : Nat} (h : Bd b (exprS g d)) (hb : 1 ≤ b) : Bd (b + 1) (mayS g d) := fun p => by
  have a := h (p + 1)
  unfold mayS
  cases Nat.beq (g p % 3) 0 <;> simp only [cond_true, cond_false] <;> omega
theorem stm_bd {x y z d : Nat} {b : DF} (hB : Bd x b) (hS : Bd y (simpleS g (min d 2))) (h1 : y + 1 ≤ z) (h2 : 2 * x + 15 ≤ z) (h3 : x + 74 ≤ z) : Bd z (stmStep g d b) := fun p => by
  have E1 := expr_bd g 1
  have E2 := expr_bd g 2
  have c1 : bE 1 = 13 := rfl
  have c2 : bE 2 = 43 := rfl
  rw [c1] at E1
  rw [c2] at E2
  have s1 := hS (p + 1)
  have a0 := two_bd E1 hB (p + 2)
  have a1 := two_bd E1 (two_bd hB hB) (p + 2)
  have a3 := two_bd hB E1 (p + 2)
  have a4 := two_bd (may_bd E2 (by omega)) (two_bd (may_bd E1 (by omega)) (two_bd (may_bd E1 (by omega)) hB)) (p + 2)
  have a5 := hB (p + 3)
  have a6 := hB (p + 5)
  unfold stmStep up
  cases Nat.beq (g p % 3) 0 with
  | false => simp only [cond_false]; omega
  | true =>
    simp only [cond_true]
    split
    · simp only; omega
    · simp only; omega
    · simp only; omega
    · simp only; omega
    · simp only; omega
    · cases Nat.beq (g (p + 2) % 2) 0 <;> simp only [cond_true, cond_false] <;> omega
theorem simple_bd0 : Bd 17 (simpleS g 0) := simple_bd (expr_bd g 0) (expr_bd g 0) (Nat.le_refl _)
theorem simple_bd1 : Bd 47 (simpleS g 1) := simple_bd (expr_bd g 1) (expr_bd g 0) (by decide)
theorem simple_bd2 : Bd 147 (simpleS g 2) := simple_bd (expr_bd g 2) (expr_bd g 1) (by decide)
theorem stm_bd0 : Bd 17 (stmS g 0) := simple_bd0
theorem blk_bd0 : Bd 35 (blkS g (stmS g 0)) := blk_bd stm_bd0
theorem stm_bd1 : Bd 109 (stmS g 1) := stm_bd blk_bd0 simple_bd1 (by omega) (by omega) (by omega)
theorem blk_bd1 : Bd 219 (blkS g (stmS g 1)) := blk_bd stm_bd1
theorem stm_bd2 : Bd 453 (stmS g 2) := stm_bd blk_bd1 simple_bd2 (by omega) (by omega) (by omega)
theorem blk_bd2 : Bd 907 (blkS g (stmS g 2)) := blk_bd stm_bd2
theorem blk_bdd (k : Nat) : Bd 907 (blkS g (stmS g (1 + k % 2))) := by
  have := Nat.mod_lt k (show 0 < 2 by omega)
  have h : k % 2 = 0 ∨ k % 2 = 1 := by omega
  rcases h with h | h <;> rw [h]
  · exact blk_bd1.mono (by omega)
  · exact blk_bd2
theorem exp_bdd (k : Nat) : Bd 43 (exprS g (1 + k % 2)) := by
  have := Nat.mod_lt k (show 0 < 2 by omega)
  have h : k % 2 = 0 ∨ k % 2 = 1 := by omega
  rcases h with h | h <;> rw [h]
  · exact (expr_bd g 1).mono (by decide)
  · exact expr_bd g 2
theorem item_bd : Bd 952 (itemS g) := fun p => by
  have E1 := expr_bd g 1
  have c1 : bE 1 = 13 := rfl
  rw [c1] at E1
  have B := blk_bdd (g := g) (g p)
  have E := exp_bdd (g := g) (g p)
  have a0 := B (p + 3)
  have a1 := E (p + 2)
  have a2 := B (p + 2)
  have a3 := two_bd E1 E1 (p + 2)
  have a4 := two_bd E1 (two_bd E1 B) (p + 2)
  have a7 := two_bd E B (p + 2)
  have hm := Nat.mod_lt (g (p + 2)) (show 0 < 3 by omega)
  have i5 := itS_bd (b := 1) (e := fun q => (1, q + 1)) (fun q => ⟨Nat.le_refl _, Nat.le_refl _, Nat.le_refl _⟩) (g (p + 2) % 3) (p + 3)
  have a5 := B ((itS (fun q => (1, q + 1)) (g (p + 2) % 3) (p + 3)).2 + 1)
  unfold itemS up
  split
  · simp only; omega
  · simp only; omega
  · simp only; omega
  · simp only; omega
  · simp only; omega
  · simp only [two]; omega
  · simp only; omega
  · simp only; omega
theorem prog_bd : Bd 2857 (progS g) := fun p => by
  have hm := Nat.mod_lt (g p) (show 0 < 4 by omega)
  have i := itS_bd (item_bd (g := g)) (g p % 4) (p + 1)
  have h2 : (g p % 4) * 952 ≤ 3 * 952 := Nat.mul_le_mul_right _ (by omega)
  unfold progS up
  simp only
  omega
theorem some_bd : Bd 404 (someS g) := fun p => by
  have hm := Nat.mod_lt (g p) (show 0 < 4 by omega)
  have h : g p % 4 = 0 ∨ g p % 4 = 1 ∨ g p % 4 = 2 ∨ g p % 4 = 3 := by omega
  unfold someS
  have E : Bd 403 (exprS g (1 + g p % 4)) := by
    rcases h with h | h | h | h <;> rw [h]
    · exact (expr_bd g 1).mono (by decide)
    · exact (expr_bd g 2).mono (by decide)
    · exact (expr_bd g 3).mono (by decide)
    · exact expr_bd g 4
  have := E (p + 1)
  omega
end
end Go.Proofs.Ytghbceiigeialaa
