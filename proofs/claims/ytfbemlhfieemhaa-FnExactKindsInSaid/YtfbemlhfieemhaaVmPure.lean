/-
  Plain data: nodes, tokens, lists of numbers; loops along a list.
-/
import Derived.Test.YtfbemlhfieemhaaVmAuto
import Derived.IntWalk
namespace Go.Vm
open Go

/-! ### numbers -/
theorem wrap_ok {n : Int} (h1 : -9223372036854775808 ≤ n) (h2 : n ≤ 9223372036854775807) : IntKind.i64.wrap n = n := IntWalk.i64_in n ⟨h1, h2⟩

/-! ### rows -/
theorem idx_map {α β : Type} (f : α → β) (l : List α) (i : Int) : idx (l.map f) i = (idx l i).map f := by
  unfold idx
  cases decide (0 ≤ i) <;> simp
theorem idx_nat {α : Type} (l : List α) (i : Nat) : idx l (i : Int) = l[i]? := by
  simp [idx]
theorem idx_get {α : Type} {l : List α} {i : Int} {x : α} (h : idx l i = some x) : 0 ≤ i ∧ i < l.length ∧ l[i.toNat]? = some x := by
  unfold idx at h
  by_cases h0 : 0 ≤ i
  · simp only [decide_eq_true h0, cond_true] at h
    have := (List.getElem?_eq_some_iff.1 h).1
    exact ⟨h0, by omega, h⟩
  · simp [decide_eq_false h0] at h
theorem idx_in {α : Type} {l : List α} {i : Int} (h0 : 0 ≤ i) (h1 : i < l.length) : ∃ x, idx l i = some x ∧ l[i.toNat]? = some x := by
  refine ⟨l[i.toNat]'(by omega), ?_, by simp⟩
  unfold idx
  simp only [decide_eq_true h0, cond_true]
  simp
theorem idx_out {α : Type} {l : List α} {i : Int} (h : i < 0 ∨ (l.length : Int) ≤ i) : idx l i = none := by
  unfold idx
  by_cases h0 : 0 ≤ i
  · simp only [decide_eq_true h0, cond_true]
    simp
    omega
  · simp [decide_eq_false h0]

structure Nd where
  kind : Int
  op : Int
  text : List UInt8
  other : List UInt8
  kids : List Int
  deriving DecidableEq, Inhabited
def encI (l : List Int) : List Row := l.map fun k => [.int .i64 k]
def encS (l : List (List UInt8)) : List Row := l.map fun s => [.str s]
def encN (o : Bool) (n : Nd) : Row := [.int .i64 n.kind, .int .i64 n.op, .str n.text, .str n.other, .sl o 1 (encI n.kids)]
def encNs (o : Bool) (l : List Nd) : List Row := l.map (encN o)
structure Tk where
  kind : Int
  text : List UInt8
  at_ : Int
  deriving DecidableEq, Inhabited
def encT (n : Tk) : Row := [.int .i64 n.kind, .str n.text, .int .i64 n.at_]
def encTs (l : List Tk) : List Row := l.map encT

section
variable (o : Bool) (n : Nd) (l : List Nd) (k : List Int) (i : Int) (t : Tk) (ts : List Tk)
@[simp] theorem encI_length : (encI k).length = k.length := by simp [encI]
@[simp] theorem encNs_length : (encNs o l).length = l.length := by simp [encNs]
@[simp] theorem encTs_length : (encTs ts).length = ts.length := by simp [encTs]
@[simp] theorem idx_encI : idx (encI k) i = (idx k i).map fun k => [D.int .i64 k] := idx_map _ _ _
@[simp] theorem idx_encNs : idx (encNs o l) i = (idx l i).map (encN o) := idx_map _ _ _
@[simp] theorem idx_encTs : idx (encTs ts) i = (idx ts i).map encT := idx_map _ _ _
@[simp] theorem get_encI (j : Nat) : (encI k)[j]? = (k[j]?).map fun k => [D.int .i64 k] := by simp [encI]
@[simp] theorem get_encNs (j : Nat) : (encNs o l)[j]? = (l[j]?).map (encN o) := by simp [encNs]
@[simp] theorem get_encTs (j : Nat) : (encTs ts)[j]? = (ts[j]?).map encT := by simp [encTs]
@[simp] theorem cN0 : cInt .i64 (encN o n) 0 = some n.kind := rfl
@[simp] theorem cN1 : cInt .i64 (encN o n) 1 = some n.op := rfl
@[simp] theorem cN2 : cStr (encN o n) 2 = some n.text := rfl
@[simp] theorem cN3 : cStr (encN o n) 3 = some n.other := rfl
@[simp] theorem cN4 : cSl 1 (encN o n) 4 = some (encI n.kids) := rfl
@[simp] theorem cT0 : cInt .i64 (encT t) 0 = some t.kind := rfl
@[simp] theorem cT1 : cStr (encT t) 1 = some t.text := rfl
@[simp] theorem cT2 : cInt .i64 (encT t) 2 = some t.at_ := rfl
@[simp] theorem cI0 : cInt .i64 [D.int .i64 i] 0 = some i := rfl
@[simp] theorem fz_encI : fzRows (encI k) = encI k := by
  induction k with
  | nil => rfl
  | cons x l ih =>
    simp only [encI, List.map_cons, fzRows] at ih ⊢
    rw [ih]
    rfl
@[simp] theorem fz_encNs : fzRows (encNs o l) = encNs false l := by
  induction l with
  | nil => rfl
  | cons x l ih =>
    simp only [encNs, List.map_cons, fzRows] at ih ⊢
    rw [ih]
    simp [encN, fzRow, D.fz, fz_encI]
@[simp] theorem fz_encTs : fzRows (encTs ts) = encTs ts := by
  induction ts with
  | nil => rfl
  | cons x l ih =>
    simp only [encTs, List.map_cons, fzRows] at ih ⊢
    rw [ih]
    simp [encT, fzRow, D.fz]
@[simp] theorem flat_encI : flatRows (encI k) = true := by
  simp only [flatRows, encI, List.all_map, List.all_eq_true]
  intro x _
  rfl
theorem encI_set (j : Nat) : (encI k).set j [D.int .i64 i] = encI (k.set j i) := by simp [encI, List.map_set]
end

def I64 (n : Int) : Prop := -9223372036854775808 ≤ n ∧ n ≤ 9223372036854775807
/-- as what came in is: numbers in their range, no length beyond the greatest -/
structure Fit (n : Nd) : Prop where
  kind : I64 n.kind
  op : I64 n.op
  text : n.text.length ≤ maxLen
  other : n.other.length ≤ maxLen
  kids : n.kids.length ≤ maxLen
  kid : ∀ k, k ∈ n.kids → I64 k
structure FitT (n : Tk) : Prop where
  kind : I64 n.kind
  text : n.text.length ≤ maxLen
  at_ : I64 n.at_

/-! ### a loop along a list -/
/-- what the rounds come to -/
def foldE {α ω τ : Type} (f : ω → α → ω ⊕ τ) (fin : ω → τ) : List α → ω → τ
  | [], w => fin w
  | x :: l, w => match f w x with
    | .inl w' => foldE f fin l w'
    | .inr t => t
theorem loopM_list {σ τ α ω : Type} (b : σ → Option (σ ⊕ τ)) (l : List α) (st : Nat → ω → σ) (f : ω → α → ω ⊕ τ) (fin : ω → τ) (I : Nat → ω → Prop)
    (hstep : ∀ i x w, l[i]? = some x → I i w → b (st i w) = some (match f w x with | .inl w' => .inl (st (i + 1) w') | .inr t => .inr t))
    (hI : ∀ i x w w', l[i]? = some x → I i w → f w x = .inl w' → I (i + 1) w')
    (hend : ∀ w, I l.length w → b (st l.length w) = some (.inr (fin w))) (w : ω) (h0 : I 0 w) : loopM b (st 0 w) = some (foldE f fin l w) := by
  have key : ∀ (t : List α) (i : Nat) (w : ω), l.drop i = t → i ≤ l.length → I i w → loopM b (st i w) = some (foldE f fin t w) := by
    intro t
    induction t with
    | nil =>
      intro i w hd hi hI'
      have : i = l.length := by
        have := congrArg List.length hd
        simp at this
        omega
      subst this
      exact loopM_end (hend w hI')
    | cons x t ih =>
      intro i w hd hi hI'
      have hx : l[i]? = some x := by
        have : (l.drop i)[0]? = some x := by rw [hd]; rfl
        simpa using this
      have hlt : i < l.length := (List.getElem?_eq_some_iff.1 hx).1
      have hd' : l.drop (i + 1) = t := by
        rw [← List.drop_drop, hd]
        rfl
      have hs := hstep i x w hx hI'
      simp only [foldE]
      cases hf : f w x with
      | inl w' =>
        rw [hf] at hs
        rw [loopM_next hs]
        exact ih (i + 1) w' hd' hlt (hI i x w w' hx hI' hf)
      | inr u =>
        rw [hf] at hs
        exact loopM_end hs
  exact key l 0 w rfl (Nat.zero_le _) h0
end Go.Vm
