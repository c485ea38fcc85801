import Derived.Test.YtghbceiigeialaaZMarks
import Derived.Test.YtghbceiigeialaaVm4
namespace Go.Proofs.Ytghbceiigeialaa
set_option linter.unusedVariables false
set_option linter.unusedSimpArgs false
open Go Go.Vm
theorem take_succ_get {α : Type} {l : List α} {j : Nat} {t : α} (h : l[j]? = some t) : l.take (j + 1) = l.take j ++ [t] := by
  rw [List.take_add_one, h]; rfl
theorem split_at {α : Type} {l : List α} {j : Nat} {t : α} (h : l[j]? = some t) : l = l.take j ++ t :: l.drop (j + 1) := by
  obtain ⟨hj, rfl⟩ := List.getElem?_eq_some_iff.1 h
  rw [← List.drop_eq_getElem_cons hj, List.take_append_drop]
theorem sizes_take {ks : List Tn} {j : Nat} {t : Tn} (h : ks[j]? = some t) : sizes (ks.take j) + t.size ≤ sizes ks := by
  have := congrArg sizes (split_at h)
  rw [sizes_append, sizes] at this
  omega
section
variable {l : List Nd} {b : Nat} {k op : Int} {x y : List UInt8} {ks : List Tn}
theorem Lies.root' {t : Tn} (h : Lies l b t) : l[b + sizes t.kids]? = some ⟨t.kind, t.op, t.text, t.other, ends t.kids b⟩ := by
  cases t; exact h.root
theorem ends_succ {j : Nat} {t : Tn} (hj : ks[j]? = some t) : ends (ks.take (j + 1)) b = ends (ks.take j) b ++ [((b + sizes (ks.take j) + t.size : Nat) : Int) - 1] := by
  rw [take_succ_get hj, ends_append, ends, ends]
  congr 2 <;> omega
theorem flats_succ {j : Nat} {t : Tn} (hj : ks[j]? = some t) : flats (ks.take (j + 1)) b = flats (ks.take j) b ++ t.flat (b + sizes (ks.take j)) := by
  rw [take_succ_get hj, flats_append, flats, flats, List.append_nil]
theorem ends_range : ∀ (ks : List Tn) (b : Nat), ∀ e, e ∈ ends ks b → (b : Int) ≤ e ∧ e < b + sizes ks
  | [], b, e, h => by simp [ends] at h
  | t :: ts, b, e, h => by
    have hp := t.size_pos
    rw [ends] at h
    have hs : (sizes (t :: ts) : Int) = t.size + sizes ts := by rw [sizes]; omega
    rcases List.mem_cons.1 h with rfl | h
    · omega
    · have := ends_range ts _ e h
      omega
end
mutual
theorem flat_kids : ∀ (t : Tn) (b : Nat), ∀ n, n ∈ t.flat b → n.kids.length ≤ t.size ∧ ∀ e, e ∈ n.kids → (0 : Int) ≤ e ∧ e < b + t.size
  | .mk k o x y ks, b, n, h => by
    rw [Tn.flat] at h
    rw [Tn.size]
    rcases List.mem_append.1 h with h | h
    · have := flats_kids ks b n h
      exact ⟨by omega, fun e he => by have := this.2 e he; omega⟩
    · simp only [List.mem_singleton] at h
      subst h
      refine ⟨by simp only [ends_length]; have := sizes_le ks; omega, fun e he => ?_⟩
      have := ends_range ks b e he
      omega
theorem flats_kids : ∀ (ks : List Tn) (b : Nat), ∀ n, n ∈ flats ks b → n.kids.length ≤ sizes ks ∧ ∀ e, e ∈ n.kids → (0 : Int) ≤ e ∧ e < b + sizes ks
  | [], b, n, h => by simp [flats] at h
  | t :: ts, b, n, h => by
    rw [flats] at h
    rw [sizes]
    rcases List.mem_append.1 h with h | h
    · have := flat_kids t b n h
      exact ⟨by omega, fun e he => by have := this.2 e he; omega⟩
    · have := flats_kids ts _ n h
      exact ⟨by omega, fun e he => by have := this.2 e he; omega⟩
end
end Go.Proofs.Ytghbceiigeialaa
