/-
  The bits of 'before' are paths of edges.
-/
import Derived.Test.YtfbemlhfieemhaaVmDraw
import Derived.CheckFast
namespace Go.Vm
open Go

def stepB (acc : Array Nat) (o : Oper) : Array Nat := acc.push (o.after.foldl (fun s e => if Region.binds .any e then s ||| 2 ^ e.on ||| acc.getD e.on 0 else s) 0)
theorem fold_bit (look : Nat → Nat) (j : Nat) : ∀ (es : List Edge) (s : Nat), (es.foldl (fun s e => if Region.binds .any e then s ||| 2 ^ e.on ||| look e.on else s) s).testBit j = true →
    s.testBit j = true ∨ ∃ e, e ∈ es ∧ Region.binds .any e = true ∧ (j = e.on ∨ (look e.on).testBit j = true)
  | [], s, h => .inl h
  | e :: es, s, h => by
    simp only [List.foldl_cons] at h
    rcases fold_bit look j es _ h with h | ⟨e', h1, h2⟩
    · cases hb : Region.binds .any e with
      | false => simp only [hb, Bool.false_eq_true, if_false] at h; exact .inl h
      | true =>
        simp only [hb, if_true, Nat.testBit_or, Bool.or_eq_true] at h
        rcases h with (h | h) | h
        · exact .inl h
        · rw [Nat.testBit_two_pow] at h
          exact .inr ⟨e, by simp, hb, .inl (by simpa using (of_decide_eq_true h).symm)⟩
        · exact .inr ⟨e, by simp, hb, .inr h⟩
    · exact .inr ⟨e', by simp [h1], h2⟩
theorem foldB (l : List Oper) : ∀ (acc : Array Nat), (l.foldl stepB acc).size = acc.size + l.length ∧ (∀ i, i < acc.size → (l.foldl stepB acc).getD i 0 = acc.getD i 0) ∧
    ∀ k j, ((l.foldl stepB acc).getD (acc.size + k) 0).testBit j = true → ∃ o e, l[k]? = some o ∧ e ∈ o.after ∧ Region.binds .any e = true ∧ (j = e.on ∨ (e.on < acc.size + k ∧ ((l.foldl stepB acc).getD e.on 0).testBit j = true)) := by
  induction l with
  | nil => intro acc; refine ⟨by simp, fun i _ => rfl, fun k j h => ?_⟩; rw [List.foldl_nil, Array.getD, dif_neg (by omega)] at h; simp at h
  | cons o l ih =>
    intro acc
    obtain ⟨s1, s2, s3⟩ := ih (stepB acc o)
    have hsz : (stepB acc o).size = acc.size + 1 := by simp [stepB]
    rw [hsz] at s1 s2 s3
    have hold : ∀ i, i < acc.size → (stepB acc o).getD i 0 = acc.getD i 0 := by
      intro i hi
      simp only [stepB, Array.getD_eq_getD_getElem?, Array.getElem?_push]
      rw [if_neg (by omega)]
    refine ⟨by rw [List.foldl_cons, s1, List.length_cons]; omega, fun i hi => by rw [List.foldl_cons, s2 i (by omega), hold i hi], fun k j h => ?_⟩
    rw [List.foldl_cons] at h ⊢
    cases k with
    | zero =>
      rw [Nat.add_zero, s2 _ (by omega)] at h
      have hv : (stepB acc o).getD acc.size 0 = o.after.foldl (fun s e => if Region.binds .any e then s ||| 2 ^ e.on ||| acc.getD e.on 0 else s) 0 := by
        simp [stepB, Array.getD_eq_getD_getElem?]
      rw [hv, ← Array.foldl_toList] at h
      rcases fold_bit (fun i => acc.getD i 0) j _ 0 h with h | ⟨e, h1, h2, h3⟩
      · simp at h
      · refine ⟨o, e, rfl, by simpa using h1, h2, ?_⟩
        rcases h3 with h3 | h3
        · exact .inl h3
        · have hlt : e.on < acc.size := by
            rcases Nat.lt_or_ge e.on acc.size with h' | h'
            · exact h'
            · simp [Array.getD, Nat.not_lt.2 h'] at h3
          refine .inr ⟨by omega, ?_⟩
          rw [s2 _ (by omega), hold _ hlt]
          exact h3
    | succ k =>
      obtain ⟨o', e, q1, q2, q3, q4⟩ := s3 k j (by rwa [show acc.size + (k + 1) = acc.size + 1 + k by omega] at h)
      exact ⟨o', e, by simpa using q1, q2, q3, q4.imp id fun ⟨x, y⟩ => ⟨by omega, y⟩⟩
theorem before_bit {ops : Array Oper} {i j : Nat} (h : ordered (Region.before ops) i j = true) : ∃ o e, ops[i]? = some o ∧ e ∈ o.after ∧ Region.binds .any e = true ∧ (j = e.on ∨ (e.on < i ∧ ordered (Region.before ops) e.on j = true)) := by
  have he : Region.before ops = ops.toList.foldl stepB #[] := by
    unfold Region.before
    rw [← Array.foldl_toList]
    rfl
  unfold ordered at h ⊢
  rw [he] at h ⊢
  obtain ⟨o, e, h1, h2, h3, h4⟩ := (foldB ops.toList #[]).2.2 i j (by simpa using h)
  exact ⟨o, e, by simpa using h1, h2, h3, by simpa using h4⟩
end Go.Vm
