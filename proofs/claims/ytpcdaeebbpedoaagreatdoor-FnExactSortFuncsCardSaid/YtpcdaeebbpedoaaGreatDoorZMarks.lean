import Derived.Test.YtpcdaeebbpedoaaGreatDoorZTree
import Derived.Test.YtpcdaeebbpedoaaGreatDoorVm4
namespace Go.Proofs.YtpcdaeebbpedoaaGreatDoor
set_option linter.unusedVariables false
set_option linter.unusedSimpArgs false
open Go Go.Vm
def markI (k : Int) : Nat → List Int
  | 0 => []
  | n + 1 => k :: markI (k + 1) n
theorem markI_length (k : Int) (n : Nat) : (markI k n).length = n := by
  induction n generalizing k with
  | zero => rfl
  | succ n ih => simp [markI, ih]
theorem markI_get (k : Int) (n i : Nat) (h : i < n) : (markI k n)[i]? = some (k + i) := by
  induction n generalizing k i with
  | zero => omega
  | succ n ih =>
    cases i with
    | zero => simp [markI]
    | succ i =>
      simp only [markI, List.getElem?_cons_succ]
      rw [ih (k + 1) i (by omega)]
      congr 1
      omega
def markT (k : Int) (l : List Int) (i : Nat) : List Int := markI k i ++ l.drop i
theorem markT_get {k : Int} {l : List Int} {i : Nat} (h : i < l.length) : (markT k l i)[i]? = l[i]? := by
  unfold markT
  rw [List.getElem?_append_right (by simp [markI_length])]
  simp [markI_length]
theorem markI_snoc (k : Int) (n : Nat) : markI k (n + 1) = markI k n ++ [k + n] := by
  induction n generalizing k with
  | zero => simp [markI]
  | succ n ih =>
    rw [markI, ih (k + 1), markI]
    simp
    omega
theorem markT_set {k : Int} {l : List Int} {i : Nat} (h : i < l.length) : (markT k l i).set i (k + i) = markT k l (i + 1) := by
  unfold markT
  obtain ⟨x, hx⟩ : ∃ x, l[i]? = some x := ⟨l[i], by simp [h]⟩
  have hd : l.drop i = x :: l.drop (i + 1) := by
    rw [List.drop_eq_getElem_cons h]
    rw [List.getElem?_eq_getElem h] at hx
    rw [Option.some.inj hx]
  rw [hd]
  have := set_append_at (markI k i) (l.drop (i + 1)) x (k + i)
  rw [markI_length] at this
  rw [this, markI_snoc]
  simp
theorem markT_length (k : Int) (l : List Int) {i : Nat} (h : i ≤ l.length) : (markT k l i).length = l.length := by
  simp [markT, markI_length]
  omega
theorem markIntS_ok (k : Int) (l : List Int) (h0 : 0 ≤ k) (h1 : k ≤ 1000000000) (hl : l.length ≤ 1000000000) : M.laws_markIntS k (encI l) = some (k + l.length, encI (markI k l.length)) := by
  simp only [M.laws_markIntS, M.laws_markIntS_C]
  have hloop := loopM_run (b := M.laws_markIntS_l2_b) (t := (k + l.length, (l.length : Int), encI (markI k l.length))) (fun i => (k + i, (i : Int), encI (markT k l i))) l.length
    (by
      intro i hi
      obtain ⟨x, hx⟩ : ∃ x, l[i]? = some x := ⟨l[i], by simp [hi]⟩
      simp only [M.laws_markIntS_l2_b, M.laws_markIntS_l2_C, encI_length, markT_length k l (Nat.le_of_lt hi), idx_nat, get_encI, markT_get hi, hx, Option.map_some, some_bind, Int.toNat_natCast]
      rw [decide_eq_true (by omega), cond_true, wrap_ok (by omega) (by omega), wrap_ok (by omega) (by omega)]
      have hs : splice [D.int IntKind.i64 x] 0 [D.int IntKind.i64 (k + i)] = [D.int IntKind.i64 (k + i)] := rfl
      rw [hs, encI_set, markT_set hi]
      congr 3
      omega)
    (by
      simp only [M.laws_markIntS_l2_b, M.laws_markIntS_l2_C, encI_length, markT_length k l (Nat.le_refl _)]
      rw [decide_eq_false (by omega), cond_false]
      simp [markT]) 0 (Nat.zero_le _)
  simp only [nat0, Int.add_zero, markT, markI, List.drop_zero, List.nil_append] at hloop
  rw [M.laws_markIntS_l2, hloop, some_bind]
theorem heldIntS_ok (k : Int) (n : Nat) (h0 : 0 ≤ k) (h1 : k ≤ 1000000000) (hl : n ≤ 1000000000) : M.laws_heldIntS (encI (markI k n)) k = some (k + n) := by
  simp only [M.laws_heldIntS, M.laws_heldIntS_C]
  have hloop := loopM_run (b := M.laws_heldIntS_l2_b (encI (markI k n))) (t := .inr (k + n, (n : Int))) (fun i => (k + i, (i : Int))) n
    (by
      intro i hi
      simp only [M.laws_heldIntS_l2_b, M.laws_heldIntS_l2_C, encI_length, markI_length, idx_nat, get_encI, markI_get k n i hi, Option.map_some, some_bind, cI0, bne_self_eq_false, cond_false]
      rw [decide_eq_true (by omega), cond_true, wrap_ok (by omega) (by omega), wrap_ok (by omega) (by omega)]
      congr 3
      omega)
    (by
      simp only [M.laws_heldIntS_l2_b, M.laws_heldIntS_l2_C, encI_length, markI_length]
      rw [decide_eq_false (by omega), cond_false]) 0 (Nat.zero_le _)
  simp only [nat0, Int.add_zero] at hloop
  rw [M.laws_heldIntS_l2, hloop, some_bind]
  rfl
@[simp] theorem pure_encI (l : List Int) : pureRows (encI l) = true := by
  induction l with
  | nil => rfl
  | cons x l ih =>
    simp only [encI, List.map_cons] at ih ⊢
    simp [pureRows, pureRow, D.pure, ih]
@[simp] theorem pure_oneI (l : List Int) : [[D.sl true 1 (encI l)]].all pureRow = true := by
  simp [pureRow, D.pure]
theorem markText_loop : ∀ (m : Nat) (k : Int) (s : List UInt8), 0 ≤ k → k.toNat ≤ m → s.length + k.toNat ≤ 4000000000000000000 → ∃ k' s', M.laws_markText_l4 (k, s) = some (k', s') ∧ s'.length ≤ 4000000000000000000
  | m, k, s, h0, h1, hs => by
    by_cases hk : 0 < k
    · cases m with
      | zero => omega
      | succ m =>
        have hd : k.tdiv 10 = k / 10 := Int.tdiv_eq_ediv_of_nonneg h0
        obtain ⟨y, hy⟩ : ∃ y, y = UInt8.ofNat (IntKind.u8.wrap (IntKind.i64.wrap (48 + k.tmod 10))).toNat := ⟨_, rfl⟩
        have hstep : M.laws_markText_l4_b (k, s) = some (.inl (k / 10, [y] ++ s)) := by
          simp only [M.laws_markText_l4_b, M.laws_markText_l4_C]
          rw [← hy, decide_eq_true (show k > 0 from hk), cond_true]
          have : ([y].length + s.length).ble 9223372036854775807 = true := by
            apply Nat.ble_eq_true_of_le
            simp
            omega
          rw [this, cond_true, hd, wrap_ok (by omega) (by omega)]
        obtain ⟨k', s', h2, h3⟩ := markText_loop m (k / 10) ([y] ++ s) (by omega) (by omega) (by simp; omega)
        refine ⟨k', s', ?_, h3⟩
        rw [M.laws_markText_l4, loopM_next hstep]
        exact h2
    · refine ⟨k, s, ?_, by omega⟩
      rw [M.laws_markText_l4]
      apply loopM_end
      simp only [M.laws_markText_l4_b, M.laws_markText_l4_C]
      rw [decide_eq_false (show ¬ k > 0 from hk), cond_false]
noncomputable def mk (k : Int) : List UInt8 := (M.laws_markText k).getD []
theorem markText_ok (k : Int) (h : k ≤ 4000000000000000000) : M.laws_markText k = some (mk k) := by
  have : ∃ s, M.laws_markText k = some s := by
    simp only [M.laws_markText, M.laws_markText_C]
    by_cases hk : k ≤ 0
    · rw [decide_eq_true hk]; exact ⟨_, rfl⟩
    · rw [decide_eq_false hk, cond_false]
      obtain ⟨k', s', h2, h3⟩ := markText_loop k.toNat k [] (by omega) (Nat.le_refl _) (by simp; omega)
      rw [h2, some_bind]
      have : (1 + s'.length).ble 9223372036854775807 = true := by
        apply Nat.ble_eq_true_of_le
        omega
      rw [this]
      exact ⟨_, rfl⟩
  obtain ⟨s, hs⟩ := this
  rw [mk, hs]
  rfl
theorem at_idx {α : Type} (a : List α) (x : α) (b : List α) {i : Nat} (h : a.length = i) : idx (a ++ x :: b) (i : Int) = some x := by
  rw [idx_nat, List.getElem?_append_right (by omega)]
  simp [h]
theorem at_get {α : Type} (a : List α) (x : α) (b : List α) {i : Nat} (h : a.length = i) : (a ++ x :: b)[i]? = some x := by
  rw [List.getElem?_append_right (by omega)]
  simp [h]
theorem at_set {α : Type} (a : List α) (x y : α) (b : List α) {i : Nat} (h : a.length = i) : (a ++ x :: b).set i y = a ++ y :: b := by
  subst h
  exact set_append_at a b x y
theorem encNs_append (o : Bool) (a b : List Nd) : encNs o (a ++ b) = encNs o a ++ encNs o b := by simp [encNs]
end Go.Proofs.YtpcdaeebbpedoaaGreatDoor
