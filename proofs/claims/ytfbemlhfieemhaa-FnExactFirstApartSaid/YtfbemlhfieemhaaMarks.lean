/-
  The laws' own small functions: marks; tokens.
-/
import Derived.Test.YtfbemlhfieemhaaCommon
namespace Go.Proofs.Ytfbemlhfieemhaa
set_option linter.unusedVariables false
set_option linter.unusedSimpArgs false
open Go Go.Vm

theorem nat0 : ((0 : Nat) : Int) = 0 := rfl
/-! ### marks in numbers -/
def markI (k : Int) : Nat → List Int
  | 0 => []
  | n + 1 => k :: markI (k + 1) n
theorem markI_length (k : Int) (n : Nat) : (markI k n).length = n := by
  induction n generalizing k with
  | zero => rfl
  | succ n ih => simp [markI, ih]
theorem markI_get (k : Int) (n i : Nat) (h : i < n) : (markI k n)[i]? = some (k + i) := by
  induction n generalizing k i with
  | zero => omega
  | succ n ih =>
    cases i with
    | zero => simp [markI]
    | succ i =>
      simp only [markI, List.getElem?_cons_succ]
      rw [ih (k + 1) i (by omega)]
      congr 1
      omega
/-- the marks so far -/
def markT (k : Int) (l : List Int) (i : Nat) : List Int := markI k i ++ l.drop i
theorem markT_get {k : Int} {l : List Int} {i : Nat} (h : i < l.length) : (markT k l i)[i]? = l[i]? := by
  unfold markT
  rw [List.getElem?_append_right (by simp [markI_length])]
  simp [markI_length]
theorem markI_snoc (k : Int) (n : Nat) : markI k (n + 1) = markI k n ++ [k + n] := by
  induction n generalizing k with
  | zero => simp [markI]
  | succ n ih =>
    rw [markI, ih (k + 1), markI]
    simp
    omega
theorem markT_set {k : Int} {l : List Int} {i : Nat} (h : i < l.length) : (markT k l i).set i (k + i) = markT k l (i + 1) := by
  unfold markT
  obtain ⟨x, hx⟩ : ∃ x, l[i]? = some x := ⟨l[i], by simp [h]⟩
  have hd : l.drop i = x :: l.drop (i + 1) := by
    rw [List.drop_eq_getElem_cons h]
    rw [List.getElem?_eq_getElem h] at hx
    rw [Option.some.inj hx]
  rw [hd]
  have := set_append_at (markI k i) (l.drop (i + 1)) x (k + i)
  rw [markI_length] at this
  rw [this, markI_snoc]
  simp
theorem markT_length (k : Int) (l : List Int) {i : Nat} (h : i ≤ l.length) : (markT k l i).length = l.length := by
  simp [markT, markI_length]
  omega
theorem markIntS_ok (k : Int) (l : List Int) (h0 : 0 ≤ k) (h1 : k ≤ 1000000000) (hl : l.length ≤ 1000000000) : M.laws_markIntS k (encI l) = some (k + l.length, encI (markI k l.length)) := by
  simp only [M.laws_markIntS, M.laws_markIntS_C]
  have hloop := loopM_run (b := M.laws_markIntS_l2_b) (t := (k + l.length, (l.length : Int), false, encI (markI k l.length))) (fun i => (k + i, (i : Int), encI (markT k l i))) l.length
    (by
      intro i hi
      obtain ⟨x, hx⟩ : ∃ x, l[i]? = some x := ⟨l[i], by simp [hi]⟩
      simp only [M.laws_markIntS_l2_b, M.laws_markIntS_l2_C, encI_length, markT_length k l (Nat.le_of_lt hi), idx_nat, get_encI, markT_get hi, hx, Option.map_some, some_bind, Int.toNat_natCast]
      rw [decide_eq_true (by omega), cond_true, wrap_ok (by omega) (by omega), wrap_ok (by omega) (by omega)]
      have hs : splice [D.int IntKind.i64 x] 0 [D.int IntKind.i64 (k + i)] = [D.int IntKind.i64 (k + i)] := rfl
      rw [hs, encI_set, markT_set hi]
      congr 3
      omega)
    (by
      simp only [M.laws_markIntS_l2_b, M.laws_markIntS_l2_C, encI_length, markT_length k l (Nat.le_refl _)]
      rw [decide_eq_false (by omega), cond_false]
      simp [markT]) 0 (Nat.zero_le _)
  simp only [nat0, Int.add_zero, markT, markI, List.drop_zero, List.nil_append] at hloop
  rw [M.laws_markIntS_l2, hloop, some_bind]
theorem heldIntS_ok (k : Int) (n : Nat) (h0 : 0 ≤ k) (h1 : k ≤ 1000000000) (hl : n ≤ 1000000000) : M.laws_heldIntS (encI (markI k n)) k = some (k + n) := by
  simp only [M.laws_heldIntS, M.laws_heldIntS_C]
  have hloop := loopM_run (b := M.laws_heldIntS_l2_b (encI (markI k n))) (t := .inr (k + n, (n : Int), false)) (fun i => (k + i, (i : Int))) n
    (by
      intro i hi
      simp only [M.laws_heldIntS_l2_b, M.laws_heldIntS_l2_C, encI_length, markI_length, idx_nat, get_encI, markI_get k n i hi, Option.map_some, some_bind, cI0, bne_self_eq_false, cond_false]
      rw [decide_eq_true (by omega), cond_true, wrap_ok (by omega) (by omega), wrap_ok (by omega) (by omega)]
      congr 3
      omega)
    (by
      simp only [M.laws_heldIntS_l2_b, M.laws_heldIntS_l2_C, encI_length, markI_length]
      rw [decide_eq_false (by omega), cond_false]) 0 (Nat.zero_le _)
  simp only [nat0, Int.add_zero] at hloop
  rw [M.laws_heldIntS_l2, hloop, some_bind]
  rfl
@[simp] theorem pure_encI (l : List Int) : pureRows (encI l) = true := by
  induction l with
  | nil => rfl
  | cons x l ih =>
    simp only [encI, List.map_cons] at ih ⊢
    simp [pureRows, pureRow, D.pure, ih]
@[simp] theorem pure_oneI (l : List Int) : [[D.sl true 1 (encI l)]].all pureRow = true := by
  simp [pureRow, D.pure]

/-! ### marks in texts -/
theorem markText_loop : ∀ (m : Nat) (k : Int) (s : List UInt8), 0 ≤ k → k.toNat ≤ m → s.length + k.toNat ≤ 4000000000000000000 → ∃ k' s' b, M.laws_markText_l4 (k, s) = some (k', s', b) ∧ s'.length ≤ 4000000000000000000
  | m, k, s, h0, h1, hs => by
    by_cases hk : 0 < k
    · cases m with
      | zero => omega
      | succ m =>
        have hd : k.tdiv 10 = k / 10 := Int.tdiv_eq_ediv_of_nonneg h0
        obtain ⟨y, hy⟩ : ∃ y, y = UInt8.ofNat (IntKind.u8.wrap (IntKind.i64.wrap (48 + k.tmod 10))).toNat := ⟨_, rfl⟩
        have hstep : M.laws_markText_l4_b (k, s) = some (.inl (k / 10, [y] ++ s)) := by
          simp only [M.laws_markText_l4_b, M.laws_markText_l4_C]
          rw [← hy, decide_eq_true (show k > 0 from hk), cond_true]
          have : ([y].length + s.length).ble 9223372036854775807 = true := by
            apply Nat.ble_eq_true_of_le
            simp
            omega
          rw [this, cond_true, hd, wrap_ok (by omega) (by omega)]
        obtain ⟨k', s', b, h2, h3⟩ := markText_loop m (k / 10) ([y] ++ s) (by omega) (by omega) (by simp; omega)
        refine ⟨k', s', b, ?_, h3⟩
        rw [M.laws_markText_l4, loopM_next hstep]
        exact h2
    · refine ⟨k, s, false, ?_, by omega⟩
      rw [M.laws_markText_l4]
      apply loopM_end
      simp only [M.laws_markText_l4_b, M.laws_markText_l4_C]
      rw [decide_eq_false (show ¬ k > 0 from hk), cond_false]
theorem markText_ok (k : Int) (h : k ≤ 4000000000000000000) : ∃ s, M.laws_markText k = some s := by
  simp only [M.laws_markText, M.laws_markText_C]
  by_cases hk : k ≤ 0
  · rw [decide_eq_true hk]; exact ⟨_, rfl⟩
  · rw [decide_eq_false hk, cond_false]
    obtain ⟨k', s', b, h2, h3⟩ := markText_loop k.toNat k [] (by omega) (Nat.le_refl _) (by simp; omega)
    rw [h2, some_bind]
    have : (1 + s'.length).ble 9223372036854775807 = true := by
      apply Nat.ble_eq_true_of_le
      omega
    rw [this]
    exact ⟨_, rfl⟩

/-! ### tokens -/
def wTs : List Tk → Nat
  | [] => 0
  | n :: l => n.text.length + wTs l
theorem szToken_ok (n : Tk) (L : Int) (h0 : 0 ≤ L) (h1 : L ≤ 1048576) (ht : n.text.length ≤ maxLen) : M.laws_szToken n.kind n.text n.at_ L = some (if (n.text.length : Int) ≤ L then L - n.text.length else -1) := by
  unfold maxLen at ht
  simp only [M.laws_szToken, M.laws_szToken_C]
  rw [wrap_ok (by omega) (by omega)]
  by_cases h : (n.text.length : Int) ≤ L
  · rw [decide_eq_false (by omega), if_pos h]; rfl
  · rw [decide_eq_true (by omega), if_neg h]; rfl
theorem foldE_szT (l : List Tk) (len : Nat) : ∀ w : Int, 0 ≤ w → foldE (fun (w : Int) (n : Tk) => (if (n.text.length : Int) ≤ w then .inl (w - n.text.length) else .inr (.inl ()) : Int ⊕ (Unit ⊕ (Int × Int × Bool)))) (fun w => .inr (w, (len : Int), false)) l w =
    if (wTs l : Int) ≤ w then .inr (w - wTs l, (len : Int), false) else .inl () := by
  induction l with
  | nil => intro w h; simp [foldE, wTs, h]
  | cons n l ih =>
    intro w h
    have hw : wTs (n :: l) = n.text.length + wTs l := rfl
    simp only [foldE]
    by_cases c : (n.text.length : Int) ≤ w
    · rw [if_pos c]
      simp only
      rw [ih (w - n.text.length) (by omega)]
      by_cases c2 : (wTs l : Int) ≤ w - n.text.length
      · rw [if_pos c2, if_pos (by omega)]
        congr 2
        omega
      · rw [if_neg c2, if_neg (by omega)]
    · rw [if_neg c, if_neg (by omega)]
theorem szTokenS_ok (l : List Tk) (L : Int) (h0 : 0 ≤ L) (h1 : L ≤ 1048576) (hl : l.length ≤ maxLen) (hf : ∀ n, n ∈ l → FitT n) :
    M.laws_szTokenS (encTs l) L = some (if (l.length + wTs l : Int) ≤ L then L - l.length - wTs l else -1) := by
  unfold maxLen at hl
  simp only [M.laws_szTokenS, M.laws_szTokenS_C, encTs_length]
  rw [wrap_ok (by omega) (by omega)]
  by_cases c : (l.length : Int) ≤ L
  · rw [decide_eq_false (by omega), cond_false]
    have hloop := loopM_list (M.laws_szTokenS_l5_b (encTs l)) l (fun i (w : Int) => (w, (i : Int)))
      (fun (w : Int) (n : Tk) => (if (n.text.length : Int) ≤ w then .inl (w - n.text.length) else .inr (.inl ()) : Int ⊕ (Unit ⊕ (Int × Int × Bool)))) (fun w => .inr (w, (l.length : Int), false)) (fun _ w => 0 ≤ w ∧ w ≤ 1048576)
      (by
        intro i n w hi hw
        have hlt := (List.getElem?_eq_some_iff.1 hi).1
        have hfn := hf n (List.mem_of_getElem? hi)
        simp only [M.laws_szTokenS_l5_b, M.laws_szTokenS_l5_C, encTs_length, idx_nat, get_encTs, hi, Option.map_some, some_bind, cT0, cT1, cT2]
        rw [decide_eq_true (by omega), cond_true, szToken_ok n w hw.1 hw.2 hfn.text, some_bind]
        by_cases c2 : (n.text.length : Int) ≤ w
        · rw [if_pos c2, decide_eq_false (by omega), cond_false, if_pos c2, wrap_ok (by omega) (by omega)]
          simp
        · rw [if_neg c2, decide_eq_true (by omega), cond_true, if_neg c2])
      (by
        intro i n w w' hi hw he
        by_cases c2 : (n.text.length : Int) ≤ w
        · simp only [c2, if_true, Sum.inl.injEq] at he
          omega
        · simp [c2] at he)
      (by
        intro w hw
        simp only [M.laws_szTokenS_l5_b, M.laws_szTokenS_l5_C, encTs_length]
        rw [decide_eq_false (by omega), cond_false])
      (L - l.length) (by omega)
    simp only [nat0] at hloop
    rw [M.laws_szTokenS_l5, hloop, some_bind, foldE_szT l l.length _ (by omega)]
    by_cases c2 : (wTs l : Int) ≤ L - l.length
    · rw [if_pos c2, if_pos (by omega)]
      rfl
    · rw [if_neg c2, if_neg (by omega)]
      rfl
  · rw [decide_eq_true (by omega), cond_true, if_neg (by omega)]
@[simp] theorem flat_encTs (l : List Tk) : flatRows (encTs l) = true := by
  simp only [flatRows, encTs, List.all_map, List.all_eq_true]
  intro x _
  rfl
theorem toTokenS_ok (l : List Tk) (hl : l.length ≤ 1048576) : M.laws_toTokenS (encTs l) = some (encTs l) := by
  simp only [M.laws_toTokenS, M.laws_toTokenS_C, encTs_length]
  rw [decide_eq_true (by omega), decide_eq_true (by omega), decide_eq_true (by omega), decide_eq_true (by omega)]
  simp only [Bool.and_true, cond_true, Int.toNat_natCast]
  have hloop := loopM_run (b := M.laws_toTokenS_l3_b (encTs l)) (t := ((l.length : Int), false, encTs l)) (fun i => ((i : Int), filled encT [D.int IntKind.i64 0, D.str [], D.int IntKind.i64 0] l i)) l.length
    (by
      intro i hi
      obtain ⟨x, hx⟩ : ∃ x, l[i]? = some x := ⟨l[i], by simp [hi]⟩
      simp only [M.laws_toTokenS_l3_b, M.laws_toTokenS_l3_C, M.laws_toToken, M.laws_toToken_C, encTs_length, idx_nat, get_encTs, hx, Option.map_some, some_bind, cT0, cT1, cT2, Int.toNat_natCast, filled_get _ _ l hi, cond_true]
      rw [decide_eq_true (by omega), cond_true, wrap_ok (by omega) (by omega)]
      have hs : splice [D.int IntKind.i64 0, D.str [], D.int IntKind.i64 0] 0 [D.int IntKind.i64 x.kind, D.str x.text, D.int IntKind.i64 x.at_] = encT x := rfl
      rw [hs, filled_set encT _ l hx]
      simp)
    (by
      simp only [M.laws_toTokenS_l3_b, M.laws_toTokenS_l3_C, encTs_length]
      rw [decide_eq_false (by omega), cond_false, filled_all]
      rfl) 0 (Nat.zero_le _)
  rw [M.laws_toTokenS_l3]
  simp only [filled_zero, nat0] at hloop
  rw [hloop, some_bind, flat_encTs]
  rfl
theorem eqTokenS_same (l : List Tk) (hl : l.length ≤ maxLen) : M.laws_eqTokenS (encTs l) (encTs l) = some true := by
  unfold maxLen at hl
  simp only [M.laws_eqTokenS, M.laws_eqTokenS_C, encTs_length, bne_self_eq_false, cond_false]
  have hloop := loopM_run (b := M.laws_eqTokenS_l4_b (encTs l) (encTs l)) (t := .inr ((l.length : Int), false)) (fun i => (i : Int)) l.length
    (by
      intro i hi
      obtain ⟨x, hx⟩ : ∃ x, l[i]? = some x := ⟨l[i], by simp [hi]⟩
      simp only [M.laws_eqTokenS_l4_b, M.laws_eqTokenS_l4_C, M.laws_eqToken, M.laws_eqToken_C, encTs_length, idx_nat, get_encTs, hx, Option.map_some, some_bind, cT0, cT1, cT2, bne_self_eq_false, beq_self_eq_true, Bool.not_true, cond_false]
      rw [decide_eq_true (by omega), cond_true, wrap_ok (by omega) (by omega)]
      simp)
    (by
      simp only [M.laws_eqTokenS_l4_b, M.laws_eqTokenS_l4_C, encTs_length]
      rw [decide_eq_false (by omega), cond_false]) 0 (Nat.zero_le _)
  rw [nat0] at hloop
  rw [M.laws_eqTokenS_l4, hloop, some_bind]
  rfl
theorem markTokenS_ok (k : Int) (l : List Tk) (h0 : 0 ≤ k) (h1 : k ≤ 1000000000) (hl : l.length ≤ 1000000000) : ∃ l', M.laws_markTokenS k (encTs l) = some (k + 3 * l.length, encTs l') := by
  simp only [M.laws_markTokenS, M.laws_markTokenS_C]
  have key : ∀ (d i : Nat) (m : List Tk), m.length = l.length → i + d = l.length → ∃ m' : List Tk, M.laws_markTokenS_l2 (k + 3 * i, (i : Int), encTs m) = some (k + 3 * l.length, (l.length : Int), false, encTs m') := by
    intro d
    induction d with
    | zero =>
      intro i m hm hi
      refine ⟨m, ?_⟩
      rw [M.laws_markTokenS_l2]
      apply loopM_end
      simp only [M.laws_markTokenS_l2_b, M.laws_markTokenS_l2_C, encTs_length]
      rw [decide_eq_false (by omega), cond_false]
      have : i = l.length := by omega
      subst this
      rfl
    | succ d ih =>
      intro i m hm hi
      obtain ⟨x, hx⟩ : ∃ x, m[i]? = some x := ⟨m[i]'(by omega), by simp⟩
      obtain ⟨s, hs⟩ := markText_ok (k + 3 * i + 1) (by omega)
      obtain ⟨m', hm'⟩ := ih (i + 1) (m.set i ⟨k + 3 * i, s, k + 3 * i + 1 + 1⟩) (by simpa using hm) (by omega)
      refine ⟨m', ?_⟩
      rw [M.laws_markTokenS_l2] at hm' ⊢
      rw [loopM_next (s' := (k + 3 * ((i + 1 : Nat) : Int), ((i + 1 : Nat) : Int), encTs (m.set i ⟨k + 3 * i, s, k + 3 * i + 1 + 1⟩))) ?_]
      · exact hm'
      · have hil : i < m.length := by omega
        have g1 : ∀ (r : Row), ((encTs m).set i r)[i]? = some r := fun r => by simp [hil]
        have g2 : ∀ (r r' : Row), (((encTs m).set i r).set i r')[i]? = some r' := fun r r' => by simp [hil]
        simp only [M.laws_markTokenS_l2_b, M.laws_markTokenS_l2_C, encTs_length, idx_nat, get_encTs, hx, Option.map_some, some_bind, Int.toNat_natCast, g1, g2]
        rw [decide_eq_true (by omega), cond_true, wrap_ok (n := k + 3 * i + 1) (by omega) (by omega), hs, some_bind, wrap_ok (n := k + 3 * i + 1 + 1) (by omega) (by omega), wrap_ok (n := k + 3 * i + 1 + 1 + 1) (by omega) (by omega), wrap_ok (n := (i : Int) + 1) (by omega) (by omega)]
        have e : ((encTs m).set i (splice (encT x) 0 [D.int IntKind.i64 (k + 3 * i)])).set i (splice (splice (encT x) 0 [D.int IntKind.i64 (k + 3 * i)]) 1 [D.str s]) = (encTs m).set i (splice (splice (encT x) 0 [D.int IntKind.i64 (k + 3 * i)]) 1 [D.str s]) := by simp
        have e2 : encTs (m.set i ⟨k + 3 * i, s, k + 3 * i + 1 + 1⟩) = (encTs m).set i (encT ⟨k + 3 * i, s, k + 3 * i + 1 + 1⟩) := by simp [encTs, List.map_set]
        rw [e2]
        simp only [List.set_set]
        congr 3
        omega
  obtain ⟨l', h⟩ := key l.length 0 l rfl (by omega)
  simp only [nat0] at h
  rw [show k + 3 * 0 = k by omega] at h
  exact ⟨l', by rw [h, some_bind]⟩
end Go.Proofs.Ytfbemlhfieemhaa
