import Derived.Test.YtodbelembghegaaGreatDoorZTree
import Derived.Test.YtodbelembghegaaGreatDoorVm4
namespace Go.Proofs.YtodbelembghegaaGreatDoor
set_option linter.unusedVariables false
set_option linter.unusedSimpArgs false
open Go Go.Vm
def markI (k : Int) : Nat → List Int
  | 0 => []
  | n + 1 => k :: markI (k + 1) n
theorem markI_length (k : Int) (n : Nat) : (markI k n).length = n := by
  induction n generalizing k with
  | zero => rfl
  | succ n ih => simp [markI, ih]
theorem markI_get (k : Int) (n i : Nat) (h : i < n) : (markI k n)[i]? = some (k + i) := by
  induction n generalizing k i with
  | zero => omega
  | succ n ih =>
    cases i with
    | zero => simp [markI]
    | succ i =>
      simp only [markI, List.getElem?_cons_succ]
      rw [ih (k + 1) i (by omega)]
      congr 1
      omega
def markT (k : Int) (l : List Int) (i : Nat) : List Int := markI k i ++ l.drop i
theorem markT_get {k : Int} {l : List Int} {i : Nat} (h : i < l.length) : (markT k l i)[i]? = l[i]? := by
  unfold markT
  rw [List.getElem?_append_right (by simp [markI_length])]
  simp [markI_length]
theorem markI_snoc (k : Int) (n : Nat) : markI k (n + 1) = markI k n ++ [k + n] := by
  induction n generalizing k with
  | zero => simp [markI]
  | succ n ih =>
    rw [markI, ih (k + 1), markI]
    simp
    omega
theorem markT_set {k : Int} {l : List Int} {i : Nat} (h : i < l.length) : (markT k l i).set i (k + i) = markT k l (i + 1) := by
  unfold markT
  obtain ⟨x, hx⟩ : ∃ x, l[i]? = some x := ⟨l[i], by simp [h]⟩
  have hd : l.drop i = x :: l.drop (i + 1) := by
    rw [List.drop_eq_getElem_cons h]
    rw [List.getElem?_eq_getElem h] at hx
    rw [Option.some.inj hx]
  rw [hd]
  have := set_append_at (markI k i) (l.drop (i + 1)) x (k + i)
  rw [markI_length] at this
  rw [this, markI_snoc]
  simp
theorem markT_length (k : Int) (l : List Int) {i : Nat} (h : i ≤ l.length) : (markT k l i).length = l.length := by
  simp [markT, markI_length]
  omega
theorem markIntS_ok (k : Int) (l : List Int) (h0 : 0 ≤ k) (h1 : k ≤ 1000000000) (hl : l.length ≤ 1000000000) : M.laws_markIntS k (encI l) = some (k + l.length, encI (markI k l.length)) := by
  simp only [M.laws_markIntS, M.laws_markIntS_C]
  have hloop := loopM_run (b := M.laws_markIntS_l2_b) (t := (k + l.length, (l.length : Int), encI (markI k l.length))) (fun i => (k + i, (i : Int), encI (markT k l i))) l.length
    (by
      intro i hi
      obtain ⟨x, hx⟩ : ∃ x, l[i]? = some x := ⟨l[i], by simp [hi]⟩
      simp only [M.laws_markIntS_l2_b, M.laws_markIntS_l2_C, encI_length, markT_length k l (Nat.le_of_lt hi), idx_nat, get_encI, markT_get hi, hx, Option.map_some, some_bind, Int.toNat_natCast]
      rw [decide_eq_true (by omega), cond_true, wrap_ok (by omega) (by omega), wrap_ok (by omega) (by omega)]
      have hs : splice [D.int IntKind.i64 x] 0 [D.int IntKind.i64 (k + i)] = [D.int IntKind.i64 (k + i)] := rfl
      rw [hs, encI_set, markT_set hi]
      congr 3
      omega)
    (by
      simp only [M.laws_markIntS_l2_b, M.laws_markIntS_l2_C, encI_length, markT_length k l (Nat.le_refl _)]
      rw [decide_eq_false (by omega), cond_false]
      simp [markT]) 0 (Nat.zero_le _)
  simp only [nat0, Int.add_zero, markT, markI, List.drop_zero, List.nil_append] at hloop
  rw [M.laws_markIntS_l2, hloop, some_bind]
theorem heldIntS_ok (k : Int) (n : Nat) (h0 : 0 ≤ k) (h1 : k ≤ 1000000000) (hl : n ≤ 1000000000) : M.laws_heldIntS (encI (markI k n)) k = some (k + n) := by
  simp only [M.laws_heldIntS, M.laws_heldIntS_C]
  have hloop := loopM_run (b := M.laws_heldIntS_l2_b (encI (markI k n))) (t := .inr (k + n, (n : Int))) (fun i => (k + i, (i : Int))) n
    (by
      intro i hi
      simp only [M.laws_heldIntS_l2_b, M.laws_heldIntS_l2_C, encI_length, markI_length, idx_nat, get_encI, markI_get k n i hi, Option.map_some, some_bind, cI0, bne_self_eq_false, cond_false]
      rw [decide_eq_true (by omega), cond_true, wrap_ok (by omega) (by omega), wrap_ok (by omega) (by omega)]
      congr 3
      omega)
    (by
      simp only [M.laws_heldIntS_l2_b, M.laws_heldIntS_l2_C, encI_length, markI_length]
      rw [decide_eq_false (by omega), cond_false]) 0 (Nat.zero_le _)
  simp only [nat0, Int.add_zero] at hloop
  rw [M.laws_heldIntS_l2, hloop, some_bind]
  rfl
@[simp] theorem pure_encI (l : List Int) : pureRows (encI l) = true := by
  induction l with
  | nil => rfl
  | cons x l ih =>
    simp only [encI, List.map_cons] at ih ⊢
    simp [pureRows, pureRow, D.pure, ih]
@[simp] theorem pure_oneI (l : List Int) : [[D.sl true 1 (encI l)]].all pureRow = true := by
  simp [pureRow, D.pure]
theorem markText_loop : ∀ (m : Nat) (k : Int) (s : List UInt8), 0 ≤ k → k.toNat ≤ m → s.length + k.toNat ≤ 4000000000000000000 → ∃ k' s', M.laws_markText_l4 (k, s) = some (k', s') ∧ s'.length ≤ 4000000000000000000
  | m, k, s, h0, h1, hs => by
    by_cases hk : 0 < k
    · cases m with
      | zero => omega
      | succ m =>
        have hd : k.tdiv 10 = k / 10 := Int.tdiv_eq_ediv_of_nonneg h0
        obtain ⟨y, hy⟩ : ∃ y, y = UInt8.ofNat (IntKind.u8.wrap (IntKind.i64.wrap (48 + k.tmod 10))).toNat := ⟨_, rfl⟩
        have hstep : M.laws_markText_l4_b (k, s) = some (.inl (k / 10, [y] ++ s)) := by
          simp only [M.laws_markText_l4_b, M.laws_markText_l4_C]
          rw [← hy, decide_eq_true (show k > 0 from hk), cond_true]
          have : ([y].length + s.length).ble 9223372036854775807 = true := by
            apply Nat.ble_eq_true_of_le
            simp
            omega
          rw [this, cond_true, hd, wrap_ok (by omega) (by omega)]
        obtain ⟨k', s', h2, h3⟩ := markText_loop m (k / 10) ([y] ++ s) (by omega) (by omega) (by simp; omega)
        refine ⟨k', s', ?_, h3⟩
        rw [M.laws_markText_l4, loopM_next hstep]
        exact h2
    · refine ⟨k, s, ?_, by omega⟩
      rw [M.laws_markText_l4]
      apply loopM_end
      simp only [M.laws_markText_l4_b, M.laws_markText_l4_C]
      rw [decide_eq_false (show ¬ k > 0 from hk), cond_false]
noncomputable def mk (k : Int) : Str := (M.laws_markText k).getD []
theorem markText_ok (k : Int) (h : k ≤ 4000000000000000000) : M.laws_markText k = some (mk k) := by
  have : ∃ s, M.laws_markText k = some s := by
    simp only [M.laws_markText, M.laws_markText_C]
    by_cases hk : k ≤ 0
    · rw [decide_eq_true hk]; exact ⟨_, rfl⟩
    · rw [decide_eq_false hk, cond_false]
      obtain ⟨k', s', h2, h3⟩ := markText_loop k.toNat k [] (by omega) (Nat.le_refl _) (by simp; omega)
      rw [h2, some_bind]
      have : (1 + s'.length).ble 9223372036854775807 = true := by
        apply Nat.ble_eq_true_of_le
        omega
      rw [this]
      exact ⟨_, rfl⟩
  obtain ⟨s, hs⟩ := this
  rw [mk, hs]
  rfl
noncomputable def mkNode (k : Int) (n : Nd) : Nd := ⟨k, k + 1, mk (k + 2), mk (k + 3), markI (k + 4) n.kids.length⟩
def wK : List Nd → Nat
  | [] => 0
  | n :: l => 4 + n.kids.length + wK l
theorem wK_append : ∀ a b : List Nd, wK (a ++ b) = wK a + wK b
  | [], b => by simp [wK]
  | n :: a, b => by rw [List.cons_append, wK, wK, wK_append a b]; omega
noncomputable def mkNodes (k : Int) : List Nd → List Nd
  | [] => []
  | n :: l => mkNode k n :: mkNodes (k + 4 + n.kids.length) l
theorem mkNodes_length (k : Int) (l : List Nd) : (mkNodes k l).length = l.length := by
  induction l generalizing k with
  | nil => rfl
  | cons n l ih => rw [mkNodes, List.length_cons, ih, List.length_cons]
theorem mkNodes_append (k : Int) (a b : List Nd) : mkNodes k (a ++ b) = mkNodes k a ++ mkNodes (k + wK a) b := by
  induction a generalizing k with
  | nil => simp [mkNodes, wK]
  | cons n a ih =>
    have e : k + 4 + (n.kids.length : Int) + (wK a : Int) = k + (wK (n :: a) : Int) := by rw [wK]; omega
    rw [List.cons_append, mkNodes, mkNodes, ih, e, List.cons_append]
theorem mkNodes_get (k : Int) {l : List Nd} {i : Nat} {n : Nd} (h : l[i]? = some n) : (mkNodes k l)[i]? = some (mkNode (k + wK (l.take i)) n) := by
  obtain ⟨hi, rfl⟩ := List.getElem?_eq_some_iff.1 h
  have e : l = l.take i ++ l[i] :: l.drop (i + 1) := by
    rw [← List.drop_eq_getElem_cons hi, List.take_append_drop]
  have hl : (mkNodes k (l.take i)).length = i := by rw [mkNodes_length, List.length_take]; omega
  have h2 : mkNodes k l = mkNodes k (l.take i) ++ mkNodes (k + wK (l.take i)) (l[i] :: l.drop (i + 1)) := by
    rw [← mkNodes_append, ← e]
  rw [h2, List.getElem?_append_right (by omega), hl, Nat.sub_self, mkNodes]
  rfl
theorem at_idx {α : Type} (a : List α) (x : α) (b : List α) {i : Nat} (h : a.length = i) : idx (a ++ x :: b) (i : Int) = some x := by
  rw [idx_nat, List.getElem?_append_right (by omega)]
  simp [h]
theorem at_get {α : Type} (a : List α) (x : α) (b : List α) {i : Nat} (h : a.length = i) : (a ++ x :: b)[i]? = some x := by
  rw [List.getElem?_append_right (by omega)]
  simp [h]
theorem at_set {α : Type} (a : List α) (x y : α) (b : List α) {i : Nat} (h : a.length = i) : (a ++ x :: b).set i y = a ++ y :: b := by
  subst h
  exact set_append_at a b x y
theorem encNs_append (o : Bool) (a b : List Nd) : encNs o (a ++ b) = encNs o a ++ encNs o b := by simp [encNs]
theorem wK_take_lt {l : List Nd} {i : Nat} {n : Nd} (h : l[i]? = some n) : wK (l.take i) + 4 + n.kids.length ≤ wK l := by
  obtain ⟨hi, rfl⟩ := List.getElem?_eq_some_iff.1 h
  have e : l = l.take i ++ l[i] :: l.drop (i + 1) := by
    rw [← List.drop_eq_getElem_cons hi, List.take_append_drop]
  have := congrArg wK e
  rw [wK_append, wK] at this
  omega
theorem wK_len : ∀ l : List Nd, l.length ≤ wK l
  | [] => Nat.le_refl _
  | n :: l => by have := wK_len l; rw [wK, List.length_cons]; omega
theorem wK_succ {l : List Nd} {i : Nat} {n : Nd} (h : l[i]? = some n) : wK (l.take (i + 1)) = wK (l.take i) + (4 + n.kids.length) := by
  rw [List.take_add_one, h, wK_append]
  rfl
theorem markNodeS_ok (k : Int) (l : List Nd) (h0 : 0 ≤ k) (h1 : k + wK l ≤ 900000000) : M.laws_markNodeS k (encNs true l) = some (k + wK l, encNs true (mkNodes k l)) := by
  simp only [M.laws_markNodeS, M.laws_markNodeS_C]
  have hwl := wK_len l
  have hloop := loopM_run (b := M.laws_markNodeS_l2_b) (t := (k + wK l, (l.length : Int), encNs true (mkNodes k l))) (fun i => (k + wK (l.take i), (i : Int), encNs true (mkNodes k (l.take i)) ++ encNs true (l.drop i))) l.length
    (by
      intro i hi
      obtain ⟨n, hn⟩ : ∃ n, l[i]? = some n := ⟨l[i], by simp [hi]⟩
      have hd : l.drop i = n :: l.drop (i + 1) := by
        rw [List.drop_eq_getElem_cons hi]
        rw [List.getElem?_eq_getElem hi] at hn
        rw [Option.some.inj hn]
      have hla : (encNs true (mkNodes k (l.take i))).length = i := by rw [encNs_length, mkNodes_length, List.length_take]; omega
      have hw := wK_take_lt hn
      generalize hK : k + (wK (l.take i) : Int) = K
      have w1 : IntKind.i64.wrap (K + 1) = K + 1 := wrap_ok (by omega) (by omega)
      have w2 : IntKind.i64.wrap (K + 1 + 1) = K + 2 := (wrap_ok (by omega) (by omega)).trans (by omega)
      have w3 : IntKind.i64.wrap (K + 2 + 1) = K + 3 := (wrap_ok (by omega) (by omega)).trans (by omega)
      have w4 : IntKind.i64.wrap (K + 3 + 1) = K + 4 := (wrap_ok (by omega) (by omega)).trans (by omega)
      have hm := markIntS_ok (K + 4) n.kids (by omega) (by omega) (by omega)
      have hlen : decide ((i : Int) < ((encNs true (mkNodes k (l.take i)) ++ encN true n :: encNs true (l.drop (i + 1))).length : Int)) = true := decide_eq_true (by
        rw [List.length_append, hla, List.length_cons]; omega)
      have he : encNs true (n :: l.drop (i + 1)) = encN true n :: encNs true (l.drop (i + 1)) := rfl
      have s0 : splice (encN true n) 0 [D.int .i64 K] = [.int .i64 K, .int .i64 n.op, .str n.text, .str n.other, .sl true 1 (encI n.kids)] := rfl
      have s1 : splice [D.int .i64 K, .int .i64 n.op, .str n.text, .str n.other, .sl true 1 (encI n.kids)] 1 [D.int .i64 (K + 1)] = [.int .i64 K, .int .i64 (K + 1), .str n.text, .str n.other, .sl true 1 (encI n.kids)] := rfl
      have s2 : splice [D.int .i64 K, .int .i64 (K + 1), .str n.text, .str n.other, .sl true 1 (encI n.kids)] 2 [D.str (mk (K + 2))] = [.int .i64 K, .int .i64 (K + 1), .str (mk (K + 2)), .str n.other, .sl true 1 (encI n.kids)] := rfl
      have s3 : splice [D.int .i64 K, .int .i64 (K + 1), .str (mk (K + 2)), .str n.other, .sl true 1 (encI n.kids)] 3 [D.str (mk (K + 3))] = [.int .i64 K, .int .i64 (K + 1), .str (mk (K + 2)), .str (mk (K + 3)), .sl true 1 (encI n.kids)] := rfl
      have s4 : ∀ r, splice [D.int .i64 K, .int .i64 (K + 1), .str (mk (K + 2)), .str (mk (K + 3)), .sl true 1 (encI n.kids)] 4 [D.sl true 1 r] = [.int .i64 K, .int .i64 (K + 1), .str (mk (K + 2)), .str (mk (K + 3)), .sl true 1 r] := fun _ => rfl
      have c4 : cOwn 1 [D.int .i64 K, .int .i64 (K + 1), .str (mk (K + 2)), .str (mk (K + 3)), .sl true 1 (encI n.kids)] 4 = some (encI n.kids) := rfl
      have hb : (Nat.beq 1 1 && (true == true && (true && true))) = true := rfl
      simp only [hd, M.laws_markNodeS_l2_b, M.laws_markNodeS_l2_C, hlen, cond_true, he, at_idx _ _ _ hla, Int.toNat_natCast, at_get _ _ _ hla, at_set _ _ _ _ hla, some_bind, s0, s1, s2, s3, s4, c4, w1, w2, w3, w4, markText_ok (K + 2) (by omega), markText_ok (K + 3) (by omega), flat_encI, pure_encI, hm, hb]
      rw [wrap_ok (by omega) (by omega), wK_succ hn, List.take_add_one, hn, Option.toList_some, mkNodes_append, encNs_append]
      have e2 : mkNodes (k + (wK (l.take i) : Int)) [n] = [mkNode K n] := by rw [hK]; rfl
      have e3 : encNs true [mkNode K n] = [[D.int .i64 K, .int .i64 (K + 1), .str (mk (K + 2)), .str (mk (K + 3)), .sl true 1 (encI (markI (K + 4) n.kids.length))]] := rfl
      rw [e2, e3, List.append_assoc]
      congr 3
      omega)
    (by
      simp only [M.laws_markNodeS_l2_b, M.laws_markNodeS_l2_C, List.take_length, List.drop_length]
      have hlen : decide ((l.length : Int) < ((encNs true (mkNodes k l) ++ encNs true []).length : Int)) = false := decide_eq_false (by
        rw [List.length_append, encNs_length, mkNodes_length]; simp [encNs])
      rw [hlen, cond_false]
      simp [encNs]) 0 (Nat.zero_le _)
  have e0 : encNs true (mkNodes k (l.take 0)) ++ encNs true (l.drop 0) = encNs true l := by simp [mkNodes, encNs]
  have e1 : k + (wK (l.take 0) : Int) = k := by simp [wK]
  rw [e0, e1, nat0] at hloop
  rw [M.laws_markNodeS_l2, hloop, some_bind]
theorem heldNodeS_ok (k : Int) (l : List Nd) (h0 : 0 ≤ k) (h1 : k + wK l ≤ 900000000) : M.laws_heldNodeS (fzRows (encNs true (mkNodes k l))) k = some (k + wK l) := by
  simp only [M.laws_heldNodeS, M.laws_heldNodeS_C, fz_encNs]
  have hwl := wK_len l
  have hloop := loopM_run (b := M.laws_heldNodeS_l2_b (encNs false (mkNodes k l))) (t := .inr (k + wK l, (l.length : Int))) (fun i => (k + wK (l.take i), (i : Int))) l.length
    (by
      intro i hi
      obtain ⟨n, hn⟩ : ∃ n, l[i]? = some n := ⟨l[i], by simp [hi]⟩
      have hw := wK_take_lt hn
      have hg := mkNodes_get k hn
      generalize hK : k + (wK (l.take i) : Int) = K at hg ⊢
      have w1 : IntKind.i64.wrap (K + 1) = K + 1 := wrap_ok (by omega) (by omega)
      have w2 : IntKind.i64.wrap (K + 1 + 1) = K + 2 := (wrap_ok (by omega) (by omega)).trans (by omega)
      have w3 : IntKind.i64.wrap (K + 2 + 1) = K + 3 := (wrap_ok (by omega) (by omega)).trans (by omega)
      have w4 : IntKind.i64.wrap (K + 3 + 1) = K + 4 := (wrap_ok (by omega) (by omega)).trans (by omega)
      have hm := heldIntS_ok (K + 4) n.kids.length (by omega) (by omega) (by omega)
      have d1 : decide (K + 4 + (n.kids.length : Int) < 0) = false := decide_eq_false (by omega)
      have hlen : decide ((i : Int) < ((encNs false (mkNodes k l)).length : Int)) = true := decide_eq_true (by rw [encNs_length, mkNodes_length]; omega)
      have hr : idx (encNs false (mkNodes k l)) (i : Int) = some [D.int .i64 K, .int .i64 (K + 1), .str (mk (K + 2)), .str (mk (K + 3)), .sl false 1 (encI (markI (K + 4) n.kids.length))] := by
        rw [idx_nat, get_encNs, hg]; rfl
      have c0 : cInt .i64 [D.int .i64 K, .int .i64 (K + 1), .str (mk (K + 2)), .str (mk (K + 3)), .sl false 1 (encI (markI (K + 4) n.kids.length))] 0 = some K := rfl
      have c1 : cInt .i64 [D.int .i64 K, .int .i64 (K + 1), .str (mk (K + 2)), .str (mk (K + 3)), .sl false 1 (encI (markI (K + 4) n.kids.length))] 1 = some (K + 1) := rfl
      have c2 : cStr [D.int .i64 K, .int .i64 (K + 1), .str (mk (K + 2)), .str (mk (K + 3)), .sl false 1 (encI (markI (K + 4) n.kids.length))] 2 = some (mk (K + 2)) := rfl
      have c3 : cStr [D.int .i64 K, .int .i64 (K + 1), .str (mk (K + 2)), .str (mk (K + 3)), .sl false 1 (encI (markI (K + 4) n.kids.length))] 3 = some (mk (K + 3)) := rfl
      have c4 : cSl 1 [D.int .i64 K, .int .i64 (K + 1), .str (mk (K + 2)), .str (mk (K + 3)), .sl false 1 (encI (markI (K + 4) n.kids.length))] 4 = some (encI (markI (K + 4) n.kids.length)) := rfl
      simp only [M.laws_heldNodeS_l2_b, M.laws_heldNodeS_l2_C, hlen, cond_true, cond_false, hr, some_bind, c0, c1, c2, c3, c4, w1, w2, w3, w4, bne_self_eq_false, markText_ok (K + 2) (by omega), markText_ok (K + 3) (by omega), beq_self_eq_true, Bool.not_true, hm, d1]
      rw [wrap_ok (by omega) (by omega), wK_succ hn]
      congr 3
      omega)
    (by
      have hlen : decide ((l.length : Int) < ((encNs false (mkNodes k l)).length : Int)) = false := decide_eq_false (by rw [encNs_length, mkNodes_length]; omega)
      simp only [M.laws_heldNodeS_l2_b, M.laws_heldNodeS_l2_C, List.take_length, hlen, cond_false]) 0 (Nat.zero_le _)
  have e1 : k + (wK (l.take 0) : Int) = k := by simp [wK]
  rw [e1, nat0] at hloop
  rw [M.laws_heldNodeS_l2, hloop, some_bind]
  rfl
theorem pure_encNs : ∀ l : List Nd, pureRows (encNs true l) = true
  | [] => rfl
  | n :: l => by
    have : encNs true (n :: l) = encN true n :: encNs true l := rfl
    rw [this, pureRows, pure_encNs l]
    simp [encN, pureRow, D.pure]
theorem pure_oneN (l : List Nd) : [[D.sl true 5 (encNs true l)]].all pureRow = true := by simp [pureRow, D.pure, pure_encNs]
theorem pure_oneNB (l : List Nd) (b : Bool) : [[D.sl true 5 (encNs true l)], [D.bool b]].all pureRow = true := by simp [pureRow, D.pure, pure_encNs]
end Go.Proofs.YtodbelembghegaaGreatDoor
