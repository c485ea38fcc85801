import Derived.Test.YtpcdaeebbpedoaaGreatDoorZMarks
namespace Go.Proofs.YtpcdaeebbpedoaaGreatDoor
set_option linter.unusedVariables false
set_option linter.unusedSimpArgs false
open Go Go.Vm
noncomputable def mkNode (k : Int) (n : Nd) : Nd := ⟨k, k + 1, mk (k + 2), mk (k + 3), markI (k + 4) n.kids.length⟩
def wK : List Nd → Nat
  | [] => 0
  | n :: l => 4 + n.kids.length + wK l
theorem wK_append : ∀ a b : List Nd, wK (a ++ b) = wK a + wK b
  | [], b => by simp [wK]
  | n :: a, b => by rw [List.cons_append, wK, wK, wK_append a b]; omega
noncomputable def mkNodes (k : Int) : List Nd → List Nd
  | [] => []
  | n :: l => mkNode k n :: mkNodes (k + 4 + n.kids.length) l
theorem mkNodes_length (k : Int) (l : List Nd) : (mkNodes k l).length = l.length := by
  induction l generalizing k with
  | nil => rfl
  | cons n l ih => rw [mkNodes, List.length_cons, ih, List.length_cons]
theorem mkNodes_append (k : Int) (a b : List Nd) : mkNodes k (a ++ b) = mkNodes k a ++ mkNodes (k + wK a) b := by
  induction a generalizing k with
  | nil => simp [mkNodes, wK]
  | cons n a ih =>
    have e : k + 4 + (n.kids.length : Int) + (wK a : Int) = k + (wK (n :: a) : Int) := by rw [wK]; omega
    rw [List.cons_append, mkNodes, mkNodes, ih, e, List.cons_append]
theorem mkNodes_get (k : Int) {l : List Nd} {i : Nat} {n : Nd} (h : l[i]? = some n) : (mkNodes k l)[i]? = some (mkNode (k + wK (l.take i)) n) := by
  obtain ⟨hi, rfl⟩ := List.getElem?_eq_some_iff.1 h
  have e : l = l.take i ++ l[i] :: l.drop (i + 1) := by
    rw [← List.drop_eq_getElem_cons hi, List.take_append_drop]
  have hl : (mkNodes k (l.take i)).length = i := by rw [mkNodes_length, List.length_take]; omega
  have h2 : mkNodes k l = mkNodes k (l.take i) ++ mkNodes (k + wK (l.take i)) (l[i] :: l.drop (i + 1)) := by
    rw [← mkNodes_append, ← e]
  rw [h2, List.getElem?_append_right (by omega), hl, Nat.sub_self, mkNodes]
  rfl
theorem wK_take_lt {l : List Nd} {i : Nat} {n : Nd} (h : l[i]? = some n) : wK (l.take i) + 4 + n.kids.length ≤ wK l := by
  obtain ⟨hi, rfl⟩ := List.getElem?_eq_some_iff.1 h
  have e : l = l.take i ++ l[i] :: l.drop (i + 1) := by
    rw [← List.drop_eq_getElem_cons hi, List.take_append_drop]
  have := congrArg wK e
  rw [wK_append, wK] at this
  omega
theorem wK_len : ∀ l : List Nd, l.length ≤ wK l
  | [] => Nat.le_refl _
  | n :: l => by have := wK_len l; rw [wK, List.length_cons]; omega
theorem wK_succ {l : List Nd} {i : Nat} {n : Nd} (h : l[i]? = some n) : wK (l.take (i + 1)) = wK (l.take i) + (4 + n.kids.length) := by
  rw [List.take_add_one, h, wK_append]
  rfl
theorem markNodeS_ok (k : Int) (l : List Nd) (h0 : 0 ≤ k) (h1 : k + wK l ≤ 900000000) : M.laws_markNodeS k (encNs true l) = some (k + wK l, encNs true (mkNodes k l)) := by
  simp only [M.laws_markNodeS, M.laws_markNodeS_C]
  have hwl := wK_len l
  have hloop := loopM_run (b := M.laws_markNodeS_l2_b) (t := (k + wK l, (l.length : Int), encNs true (mkNodes k l))) (fun i => (k + wK (l.take i), (i : Int), encNs true (mkNodes k (l.take i)) ++ encNs true (l.drop i))) l.length
    (by
      intro i hi
      obtain ⟨n, hn⟩ : ∃ n, l[i]? = some n := ⟨l[i], by simp [hi]⟩
      have hd : l.drop i = n :: l.drop (i + 1) := by
        rw [List.drop_eq_getElem_cons hi]
        rw [List.getElem?_eq_getElem hi] at hn
        rw [Option.some.inj hn]
      have hla : (encNs true (mkNodes k (l.take i))).length = i := by rw [encNs_length, mkNodes_length, List.length_take]; omega
      have hw := wK_take_lt hn
      generalize hK : k + (wK (l.take i) : Int) = K
      have w1 : IntKind.i64.wrap (K + 1) = K + 1 := wrap_ok (by omega) (by omega)
      have w2 : IntKind.i64.wrap (K + 1 + 1) = K + 2 := (wrap_ok (by omega) (by omega)).trans (by omega)
      have w3 : IntKind.i64.wrap (K + 2 + 1) = K + 3 := (wrap_ok (by omega) (by omega)).trans (by omega)
      have w4 : IntKind.i64.wrap (K + 3 + 1) = K + 4 := (wrap_ok (by omega) (by omega)).trans (by omega)
      have hm := markIntS_ok (K + 4) n.kids (by omega) (by omega) (by omega)
      have hlen : decide ((i : Int) < ((encNs true (mkNodes k (l.take i)) ++ encN true n :: encNs true (l.drop (i + 1))).length : Int)) = true := decide_eq_true (by
        rw [List.length_append, hla, List.length_cons]; omega)
      have he : encNs true (n :: l.drop (i + 1)) = encN true n :: encNs true (l.drop (i + 1)) := rfl
      have s0 : splice (encN true n) 0 [D.int .i64 K] = [.int .i64 K, .int .i64 n.op, .str n.text, .str n.other, .sl true 1 (encI n.kids)] := rfl
      have s1 : splice [D.int .i64 K, .int .i64 n.op, .str n.text, .str n.other, .sl true 1 (encI n.kids)] 1 [D.int .i64 (K + 1)] = [.int .i64 K, .int .i64 (K + 1), .str n.text, .str n.other, .sl true 1 (encI n.kids)] := rfl
      have s2 : splice [D.int .i64 K, .int .i64 (K + 1), .str n.text, .str n.other, .sl true 1 (encI n.kids)] 2 [D.str (mk (K + 2))] = [.int .i64 K, .int .i64 (K + 1), .str (mk (K + 2)), .str n.other, .sl true 1 (encI n.kids)] := rfl
      have s3 : splice [D.int .i64 K, .int .i64 (K + 1), .str (mk (K + 2)), .str n.other, .sl true 1 (encI n.kids)] 3 [D.str (mk (K + 3))] = [.int .i64 K, .int .i64 (K + 1), .str (mk (K + 2)), .str (mk (K + 3)), .sl true 1 (encI n.kids)] := rfl
      have s4 : ∀ r, splice [D.int .i64 K, .int .i64 (K + 1), .str (mk (K + 2)), .str (mk (K + 3)), .sl true 1 (encI n.kids)] 4 [D.sl true 1 r] = [.int .i64 K, .int .i64 (K + 1), .str (mk (K + 2)), .str (mk (K + 3)), .sl true 1 r] := fun _ => rfl
      have c4 : cOwn 1 [D.int .i64 K, .int .i64 (K + 1), .str (mk (K + 2)), .str (mk (K + 3)), .sl true 1 (encI n.kids)] 4 = some (encI n.kids) := rfl
      have hb : (Nat.beq 1 1 && (true == true && (true && true))) = true := rfl
      simp only [hd, M.laws_markNodeS_l2_b, M.laws_markNodeS_l2_C, hlen, cond_true, he, at_idx _ _ _ hla, Int.toNat_natCast, at_get _ _ _ hla, at_set _ _ _ _ hla, some_bind, s0, s1, s2, s3, s4, c4, w1, w2, w3, w4, markText_ok (K + 2) (by omega), markText_ok (K + 3) (by omega), flat_encI, pure_encI, hm, hb]
      rw [wrap_ok (by omega) (by omega), wK_succ hn, List.take_add_one, hn, Option.toList_some, mkNodes_append, encNs_append]
      have e2 : mkNodes (k + (wK (l.take i) : Int)) [n] = [mkNode K n] := by rw [hK]; rfl
      have e3 : encNs true [mkNode K n] = [[D.int .i64 K, .int .i64 (K + 1), .str (mk (K + 2)), .str (mk (K + 3)), .sl true 1 (encI (markI (K + 4) n.kids.length))]] := rfl
      rw [e2, e3, List.append_assoc]
      congr 3
      omega)
    (by
      simp only [M.laws_markNodeS_l2_b, M.laws_markNodeS_l2_C, List.take_length, List.drop_length]
      have hlen : decide ((l.length : Int) < ((encNs true (mkNodes k l) ++ encNs true []).length : Int)) = false := decide_eq_false (by
        rw [List.length_append, encNs_length, mkNodes_length]; simp [encNs])
      rw [hlen, cond_false]
      simp [encNs]) 0 (Nat.zero_le _)
  have e0 : encNs true (mkNodes k (l.take 0)) ++ encNs true (l.drop 0) = encNs true l := by simp [mkNodes, encNs]
  have e1 : k + (wK (l.take 0) : Int) = k := by simp [wK]
  rw [e0, e1, nat0] at hloop
  rw [M.laws_markNodeS_l2, hloop, some_bind]
theorem pure_encNs : ∀ l : List Nd, pureRows (encNs true l) = true
  | [] => rfl
  | n :: l => by
    have : encNs true (n :: l) = encN true n :: encNs true l := rfl
    rw [this, pureRows, pure_encNs l]
    simp [encN, pureRow, D.pure]
theorem pure_oneN (l : List Nd) : [[D.sl true 5 (encNs true l)]].all pureRow = true := by simp [pureRow, D.pure, pure_encNs]
end Go.Proofs.YtpcdaeebbpedoaaGreatDoor
