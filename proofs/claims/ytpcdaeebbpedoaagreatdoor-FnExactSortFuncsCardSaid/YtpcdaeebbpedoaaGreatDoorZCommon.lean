import Derived.Test.YtpcdaeebbpedoaaGreatDoorZKids
namespace Go.Proofs.YtpcdaeebbpedoaaGreatDoor
set_option linter.unusedVariables false
set_option linter.unusedSimpArgs false
open Go Go.Vm
def wN (n : Nd) : Nat := n.text.length + n.other.length + n.kids.length
def wNs : List Nd → Nat
  | [] => 0
  | n :: l => wN n + wNs l
theorem szIntS_ok (k : List Int) (L : Int) (h0 : 0 ≤ L) (h1 : L ≤ 1048576) (hk : k.length ≤ maxLen) : M.laws_szIntS (encI k) L = some (if (k.length : Int) ≤ L then L - k.length else -1) := by
  unfold maxLen at hk
  simp only [M.laws_szIntS, M.laws_szIntS_C, encI_length]
  rw [wrap_ok (by omega) (by omega)]
  by_cases h : (k.length : Int) ≤ L
  · rw [decide_eq_false (by omega), if_pos h]; rfl
  · rw [decide_eq_true (by omega), if_neg h]; rfl
theorem szNode_ok (n : Nd) (o : Bool) (L : Int) (h0 : 0 ≤ L) (h1 : L ≤ 1048576) (ht : n.text.length ≤ maxLen) (ho : n.other.length ≤ maxLen) (hk : n.kids.length ≤ maxLen) :
    M.laws_szNode n.kind n.op n.text n.other (encI n.kids) L = some (if (wN n : Int) ≤ L then L - wN n else -1) := by
  have ht' := ht
  have ho' := ho
  have hk' := hk
  unfold maxLen at ht' ho' hk'
  have hwn : wN n = n.text.length + n.other.length + n.kids.length := rfl
  simp only [M.laws_szNode, M.laws_szNode_C]
  rw [wrap_ok (n := L - n.text.length) (by omega) (by omega)]
  by_cases c1 : (n.text.length : Int) ≤ L
  · rw [decide_eq_false (by omega), cond_false, wrap_ok (by omega) (by omega)]
    by_cases c2 : (n.other.length : Int) ≤ L - n.text.length
    · rw [decide_eq_false (by omega), cond_false, szIntS_ok _ _ (by omega) (by omega) hk, some_bind]
      by_cases c3 : (n.kids.length : Int) ≤ L - n.text.length - n.other.length
      · rw [if_pos c3, decide_eq_false (by omega), cond_false, if_pos (by omega)]
        congr 1
        omega
      · rw [if_neg c3, decide_eq_true (by omega), cond_true, if_neg (by omega)]
    · rw [decide_eq_true (by omega), cond_true, if_neg (by omega)]
  · rw [decide_eq_true (by omega), cond_true, if_neg (by omega)]
theorem foldE_sz (l : List Nd) (len : Nat) : ∀ w : Int, 0 ≤ w → foldE (fun (w : Int) (n : Nd) => (if (wN n : Int) ≤ w then .inl (w - wN n) else .inr (.inl ()) : Int ⊕ (Unit ⊕ (Int × Int)))) (fun w => .inr (w, (len : Int))) l w =
    if (wNs l : Int) ≤ w then .inr (w - wNs l, (len : Int)) else .inl () := by
  induction l with
  | nil => intro w h; simp [foldE, wNs, h]
  | cons n l ih =>
    intro w h
    have hw : wNs (n :: l) = wN n + wNs l := rfl
    simp only [foldE]
    by_cases c : (wN n : Int) ≤ w
    · rw [if_pos c]
      simp only
      rw [ih (w - wN n) (by omega)]
      by_cases c2 : (wNs l : Int) ≤ w - wN n
      · rw [if_pos c2, if_pos (by omega)]
        congr 2
        omega
      · rw [if_neg c2, if_neg (by omega)]
    · rw [if_neg c, if_neg (by omega)]
theorem szNodeS_ok (l : List Nd) (o : Bool) (L : Int) (h0 : 0 ≤ L) (h1 : L ≤ 1048576) (hl : l.length ≤ maxLen) (hf : ∀ n, n ∈ l → Fit n) :
    M.laws_szNodeS (encNs o l) L = some (if (l.length + wNs l : Int) ≤ L then L - l.length - wNs l else -1) := by
  unfold maxLen at hl
  simp only [M.laws_szNodeS, M.laws_szNodeS_C, encNs_length]
  rw [wrap_ok (by omega) (by omega)]
  by_cases c : (l.length : Int) ≤ L
  · rw [decide_eq_false (by omega), cond_false]
    have hloop := loopM_list (M.laws_szNodeS_l5_b (encNs o l)) l (fun i (w : Int) => (w, (i : Int)))
      (fun (w : Int) (n : Nd) => (if (wN n : Int) ≤ w then .inl (w - wN n) else .inr (.inl ()) : Int ⊕ (Unit ⊕ (Int × Int)))) (fun w => .inr (w, (l.length : Int))) (fun _ w => 0 ≤ w ∧ w ≤ 1048576)
      (by
        intro i n w hi hw
        have hlt := (List.getElem?_eq_some_iff.1 hi).1
        have hfn := hf n (List.mem_of_getElem? hi)
        simp only [M.laws_szNodeS_l5_b, M.laws_szNodeS_l5_C, encNs_length, idx_nat, get_encNs, hi, Option.map_some, some_bind, cN0, cN1, cN2, cN3, cN4]
        rw [decide_eq_true (by omega), cond_true, szNode_ok n o w hw.1 hw.2 hfn.text hfn.other hfn.kids, some_bind]
        by_cases c2 : (wN n : Int) ≤ w
        · rw [if_pos c2, decide_eq_false (by omega), cond_false, if_pos c2, wrap_ok (by omega) (by omega)]
          simp
        · rw [if_neg c2, decide_eq_true (by omega), cond_true, if_neg c2])
      (by
        intro i n w w' hi hw he
        by_cases c2 : (wN n : Int) ≤ w
        · simp only [c2, if_true, Sum.inl.injEq] at he
          omega
        · simp [c2] at he)
      (by
        intro w hw
        simp only [M.laws_szNodeS_l5_b, M.laws_szNodeS_l5_C, encNs_length]
        rw [decide_eq_false (by omega), cond_false])
      (L - l.length) (by omega)
    have h0' : ((0 : Nat) : Int) = 0 := rfl
    simp only [h0'] at hloop
    rw [M.laws_szNodeS_l5, hloop, some_bind, foldE_sz l l.length _ (by omega)]
    by_cases c2 : (wNs l : Int) ≤ L - l.length
    · rw [if_pos c2, if_pos (by omega)]
      rfl
    · rw [if_neg c2, if_neg (by omega)]
      rfl
  · rw [decide_eq_true (by omega), cond_true, if_neg (by omega)]
theorem wNs_mem {l : List Nd} {n : Nd} (h : n ∈ l) : wN n ≤ wNs l := by
  induction l with
  | nil => simp at h
  | cons m l ih =>
    have hw : wNs (m :: l) = wN m + wNs l := rfl
    rcases List.mem_cons.1 h with rfl | h
    · omega
    · have := ih h; omega
theorem set_append_at {α : Type} (a : List α) (b : List α) (x y : α) : (a ++ x :: b).set a.length y = a ++ y :: b := by
  induction a with
  | nil => rfl
  | cons z a ih => simp [ih]
def filled {α β : Type} (f : α → β) (z : β) (l : List α) (i : Nat) : List β := (l.take i).map f ++ List.replicate (l.length - i) z
theorem filled_zero {α β : Type} (f : α → β) (z : β) (l : List α) : filled f z l 0 = List.replicate l.length z := by simp [filled]
theorem filled_all {α β : Type} (f : α → β) (z : β) (l : List α) : filled f z l l.length = l.map f := by simp [filled]
theorem filled_get {α β : Type} (f : α → β) (z : β) (l : List α) {i : Nat} (h : i < l.length) : (filled f z l i)[i]? = some z := by
  unfold filled
  rw [List.getElem?_append_right (by simp; omega)]
  simp [List.getElem?_replicate]
  omega
theorem filled_set {α β : Type} (f : α → β) (z : β) (l : List α) {i : Nat} {x : α} (h : l[i]? = some x) : (filled f z l i).set i (f x) = filled f z l (i + 1) := by
  have hlt := (List.getElem?_eq_some_iff.1 h).1
  unfold filled
  have hn : l.length - i = (l.length - (i + 1)) + 1 := by omega
  rw [hn, List.replicate_succ]
  have hl : ((l.take i).map f).length = i := by simp; omega
  have := set_append_at ((l.take i).map f) (List.replicate (l.length - (i + 1)) z) z (f x)
  rw [hl] at this
  rw [this, List.take_add_one, h]
  simp
theorem toIntS_ok (k : List Int) (hk : k.length ≤ 1048576) : M.laws_toIntS (encI k) = some (encI k) := by
  simp only [M.laws_toIntS, M.laws_toIntS_C, encI_length]
  rw [decide_eq_true (by omega), decide_eq_true (by omega), decide_eq_true (by omega), decide_eq_true (by omega)]
  simp only [Bool.and_true, cond_true, Int.toNat_natCast]
  have hloop := loopM_run (b := M.laws_toIntS_l3_b (encI k)) (t := ((k.length : Int), encI k)) (fun i => ((i : Int), filled (fun x => [D.int .i64 x]) [D.int .i64 0] k i)) k.length
    (by
      intro i hi
      obtain ⟨x, hx⟩ : ∃ x, k[i]? = some x := ⟨k[i], by simp [hi]⟩
      simp only [M.laws_toIntS_l3_b, M.laws_toIntS_l3_C, encI_length, idx_nat, get_encI, hx, Option.map_some, some_bind, cI0, Int.toNat_natCast, filled_get _ _ k hi]
      rw [decide_eq_true (by omega), cond_true, wrap_ok (by omega) (by omega)]
      have hs : splice [D.int IntKind.i64 0] 0 [D.int IntKind.i64 x] = [D.int IntKind.i64 x] := rfl
      rw [hs, filled_set (fun x => [D.int .i64 x]) _ k hx]
      simp)
    (by
      simp only [M.laws_toIntS_l3_b, M.laws_toIntS_l3_C, encI_length]
      rw [decide_eq_false (by omega), cond_false, filled_all]
      rfl) 0 (Nat.zero_le _)
  rw [M.laws_toIntS_l3]
  simp only [filled_zero] at hloop
  have h0' : ((0 : Nat) : Int) = 0 := rfl
  rw [h0'] at hloop
  rw [hloop, some_bind]
  simp
theorem toNode_ok (n : Nd) (hk : n.kids.length ≤ 1048576) : M.laws_toNode n.kind n.op n.text n.other (encI n.kids) = some (n.kind, n.op, n.text, n.other, encI n.kids) := by
  simp only [M.laws_toNode, M.laws_toNode_C]
  rw [toIntS_ok _ hk, some_bind]
  simp
theorem toNodeS_ok (l : List Nd) (o : Bool) (hl : l.length ≤ 1048576) (hk : ∀ n, n ∈ l → n.kids.length ≤ 1048576) : M.laws_toNodeS (encNs o l) = some (encNs true l) := by
  simp only [M.laws_toNodeS, M.laws_toNodeS_C, encNs_length]
  rw [decide_eq_true (by omega), decide_eq_true (by omega), decide_eq_true (by omega), decide_eq_true (by omega)]
  simp only [Bool.and_true, cond_true, Int.toNat_natCast]
  have hloop := loopM_run (b := M.laws_toNodeS_l3_b (encNs o l)) (t := ((l.length : Int), encNs true l)) (fun i => ((i : Int), filled (encN true) [D.int IntKind.i64 0, D.int IntKind.i64 0, D.str [], D.str [], D.sl true 1 []] l i)) l.length
    (by
      intro i hi
      obtain ⟨x, hx⟩ : ∃ x, l[i]? = some x := ⟨l[i], by simp [hi]⟩
      have hkx := hk x (List.mem_of_getElem? hx)
      simp only [M.laws_toNodeS_l3_b, M.laws_toNodeS_l3_C, encNs_length, idx_nat, get_encNs, hx, Option.map_some, some_bind, cN0, cN1, cN2, cN3, cN4, toNode_ok x hkx, Int.toNat_natCast, filled_get _ _ l hi, flat_encI, cond_true]
      rw [decide_eq_true (by omega), cond_true, wrap_ok (by omega) (by omega)]
      have hs : splice [D.int IntKind.i64 0, D.int IntKind.i64 0, D.str [], D.str [], D.sl true 1 []] 0 [D.int IntKind.i64 x.kind, D.int IntKind.i64 x.op, D.str x.text, D.str x.other, D.sl true 1 (encI x.kids)] = encN true x := rfl
      rw [hs, filled_set (encN true) _ l hx]
      simp)
    (by
      simp only [M.laws_toNodeS_l3_b, M.laws_toNodeS_l3_C, encNs_length]
      rw [decide_eq_false (by omega), cond_false, filled_all]
      rfl) 0 (Nat.zero_le _)
  rw [M.laws_toNodeS_l3]
  simp only [filled_zero] at hloop
  have h0' : ((0 : Nat) : Int) = 0 := rfl
  rw [h0'] at hloop
  rw [hloop, some_bind]
theorem eqIntS_same (k : List Int) (hk : k.length ≤ maxLen) : M.laws_eqIntS (encI k) (encI k) = some true := by
  unfold maxLen at hk
  simp only [M.laws_eqIntS, M.laws_eqIntS_C, bne_self_eq_false, cond_false]
  have hloop := loopM_run (b := M.laws_eqIntS_l4_b (encI k) (encI k)) (t := .inr ((k.length : Int))) (fun i => (i : Int)) k.length
    (by
      intro i hi
      obtain ⟨x, hx⟩ : ∃ x, k[i]? = some x := ⟨k[i], by simp [hi]⟩
      simp only [M.laws_eqIntS_l4_b, M.laws_eqIntS_l4_C, encI_length, idx_nat, get_encI, hx, Option.map_some, some_bind, cI0, bne_self_eq_false, cond_false]
      rw [decide_eq_true (by omega), cond_true, wrap_ok (by omega) (by omega)]
      simp)
    (by
      simp only [M.laws_eqIntS_l4_b, M.laws_eqIntS_l4_C, encI_length]
      rw [decide_eq_false (by omega), cond_false]) 0 (Nat.zero_le _)
  have h0' : ((0 : Nat) : Int) = 0 := rfl
  rw [h0'] at hloop
  rw [M.laws_eqIntS_l4, hloop, some_bind]
  rfl
theorem eqNode_same (n : Nd) (hk : n.kids.length ≤ maxLen) : M.laws_eqNode n.kind n.op n.text n.other (encI n.kids) n.kind n.op n.text n.other (encI n.kids) = some true := by
  simp only [M.laws_eqNode, M.laws_eqNode_C, bne_self_eq_false, cond_false, beq_self_eq_true, Bool.not_true]
  rw [eqIntS_same _ hk]
  rfl
theorem eqNodeS_same (l : List Nd) (o o' : Bool) (hl : l.length ≤ maxLen) (hk : ∀ n, n ∈ l → n.kids.length ≤ maxLen) : M.laws_eqNodeS (encNs o l) (encNs o' l) = some true := by
  unfold maxLen at hl
  simp only [M.laws_eqNodeS, M.laws_eqNodeS_C, encNs_length, bne_self_eq_false, cond_false]
  have hloop := loopM_run (b := M.laws_eqNodeS_l4_b (encNs o l) (encNs o' l)) (t := .inr ((l.length : Int))) (fun i => (i : Int)) l.length
    (by
      intro i hi
      obtain ⟨x, hx⟩ : ∃ x, l[i]? = some x := ⟨l[i], by simp [hi]⟩
      simp only [M.laws_eqNodeS_l4_b, M.laws_eqNodeS_l4_C, encNs_length, idx_nat, get_encNs, hx, Option.map_some, some_bind, cN0, cN1, cN2, cN3, cN4, eqNode_same x (hk x (List.mem_of_getElem? hx)), Bool.not_true, cond_false]
      rw [decide_eq_true (by omega), cond_true, wrap_ok (by omega) (by omega)]
      simp)
    (by
      simp only [M.laws_eqNodeS_l4_b, M.laws_eqNodeS_l4_C, encNs_length]
      rw [decide_eq_false (by omega), cond_false]) 0 (Nat.zero_le _)
  have h0' : ((0 : Nat) : Int) = 0 := rfl
  rw [h0'] at hloop
  rw [M.laws_eqNodeS_l4, hloop, some_bind]
  rfl
end Go.Proofs.YtpcdaeebbpedoaaGreatDoor
