import Derived.Test.YtghbceiigeialaaP1Apart
namespace Go.Proofs.Ytghbceiigeialaa
set_option linter.unusedVariables false
set_option linter.unusedSimpArgs false
open Go Go.Vm
def apR : Option (List Int) → List Row × Bool
  | some p => (encI p, true)
  | none => ([], false)
def apStep (g : Int → Int → Option (List Int)) (w : Int) (k : Int × Int) : Int ⊕ (List Row ⊕ Int) := match g k.1 k.2 with
  | some p => .inr (.inl (encI (w :: p)))
  | none => .inl (w + 1)
theorem foldE_ap (g : Int → Int → Option (List Int)) (len : Int) : ∀ (xs ys : List Int) (j : Int), xs.length = ys.length → foldE (apStep g) (fun _ => .inr (len)) (xs.zip ys) j = (match apKids g xs ys j with
    | some p => .inl (encI p)
    | none => .inr (len))
  | [], [], j, _ => rfl
  | [], y :: ys, j, h => by simp at h
  | x :: xs, [], j, h => by simp at h
  | x :: xs, y :: ys, j, h => by
    rw [List.zip_cons_cons, foldE, apStep, apKids]
    simp only
    cases g x y with
    | some p => rfl
    | none => exact foldE_ap g len xs ys (j + 1) (by simpa using h)
theorem differ_cases (n m : Nd) {α : Type} (x y : α) : (bif n.kind != m.kind then x else bif n.op != m.op then x else bif !n.text == m.text then x else bif !n.other == m.other then x else bif (n.kids.length : Int) != (m.kids.length : Int) then x else y) = bif differ n m then x else y := by
  rw [differ]
  cases n.kind != m.kind <;> cases n.op != m.op <;> cases n.text == m.text <;> cases n.other == m.other <;> cases (n.kids.length : Int) != (m.kids.length : Int) <;> rfl
section
variable {a b : List Nd} {r s : List Int} {o o' : Bool}
theorem ap_len (h : Val a r) (h' : Val b s) {f i j : Nat} (h1 : i < f) (h2 : j < f) (h3 : i < a.length) (h4 : j < b.length) {w : List Int} (hw : ap a b f i j = some w) : w.length < a.length := by
  have := ap_fd h h' f i j h1 h2 h3 h4 [] []
  rw [hw] at this
  obtain ⟨z, _, hz⟩ := this
  exact (pt_in h a.length i z w h3 hz).2.2
theorem spec_ap_ok (h : Val a r) (h' : Val b s) (hk : ∀ n, n ∈ a → n.kids.length ≤ 1048576) (hk' : ∀ n, n ∈ b → n.kids.length ≤ 1048576) : ∀ (f i j : Nat), i < f → j < f → i < a.length → j < b.length → M.spec_l44Apart_N f (encNs o a) i (encNs o' b) j = some (apR (ap a b f i j))
  | 0, i, j, h1, _, _, _ => absurd h1 (Nat.not_lt_zero _)
  | f + 1, i, j, h1, h2, h3, h4 => by
    obtain ⟨n, hn⟩ : ∃ n, a[i]? = some n := ⟨a[i], by simp⟩
    obtain ⟨m, hm⟩ : ∃ m, b[j]? = some m := ⟨b[j], by simp⟩
    have hkn := hk n (List.mem_of_getElem? hn)
    have hle := h.le
    have hle' := h'.le
    simp only [M.spec_l44Apart_N, M.spec_l44Apart_C, idx_nat, get_encNs, hn, hm, Option.map_some, some_bind, cN0, cN1, cN2, cN3, cN4, encI_length, differ_cases]
    rw [ap, nodeAt_some hn, nodeAt_some hm]
    cases hd : differ n m with
    | true => rfl
    | false =>
      have hlen := differ_len hd
      have hzl : (n.kids.zip m.kids).length = n.kids.length := by rw [List.length_zip]; omega
      simp only [cond_false, Bool.false_eq_true, if_false]
      have hloop := loopM_list (M.spec_l44Apart_l6_b (M.spec_l44Apart_N f) (encNs o a) (encNs o' b) n.kind n.op n.text n.other (encI n.kids) m.kind m.op m.text m.other (encI m.kids)) (n.kids.zip m.kids) (fun j (w : Int) => (j : Int)) (apStep fun x y => ap a b f x y) (fun _ => .inr ((n.kids.length : Int))) (fun j w => w = j)
        (by
          intro t k w hj hw
          subst hw
          obtain ⟨hx, hy⟩ := List.getElem?_zip_eq_some.1 hj
          have hjl := (List.getElem?_eq_some_iff.1 hx).1
          have hxr := h.kids hn k.1 (List.mem_of_getElem? hx)
          have hyr := h'.kids hm k.2 (List.mem_of_getElem? hy)
          have ex : ((k.1.toNat : Nat) : Int) = k.1 := Int.toNat_of_nonneg hxr.1
          have ey : ((k.2.toNat : Nat) : Int) = k.2 := Int.toNat_of_nonneg hyr.1
          have hrec := spec_ap_ok h h' hk hk' f k.1.toNat k.2.toNat (by omega) (by omega) (by omega) (by omega)
          rw [ex, ey] at hrec
          simp only [M.spec_l44Apart_l6_b, M.spec_l44Apart_l6_C, idx_nat, get_encI, hx, hy, Option.map_some, some_bind, cI0, hrec, apStep, encI_length]
          rw [decide_eq_true (by omega), cond_true, wrap_ok (by omega) (by omega)]
          cases hp : ap a b f k.1 k.2 with
          | none => rfl
          | some p =>
            have hin := ap_len h h' (f := f) (i := k.1.toNat) (j := k.2.toNat) (w := p) (by omega) (by omega) (by omega) (by omega) (by rw [ex, ey]; exact hp)
            simp only [apR, cond_true, encI_length, List.length_singleton]
            rw [ble_ok (by omega), cond_true, ble_ok (by omega), cond_true]
            rfl)
        (by
          intro t k w w' hj hw h'
          subst hw
          rw [apStep] at h'
          split at h'
          · cases h'
          · cases h'
            omega)
        (by
          intro w _
          simp only [M.spec_l44Apart_l6_b, M.spec_l44Apart_l6_C, encI_length, hzl]
          rw [decide_eq_false (by omega), cond_false]) 0 rfl
      rw [nat0] at hloop
      rw [M.spec_l44Apart_l6, hloop, foldE_ap _ _ _ _ _ hlen]
      cases apKids (fun x y => ap a b f x y) n.kids m.kids 0 with
      | none => rfl
      | some p =>
        simp only [some_bind, sumE, flat_encI, cond_true]
        rfl
theorem pre_mem (h : Val a r) : ∀ (f i : Nat), i < a.length → ∀ x, x ∈ pre a f i → 0 ≤ x ∧ x ≤ i
  | 0, i, _, x, hx => by simp [pre] at hx
  | f + 1, i, hi, x, hx => by
    obtain ⟨n, hn⟩ : ∃ n, a[i]? = some n := ⟨a[i], by simp⟩
    rw [pre, kidsOf_at hn] at hx
    rcases List.mem_cons.1 hx with rfl | hx
    · omega
    · obtain ⟨k, hk, hxk⟩ := List.mem_flatMap.1 hx
      have hkr := h.kids hn k hk
      have := pre_mem h f k.toNat (by omega) x hxk
      omega
end
def fdStep (a b : List Nd) (w : Int) (k : Int × Int) : Int ⊕ (List Row ⊕ Int) := if differ (nodeAt a k.1) (nodeAt b k.2) then .inr (.inl (encI (pathOf a k.1))) else .inl (w + 1)
theorem foldE_fd (a b : List Nd) (len : Int) : ∀ (xs ys : List Int) (j : Int), foldE (fdStep a b) (fun _ => .inr (len)) (xs.zip ys) j = (match fd a b xs ys with
    | some z => .inl (encI (pathOf a z))
    | none => .inr (len))
  | [], ys, j => by simp [fd, foldE]
  | x :: xs, [], j => by simp [fd, foldE]
  | x :: xs, y :: ys, j => by
    rw [List.zip_cons_cons, foldE, fdStep, fd]
    simp only
    cases differ (nodeAt a x) (nodeAt b y) with
    | true => rfl
    | false => exact foldE_fd a b len xs ys (j + 1)
def firstApart (a b : List Nd) : List Int := if lshape a && lshape b then (ap a b (a.length + b.length) ((a.length - 1 : Nat) : Int) ((b.length - 1 : Nat) : Int)).getD [] else []
theorem firstApart_len (a b : List Nd) : (firstApart a b).length ≤ 400 := by
  unfold firstApart
  split
  · rename_i hs
    rw [Bool.and_eq_true] at hs
    obtain ⟨r, h⟩ := val_of hs.1
    obtain ⟨s, h'⟩ := val_of hs.2
    have h1 := h.pos
    have h2 := h.le
    have h3 := h'.pos
    cases hp : ap a b (a.length + b.length) ((a.length - 1 : Nat) : Int) ((b.length - 1 : Nat) : Int) with
    | none => simp
    | some p =>
      have := ap_len h h' (by omega) (by omega) (by omega) (by omega) hp
      simp only [Option.getD_some]
      omega
  · simp
section
variable (a b : List Nd) (o o' : Bool) (hl : a.length ≤ 1048576) (hk : ∀ n, n ∈ a → n.kids.length ≤ 1048576) (hl' : b.length ≤ 1048576) (hk' : ∀ n, n ∈ b → n.kids.length ≤ 1048576)
include hl hk hl' hk'
theorem spec_FirstApart_ok : M.spec_FirstApart (encNs o a) (encNs o' b) = some (encI (firstApart a b)) := by
  simp only [M.spec_FirstApart, M.spec_FirstApart_C, spec_ShapeOk_ok a o hl hk, spec_ShapeOk_ok b o' hl' hk', some_bind, encNs_length, firstApart]
  cases hs : lshape a with
  | false => rfl
  | true =>
    cases hs' : lshape b with
    | false => rfl
    | true =>
      obtain ⟨r, h⟩ := val_of hs
      obtain ⟨s, h'⟩ := val_of hs'
      have h1 := h.pos
      have h2 := h.le
      have h3 := h'.pos
      have h4 := h'.le
      rw [Bool.not_true, cond_false, cond_false, wrap_ok (by omega) (by omega), wrap_ok (by omega) (by omega), show (a.length : Int) - 1 = ((a.length - 1 : Nat) : Int) by omega, show (b.length : Int) - 1 = ((b.length - 1 : Nat) : Int) by omega,
        M.spec_l44Apart_of (spec_ap_ok (o := o) (o' := o') h h' hk hk' (a.length + b.length) (a.length - 1) (b.length - 1) (by omega) (by omega) (by omega) (by omega)), some_bind, Bool.and_true, if_pos rfl]
      cases ap a b (a.length + b.length) ((a.length - 1 : Nat) : Int) ((b.length - 1 : Nat) : Int) with
      | none => rfl
      | some p => simp only [apR, flat_encI, cond_true, Option.getD_some]
theorem impl_FirstApart_ok : M.impl_FirstApart (encNs o a) (encNs o' b) = some (encI (firstApart a b)) := by
  simp only [M.impl_FirstApart, M.impl_FirstApart_C, impl_ShapeOk_ok a o hl hk, impl_ShapeOk_ok b o' hl' hk', some_bind, encNs_length, firstApart, impl_Preorder_ok a o hl hk, impl_Preorder_ok b o' hl' hk', encI_length]
  cases hs : lshape a with
  | false => rfl
  | true =>
    cases hs' : lshape b with
    | false => rfl
    | true =>
      obtain ⟨r, h⟩ := val_of hs
      obtain ⟨s, h'⟩ := val_of hs'
      have h1 := h.pos
      have h2 := h.le
      have h3 := h'.pos
      have h4 := h'.le
      rw [Bool.not_true, cond_false, cond_false, Bool.and_true, if_pos rfl]
      have e1 : preAll a = pre a (a.length + b.length) (a.length - 1) := by
        rw [preAll, if_pos hs]
        exact pre_fuel h _ _ _ (by omega) (by omega) (by omega)
      have e2 : preAll b = pre b (a.length + b.length) (b.length - 1) := by
        rw [preAll, if_pos hs']
        exact pre_fuel h' _ _ _ (by omega) (by omega) (by omega)
      have m1 : ∀ x, x ∈ preAll a → 0 ≤ x ∧ x ≤ ((a.length - 1 : Nat) : Int) := by rw [e1]; exact pre_mem h _ _ (by omega)
      have m2 : ∀ x, x ∈ preAll b → 0 ≤ x ∧ x ≤ ((b.length - 1 : Nat) : Int) := by rw [e2]; exact pre_mem h' _ _ (by omega)
      have l1 := preAll_len a
      have l2 := preAll_len b
      generalize hN : (bif decide (((preAll b).length : Int) < ((preAll a).length : Int)) then ((preAll b).length : Int) else ((preAll a).length : Int)) = N
      have hNe : N = (((preAll a).zip (preAll b)).length : Int) := by
        rw [← hN, List.length_zip]
        by_cases c : ((preAll b).length : Int) < ((preAll a).length : Int)
        · rw [decide_eq_true c, cond_true]; omega
        · rw [decide_eq_false c, cond_false]; omega
      have hloop := loopM_list (M.impl_FirstApart_l5_b (encNs o a) (encNs o' b) N (encI (preAll a)) (encI (preAll b))) ((preAll a).zip (preAll b)) (fun j (w : Int) => (j : Int)) (fdStep a b) (fun _ => .inr (N)) (fun j w => w = j)
        (by
          intro t k w hj hw
          subst hw
          have hjl := (List.getElem?_eq_some_iff.1 hj).1
          obtain ⟨hx, hy⟩ := List.getElem?_zip_eq_some.1 hj
          have hxr := m1 k.1 (List.mem_of_getElem? hx)
          have hyr := m2 k.2 (List.mem_of_getElem? hy)
          obtain ⟨i, hi⟩ : ∃ i : Nat, k.1 = i := ⟨k.1.toNat, by omega⟩
          obtain ⟨j, hj'⟩ : ∃ j : Nat, k.2 = j := ⟨k.2.toNat, by omega⟩
          have hil : i < a.length := by omega
          have hjl' : j < b.length := by omega
          obtain ⟨n, hn⟩ : ∃ n, a[i]? = some n := ⟨a[i], by simp⟩
          obtain ⟨m, hm⟩ : ∃ m, b[j]? = some m := ⟨b[j], by simp⟩
          have hp := impl_PathOf_ok a o hl hk i
          have hzl : (((preAll a).zip (preAll b)).length : Int) ≤ 400 := by rw [List.length_zip]; omega
          simp only [M.impl_FirstApart_l5_b, M.impl_FirstApart_l5_C, idx_nat, Int.toNat_natCast, get_encI, hx, hy, hi, hj', Option.map_some, some_bind, cI0, fdStep, get_encNs, hn, hm, cN0, cN1, cN2, cN3, cN4, hp, encI_length, differ_cases, nodeAt_some hn, nodeAt_some hm]
          rw [decide_eq_true (by omega), cond_true, wrap_ok (by omega) (by omega)]
          cases differ n m with
          | true => rfl
          | false => rfl)
        (by
          intro t k w w' hj hw h'
          subst hw
          rw [fdStep] at h'
          split at h'
          · cases h'
          · cases h'
            omega)
        (by
          intro w _
          simp only [M.impl_FirstApart_l5_b, M.impl_FirstApart_l5_C]
          rw [decide_eq_false (by omega), cond_false, hNe]) 0 rfl
      rw [nat0] at hloop
      rw [M.impl_FirstApart_l5, hloop, foldE_fd]
      have key := ap_fd h h' (a.length + b.length) (a.length - 1) (b.length - 1) (by omega) (by omega) (by omega) (by omega) [] []
      rw [List.append_nil, List.append_nil, ← e1, ← e2] at key
      cases hp : ap a b (a.length + b.length) ((a.length - 1 : Nat) : Int) ((b.length - 1 : Nat) : Int) with
      | none =>
        rw [hp] at key
        simp only at key
        rw [key]
        rfl
      | some w =>
        rw [hp] at key
        obtain ⟨z, k1, k2⟩ := key
        have hin := pt_in h a.length (a.length - 1) z w (by omega) k2
        have hz : 0 ≤ z := by
          rw [shape_zero h hs] at hin
          exact hin.1
        have : pathOf a z = w := by
          rw [pathOf, hs, decide_eq_true hz, decide_eq_true (by omega), k2]
          rfl
        rw [k1]
        simp only [some_bind, sumE, this, flat_encI, cond_true, Option.getD_some]
end
end Go.Proofs.Ytghbceiigeialaa
