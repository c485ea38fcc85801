import Derived.Test.YtghbceiigeialaaP1Path4
namespace Go.Proofs.Ytghbceiigeialaa
set_option linter.unusedVariables false
set_option linter.unusedSimpArgs false
open Go Go.Vm
def differ (n m : Nd) : Bool := n.kind != m.kind || (n.op != m.op || (!(n.text == m.text) || (!(n.other == m.other) || (n.kids.length : Int) != (m.kids.length : Int))))
def nd0 : Nd := ⟨0, 0, [], [], []⟩
def nodeAt (l : List Nd) (i : Int) : Nd := match l[i.toNat]? with | some n => n | none => nd0
def fd (a b : List Nd) : List Int → List Int → Option Int
  | x :: xs, y :: ys => if differ (nodeAt a x) (nodeAt b y) then some x else fd a b xs ys
  | _, _ => none
def apKids (g : Int → Int → Option (List Int)) : List Int → List Int → Int → Option (List Int)
  | x :: xs, y :: ys, j => match g x y with
    | some p => some (j :: p)
    | none => apKids g xs ys (j + 1)
  | _, _, _ => none
def ap (a b : List Nd) : Nat → Int → Int → Option (List Int)
  | 0, _, _ => none
  | f + 1, i, j => if differ (nodeAt a i) (nodeAt b j) then some [] else apKids (fun x y => ap a b f x y) (nodeAt a i).kids (nodeAt b j).kids 0
section
variable {a b : List Nd} {r s : List Int}
theorem nodeAt_some {l : List Nd} {i : Nat} {n : Nd} (h : l[i]? = some n) : nodeAt l i = n := by rw [nodeAt, Int.toNat_natCast, h]
theorem differ_len {n m : Nd} (h : differ n m = false) : n.kids.length = m.kids.length := by
  simp only [differ, Bool.or_eq_false_iff, bne_eq_false_iff_eq] at h
  omega
theorem kids_fd (g : Int → Int → Option (List Int)) (p q : Int → List Int) (P : Int → List Int → Int → Prop) :
    ∀ (xs ys : List Int) (j : Int), (∀ x y, x ∈ xs → y ∈ ys → g x y = none → ∀ X Y, fd a b (p x ++ X) (q y ++ Y) = fd a b X Y) → xs.length = ys.length → (∀ x y w, x ∈ xs → y ∈ ys → g x y = some w → ∀ X Y, ∃ z, fd a b (p x ++ X) (q y ++ Y) = some z ∧ P x w z) → ∀ X Y,
      match apKids g xs ys j with
      | none => fd a b (xs.flatMap p ++ X) (ys.flatMap q ++ Y) = fd a b X Y
      | some w => ∃ (t : Nat) (x z : Int) (w' : List Int), w = (j + t) :: w' ∧ xs[t]? = some x ∧ P x w' z ∧ fd a b (xs.flatMap p ++ X) (ys.flatMap q ++ Y) = some z
  | [], [], j, _, _, _, X, Y => by simp [apKids]
  | [], y :: ys, j, _, h, _, X, Y => by simp at h
  | x :: xs, [], j, _, h, _, X, Y => by simp at h
  | x :: xs, y :: ys, j, hg, h, hp, X, Y => by
    rw [apKids]
    simp only [List.flatMap_cons, List.append_assoc]
    cases hxy : g x y with
    | some w =>
      simp only
      obtain ⟨z, h1, h2⟩ := hp x y w List.mem_cons_self List.mem_cons_self hxy (xs.flatMap p ++ X) (ys.flatMap q ++ Y)
      exact ⟨0, x, z, w, by simp, rfl, h2, h1⟩
    | none =>
      simp only
      rw [hg x y List.mem_cons_self List.mem_cons_self hxy]
      have ih := kids_fd g p q P xs ys (j + 1) (fun x' y' hx hy => hg x' y' (List.mem_cons_of_mem _ hx) (List.mem_cons_of_mem _ hy)) (by simpa using h) (fun x' y' w hx hy => hp x' y' w (List.mem_cons_of_mem _ hx) (List.mem_cons_of_mem _ hy)) X Y
      cases hk : apKids g xs ys (j + 1) with
      | none =>
        rw [hk] at ih
        exact ih
      | some w =>
        rw [hk] at ih
        obtain ⟨t, x', z, w', h1, h2, h3, h4⟩ := ih
        refine ⟨t + 1, x', z, w', ?_, by simpa using h2, h3, h4⟩
        rw [h1]
        congr 1
        omega
theorem pre_fuel (h : Val a r) : ∀ (f f' i : Nat), i < f → i < f' → i < a.length → pre a f i = pre a f' i
  | 0, _, i, h1, _, _ => absurd h1 (Nat.not_lt_zero _)
  | f + 1, 0, i, _, h2, _ => absurd h2 (Nat.not_lt_zero _)
  | f + 1, f' + 1, i, h1, h2, h3 => by
    obtain ⟨n, hn⟩ : ∃ n, a[i]? = some n := ⟨a[i], by simp⟩
    rw [pre, pre, kidsOf_at hn]
    congr 1
    have : ∀ (ks : List Int), (∀ k, k ∈ ks → k ∈ n.kids) → (ks.flatMap fun k => pre a f k.toNat) = ks.flatMap fun k => pre a f' k.toNat := by
      intro ks
      induction ks with
      | nil => intro _; rfl
      | cons k ks ih =>
        intro hk
        have hkr := h.kids hn k (hk k List.mem_cons_self)
        rw [List.flatMap_cons, List.flatMap_cons, ih fun x hx => hk x (List.mem_cons_of_mem _ hx), pre_fuel h f f' k.toNat (by omega) (by omega) (by omega)]
    exact this _ fun k hk => hk
theorem pt_self (h : Val a r) (i : Int) : pt a a.length i i = some [] := by
  obtain ⟨f, hf⟩ : ∃ f, a.length = f + 1 := ⟨a.length - 1, by have := h.pos; omega⟩
  rw [hf, pt, if_pos rfl]
theorem ap_fd (h : Val a r) (h' : Val b s) : ∀ (f i j : Nat), i < f → j < f → i < a.length → j < b.length → ∀ X Y, match ap a b f i j with
      | none => fd a b (pre a f i ++ X) (pre b f j ++ Y) = fd a b X Y
      | some w => ∃ z, fd a b (pre a f i ++ X) (pre b f j ++ Y) = some z ∧ pt a a.length i z = some w
  | 0, i, j, h1, _, _, _, X, Y => absurd h1 (Nat.not_lt_zero _)
  | f + 1, i, j, h1, h2, h3, h4, X, Y => by
    obtain ⟨n, hn⟩ : ∃ n, a[i]? = some n := ⟨a[i], by simp⟩
    obtain ⟨m, hm⟩ : ∃ m, b[j]? = some m := ⟨b[j], by simp⟩
    rw [ap, pre, pre, kidsOf_at hn, kidsOf_at hm, nodeAt_some hn, nodeAt_some hm, List.cons_append, List.cons_append, fd, nodeAt_some hn, nodeAt_some hm]
    cases hd : differ n m with
    | true => exact ⟨i, rfl, pt_self h i⟩
    | false =>
      have hlen := differ_len hd
      have key := kids_fd (a := a) (b := b) (fun x y => ap a b f x y) (fun k => pre a f k.toNat) (fun k => pre b f k.toNat) (fun x w z => pt a a.length x z = some w) n.kids m.kids 0
        (by
          intro x y hx hy hxy X Y
          have hxr := h.kids hn x hx
          have hyr := h'.kids hm y hy
          have ih := ap_fd h h' f x.toNat y.toNat (by omega) (by omega) (by omega) (by omega) X Y
          rw [Int.toNat_of_nonneg hxr.1, Int.toNat_of_nonneg hyr.1, hxy] at ih
          exact ih)
        hlen
        (by
          intro x y w hx hy hxy X Y
          have hxr := h.kids hn x hx
          have hyr := h'.kids hm y hy
          have ih := ap_fd h h' f x.toNat y.toNat (by omega) (by omega) (by omega) (by omega) X Y
          rw [Int.toNat_of_nonneg hxr.1, Int.toNat_of_nonneg hyr.1, hxy] at ih
          exact ih) X Y
      simp only [Bool.false_eq_true, if_false]
      cases hk : apKids (fun x y => ap a b f x y) n.kids m.kids 0 with
      | none =>
        rw [hk] at key
        exact key
      | some w =>
        rw [hk] at key
        obtain ⟨t, x, z, w', e1, e2, e3, e4⟩ := key
        refine ⟨z, e4, ?_⟩
        have := pt_up h hn e2 e3
        rw [this, e1]
        simp
end
end Go.Proofs.Ytghbceiigeialaa
