import Derived.Test.YtghbceiigeialaaZVal
namespace Go.Proofs.Ytghbceiigeialaa
set_option linter.unusedVariables false
set_option linter.unusedSimpArgs false
open Go Go.Vm
def mx : Int → List Int → Int
  | a, [] => a
  | a, x :: l => mx (bif decide (a < x) then x else a) l
theorem mx_range (B : Int) : ∀ (l : List Int) (a : Int), a ≤ B → (∀ x, x ∈ l → x ≤ B) → a ≤ mx a l ∧ mx a l ≤ B
  | [], a, h, _ => ⟨Int.le_refl _, h⟩
  | x :: l, a, h, hl => by
    have hx := hl x List.mem_cons_self
    rw [mx]
    by_cases c : a < x
    · rw [decide_eq_true c, cond_true]
      have := mx_range B l x hx fun y hy => hl y (List.mem_cons_of_mem _ hy)
      omega
    · rw [decide_eq_false c, cond_false]
      exact mx_range B l a h fun y hy => hl y (List.mem_cons_of_mem _ hy)
theorem mx_snoc : ∀ (l : List Int) (a x : Int), mx a (l ++ [x]) = (bif decide (mx a l < x) then x else mx a l)
  | [], a, x => rfl
  | y :: l, a, x => by rw [List.cons_append, mx, mx, mx_snoc l]
theorem mx_one : ∀ (l : List Int) (a : Int), mx (1 + a) (l.map fun d => 1 + d) = 1 + mx a l
  | [], a => rfl
  | x :: l, a => by
    rw [List.map_cons, mx, mx, ← mx_one l]
    by_cases c : a < x
    · rw [decide_eq_true c, cond_true, decide_eq_true (by omega), cond_true]
    · rw [decide_eq_false c, cond_false, decide_eq_false (by omega), cond_false]
def dep (l : List Nd) : Nat → Nat → Int
  | 0, _ => 0
  | f + 1, i => mx 0 ((kidsOf l i).map fun k => dep l f k.toNat) + 1
theorem dep_range (l : List Nd) : ∀ f i, 0 ≤ dep l f i ∧ dep l f i ≤ f
  | 0, i => by simp [dep]
  | f + 1, i => by
    have := mx_range (f : Int) ((kidsOf l i).map fun k => dep l f k.toNat) 0 (by omega) (fun x hx => by
      obtain ⟨k, _, rfl⟩ := List.mem_map.1 hx
      exact (dep_range l f k.toNat).2)
    rw [dep]
    omega
section
variable {l : List Nd} {r : List Int} {o : Bool}
theorem dep_fuel (h : Val l r) : ∀ (f f' i : Nat), i < f → i < f' → i < l.length → dep l f i = dep l f' i
  | 0, _, i, h1, _, _ => absurd h1 (Nat.not_lt_zero _)
  | f + 1, 0, i, _, h2, _ => absurd h2 (Nat.not_lt_zero _)
  | f + 1, f' + 1, i, h1, h2, h3 => by
    obtain ⟨n, hn⟩ : ∃ n, l[i]? = some n := ⟨l[i], by simp⟩
    rw [dep, dep, kidsOf_at hn]
    congr 2
    refine List.map_congr_left fun k hk => ?_
    have hkr := h.kids hn k hk
    exact dep_fuel h f f' k.toNat (by omega) (by omega) (by omega)
def dtab (l : List Nd) (i : Nat) : List Int := (List.range i).map fun j => dep l (j + 1) j
theorem dtab_len (l : List Nd) (i : Nat) : (dtab l i).length = i := by simp [dtab]
theorem dtab_get (l : List Nd) {i j : Nat} (h : j < i) : (dtab l i)[j]? = some (dep l (j + 1) j) := by
  simp [dtab, List.getElem?_range h]
theorem dtab_succ (l : List Nd) (i : Nat) : dtab l (i + 1) = dtab l i ++ [dep l (i + 1) i] := by simp [dtab, List.range_succ]
theorem spec_dep_in (h : Val l r) {i : Nat} {n : Nd} (hn : l[i]? = some n) (hk : n.kids.length ≤ 1048576) : M.spec_DepthOf_l9 (encNs o l) (i : Int) (encI (dtab l i)) (1, 0) = some (dep l (i + 1) i, (n.kids.length : Int)) := by
  have hil := (List.getElem?_eq_some_iff.1 hn).1
  have hle := h.le
  have hdk : ∀ k, k ∈ n.kids → dep l i k.toNat = dep l (k.toNat + 1) k.toNat := fun k hkm => by
    have := h.kids hn k hkm
    exact dep_fuel h _ _ _ (by omega) (by omega) (by omega)
  have hval : ∀ (j : Nat), (1 : Int) + mx 0 ((n.kids.take j).map fun k => dep l i k.toNat) = mx 1 ((n.kids.take j).map fun k => 1 + dep l i k.toNat) := fun j => by
    have := mx_one ((n.kids.take j).map fun k => dep l i k.toNat) 0
    rw [List.map_map] at this
    exact this.symm
  have hloop := loopM_run (b := M.spec_DepthOf_l9_b (encNs o l) (i : Int) (encI (dtab l i))) (t := (dep l (i + 1) i, (n.kids.length : Int))) (fun j => (mx 1 ((n.kids.take j).map fun k => 1 + dep l i k.toNat), (j : Int))) n.kids.length
    (by
      intro j hj
      obtain ⟨k, hkj⟩ : ∃ k, n.kids[j]? = some k := ⟨n.kids[j], by simp⟩
      have hkm := List.mem_of_getElem? hkj
      have hkr := h.kids hn k hkm
      obtain ⟨q, hq⟩ : ∃ q : Nat, k = q := ⟨k.toNat, by omega⟩
      have hd := hdk k hkm
      have hr := dep_range l (q + 1) q
      subst hq
      rw [Int.toNat_natCast] at hd
      simp only [M.spec_DepthOf_l9_b, M.spec_DepthOf_l9_C, idx_nat, get_encNs, hn, Option.map_some, some_bind, cN4, encI_length, get_encI, hkj, cI0, Int.toNat_natCast, dtab_get l (show q < i by omega)]
      rw [decide_eq_true (by omega), cond_true, wrap_ok (n := (j : Int) + 1) (by omega) (by omega), wrap_ok (n := 1 + dep l (q + 1) q) (by omega) (by omega), List.take_add_one, hkj, Option.toList_some, List.map_append, List.map_cons, List.map_nil, mx_snoc, Int.toNat_natCast, hd]
      rfl)
    (by
      simp only [M.spec_DepthOf_l9_b, M.spec_DepthOf_l9_C, idx_nat, get_encNs, hn, Option.map_some, some_bind, cN4, encI_length]
      rw [decide_eq_false (by omega), cond_false, ← hval, List.take_length, dep, kidsOf_at hn, Int.add_comm]) 0 (Nat.zero_le _)
  rw [M.spec_DepthOf_l9]
  exact hloop
def depth (l : List Nd) : Int := if lshape l then dep l l.length (l.length - 1) else 0
theorem spec_DepthOf_ok (l : List Nd) (o : Bool) (hl : l.length ≤ 1048576) (hk : ∀ n, n ∈ l → n.kids.length ≤ 1048576) : M.spec_DepthOf (encNs o l) = some (depth l) := by
  simp only [M.spec_DepthOf, M.spec_DepthOf_C, spec_ShapeOk_ok l o hl hk, some_bind, encNs_length, depth]
  cases hs : lshape l with
  | false => rfl
  | true =>
    obtain ⟨r, h⟩ := val_of hs
    have h1 := h.pos
    have h2 := h.le
    have hloop := loopM_run (b := M.spec_DepthOf_l5_b (encNs o l)) (t := ((l.length : Int), encI (dtab l l.length))) (fun i => ((i : Int), encI (dtab l i))) l.length
      (by
        intro i hi
        obtain ⟨n, hn⟩ : ∃ n, l[i]? = some n := ⟨l[i], by simp⟩
        have hin := spec_dep_in (o := o) h hn (hk n (List.mem_of_getElem? hn))
        simp only [M.spec_DepthOf_l5_b, M.spec_DepthOf_l5_C, encNs_length, hin, some_bind, encI_length, dtab_len, List.length_singleton]
        rw [decide_eq_true (by omega), cond_true, ble_ok (by omega), cond_true, ble_ok (by omega), cond_true, wrap_ok (by omega) (by omega), dtab_succ]
        simp [encI])
      (by
        simp only [M.spec_DepthOf_l5_b, M.spec_DepthOf_l5_C, encNs_length]
        rw [decide_eq_false (by omega), cond_false]) 0 (Nat.zero_le _)
    have hloop' : M.spec_DepthOf_l5 (encNs o l) (0, []) = _ := hloop
    rw [Bool.not_true, cond_false, hloop', some_bind, wrap_ok (by omega) (by omega), show (l.length : Int) - 1 = ((l.length - 1 : Nat) : Int) by omega, if_pos rfl]
    simp only [idx_nat, Int.toNat_natCast, get_encI, dtab_get l (show l.length - 1 < l.length by omega), Option.map_some, some_bind, cI0]
    rw [show l.length - 1 + 1 = l.length by omega]
theorem fzRows_map : ∀ rows : List Row, fzRows rows = rows.map fzRow
  | [] => rfl
  | x :: rows => by rw [fzRows, fzRows_map rows, List.map_cons]
end
end Go.Proofs.Ytghbceiigeialaa
