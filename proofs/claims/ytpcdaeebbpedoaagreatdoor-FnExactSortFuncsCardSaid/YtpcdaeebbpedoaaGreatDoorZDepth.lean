import Derived.Test.YtpcdaeebbpedoaaGreatDoorZVal
namespace Go.Proofs.YtpcdaeebbpedoaaGreatDoor
set_option linter.unusedVariables false
set_option linter.unusedSimpArgs false
open Go Go.Vm
def mx : Int → List Int → Int
  | a, [] => a
  | a, x :: l => mx (bif decide (a < x) then x else a) l
theorem mx_range (B : Int) : ∀ (l : List Int) (a : Int), a ≤ B → (∀ x, x ∈ l → x ≤ B) → a ≤ mx a l ∧ mx a l ≤ B
  | [], a, h, _ => ⟨Int.le_refl _, h⟩
  | x :: l, a, h, hl => by
    have hx := hl x List.mem_cons_self
    rw [mx]
    by_cases c : a < x
    · rw [decide_eq_true c, cond_true]
      have := mx_range B l x hx fun y hy => hl y (List.mem_cons_of_mem _ hy)
      omega
    · rw [decide_eq_false c, cond_false]
      exact mx_range B l a h fun y hy => hl y (List.mem_cons_of_mem _ hy)
theorem mx_snoc : ∀ (l : List Int) (a x : Int), mx a (l ++ [x]) = (bif decide (mx a l < x) then x else mx a l)
  | [], a, x => rfl
  | y :: l, a, x => by rw [List.cons_append, mx, mx, mx_snoc l]
theorem mx_one : ∀ (l : List Int) (a : Int), mx (1 + a) (l.map fun d => 1 + d) = 1 + mx a l
  | [], a => rfl
  | x :: l, a => by
    rw [List.map_cons, mx, mx, ← mx_one l]
    by_cases c : a < x
    · rw [decide_eq_true c, cond_true, decide_eq_true (by omega), cond_true]
    · rw [decide_eq_false c, cond_false, decide_eq_false (by omega), cond_false]
def dep (l : List Nd) : Nat → Nat → Int
  | 0, _ => 0
  | f + 1, i => mx 0 ((kidsOf l i).map fun k => dep l f k.toNat) + 1
theorem dep_range (l : List Nd) : ∀ f i, 0 ≤ dep l f i ∧ dep l f i ≤ f
  | 0, i => by simp [dep]
  | f + 1, i => by
    have := mx_range (f : Int) ((kidsOf l i).map fun k => dep l f k.toNat) 0 (by omega) (fun x hx => by
      obtain ⟨k, _, rfl⟩ := List.mem_map.1 hx
      exact (dep_range l f k.toNat).2)
    rw [dep]
    omega
section
variable {l : List Nd} {r : List Int} {o : Bool}
theorem dep_fuel (h : Val l r) : ∀ (f f' i : Nat), i < f → i < f' → i < l.length → dep l f i = dep l f' i
  | 0, _, i, h1, _, _ => absurd h1 (Nat.not_lt_zero _)
  | f + 1, 0, i, _, h2, _ => absurd h2 (Nat.not_lt_zero _)
  | f + 1, f' + 1, i, h1, h2, h3 => by
    obtain ⟨n, hn⟩ : ∃ n, l[i]? = some n := ⟨l[i], by simp⟩
    rw [dep, dep, kidsOf_at hn]
    congr 2
    refine List.map_congr_left fun k hk => ?_
    have hkr := h.kids hn k hk
    exact dep_fuel h f f' k.toNat (by omega) (by omega) (by omega)
def dtab (l : List Nd) (i : Nat) : List Int := (List.range i).map fun j => dep l (j + 1) j
theorem dtab_len (l : List Nd) (i : Nat) : (dtab l i).length = i := by simp [dtab]
theorem dtab_get (l : List Nd) {i j : Nat} (h : j < i) : (dtab l i)[j]? = some (dep l (j + 1) j) := by
  simp [dtab, List.getElem?_range h]
theorem dtab_succ (l : List Nd) (i : Nat) : dtab l (i + 1) = dtab l i ++ [dep l (i + 1) i] := by simp [dtab, List.range_succ]
theorem spec_dep_in (h : Val l r) {i : Nat} {n : Nd} (hn : l[i]? = some n) (hk : n.kids.length ≤ 1048576) : M.spec_DepthOf_l9 (encNs o l) (i : Int) (encI (dtab l i)) (1, 0) = some (dep l (i + 1) i, (n.kids.length : Int)) := by
  have hil := (List.getElem?_eq_some_iff.1 hn).1
  have hle := h.le
  have hdk : ∀ k, k ∈ n.kids → dep l i k.toNat = dep l (k.toNat + 1) k.toNat := fun k hkm => by
    have := h.kids hn k hkm
    exact dep_fuel h _ _ _ (by omega) (by omega) (by omega)
  have hval : ∀ (j : Nat), (1 : Int) + mx 0 ((n.kids.take j).map fun k => dep l i k.toNat) = mx 1 ((n.kids.take j).map fun k => 1 + dep l i k.toNat) := fun j => by
    have := mx_one ((n.kids.take j).map fun k => dep l i k.toNat) 0
    rw [List.map_map] at this
    exact this.symm
  have hloop := loopM_run (b := M.spec_DepthOf_l9_b (encNs o l) (i : Int) (encI (dtab l i))) (t := (dep l (i + 1) i, (n.kids.length : Int))) (fun j => (mx 1 ((n.kids.take j).map fun k => 1 + dep l i k.toNat), (j : Int))) n.kids.length
    (by
      intro j hj
      obtain ⟨k, hkj⟩ : ∃ k, n.kids[j]? = some k := ⟨n.kids[j], by simp⟩
      have hkm := List.mem_of_getElem? hkj
      have hkr := h.kids hn k hkm
      obtain ⟨q, hq⟩ : ∃ q : Nat, k = q := ⟨k.toNat, by omega⟩
      have hd := hdk k hkm
      have hr := dep_range l (q + 1) q
      subst hq
      rw [Int.toNat_natCast] at hd
      simp only [M.spec_DepthOf_l9_b, M.spec_DepthOf_l9_C, idx_nat, get_encNs, hn, Option.map_some, some_bind, cN4, encI_length, get_encI, hkj, cI0, Int.toNat_natCast, dtab_get l (show q < i by omega)]
      rw [decide_eq_true (by omega), cond_true, wrap_ok (n := (j : Int) + 1) (by omega) (by omega), wrap_ok (n := 1 + dep l (q + 1) q) (by omega) (by omega), List.take_add_one, hkj, Option.toList_some, List.map_append, List.map_cons, List.map_nil, mx_snoc, Int.toNat_natCast, hd]
      rfl)
    (by
      simp only [M.spec_DepthOf_l9_b, M.spec_DepthOf_l9_C, idx_nat, get_encNs, hn, Option.map_some, some_bind, cN4, encI_length]
      rw [decide_eq_false (by omega), cond_false, ← hval, List.take_length, dep, kidsOf_at hn, Int.add_comm]) 0 (Nat.zero_le _)
  rw [M.spec_DepthOf_l9]
  exact hloop
def depth (l : List Nd) : Int := if lshape l then dep l l.length (l.length - 1) else 0
theorem spec_DepthOf_ok (l : List Nd) (o : Bool) (hl : l.length ≤ 1048576) (hk : ∀ n, n ∈ l → n.kids.length ≤ 1048576) : M.spec_DepthOf (encNs o l) = some (depth l) := by
  simp only [M.spec_DepthOf, M.spec_DepthOf_C, spec_ShapeOk_ok l o hl hk, some_bind, encNs_length, depth]
  cases hs : lshape l with
  | false => rfl
  | true =>
    obtain ⟨r, h⟩ := val_of hs
    have h1 := h.pos
    have h2 := h.le
    have hloop := loopM_run (b := M.spec_DepthOf_l5_b (encNs o l)) (t := ((l.length : Int), encI (dtab l l.length))) (fun i => ((i : Int), encI (dtab l i))) l.length
      (by
        intro i hi
        obtain ⟨n, hn⟩ : ∃ n, l[i]? = some n := ⟨l[i], by simp⟩
        have hin := spec_dep_in (o := o) h hn (hk n (List.mem_of_getElem? hn))
        simp only [M.spec_DepthOf_l5_b, M.spec_DepthOf_l5_C, encNs_length, hin, some_bind, encI_length, dtab_len, List.length_singleton]
        rw [decide_eq_true (by omega), cond_true, ble_ok (by omega), cond_true, ble_ok (by omega), cond_true, wrap_ok (by omega) (by omega), dtab_succ]
        simp [encI])
      (by
        simp only [M.spec_DepthOf_l5_b, M.spec_DepthOf_l5_C, encNs_length]
        rw [decide_eq_false (by omega), cond_false]) 0 (Nat.zero_le _)
    have hloop' : M.spec_DepthOf_l5 (encNs o l) (0, []) = _ := hloop
    rw [Bool.not_true, cond_false, hloop', some_bind, wrap_ok (by omega) (by omega), show (l.length : Int) - 1 = ((l.length - 1 : Nat) : Int) by omega, if_pos rfl]
    simp only [idx_nat, Int.toNat_natCast, get_encI, dtab_get l (show l.length - 1 < l.length by omega), Option.map_some, some_bind, cI0]
    rw [show l.length - 1 + 1 = l.length by omega]
def ndAt (l : List Nd) (i : Nat) : Nd := match l[i]? with | some n => n | none => ⟨0, 0, [], [], []⟩
def trow (n : Nd) (rows : List Row) : Row := [.int .i64 n.kind, .int .i64 n.op, .str n.text, .str n.other, .sl true 5 rows]
def tkids (l : List Nd) : Nat → Nat → List Row
  | 0, _ => []
  | f + 1, i => (kidsOf l i).map fun k => trow (ndAt l k.toNat) (tkids l f k.toNat)
theorem treeAt_ok (h : Val l r) (hk : ∀ n, n ∈ l → n.kids.length ≤ 400) : ∀ (f i : Nat) (n : Nd), i < f → l[i]? = some n → M.impl_treeAt_N f (encNs o l) (i : Int) = some (n.kind, n.op, n.text, n.other, tkids l f i)
  | 0, i, n, hf, _ => absurd hf (Nat.not_lt_zero _)
  | f + 1, i, n, hf, hn => by
    have hkn := hk n (List.mem_of_getElem? hn)
    have hil := (List.getElem?_eq_some_iff.1 hn).1
    have hkl := h.kids hn
    simp only [M.impl_treeAt_N, M.impl_treeAt_C, idx_nat, get_encNs, hn, Option.map_some, some_bind, cN0, cN1, cN2, cN3, cN4, encI_length]
    have hrec : ∀ (j : Nat) k, n.kids[j]? = some k → M.impl_treeAt_N f (encNs o l) k = some ((ndAt l k.toNat).kind, (ndAt l k.toNat).op, (ndAt l k.toNat).text, (ndAt l k.toNat).other, tkids l f k.toNat) := by
      intro j k hj
      have hkr := hkl k (List.mem_of_getElem? hj)
      obtain ⟨q, hq⟩ : ∃ q : Nat, k = q := ⟨k.toNat, by omega⟩
      subst hq
      obtain ⟨m, hm⟩ : ∃ m, l[q]? = some m := ⟨l[q]'(by omega), by simp⟩
      have := treeAt_ok h hk f q m (by omega) hm
      rw [this, Int.toNat_natCast, ndAt, hm]
    have hloop := loopM_run (b := M.impl_treeAt_l4_b (M.impl_treeAt_N f))
      (t := if n.kids = [] then .inl (encNs o l, encI n.kids, (n.kids.length : Int), 0, 0, 0, [], [], n.kind, n.op, n.text, n.other) else .inr (encNs o l, encI n.kids, (n.kids.length : Int), (n.kids.length : Int), 0, 0, [], [], n.kind, n.op, n.text, n.other, tkids l (f + 1) i))
      (fun j => if j = 0 then .inl (encNs o l, encI n.kids, (n.kids.length : Int), 0, 0, 0, [], [], n.kind, n.op, n.text, n.other) else .inr (encNs o l, encI n.kids, (n.kids.length : Int), (j : Int), 0, 0, [], [], n.kind, n.op, n.text, n.other, (n.kids.take j).map fun k => trow (ndAt l k.toNat) (tkids l f k.toNat))) n.kids.length
      (by
        intro j hj
        obtain ⟨k, hkj⟩ : ∃ k, n.kids[j]? = some k := ⟨n.kids[j], by simp⟩
        have hr := hrec j k hkj
        have htk : (n.kids.take (j + 1)).map (fun k => trow (ndAt l k.toNat) (tkids l f k.toNat)) = (n.kids.take j).map (fun k => trow (ndAt l k.toNat) (tkids l f k.toNat)) ++ [trow (ndAt l k.toNat) (tkids l f k.toNat)] := by
          rw [List.take_add_one, hkj, Option.toList_some, List.map_append]
          rfl
        rw [if_neg (show ¬ j + 1 = 0 by omega), htk]
        by_cases h0 : j = 0
        · subst h0
          rw [if_pos rfl]
          have hkj' : idx (encI n.kids) 0 = some [D.int .i64 k] := by
            have := idx_nat (encI n.kids) 0
            rw [nat0] at this
            rw [this, get_encI, hkj]
            rfl
          simp only [M.impl_treeAt_l4_b, M.impl_treeAt_l4_C, hkj', some_bind, cI0, hr]
          rw [decide_eq_true (by omega), cond_true]
          rfl
        · rw [if_neg h0]
          simp only [M.impl_treeAt_l4_b, M.impl_treeAt_l4_C, idx_nat, get_encI, hkj, Option.map_some, some_bind, cI0, hr, List.length_map, List.length_take, List.length_singleton]
          rw [decide_eq_true (by omega), cond_true, ble_ok (by omega), cond_true, ble_ok (by omega), cond_true, wrap_ok (by omega) (by omega)]
          rfl)
      (by
        by_cases h0 : n.kids.length = 0
        · have he : n.kids = [] := List.length_eq_zero_iff.1 h0
          rw [if_pos h0, if_pos he]
          simp only [M.impl_treeAt_l4_b, M.impl_treeAt_l4_C]
          rw [decide_eq_false (by omega), cond_false]
        · have he : ¬ n.kids = [] := fun e => h0 (by rw [e]; rfl)
          rw [if_neg h0, if_neg he, List.take_length]
          simp only [M.impl_treeAt_l4_b, M.impl_treeAt_l4_C]
          rw [decide_eq_false (by omega), cond_false, tkids, kidsOf_at hn]) 0 (Nat.zero_le _)
    rw [if_pos rfl] at hloop
    rw [M.impl_treeAt_l4, hloop, some_bind]
    by_cases he : n.kids = []
    · rw [if_pos he, tkids, kidsOf_at hn, he]
      rfl
    · rw [if_neg he]
      rfl
theorem fzRows_map : ∀ rows : List Row, fzRows rows = rows.map fzRow
  | [] => rfl
  | x :: rows => by rw [fzRows, fzRows_map rows, List.map_cons]
theorem depth_ok (h : Val l r) (hk : ∀ n, n ∈ l → n.kids.length ≤ 400) : ∀ (f i : Nat) (n : Nd) (a b : Int) (c d : List UInt8), i < f → f ≤ 1000 → l[i]? = some n → M.impl_tree_depth_N f a b c d (fzRows (tkids l f i)) = some (dep l f i)
  | 0, i, n, a, b, c, d, hf, _, _ => absurd hf (Nat.not_lt_zero _)
  | f + 1, i, n, a, b, c, d, hf, hf2, hn => by
    have hkn := hk n (List.mem_of_getElem? hn)
    have hil := (List.getElem?_eq_some_iff.1 hn).1
    have hkl := h.kids hn
    have hdr := dep_range l (f + 1) i
    have hlen : (fzRows (tkids l (f + 1) i)).length = n.kids.length := by rw [fzRows_map, tkids, kidsOf_at hn]; simp
    simp only [M.impl_tree_depth_N, M.impl_tree_depth_C, hlen]
    have hloop := loopM_run (b := M.impl_tree_depth_l3_b (M.impl_tree_depth_N f) (fzRows (tkids l (f + 1) i)) (n.kids.length : Int)) (t := (mx 0 (n.kids.map fun k => dep l f k.toNat), (n.kids.length : Int)))
      (fun j => (mx 0 ((n.kids.take j).map fun k => dep l f k.toNat), (j : Int))) n.kids.length
      (by
        intro j hj
        obtain ⟨k, hkj⟩ : ∃ k, n.kids[j]? = some k := ⟨n.kids[j], by simp⟩
        have hkr := hkl k (List.mem_of_getElem? hkj)
        obtain ⟨q, hq⟩ : ∃ q : Nat, k = q := ⟨k.toNat, by omega⟩
        subst hq
        obtain ⟨m, hm⟩ : ∃ m, l[q]? = some m := ⟨l[q]'(by omega), by simp⟩
        have hrow : (fzRows (tkids l (f + 1) i))[j]? = some (fzRow (trow m (tkids l f q))) := by
          rw [fzRows_map, tkids, kidsOf_at hn, List.getElem?_map, List.getElem?_map, hkj]
          simp only [Option.map_some, Int.toNat_natCast, ndAt, hm]
        have hrec := depth_ok h hk f q m m.kind m.op m.text m.other (by omega) (by omega) hm
        have k0 : cInt .i64 (fzRow (trow m (tkids l f q))) 0 = some m.kind := rfl
        have k1 : cInt .i64 (fzRow (trow m (tkids l f q))) 1 = some m.op := rfl
        have k2 : cStr (fzRow (trow m (tkids l f q))) 2 = some m.text := rfl
        have k3 : cStr (fzRow (trow m (tkids l f q))) 3 = some m.other := rfl
        have k4 : cSl 5 (fzRow (trow m (tkids l f q))) 4 = some (fzRows (tkids l f q)) := rfl
        simp only [M.impl_tree_depth_l3_b, M.impl_tree_depth_l3_C, idx_nat, hrow, some_bind, k0, k1, k2, k3, k4, hrec]
        rw [decide_eq_true (by omega), cond_true, wrap_ok (by omega) (by omega), List.take_add_one, hkj, Option.toList_some, List.map_append, List.map_cons, List.map_nil, mx_snoc, Int.toNat_natCast]
        rfl)
      (by
        simp only [M.impl_tree_depth_l3_b, M.impl_tree_depth_l3_C]
        rw [decide_eq_false (by omega), cond_false, List.take_length]) 0 (Nat.zero_le _)
    have hloop' : M.impl_tree_depth_l3 (M.impl_tree_depth_N f) (fzRows (tkids l (f + 1) i)) (n.kids.length : Int) (0, 0) = _ := hloop
    rw [hloop', some_bind]
    rw [dep, kidsOf_at hn] at hdr ⊢
    rw [wrap_ok (by omega) (by omega)]
end
end Go.Proofs.YtpcdaeebbpedoaaGreatDoor
