import Derived.Test.YtghbceiigeialaaZDepth
namespace Go.Proofs.Ytghbceiigeialaa
set_option linter.unusedVariables false
set_option linter.unusedSimpArgs false
open Go Go.Vm
def pre (l : List Nd) : Nat → Nat → List Int
  | 0, _ => []
  | f + 1, i => (i : Int) :: (kidsOf l i).flatMap fun k => pre l f k.toNat
theorem flat_len (f : Int → List Int) (g : Int → Int) : ∀ (ks : List Int), (∀ k, k ∈ ks → ((f k).length : Int) = g k) → ((ks.flatMap f).length : Int) = sumI (ks.map g)
  | [], _ => by simp [sumI]
  | k :: ks, h => by
    rw [List.flatMap_cons, List.length_append, List.map_cons, sumI, ← flat_len f g ks (fun x hx => h x (List.mem_cons_of_mem _ hx)), ← h k List.mem_cons_self]
    omega
theorem pre_len {l : List Nd} {r : List Int} (h : Val l r) : ∀ (f i : Nat), i < f → i < l.length → ((pre l f i).length : Int) = sz r i
  | 0, i, hf, _ => absurd hf (Nat.not_lt_zero _)
  | f + 1, i, hf, hi => by
    obtain ⟨n, hn⟩ : ∃ n, l[i]? = some n := ⟨l[i], by simp⟩
    rw [pre, kidsOf, hn]
    simp only [List.length_cons]
    have hk := h.kids hn
    have := flat_len (fun k => pre l f k.toNat) (sz r) n.kids (fun k hkm => by
      have hk' := hk k hkm
      have := pre_len h f k.toNat (by omega) (by omega)
      rw [this, Int.toNat_of_nonneg hk'.1])
    rw [← h.sum hn, ← this]
    omega
theorem flat_take_len (f : Int → List Int) (ks : List Int) (j : Nat) : ((ks.take j).flatMap f).length ≤ (ks.flatMap f).length := by
  have : ks.flatMap f = (ks.take j).flatMap f ++ (ks.drop j).flatMap f := by rw [← List.flatMap_append, List.take_append_drop]
  rw [this, List.length_append]
  omega
theorem flat_take_succ (f : Int → List Int) (ks : List Int) {j : Nat} {k : Int} (h : ks[j]? = some k) : (ks.take (j + 1)).flatMap f = (ks.take j).flatMap f ++ f k := by
  rw [List.take_add_one, h, Option.toList_some, List.flatMap_append]
  simp
section
variable {l : List Nd} {r : List Int} {o : Bool}
theorem impl_pre_ok (h : Val l r) (hk : ∀ n, n ∈ l → n.kids.length ≤ 1048576) : ∀ (f i : Nat) (out : List Int), i < f → i < l.length → (out.length : Int) + sz r i ≤ 1000000 → M.impl_preorder_N f (encNs o l) (i : Int) (encI out) = some (encI (out ++ pre l f i))
  | 0, i, _, hf, _, _ => absurd hf (Nat.not_lt_zero _)
  | f + 1, i, out, hf, hi, hout => by
    obtain ⟨n, hn⟩ : ∃ n, l[i]? = some n := ⟨l[i], by simp⟩
    have hkn := hk n (List.mem_of_getElem? hn)
    have hkl := h.kids hn
    have hlen : (((i : Int) :: n.kids.flatMap fun k => pre l f k.toNat).length : Int) = sz r i := by
      have := pre_len h (f + 1) i hf hi
      rw [pre, kidsOf, hn] at this
      exact this
    have hsz := (h.sz_pos (k := (i : Int)) (by omega))
    have hle := h.le
    have hloop := loopM_run (b := M.impl_preorder_l3_b (M.impl_preorder_N f) (encNs o l) (encI n.kids) (n.kids.length : Int)) (t := ((n.kids.length : Int), encI (out ++ [(i : Int)] ++ n.kids.flatMap fun k => pre l f k.toNat)))
      (fun j => ((j : Int), encI (out ++ [(i : Int)] ++ (n.kids.take j).flatMap fun k => pre l f k.toNat))) n.kids.length
      (by
        intro j hj
        obtain ⟨k, hkj⟩ : ∃ k, n.kids[j]? = some k := ⟨n.kids[j], by simp⟩
        have hkr := hkl k (List.mem_of_getElem? hkj)
        have hsucc := flat_take_succ (fun k => pre l f k.toNat) n.kids hkj
        have htl := flat_take_len (fun k => pre l f k.toNat) n.kids (j + 1)
        rw [hsucc, List.length_append] at htl
        have hkl2 := pre_len h f k.toNat (by omega) (by omega)
        rw [Int.toNat_of_nonneg hkr.1] at hkl2
        simp only [List.length_cons] at hlen
        have hrec := impl_pre_ok h hk f k.toNat (out ++ [(i : Int)] ++ (n.kids.take j).flatMap fun k => pre l f k.toNat) (by omega) (by omega) (by
          rw [Int.toNat_of_nonneg hkr.1, ← hkl2]
          simp only [List.length_append, List.length_singleton]
          omega)
        rw [Int.toNat_of_nonneg hkr.1] at hrec
        simp only [M.impl_preorder_l3_b, M.impl_preorder_l3_C, idx_nat, get_encI, hkj, Option.map_some, some_bind, cI0, flat_encI, cond_true, hrec]
        rw [decide_eq_true (by omega), cond_true, wrap_ok (by omega) (by omega), hsucc, ← List.append_assoc]
        rfl)
      (by
        simp only [M.impl_preorder_l3_b, M.impl_preorder_l3_C]
        rw [decide_eq_false (by omega), cond_false, List.take_length]) 0 (Nat.zero_le _)
    simp only [M.impl_preorder_N, M.impl_preorder_C, M.impl_preorder_l3, encI_length, List.length_singleton, idx_nat, get_encNs, hn, Option.map_some, some_bind, cN4]
    rw [ble_ok (by omega), cond_true, ble_ok (by omega), cond_true]
    have e0 : encI (out ++ [(i : Int)] ++ (n.kids.take 0).flatMap fun k => pre l f k.toNat) = encI out ++ [[D.int IntKind.i64 (i : Int)]] := by simp [encI]
    rw [e0] at hloop
    refine (show _ = _ from congrArg (Option.bind · _) hloop).trans ?_
    simp only [some_bind, flat_encI, cond_true]
    rw [pre, kidsOf, hn, List.append_assoc]
    rfl
end
def preAll (l : List Nd) : List Int := if lshape l then pre l l.length (l.length - 1) else []
theorem preAll_len (l : List Nd) : (preAll l).length ≤ 400 := by
  unfold preAll
  split
  · rename_i hs
    obtain ⟨r, h⟩ := val_of hs
    have h1 := h.pos
    have h2 := h.le
    have := pre_len h l.length (l.length - 1) (by omega) (by omega)
    have := (h.sz_pos (k := ((l.length - 1 : Nat) : Int)) (by omega)).2
    omega
  · simp
theorem impl_Preorder_ok (l : List Nd) (o : Bool) (hl : l.length ≤ 1048576) (hk : ∀ n, n ∈ l → n.kids.length ≤ 1048576) : M.impl_Preorder (encNs o l) = some (encI (preAll l)) := by
  simp only [M.impl_Preorder, M.impl_Preorder_C, impl_ShapeOk_ok l o hl hk, some_bind, encNs_length, preAll]
  cases hs : lshape l with
  | false => rfl
  | true =>
    obtain ⟨r, h⟩ := val_of hs
    have h1 := h.pos
    have h2 := h.le
    have h3 := (h.sz_pos (k := ((l.length - 1 : Nat) : Int)) (by omega)).2
    have h4 := impl_pre_ok (o := o) h hk l.length (l.length - 1) [] (by omega) (by omega) (by simp; omega)
    rw [List.nil_append, show encI ([] : List Int) = [] from rfl] at h4
    rw [Bool.not_true, cond_false, wrap_ok (by omega) (by omega), show (l.length : Int) - 1 = ((l.length - 1 : Nat) : Int) by omega,
      M.impl_preorder_of h4, some_bind, flat_encI, cond_true, if_pos rfl]
end Go.Proofs.Ytghbceiigeialaa
