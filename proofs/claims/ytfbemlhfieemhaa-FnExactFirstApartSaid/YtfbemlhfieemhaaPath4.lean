/-
  The law on PathOf, in plain Lean.
-/
import Derived.Test.YtfbemlhfieemhaaPath3
namespace Go.Proofs.Ytfbemlhfieemhaa
set_option linter.unusedVariables false
set_option linter.unusedSimpArgs false
open Go Go.Vm

section
variable {l : List Nd} {r : List Int} {o : Bool}
theorem up_kids_ok (h : Val l r) {q : Nat} {n : Nd} (hn : l[q]? = some n) (hk : n.kids.length ≤ 1048576) {a : Nat} {x : Int} (hx : n.kids[a]? = some x) (acc : List Int) (hacc : acc.length ≤ 1000) :
    M.spec_PathOf_l8 (encNs o l) x (q : Int) (0, encI acc) = some ((n.kids.length : Int), false, encI ((a : Int) :: acc)) := by
  have hal := (List.getElem?_eq_some_iff.1 hx).1
  have huniq : ∀ b y, n.kids[b]? = some y → y = x → b = a := by
    intro b y hb e
    subst e
    have hym := List.mem_of_getElem? hb
    have hz := h.kid_in hn hym
    rcases Nat.lt_trichotomy a b with hab | hab | hab
    · have := h.apart hn hab hx hb
      omega
    · exact hab.symm
    · have := h.apart hn hab hb hx
      omega
  have hloop := loopM_run (b := M.spec_PathOf_l8_b (encNs o l) x (q : Int)) (t := ((n.kids.length : Int), false, encI ((a : Int) :: acc))) (fun j => ((j : Int), encI (if a < j then (a : Int) :: acc else acc))) n.kids.length
    (by
      intro j hj
      obtain ⟨k, hkj⟩ : ∃ k, n.kids[j]? = some k := ⟨n.kids[j], by simp⟩
      simp only [M.spec_PathOf_l8_b, M.spec_PathOf_l8_C, idx_nat, get_encNs, hn, Option.map_some, some_bind, cN4, encI_length, get_encI, hkj, cI0]
      rw [decide_eq_true (by omega), cond_true, wrap_ok (by omega) (by omega)]
      by_cases hkx : k = x
      · have hja := huniq j k hkj hkx
        subst hja
        have : (k == x) = true := by simp [hkx]
        rw [this, cond_true, if_neg (by omega), if_pos (by omega)]
        simp only [List.length_singleton]
        rw [ble_ok (by omega), cond_true, ble_ok (by omega), cond_true]
        rfl
      · have : (k == x) = false := by simp [hkx]
        have hja : j ≠ a := by
          intro e
          subst e
          rw [hkj] at hx
          exact hkx (Option.some.inj hx)
        rw [this, cond_false]
        by_cases hlt : a < j
        · rw [if_pos hlt, if_pos (by omega)]
          rfl
        · rw [if_neg hlt, if_neg (by omega)]
          rfl)
    (by
      simp only [M.spec_PathOf_l8_b, M.spec_PathOf_l8_C, idx_nat, get_encNs, hn, Option.map_some, some_bind, cN4, encI_length]
      rw [decide_eq_false (by omega), cond_false, if_pos hal]) 0 (Nat.zero_le _)
  rw [nat0, if_neg (by omega)] at hloop
  exact hloop
theorem up_ok (h : Val l r) (hs : shape l = true) (h0 : sta r ((l.length - 1 : Nat) : Int) = 0) (hk : ∀ n, n ∈ l → n.kids.length ≤ 1048576) (i : Int) : ∀ (d x : Nat) (acc : List Int), x + d = l.length - 1 → pt l l.length x i = some acc →
    ∃ t1 t2 p, M.spec_PathOf_l5 (encNs o l) ((x : Int), par l x, encI acc) = some (t1, t2, false, encI p) ∧ pt l l.length ((l.length - 1 : Nat) : Int) i = some p := by
  intro d
  induction d using Nat.strongRecOn with
  | _ d ih =>
    intro x acc hx hacc
    have hle := h.le
    have hpos := h.pos
    have hl : l.length ≤ 1048576 := by omega
    have hin := pt_in h l.length x i acc (by omega) hacc
    rcases par_cases l x with ⟨q, n, hq, hm, hp⟩ | ⟨hno, hp⟩
    · have hql := (List.getElem?_eq_some_iff.1 hq).1
      have hxq := h.kids hq _ hm
      obtain ⟨a, ha⟩ := List.mem_iff_getElem?.1 hm
      have hup := pt_up h hq ha hacc
      obtain ⟨t1, t2, p, h1, h2⟩ := ih (l.length - 1 - q) (by omega) q ((a : Int) :: acc) (by omega) hup
      refine ⟨t1, t2, p, ?_, h2⟩
      rw [M.spec_PathOf_l5] at h1 ⊢
      rw [hp, loopM_next (s' := ((q : Int), par l q, encI ((a : Int) :: acc))) ?_]
      · exact h1
      · have hu := up_kids_ok (o := o) h hq (hk n (List.mem_of_getElem? hq)) ha acc (by omega)
        simp only [M.spec_PathOf_l5_b, M.spec_PathOf_l5_C]
        rw [decide_eq_true (by omega), cond_true, hu, some_bind, spec_ParentOf_ok hl hk hs, some_bind]
    · have hroot : x = l.length - 1 := by
        rcases Nat.lt_or_ge x (l.length - 1) with hlt | hge
        · obtain ⟨q, n, _, hq, hm⟩ := h.parent (l.length - 1) x (by omega) (by rw [h0]; omega) (by omega)
          exact absurd hm (hno n (List.mem_of_getElem? hq))
        · omega
      subst hroot
      refine ⟨((l.length - 1 : Nat) : Int), -1, acc, ?_, hacc⟩
      rw [M.spec_PathOf_l5]
      apply loopM_end
      simp only [M.spec_PathOf_l5_b, M.spec_PathOf_l5_C, hp]
      rfl
end
theorem shape_zero {l : List Nd} {r : List Int} (h : Val l r) (hs : shape l = true) : sta r ((l.length - 1 : Nat) : Int) = 0 := by
  unfold shape at hs
  rw [startsOk, if_pos (by rw [ks_length]; exact ⟨h.pos, h.le⟩), h.st] at hs
  rw [sta, Int.toNat_natCast]
  simpa using hs
def pathOf (l : List Nd) (i : Int) : List Int := if shape l && (decide (0 ≤ i) && decide (i ≤ (l.length : Int) - 1)) then (pt l l.length ((l.length - 1 : Nat) : Int) i).getD [] else []
theorem pathOf_len (l : List Nd) (i : Int) : (pathOf l i).length ≤ 400 := by
  unfold pathOf
  split
  · rename_i hs
    rw [Bool.and_eq_true] at hs
    obtain ⟨r, h⟩ := val_of hs.1
    have h1 := h.pos
    have h2 := h.le
    cases hp : pt l l.length ((l.length - 1 : Nat) : Int) i with
    | none => simp
    | some p =>
      have := pt_in h l.length (l.length - 1) i p (by omega) hp
      simp only [Option.getD_some]
      omega
  · simp
theorem spec_PathOf_ok (l : List Nd) (o : Bool) (hl : l.length ≤ 1048576) (hk : ∀ n, n ∈ l → n.kids.length ≤ 1048576) (i : Int) : M.spec_PathOf (encNs o l) i = some (encI (pathOf l i)) := by
  simp only [M.spec_PathOf, M.spec_PathOf_C, spec_ShapeOk_ok l o hl hk, some_bind, encNs_length, pathOf]
  cases hs : shape l with
  | false => rfl
  | true =>
    obtain ⟨r, h⟩ := val_of hs
    have h1 := h.pos
    have h2 := h.le
    rw [Bool.not_true, cond_false, spec_l1In_ok, some_bind, wrap_ok (by omega) (by omega), Bool.true_and]
    cases hb : (decide (0 ≤ i) && decide (i ≤ (l.length : Int) - 1)) with
    | false => rfl
    | true =>
      simp at hb
      rw [Bool.not_true, cond_false, spec_ParentOf_ok hl hk hs, some_bind, if_pos rfl]
      obtain ⟨x, rfl⟩ : ∃ x : Nat, i = (x : Int) := ⟨i.toNat, by omega⟩
      have hself : pt l l.length (x : Int) (x : Int) = some [] := by
        obtain ⟨f, hf⟩ : ∃ f, l.length = f + 1 := ⟨l.length - 1, by omega⟩
        rw [hf, pt, if_pos rfl]
      obtain ⟨t1, t2, p, h3, h4⟩ := up_ok (o := o) h hs (shape_zero h hs) hk (x : Int) (l.length - 1 - x) x [] (by omega) hself
      rw [show ([] : List Row) = encI [] from rfl, h3, h4]
      simp only [some_bind, flat_encI, cond_true, Option.getD_some]
theorem impl_PathOf_ok (l : List Nd) (o : Bool) (hl : l.length ≤ 1048576) (hk : ∀ n, n ∈ l → n.kids.length ≤ 1048576) (i : Int) : M.impl_PathOf (encNs o l) i = some (encI (pathOf l i)) := by
  simp only [M.impl_PathOf, M.impl_PathOf_C, impl_ShapeOk_ok l o hl hk, some_bind, encNs_length, pathOf]
  cases hs : shape l with
  | false => rfl
  | true =>
    obtain ⟨r, h⟩ := val_of hs
    have h1 := h.pos
    have h2 := h.le
    rw [Bool.not_true, cond_false, impl_within_ok, some_bind, wrap_ok (by omega) (by omega), Bool.true_and]
    cases hb : (decide (0 ≤ i) && decide (i ≤ (l.length : Int) - 1)) with
    | false => rfl
    | true =>
      rw [Bool.not_true, cond_false, show (l.length : Int) - 1 = ((l.length - 1 : Nat) : Int) by omega, M.impl_pathTo_of (impl_pt_ok (o := o) h hk i l.length (l.length - 1) (by omega) (by omega)), some_bind, if_pos rfl]
      cases pt l l.length ((l.length - 1 : Nat) : Int) i with
      | none => rfl
      | some p =>
        simp only [ptR, flat_encI, cond_true, Option.getD_some]
theorem law_PathOf (l : List Nd) (i : Int) (hl : l.length ≤ maxLen) (hf : ∀ n, n ∈ l → Fit n) (hi : I64 i) : M.laws_FnExactPathOf (encNs false l) i = some true := by
  simp only [M.laws_FnExactPathOf, M.laws_FnExactPathOf_C]
  rw [szNodeS_ok l false 1048576 (by omega) (by omega) hl hf, some_bind]
  by_cases hs : (l.length + wNs l : Int) ≤ 1048576
  · rw [if_pos hs, decide_eq_false (by omega), cond_false]
    have hk : ∀ n, n ∈ l → n.kids.length ≤ 1048576 := by
      intro n hn
      have h1 := wNs_mem hn
      have h2 : wN n = n.text.length + n.other.length + n.kids.length := rfl
      omega
    have hll : l.length ≤ 1048576 := by omega
    have hlen := pathOf_len l i
    have hmax : (400 : Nat) ≤ maxLen := by decide
    obtain ⟨k', m', hm, hk0⟩ := markNodeS_ok l (by omega)
    simp only [toNodeS_ok l false hll hk, some_bind, fz_encNs, spec_PathOf_ok l false hll hk, impl_PathOf_ok l false hll hk, pure_oneI, cond_true, eqIntS_same _ (Nat.le_trans hlen hmax), Bool.not_true, cond_false,
      eqNodeS_same l false false hl (fun n hn => (hf n hn).kids), hm, markIntS_ok 1 (pathOf l i) (by omega) (by omega) (by omega), heldIntS_ok 1 (pathOf l i).length (by omega) (by omega) (by omega), bne_self_eq_false]
    rw [decide_eq_false (by omega), cond_false, decide_eq_false (by omega)]
    rfl
  · rw [if_neg hs]; rfl
end Go.Proofs.Ytfbemlhfieemhaa
