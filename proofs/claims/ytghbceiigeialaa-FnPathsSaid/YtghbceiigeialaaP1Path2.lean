import Derived.Test.YtghbceiigeialaaP1Path
namespace Go.Proofs.Ytghbceiigeialaa
set_option linter.unusedVariables false
set_option linter.unusedSimpArgs false
open Go Go.Vm
def ptR : Option (List Int) → List Row × Bool
  | some p => (encI p, true)
  | none => ([], false)
def ptStep (g : Int → Option (List Int)) (w : Int) (k : Int) : Int ⊕ (List Row ⊕ Int) := match g k with
  | some p => .inr (.inl (encI (w :: p)))
  | none => .inl (w + 1)
theorem foldE_pt (g : Int → Option (List Int)) (len : Int) : ∀ (ks : List Int) (j : Int), foldE (ptStep g) (fun _ => .inr (len)) ks j = (match ptKids g ks j with
    | some p => .inl (encI p)
    | none => .inr (len))
  | [], j => rfl
  | k :: ks, j => by
    rw [foldE, ptStep, ptKids]
    cases g k with
    | some p => rfl
    | none => exact foldE_pt g len ks (j + 1)
section
variable {l : List Nd} {r : List Int} {o : Bool}
theorem impl_pt_ok (h : Val l r) (hk : ∀ n, n ∈ l → n.kids.length ≤ 1048576) (i : Int) : ∀ (f q : Nat), q < f → q < l.length → M.impl_pathTo_N f (encNs o l) (q : Int) i = some (ptR (pt l f q i))
  | 0, q, hf, _ => absurd hf (Nat.not_lt_zero _)
  | f + 1, q, hf, hq => by
    obtain ⟨n, hn⟩ : ∃ n, l[q]? = some n := ⟨l[q], by simp⟩
    have hkn := hk n (List.mem_of_getElem? hn)
    have hle := h.le
    simp only [M.impl_pathTo_N, M.impl_pathTo_C, pt]
    by_cases hqi : (q : Int) = i
    · have : ((q : Int) == i) = true := by simp [hqi]
      rw [this, cond_true, if_pos hqi]
      rfl
    · have : ((q : Int) == i) = false := by simp [hqi]
      rw [this, cond_false, if_neg hqi, Int.toNat_natCast, kidsOf_at hn]
      simp only [idx_nat, get_encNs, hn, Option.map_some, some_bind, cN4, encI_length]
      have hloop := loopM_list (M.impl_pathTo_l4_b (M.impl_pathTo_N f) (encNs o l) i (encI n.kids) (n.kids.length : Int)) n.kids (fun j (w : Int) => (j : Int)) (ptStep fun k => pt l f k i) (fun _ => .inr ((n.kids.length : Int))) (fun j w => w = j)
        (by
          intro j k w hj hw
          subst hw
          have hjl := (List.getElem?_eq_some_iff.1 hj).1
          have hkr := h.kids hn k (List.mem_of_getElem? hj)
          have e : ((k.toNat : Nat) : Int) = k := Int.toNat_of_nonneg hkr.1
          have hrec := impl_pt_ok h hk i f k.toNat (by omega) (by omega)
          rw [e] at hrec
          simp only [M.impl_pathTo_l4_b, M.impl_pathTo_l4_C, idx_nat, get_encI, hj, Option.map_some, some_bind, cI0, hrec, ptStep]
          rw [decide_eq_true (by omega), cond_true, wrap_ok (by omega) (by omega)]
          cases hp : pt l f k i with
          | none => rfl
          | some p =>
            have hfu := pt_fuel h l.length f k.toNat i (by omega) (by omega) (by omega)
            rw [e, hp] at hfu
            have hin := pt_in h l.length k.toNat i p (by omega) (by rw [e]; exact hfu)
            simp only [ptR, cond_true, encI_length, List.length_singleton]
            rw [ble_ok (by omega), cond_true, ble_ok (by omega), cond_true]
            rfl)
        (by
          intro j k w w' hj hw h'
          subst hw
          rw [ptStep] at h'
          split at h'
          · cases h'
          · cases h'
            omega)
        (by
          intro w _
          simp only [M.impl_pathTo_l4_b, M.impl_pathTo_l4_C]
          rw [decide_eq_false (by omega), cond_false]) 0 rfl
      rw [nat0] at hloop
      rw [M.impl_pathTo_l4, hloop, foldE_pt]
      cases ptKids (fun k => pt l f k i) n.kids 0 with
      | none => rfl
      | some p =>
        simp only [some_bind, sumE, flat_encI, cond_true]
        rfl
end
end Go.Proofs.Ytghbceiigeialaa
