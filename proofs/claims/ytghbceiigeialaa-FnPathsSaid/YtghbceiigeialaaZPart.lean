import Derived.Test.YtghbceiigeialaaZShift
import Derived.Test.YtghbceiigeialaaZRoot
import Derived.Test.YtghbceiigeialaaZOk
namespace Go.Proofs.Ytghbceiigeialaa
set_option linter.unusedVariables false
set_option linter.unusedSimpArgs false
open Go Go.Vm
theorem spec_starts_tn {T : Tn} {o : Bool} (hT : T.size ≤ 1048576) : M.spec_l6Starts (encNs o (T.flat 0)) = some (encI (T.sts 0), true) := by
  have h := starts_out_ok (T.flat 0) o (by rw [T.flat_length]; omega) (fun n hn => by have := (flat_kids T 0 n hn).1; omega) (T.flat 0) 0 [] rfl rfl (Nat.zero_le _) okSt_nil
  rw [nat0, tree_starts] at h
  have e : encI ([] : List Int) = [] := rfl
  rw [e] at h
  simp only [M.spec_l6Starts, M.spec_l6Starts_C]
  rw [h, some_bind]
  simp only [sumE, letE, flat_encI, cond_true]
theorem part_tn {T t : Tn} {o : Bool} {b : Nat} (hT : T.size ≤ 1048576) (h : Lies (T.flat 0) b t) : M.spec_l6Part (encNs o (T.flat 0)) ((b + sizes t.kids : Nat) : Int) = some (encNs true (t.flat 0)) := by
  have hlt := h.lt
  rw [T.flat_length] at hlt
  have hs := t.size_kids
  have hst := h.sts rfl
  rw [show b + t.size - 1 = b + sizes t.kids by omega] at hst
  have hg : idx (encI (T.sts 0)) ((b + sizes t.kids : Nat) : Int) = some [D.int .i64 (b : Int)] := by rw [idx_nat, get_encI, hst]; rfl
  have hg2 : (encI (T.sts 0))[(((b + sizes t.kids : Nat) : Int)).toNat]? = some [D.int .i64 (b : Int)] := by rw [Int.toNat_natCast, get_encI, hst]; rfl
  have hw : IntKind.i64.wrap (((b + sizes t.kids : Nat) : Int) + 1) = ((b + t.size : Nat) : Int) := by rw [wrap_ok (by omega) (by omega)]; omega
  have hcut : cut (encNs o (T.flat 0)) (b : Int) ((b + t.size : Nat) : Int) = some (encNs o (t.flat b)) := by
    unfold cut
    have hc : (decide (0 ≤ (b : Int)) && decide ((b : Int) ≤ ((b + t.size : Nat) : Int)) && decide (((b + t.size : Nat) : Int) ≤ ((encNs o (T.flat 0)).length : Int))) = true := by
      rw [encNs_length, T.flat_length]
      simp only [Bool.and_eq_true, decide_eq_true_eq]
      omega
    rw [hc, cond_true, Int.toNat_natCast, Int.toNat_natCast, show b + t.size - b = t.size by omega]
    have := h.part
    congr 1
    rw [← this]
    simp [encNs, List.map_drop, List.map_take]
  have hw2 : IntKind.i64.wrap (0 - (b : Int)) = 0 - (b : Int) := wrap_ok (by omega) (by omega)
  have hsh : M.spec_l6Shift (encNs o (t.flat b)) (0 - (b : Int)) = some (encNs true (t.flat 0)) := by
    rw [shift_ok (t.flat b) o _ (by rw [t.flat_length]; omega) (fun n hn => ?_)]
    · rw [t.flat_by b 0]
      rfl
    · obtain ⟨h1, h2⟩ := flat_kids t b n hn
      refine ⟨by omega, fun e he => ?_⟩
      have := h2 e he
      omega
  simp only [M.spec_l6Part, M.spec_l6Part_C, spec_starts_tn hT, some_bind, hg, hg2, cI0, hw, hcut, hw2, hsh]
end Go.Proofs.Ytghbceiigeialaa
