import Derived.Test.YtpcdaeebbpedoaaGreatDoorZMarkN
namespace Go.Proofs.YtpcdaeebbpedoaaGreatDoor
set_option linter.unusedVariables false
set_option linter.unusedSimpArgs false
open Go Go.Vm
theorem heldNodeS_ok (k : Int) (l : List Nd) (h0 : 0 ≤ k) (h1 : k + wK l ≤ 900000000) : M.laws_heldNodeS (fzRows (encNs true (mkNodes k l))) k = some (k + wK l) := by
  simp only [M.laws_heldNodeS, M.laws_heldNodeS_C, fz_encNs]
  have hwl := wK_len l
  have hloop := loopM_run (b := M.laws_heldNodeS_l2_b (encNs false (mkNodes k l))) (t := .inr (k + wK l, (l.length : Int))) (fun i => (k + wK (l.take i), (i : Int))) l.length
    (by
      intro i hi
      obtain ⟨n, hn⟩ : ∃ n, l[i]? = some n := ⟨l[i], by simp [hi]⟩
      have hw := wK_take_lt hn
      have hg := mkNodes_get k hn
      generalize hK : k + (wK (l.take i) : Int) = K at hg ⊢
      have w1 : IntKind.i64.wrap (K + 1) = K + 1 := wrap_ok (by omega) (by omega)
      have w2 : IntKind.i64.wrap (K + 1 + 1) = K + 2 := (wrap_ok (by omega) (by omega)).trans (by omega)
      have w3 : IntKind.i64.wrap (K + 2 + 1) = K + 3 := (wrap_ok (by omega) (by omega)).trans (by omega)
      have w4 : IntKind.i64.wrap (K + 3 + 1) = K + 4 := (wrap_ok (by omega) (by omega)).trans (by omega)
      have hm := heldIntS_ok (K + 4) n.kids.length (by omega) (by omega) (by omega)
      have d1 : decide (K + 4 + (n.kids.length : Int) < 0) = false := decide_eq_false (by omega)
      have hlen : decide ((i : Int) < ((encNs false (mkNodes k l)).length : Int)) = true := decide_eq_true (by rw [encNs_length, mkNodes_length]; omega)
      have hr : idx (encNs false (mkNodes k l)) (i : Int) = some [D.int .i64 K, .int .i64 (K + 1), .str (mk (K + 2)), .str (mk (K + 3)), .sl false 1 (encI (markI (K + 4) n.kids.length))] := by
        rw [idx_nat, get_encNs, hg]; rfl
      have c0 : cInt .i64 [D.int .i64 K, .int .i64 (K + 1), .str (mk (K + 2)), .str (mk (K + 3)), .sl false 1 (encI (markI (K + 4) n.kids.length))] 0 = some K := rfl
      have c1 : cInt .i64 [D.int .i64 K, .int .i64 (K + 1), .str (mk (K + 2)), .str (mk (K + 3)), .sl false 1 (encI (markI (K + 4) n.kids.length))] 1 = some (K + 1) := rfl
      have c2 : cStr [D.int .i64 K, .int .i64 (K + 1), .str (mk (K + 2)), .str (mk (K + 3)), .sl false 1 (encI (markI (K + 4) n.kids.length))] 2 = some (mk (K + 2)) := rfl
      have c3 : cStr [D.int .i64 K, .int .i64 (K + 1), .str (mk (K + 2)), .str (mk (K + 3)), .sl false 1 (encI (markI (K + 4) n.kids.length))] 3 = some (mk (K + 3)) := rfl
      have c4 : cSl 1 [D.int .i64 K, .int .i64 (K + 1), .str (mk (K + 2)), .str (mk (K + 3)), .sl false 1 (encI (markI (K + 4) n.kids.length))] 4 = some (encI (markI (K + 4) n.kids.length)) := rfl
      simp only [M.laws_heldNodeS_l2_b, M.laws_heldNodeS_l2_C, hlen, cond_true, cond_false, hr, some_bind, c0, c1, c2, c3, c4, w1, w2, w3, w4, bne_self_eq_false, markText_ok (K + 2) (by omega), markText_ok (K + 3) (by omega), beq_self_eq_true, Bool.not_true, hm, d1]
      rw [wrap_ok (by omega) (by omega), wK_succ hn]
      congr 3
      omega)
    (by
      have hlen : decide ((l.length : Int) < ((encNs false (mkNodes k l)).length : Int)) = false := decide_eq_false (by rw [encNs_length, mkNodes_length]; omega)
      simp only [M.laws_heldNodeS_l2_b, M.laws_heldNodeS_l2_C, List.take_length, hlen, cond_false]) 0 (Nat.zero_le _)
  have e1 : k + (wK (l.take 0) : Int) = k := by simp [wK]
  rw [e1, nat0] at hloop
  rw [M.laws_heldNodeS_l2, hloop, some_bind]
  rfl
end Go.Proofs.YtpcdaeebbpedoaaGreatDoor
