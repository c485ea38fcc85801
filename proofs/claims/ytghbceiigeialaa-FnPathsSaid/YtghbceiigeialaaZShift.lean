import Derived.Test.YtghbceiigeialaaZLie
namespace Go.Proofs.Ytghbceiigeialaa
set_option linter.unusedVariables false
set_option linter.unusedSimpArgs false
open Go Go.Vm
theorem shift_ok (l : List Nd) (o : Bool) (d : Int) (hl : l.length ≤ 1048576) (hk : ∀ n, n ∈ l → n.kids.length ≤ 1048576 ∧ ∀ e, e ∈ n.kids → -4000000000 ≤ e + d ∧ e + d ≤ 4000000000) :
    M.spec_l6Shift (encNs o l) d = some (encNs true (l.map (Nd.up d))) := by
  simp only [M.spec_l6Shift, M.spec_l6Shift_C]
  have hloop := loopM_run (b := M.spec_l6Shift_l3_b (encNs o l) d) (t := ((l.length : Int), encNs true (l.map (Nd.up d)))) (fun i => ((i : Int), encNs true ((l.take i).map (Nd.up d)))) l.length
    (by
      intro i hi
      obtain ⟨n, hn⟩ : ∃ n, l[i]? = some n := ⟨l[i], by simp [hi]⟩
      obtain ⟨hkl, hke⟩ := hk n (List.mem_of_getElem? hn)
      have hin := loopM_run (b := M.spec_l6Shift_l8_b (encNs o l) d (i : Int) (encNs true ((l.take i).map (Nd.up d))) n.kind n.op n.text n.other) (t := ((n.kids.length : Int), encI (n.kids.map (· + d)))) (fun j => ((j : Int), encI ((n.kids.take j).map (· + d)))) n.kids.length
        (by
          intro j hj
          obtain ⟨e, he⟩ : ∃ e, n.kids[j]? = some e := ⟨n.kids[j], by simp [hj]⟩
          have := hke e (List.mem_of_getElem? he)
          simp only [M.spec_l6Shift_l8_b, M.spec_l6Shift_l8_C, idx_nat, get_encNs, hn, Option.map_some, some_bind, cN4, encI_length, get_encI, he, cI0, List.length_map, List.length_take, List.length_singleton]
          rw [decide_eq_true (by omega), cond_true, ble_ok (by omega), cond_true, ble_ok (by omega), cond_true, wrap_ok (by omega) (by omega), wrap_ok (by omega) (by omega), take_succ_get he]
          simp [encI])
        (by
          simp only [M.spec_l6Shift_l8_b, M.spec_l6Shift_l8_C, idx_nat, get_encNs, hn, Option.map_some, some_bind, cN4, encI_length]
          rw [decide_eq_false (by omega), cond_false, List.take_length]) 0 (Nat.zero_le _)
      simp only [nat0, List.take_zero, List.map_nil] at hin
      have hin' : M.spec_l6Shift_l8 (encNs o l) d (i : Int) (encNs true ((l.take i).map (Nd.up d))) n.kind n.op n.text n.other (0, []) = some ((n.kids.length : Int), encI (n.kids.map (· + d))) := hin
      simp only [M.spec_l6Shift_l3_b, M.spec_l6Shift_l3_C, encNs_length, idx_nat, get_encNs, hn, Option.map_some, some_bind, cN0, cN1, cN2, cN3, cN4, hin', flat_encI, cond_true, List.length_map, List.length_take, List.length_singleton]
      rw [decide_eq_true (by omega), cond_true, ble_ok (by omega), cond_true, ble_ok (by omega), cond_true, wrap_ok (by omega) (by omega), take_succ_get hn, List.map_append, encNs_append]
      rfl)
    (by
      simp only [M.spec_l6Shift_l3_b, M.spec_l6Shift_l3_C, encNs_length]
      rw [decide_eq_false (by omega), cond_false, List.take_length]) 0 (Nat.zero_le _)
  simp only [nat0, List.take_zero, List.map_nil] at hloop
  have hloop' : M.spec_l6Shift_l3 (encNs o l) d (0, []) = some ((l.length : Int), encNs true (l.map (Nd.up d))) := hloop
  rw [hloop', some_bind]
end Go.Proofs.Ytghbceiigeialaa
