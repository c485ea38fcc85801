import Derived.Test.YtghbceiigeialaaZShift
import Derived.Test.YtghbceiigeialaaZAdd
import Derived.Test.YtghbceiigeialaaZMarkN
namespace Go.Proofs.Ytghbceiigeialaa
set_option linter.unusedVariables false
set_option linter.unusedSimpArgs false
open Go Go.Vm
theorem copy_ok (l : List Nd) (o : Bool) (hl : l.length ≤ 1048576) (hk : ∀ n, n ∈ l → n.kids.length ≤ 1048576 ∧ ∀ e, e ∈ n.kids → I64 e) : M.spec_l6Copy (encNs o l) = some (encNs true l) := by
  simp only [M.spec_l6Copy, M.spec_l6Copy_C]
  have key : M.spec_l6Shift (encNs o l) 0 = some (encNs true l) := by
    simp only [M.spec_l6Shift, M.spec_l6Shift_C]
    have hloop := loopM_run (b := M.spec_l6Shift_l3_b (encNs o l) 0) (t := ((l.length : Int), encNs true l)) (fun i => ((i : Int), encNs true (l.take i))) l.length
      (by
        intro i hi
        obtain ⟨n, hn⟩ : ∃ n, l[i]? = some n := ⟨l[i], by simp [hi]⟩
        obtain ⟨hkl, hke⟩ := hk n (List.mem_of_getElem? hn)
        have hin := loopM_run (b := M.spec_l6Shift_l8_b (encNs o l) 0 (i : Int) (encNs true (l.take i)) n.kind n.op n.text n.other) (t := ((n.kids.length : Int), encI n.kids)) (fun j => ((j : Int), encI (n.kids.take j))) n.kids.length
          (by
            intro j hj
            obtain ⟨e, he⟩ : ∃ e, n.kids[j]? = some e := ⟨n.kids[j], by simp [hj]⟩
            have := hke e (List.mem_of_getElem? he)
            simp only [M.spec_l6Shift_l8_b, M.spec_l6Shift_l8_C, idx_nat, get_encNs, hn, Option.map_some, some_bind, cN4, encI_length, get_encI, he, cI0, List.length_take, List.length_singleton, Int.add_zero]
            rw [decide_eq_true (by omega), cond_true, ble_ok (by omega), cond_true, ble_ok (by omega), cond_true, wrap_ok (by omega) (by omega), wrap_ok this.1 this.2, take_succ_get he]
            simp [encI])
          (by
            simp only [M.spec_l6Shift_l8_b, M.spec_l6Shift_l8_C, idx_nat, get_encNs, hn, Option.map_some, some_bind, cN4, encI_length]
            rw [decide_eq_false (by omega), cond_false, List.take_length]) 0 (Nat.zero_le _)
        simp only [nat0, List.take_zero] at hin
        have hin' : M.spec_l6Shift_l8 (encNs o l) 0 (i : Int) (encNs true (l.take i)) n.kind n.op n.text n.other (0, []) = some ((n.kids.length : Int), encI n.kids) := hin
        simp only [M.spec_l6Shift_l3_b, M.spec_l6Shift_l3_C, encNs_length, idx_nat, get_encNs, hn, Option.map_some, some_bind, cN0, cN1, cN2, cN3, cN4, hin', flat_encI, cond_true, List.length_take, List.length_singleton]
        rw [decide_eq_true (by omega), cond_true, ble_ok (by omega), cond_true, ble_ok (by omega), cond_true, wrap_ok (by omega) (by omega), take_succ_get hn, encNs_append]
        rfl)
      (by
        simp only [M.spec_l6Shift_l3_b, M.spec_l6Shift_l3_C, encNs_length]
        rw [decide_eq_false (by omega), cond_false, List.take_length]) 0 (Nat.zero_le _)
    simp only [nat0, List.take_zero] at hloop
    have hloop' : M.spec_l6Shift_l3 (encNs o l) 0 (0, []) = some ((l.length : Int), encNs true l) := hloop
    rw [hloop', some_bind]
  rw [key, some_bind]
def parts (ts : List Tn) : List Row := ts.map fun t => [.sl false 5 (encNs false (t.flat 0))]
theorem make_ok (k op : Int) (x y : List UInt8) (kr : List Row) (ts : List Tn) (hs : sizes ts ≤ 900000) : M.spec_l6Make k op x y kr (parts ts) = some (encNs true ((Tn.mk k op x y ts).flat 0)) := by
  have htl := sizes_le ts
  simp only [M.spec_l6Make, M.spec_l6Make_C]
  have hpl : (parts ts).length = ts.length := by simp [parts]
  have hloop := loopM_run (b := M.spec_l6Make_l4_b (parts ts) k op x y) (t := ((ts.length : Int), encNs true (flats ts 0), encI (ends ts 0))) (fun j => ((j : Int), encNs true (flats (ts.take j) 0), encI (ends (ts.take j) 0))) ts.length
    (by
      intro j hj
      obtain ⟨t, ht⟩ : ∃ t, ts[j]? = some t := ⟨ts[j], by simp [hj]⟩
      have hst := sizes_take ht
      have hp := t.size_pos
      have hr : (parts ts)[j]? = some [.sl false 5 (encNs false (t.flat 0))] := by simp [parts, ht]
      have c0 : cSl 5 [D.sl false 5 (encNs false (t.flat 0))] 0 = some (encNs false (t.flat 0)) := rfl
      have hfl : (encNs true (flats (ts.take j) 0)).length = sizes (ts.take j) := by rw [encNs_length, flats_length]
      have hsh : M.spec_l6Shift (encNs false (t.flat 0)) ((sizes (ts.take j) : Nat) : Int) = some (encNs true (t.flat (sizes (ts.take j)))) := by
        rw [shift_ok (t.flat 0) false _ (by rw [t.flat_length]; omega) (fun n hn => ?_)]
        · rw [t.flat_by 0 (sizes (ts.take j))]
          congr 4 <;> omega
        · obtain ⟨h1, h2⟩ := flat_kids t 0 n hn
          refine ⟨by omega, fun e he => ?_⟩
          have := h2 e he
          omega
      have hrl : (encNs true (t.flat (sizes (ts.take j)))).length = t.size := by rw [encNs_length, t.flat_length]
      have hel : (encI (ends (ts.take j) 0)).length = j := by rw [encI_length, ends_length, List.length_take]; omega
      simp only [M.spec_l6Make_l4_b, M.spec_l6Make_l4_C, hpl, idx_nat, hr, some_bind, c0, hfl, hsh, hrl, hel, List.length_append, List.length_singleton]
      rw [decide_eq_true (by omega), cond_true, ble_ok (by omega), cond_true, ble_ok (by omega), cond_true, ble_ok (by omega), cond_true, ble_ok (by omega), cond_true, wrap_ok (by omega) (by omega), wrap_ok (by omega) (by omega), flats_succ ht, ends_succ ht, encNs_append, Nat.zero_add]
      simp [encI])
    (by
      simp only [M.spec_l6Make_l4_b, M.spec_l6Make_l4_C, hpl]
      rw [decide_eq_false (by omega), cond_false, List.take_length]) 0 (Nat.zero_le _)
  have e0 : encNs true (flats (ts.take 0) 0) = [] := rfl
  have e1 : encI (ends (ts.take 0) 0) = [] := rfl
  rw [nat0, e0, e1] at hloop
  have hloop' : M.spec_l6Make_l4 (parts ts) k op x y (0, [], []) = some ((ts.length : Int), encNs true (flats ts 0), encI (ends ts 0)) := hloop
  rw [hloop', some_bind]
  simp only [flat_encI, cond_true, encNs_length, flats_length, List.length_singleton]
  rw [ble_ok (by omega), cond_true, ble_ok (by omega), cond_true, Tn.flat, encNs_append]
  rfl
theorem fz_parts (o w : Bool) (ts : List Tn) : fzRows (ts.map fun t => [D.sl w 5 (encNs o (t.flat 0))]) = parts ts := by
  rw [fzRows_map, List.map_map]
  unfold parts
  congr 1
  funext t
  simp [fzRow, D.fz, fz_encNs]
end Go.Proofs.Ytghbceiigeialaa
