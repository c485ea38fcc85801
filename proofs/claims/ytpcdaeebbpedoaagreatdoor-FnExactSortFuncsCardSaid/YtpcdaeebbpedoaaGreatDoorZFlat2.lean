import Derived.Test.YtpcdaeebbpedoaaGreatDoorZShift
import Derived.Test.YtpcdaeebbpedoaaGreatDoorZAdd
import Derived.Test.YtpcdaeebbpedoaaGreatDoorZMarkN
namespace Go.Proofs.YtpcdaeebbpedoaaGreatDoor
set_option linter.unusedVariables false
set_option linter.unusedSimpArgs false
open Go Go.Vm
def parts (ts : List Tn) : List Row := ts.map fun t => [.sl false 5 (encNs false (t.flat 0))]
theorem make_ok (k op : Int) (x y : List UInt8) (kr : List Row) (ts : List Tn) (hs : sizes ts ≤ 900000) : M.spec_l6Make k op x y kr (parts ts) = some (encNs true ((Tn.mk k op x y ts).flat 0)) := by
  have htl := sizes_le ts
  simp only [M.spec_l6Make, M.spec_l6Make_C]
  have hpl : (parts ts).length = ts.length := by simp [parts]
  have hloop := loopM_run (b := M.spec_l6Make_l4_b (parts ts) k op x y) (t := ((ts.length : Int), encNs true (flats ts 0), encI (ends ts 0))) (fun j => ((j : Int), encNs true (flats (ts.take j) 0), encI (ends (ts.take j) 0))) ts.length
    (by
      intro j hj
      obtain ⟨t, ht⟩ : ∃ t, ts[j]? = some t := ⟨ts[j], by simp [hj]⟩
      have hst := sizes_take ht
      have hp := t.size_pos
      have hr : (parts ts)[j]? = some [.sl false 5 (encNs false (t.flat 0))] := by simp [parts, ht]
      have c0 : cSl 5 [D.sl false 5 (encNs false (t.flat 0))] 0 = some (encNs false (t.flat 0)) := rfl
      have hfl : (encNs true (flats (ts.take j) 0)).length = sizes (ts.take j) := by rw [encNs_length, flats_length]
      have hsh : M.spec_l6Shift (encNs false (t.flat 0)) ((sizes (ts.take j) : Nat) : Int) = some (encNs true (t.flat (sizes (ts.take j)))) := by
        rw [shift_ok (t.flat 0) false _ (by rw [t.flat_length]; omega) (fun n hn => ?_)]
        · rw [t.flat_by 0 (sizes (ts.take j))]
          congr 4 <;> omega
        · obtain ⟨h1, h2⟩ := flat_kids t 0 n hn
          refine ⟨by omega, fun e he => ?_⟩
          have := h2 e he
          omega
      have hrl : (encNs true (t.flat (sizes (ts.take j)))).length = t.size := by rw [encNs_length, t.flat_length]
      have hel : (encI (ends (ts.take j) 0)).length = j := by rw [encI_length, ends_length, List.length_take]; omega
      simp only [M.spec_l6Make_l4_b, M.spec_l6Make_l4_C, hpl, idx_nat, hr, some_bind, c0, hfl, hsh, hrl, hel, List.length_append, List.length_singleton]
      rw [decide_eq_true (by omega), cond_true, ble_ok (by omega), cond_true, ble_ok (by omega), cond_true, ble_ok (by omega), cond_true, ble_ok (by omega), cond_true, wrap_ok (by omega) (by omega), wrap_ok (by omega) (by omega), flats_succ ht, ends_succ ht, encNs_append, Nat.zero_add]
      simp [encI])
    (by
      simp only [M.spec_l6Make_l4_b, M.spec_l6Make_l4_C, hpl]
      rw [decide_eq_false (by omega), cond_false, List.take_length]) 0 (Nat.zero_le _)
  have e0 : encNs true (flats (ts.take 0) 0) = [] := rfl
  have e1 : encI (ends (ts.take 0) 0) = [] := rfl
  rw [nat0, e0, e1] at hloop
  have hloop' : M.spec_l6Make_l4 (parts ts) k op x y (0, [], []) = some ((ts.length : Int), encNs true (flats ts 0), encI (ends ts 0)) := hloop
  rw [hloop', some_bind]
  simp only [flat_encI, cond_true, encNs_length, flats_length, List.length_singleton]
  rw [ble_ok (by omega), cond_true, ble_ok (by omega), cond_true, Tn.flat, encNs_append]
  rfl
theorem fz_parts (o w : Bool) (ts : List Tn) : fzRows (ts.map fun t => [D.sl w 5 (encNs o (t.flat 0))]) = parts ts := by
  rw [fzRows_map, List.map_map]
  unfold parts
  congr 1
  funext t
  simp [fzRow, D.fz, fz_encNs]
end Go.Proofs.YtpcdaeebbpedoaaGreatDoor
