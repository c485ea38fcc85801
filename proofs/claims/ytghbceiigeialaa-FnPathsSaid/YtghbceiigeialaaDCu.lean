import Derived.Test.YtghbceiigeialaaZFlat2
import Derived.Test.YtghbceiigeialaaVm5
namespace Go.Proofs.Ytghbceiigeialaa
set_option linter.unusedVariables false
set_option linter.unusedSimpArgs false
open Go Go.Vm
def cR (s : Cu) : List Row := s.code.map byteRow
structure CuOk (s : Cu) : Prop where
  i : s.i ≤ s.code.length
  l : s.code.length ≤ 1048576
theorem CuOk.st {s : Cu} (h : CuOk s) (p : Nat) : CuOk (s.st p) := ⟨by rw [Cu.st_i s h.i, Cu.st_code]; omega, by rw [Cu.st_code]; exact h.l⟩
theorem low8_wrap (x : Int) : IntKind.i64.wrap (↑(BitVec.ofInt 64 x &&& BitVec.ofInt 64 255).toNat : Int) = (low8 x : Int) := by
  have := low8_lt x
  show IntKind.i64.wrap (low8 x : Int) = _
  exact wrap_ok (by omega) (by omega)
theorem byte_ok {s : Cu} (h : CuOk s) : M.spec_l1Byte (cR s) s.i s.h = some ((s.byte : Int), cR s.nx, (s.nx.i : Int), s.nx.h) := by
  have hi := h.i
  have hl := h.l
  simp only [M.spec_l1Byte, M.spec_l1Byte_C, low8_wrap]
  have e1 : (cR s).length = s.code.length := by simp [cR]
  have e2 : cR s.nx = cR s := rfl
  have e3 : s.nx.h = IntKind.i64.wrap (IntKind.i64.wrap (s.h * 6364136223846793005) + 1442695040888963407) := rfl
  rw [e1, e2, e3]
  by_cases hlt : s.i < s.code.length
  · obtain ⟨b, hb⟩ : ∃ b, s.code[s.i]? = some b := ⟨s.code[s.i], by simp [hlt]⟩
    have hr : idx (cR s) (s.i : Int) = some (byteRow b) := by rw [idx_nat, cR, List.getElem?_map, hb]; rfl
    have hc : cInt .u8 (byteRow b) 0 = some (b.toNat : Int) := rfl
    have hn : (s.nx.i : Int) = (s.i : Int) + 1 := by show ((if s.i < s.code.length then s.i + 1 else s.i : Nat) : Int) = _; rw [if_pos hlt]; omega
    have hby : s.byte = low8 (IntKind.i64.wrap ((low8 (mixH (nxH s.h)) : Int) + b.toNat)) := by rw [Cu.byte, hb]
    have hb8 : (b.toNat : Int) ≤ 255 := by have := b.toNat_lt; omega
    rw [decide_eq_true (by omega), cond_true, hr, some_bind, hc, some_bind, wrap_ok (n := (b.toNat : Int)) (by omega) (by omega), wrap_ok (n := (s.i : Int) + 1) (by omega) (by omega), hn, hby]
    rfl
  · have hb : s.code[s.i]? = none := List.getElem?_eq_none (by omega)
    have hn : (s.nx.i : Int) = (s.i : Int) := by show ((if s.i < s.code.length then s.i + 1 else s.i : Nat) : Int) = _; rw [if_neg hlt]
    have hby : s.byte = low8 (mixH (nxH s.h)) := by rw [Cu.byte, hb]
    rw [decide_eq_false (by omega), cond_false, hn, hby]
    rfl
def cS (s : Cu) (p : Nat) : List Row × Int × Int := (cR (s.st p), ((s.st p).i : Int), (s.st p).h)
section
variable {s : Cu} (h : CuOk s)
include h
theorem byte_at (p : Nat) : M.spec_l1Byte (cS s p).1 (cS s p).2.1 (cS s p).2.2 = some ((s.g p : Int), cS s (p + 1)) := by
  show M.spec_l1Byte (cR (s.st p)) ((s.st p).i : Int) (s.st p).h = _
  rw [byte_ok (h.st p)]
  show _ = some (((s.st p).byte : Int), (cR (s.st (p + 1)), ((s.st (p + 1)).i : Int), (s.st (p + 1)).h))
  rw [Cu.st_succ]
theorem below_at (p n : Nat) (h1 : 1 ≤ n) (h2 : n ≤ 256) : M.spec_l1Below (n : Int) (cS s p).1 (cS s p).2.1 (cS s p).2.2 = some (((s.g p % n : Nat) : Int), cS s (p + 1)) := by
  simp only [M.spec_l1Below, M.spec_l1Below_C, byte_at h, some_bind]
  rw [decide_eq_false (by omega), cond_false, decide_eq_true (by omega), cond_true, decide_eq_false (by omega)]
  simp only [Bool.not_false, cond_true]
  rw [Int.tmod_eq_emod_of_nonneg (by omega), Int.natCast_emod]
theorem below_any (p : Nat) (n : Int) (hn : n ≤ 1000000000) : ∃ (k : Int) (q : Nat), M.spec_l1Below n (cS s p).1 (cS s p).2.1 (cS s p).2.2 = some (k, cS s q) ∧ p ≤ q ∧ q ≤ p + 4 ∧ 0 ≤ k ∧ (k < n ∨ (n ≤ 0 ∧ k = 0)) := by
  by_cases h0 : n ≤ 0
  · refine ⟨0, p, ?_, Nat.le_refl _, by omega, by omega, .inr ⟨h0, rfl⟩⟩
    simp only [M.spec_l1Below, M.spec_l1Below_C]
    rw [decide_eq_true h0, cond_true]
  · by_cases h1 : n ≤ 256
    · obtain ⟨m, rfl⟩ := Int.eq_ofNat_of_zero_le (a := n) (by omega)
      have h1' : m ≤ 256 := by omega
      have h0' : 1 ≤ m := by omega
      refine ⟨_, _, below_at h p m h0' h1', by omega, by omega, by omega, .inl ?_⟩
      have := Nat.mod_lt (s.g p) (show 0 < m by omega)
      exact Int.ofNat_lt.2 this
    · refine ⟨((((s.g p : Int) * 16777216 + (s.g (p + 1) : Int) * 65536) + (s.g (p + 2) : Int) * 256) + (s.g (p + 3) : Int)) % n, p + 4, ?_, by omega, by omega, Int.emod_nonneg _ (by omega), .inl (Int.emod_lt_of_pos _ (by omega))⟩
      have hb : ∀ q, (s.g q : Int) < 256 := fun q => by have := (s.st q).byte_lt; exact Int.ofNat_lt.2 this
      have b0 := hb p
      have b1 := hb (p + 1)
      have b2 := hb (p + 2)
      have b3 := hb (p + 3)
      simp only [M.spec_l1Below, M.spec_l1Below_C, byte_at h, some_bind]
      rw [decide_eq_false h0, cond_false, decide_eq_false h1, cond_false, decide_eq_false (by omega)]
      simp only [Bool.not_false, cond_true]
      rw [show p + 1 + 1 = p + 2 from rfl, show p + 2 + 1 = p + 3 from rfl, show p + 3 + 1 = p + 4 from rfl]
      rw [wrap_ok (n := (s.g p : Int) * 16777216) (by omega) (by omega), wrap_ok (n := (s.g (p + 1) : Int) * 65536) (by omega) (by omega), wrap_ok (n := (s.g (p + 2) : Int) * 256) (by omega) (by omega),
        wrap_ok (n := (s.g p : Int) * 16777216 + (s.g (p + 1) : Int) * 65536) (by omega) (by omega), wrap_ok (n := (s.g p : Int) * 16777216 + (s.g (p + 1) : Int) * 65536 + (s.g (p + 2) : Int) * 256) (by omega) (by omega),
        wrap_ok (n := (s.g p : Int) * 16777216 + (s.g (p + 1) : Int) * 65536 + (s.g (p + 2) : Int) * 256 + (s.g (p + 3) : Int)) (by omega) (by omega), Int.tmod_eq_emod_of_nonneg (by omega)]
theorem once_at (p n : Nat) (h1 : 1 ≤ n) (h2 : n ≤ 256) : M.spec_l1Once (n : Int) (cS s p).1 (cS s p).2.1 (cS s p).2.2 = some (s.g p % n == 0, cS s (p + 1)) := by
  simp only [M.spec_l1Once, M.spec_l1Once_C, below_at h p n h1 h2, some_bind]
  congr 2
  cases hc : s.g p % n == 0 with
  | true => simp only [beq_iff_eq] at hc; rw [hc]; rfl
  | false =>
    simp only [beq_eq_false_iff_ne, ne_eq] at hc
    exact beq_eq_false_iff_ne.2 (by omega)
end
def shortT (t : List UInt8) : Prop := t.length ≤ 100
def pkS (rows : List Row) (k : Nat) : List UInt8 := match rows[k % rows.length]? with
  | some [.str t] => t
  | _ => []
def pkI (rows : List Row) (k : Nat) : Int := match rows[k % rows.length]? with
  | some [.int .i64 n] => n
  | _ => 0
def rowsB (f : Row → Bool) (rows : List Row) : Bool := rows.all f && (Nat.ble 1 rows.length && Nat.ble rows.length 256)
def sB : Row → Bool
  | [.str t] => Nat.ble t.length 100
  | _ => false
def iB : Row → Bool
  | [.int .i64 n] => decide (-1000 ≤ n) && decide (n ≤ 1000)
  | _ => false
theorem rowsB_at {f : Row → Bool} {rows : List Row} (hr : rowsB f rows = true) (k : Nat) : ∃ r, rows[k % rows.length]? = some r ∧ f r = true ∧ 1 ≤ rows.length ∧ rows.length ≤ 256 := by
  simp only [rowsB, Bool.and_eq_true] at hr
  have h1 := Nat.le_of_ble_eq_true hr.2.1
  have h2 := Nat.le_of_ble_eq_true hr.2.2
  have hm := Nat.mod_lt k (show 0 < rows.length by omega)
  exact ⟨rows[k % rows.length], by simp [hm], List.all_eq_true.1 hr.1 _ (List.getElem_mem hm), h1, h2⟩
theorem pkS_short {rows : List Row} (hr : rowsB sB rows = true) (k : Nat) : shortT (pkS rows k) := by
  obtain ⟨r, h1, h2, _⟩ := rowsB_at hr k
  unfold pkS
  rw [h1]
  unfold sB at h2
  split at h2
  · exact Nat.le_of_ble_eq_true h2
  · cases h2
theorem pkI_small {rows : List Row} (hr : rowsB iB rows = true) (k : Nat) : -1000 ≤ pkI rows k ∧ pkI rows k ≤ 1000 := by
  obtain ⟨r, h1, h2, _⟩ := rowsB_at hr k
  unfold pkI
  rw [h1]
  unfold iB at h2
  split at h2
  · simpa using h2
  · cases h2
section
variable {s : Cu} (h : CuOk s)
include h
theorem pick_at (p : Nat) (rows : List Row) (hr : rowsB sB rows = true) : M.spec_l1Pick rows (cS s p).1 (cS s p).2.1 (cS s p).2.2 = some (pkS rows (s.g p), cS s (p + 1)) := by
  obtain ⟨r, h1, h2, h3, h4⟩ := rowsB_at hr (s.g p)
  simp only [M.spec_l1Pick, M.spec_l1Pick_C]
  rw [below_at h p rows.length h3 h4, some_bind]
  simp only [idx_nat, h1, some_bind, pkS]
  unfold sB at h2
  split at h2
  · rfl
  · cases h2
theorem pickI_at (p : Nat) (rows : List Row) (hr : rowsB iB rows = true) : M.spec_l1PickInt rows (cS s p).1 (cS s p).2.1 (cS s p).2.2 = some (pkI rows (s.g p), cS s (p + 1)) := by
  obtain ⟨r, h1, h2, h3, h4⟩ := rowsB_at hr (s.g p)
  simp only [M.spec_l1PickInt, M.spec_l1PickInt_C]
  rw [below_at h p rows.length h3 h4, some_bind]
  simp only [idx_nat, h1, some_bind, pkI]
  unfold iB at h2
  split at h2
  · rfl
  · cases h2
theorem word_at (p : Nat) : ∃ t, shortT t ∧ M.spec_l2Word (cS s p).1 (cS s p).2.1 (cS s p).2.2 = some (t, cS s (p + 1)) := by
  refine ⟨_, ?_, by
    simp only [M.spec_l2Word, M.spec_l2Word_C]
    rw [pick_at h p _ rfl]
    rfl⟩
  exact pkS_short rfl _
theorem num_at (p : Nat) : ∃ t, shortT t ∧ M.spec_l4Num (cS s p).1 (cS s p).2.1 (cS s p).2.2 = some (t, cS s (p + 1)) := by
  refine ⟨_, ?_, by
    simp only [M.spec_l4Num, M.spec_l4Num_C]
    rw [pick_at h p _ rfl]
    rfl⟩
  exact pkS_short rfl _
theorem str_at (p : Nat) : ∃ t, shortT t ∧ M.spec_l4Str (cS s p).1 (cS s p).2.1 (cS s p).2.2 = some (t, cS s (p + 1)) := by
  refine ⟨_, ?_, by
    simp only [M.spec_l4Str, M.spec_l4Str_C]
    rw [pick_at h p _ rfl]
    rfl⟩
  exact pkS_short rfl _
theorem ere_at (p : Nat) : ∃ t, shortT t ∧ M.spec_l4Ere (cS s p).1 (cS s p).2.1 (cS s p).2.2 = some (t, cS s (p + 1)) := by
  refine ⟨_, ?_, by
    simp only [M.spec_l4Ere, M.spec_l4Ere_C]
    rw [pick_at h p _ rfl]
    rfl⟩
  exact pkS_short rfl _
theorem binop_at (p : Nat) : ∃ t : Int, -1000 ≤ t ∧ t ≤ 1000 ∧ M.spec_l7BinOp (cS s p).1 (cS s p).2.1 (cS s p).2.2 = some (t, cS s (p + 1)) := by
  refine ⟨_, ?_, ?_, by
    simp only [M.spec_l7BinOp, M.spec_l7BinOp_C]
    rw [pickI_at h p _ rfl]
    rfl⟩
  · exact (pkI_small rfl _).1
  · exact (pkI_small rfl _).2
end
end Go.Proofs.Ytghbceiigeialaa
