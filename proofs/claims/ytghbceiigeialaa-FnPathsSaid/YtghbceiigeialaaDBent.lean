import Derived.Test.YtghbceiigeialaaDEnd
namespace Go.Proofs.Ytghbceiigeialaa
set_option linter.unusedVariables false
set_option linter.unusedSimpArgs false
open Go Go.Vm
theorem new_ok (c : List UInt8) (hc : c.length ≤ 1048576) : ∃ h, M.spec_l1New (c.map byteRow) = some (c.map byteRow, 0, h) := by
  have key : ∀ (n i : Nat) (h : Int), c.length - i = n → ∃ t, loopM (M.spec_l1New_l3_b (c.map byteRow)) (h, (i : Int)) = some t := by
    intro n
    induction n with
    | zero =>
      intro i h hi
      refine ⟨(h, (i : Int)), loopM_end ?_⟩
      simp only [M.spec_l1New_l3_b, M.spec_l1New_l3_C, List.length_map]
      rw [decide_eq_false (by omega), cond_false]
    | succ n ih =>
      intro i h hi
      by_cases h4 : i < 4000
      · obtain ⟨b, hb⟩ : ∃ b, c[i]? = some b := ⟨c[i], by simp⟩
        have hr : idx (c.map byteRow) (i : Int) = some (byteRow b) := by rw [idx_nat, List.getElem?_map, hb]; rfl
        have hcI : cInt .u8 (byteRow b) 0 = some (b.toNat : Int) := rfl
        obtain ⟨t, ht⟩ := ih (i + 1) _ (by omega)
        refine ⟨t, ?_⟩
        rw [← ht]
        apply loopM_next
        simp only [M.spec_l1New_l3_b, M.spec_l1New_l3_C, List.length_map]
        rw [decide_eq_true (by omega), cond_true, decide_eq_true (by omega), cond_true, hr, some_bind, hcI, some_bind, wrap_ok (n := (i : Int) + 1) (by omega) (by omega)]
        rfl
      · refine ⟨(h, (i : Int)), loopM_end ?_⟩
        simp only [M.spec_l1New_l3_b, M.spec_l1New_l3_C, List.length_map]
        rw [decide_eq_true (by omega), cond_true, decide_eq_false (by omega), cond_false]
  obtain ⟨t, ht⟩ := key c.length 0 (IntKind.i64.wrap (10101 + (((c.map byteRow).length : Nat) : Int))) (by omega)
  refine ⟨t.fst, ?_⟩
  simp only [M.spec_l1New, M.spec_l1New_C]
  rw [show M.spec_l1New_l3 (c.map byteRow) (IntKind.i64.wrap (10101 + (((c.map byteRow).length : Nat) : Int)), 0) = some t from ht, some_bind]
structure BtN (n : Nd) : Prop where
  kids : n.kids.length ≤ 501
  ints : ∀ e, e ∈ n.kids → -1000000 ≤ e ∧ e ≤ 1000000
  fine : fineN n
structure Bt (l : List Nd) : Prop where
  len : l.length ≤ 1000
  all : ∀ n, n ∈ l → BtN n
theorem tree_all {t : Tn} (hs : t.size ≤ 500) (hf : FineT t) : ∀ n, n ∈ t.flat 0 → BtN n ∧ n.kids.length ≤ 500 := by
  intro n hn
  obtain ⟨h1, h2⟩ := flat_kids t 0 n hn
  exact ⟨⟨by omega, fun e he => by have := h2 e he; omega, hf 0 n hn⟩, by omega⟩
theorem tree_bt {t : Tn} (hs : t.size ≤ 500) (hf : FineT t) : Bt (t.flat 0) := ⟨by rw [t.flat_length]; omega, fun n hn => (tree_all hs hf n hn).1⟩
theorem Bt.set {l : List Nd} (h : Bt l) {i : Nat} {n : Nd} (hn : BtN n) : Bt (l.set i n) := ⟨by rw [List.length_set]; exact h.len, fun m hm => by
  rcases List.mem_or_eq_of_mem_set hm with hm | rfl
  · exact h.all m hm
  · exact hn⟩
theorem cOwn4 (n : Nd) : cOwn 1 (encN true n) 4 = some (encI n.kids) := rfl
theorem splice4 (o : Bool) (n : Nd) (k : List Int) : splice (encN o n) 4 [D.sl o 1 (encI k)] = encN o { n with kids := k } := rfl
theorem encNs_set (o : Bool) (l : List Nd) (i : Nat) (n : Nd) : (encNs o l).set i (encN o n) = encNs o (l.set i n) := by simp [encNs, List.map_set]
structure Few (l : List Nd) : Prop where
  len : l.length ≤ 1000
  kids : ∀ n, n ∈ l → n.kids.length ≤ 501
theorem Bt.few {l : List Nd} (h : Bt l) : Few l := ⟨h.len, fun n hn => (h.all n hn).kids⟩
theorem splice2 (o : Bool) (n : Nd) (x : List UInt8) : splice (encN o n) 2 [D.str x] = encN o { n with text := x } := rfl
def DB (m : Option (Bool × List Row × List Row × Int × Int)) (s : Cu) : Prop := ∃ (b o : Bool) (l : List Nd) (q : Nat), m = some (b, encNs o l, cS s q) ∧ Bt l
section
variable {s : Cu} (h : CuOk s)
include h
theorem bent_ok (p : Nat) : DB (M.spec_l6Bent (cS s p).1 (cS s p).2.1 (cS s p).2.2) s := by
  obtain ⟨t, q, f1, z1, i1⟩ := any_ok h p
  have hlen : (encNs true (t.flat 0)).length = t.size := by rw [encNs_length, t.flat_length]
  have hpos := t.size_pos
  obtain ⟨k, q1, f2, _, _, k0, k1⟩ := below_any h q (t.size : Int) (by omega)
  have hk : k < t.size := by omega
  obtain ⟨i, rfl⟩ := Int.eq_ofNat_of_zero_le k0
  have hi : i < t.size := by omega
  have e12 := below_at h q1 12 (by omega) (by omega)
  rw [show ((12 : Nat) : Int) = 12 from rfl] at e12
  have hb := tree_bt z1 i1
  have hil : i < (t.flat 0).length := by rw [t.flat_length]; exact hi
  obtain ⟨n, hn⟩ : ∃ n, (t.flat 0)[i]? = some n := ⟨(t.flat 0)[i], by simp [hil]⟩
  have hnb := tree_all z1 i1 n (List.mem_of_getElem? hn)
  have hset : (t.flat 0).set i { n with kids := n.kids } = t.flat 0 := by
    obtain ⟨_, rfl⟩ := List.getElem?_eq_some_iff.1 hn
    exact List.set_getElem_self hil
  simp only [M.spec_l6Bent, M.spec_l6Bent_C]
  rw [f1, some_bind]
  simp only [hlen]
  rw [f2, some_bind]
  simp only
  rw [e12, some_bind]
  simp only
  cases c0 : ((s.g q1 % 12 : Nat) : Int) == 0 with
  | true =>
    rw [cond_true, fz_encNs]
    refine ⟨false, false, (t.flat 0).take i, q1 + 1, ?_, by have := hb.len; rw [List.length_take]; omega, fun m hm => hb.all m (List.mem_of_mem_take hm)⟩
    have : cut (encNs false (t.flat 0)) 0 (i : Int) = some (encNs false ((t.flat 0).take i)) := by
      unfold cut
      rw [encNs_length, t.flat_length, decide_eq_true (by omega), decide_eq_true (by omega), decide_eq_true (by omega)]
      simp [encNs, List.map_take]
    rw [this, some_bind]
  | false =>
    rw [cond_false]
    cases c1 : ((s.g q1 % 12 : Nat) : Int) == 1 with
    | true =>
      have hrb : rowsB iB [[D.int .i64 (-1)], [D.int .i64 (i : Int)], [D.int .i64 0], [D.int .i64 99]] = true := by
        simp only [rowsB, iB, List.all_cons, List.all_nil, Bool.and_true, Bool.and_eq_true, decide_eq_true_eq, List.length_cons, List.length_nil]
        refine ⟨⟨⟨by omega, by omega⟩, ⟨by omega, by omega⟩, ⟨by omega, by omega⟩, ⟨by omega, by omega⟩⟩, by decide, by decide⟩
      have epk := pickI_at h (q1 + 1) _ hrb
      have hpk := pkI_small hrb (s.g (q1 + 1))
      simp only [cond_true, idx_nat, Int.toNat_natCast, get_encNs, hn, Option.map_some, some_bind, cOwn4, flat_encI, epk]
      generalize pkI [[D.int .i64 (-1)], [D.int .i64 (i : Int)], [D.int .i64 0], [D.int .i64 99]] (s.g (q1 + 1)) = w at hpk
      have hl := hnb.2
      rw [show encI n.kids ++ [[D.int IntKind.i64 w]] = encI (n.kids ++ [w]) from by simp [encI], flat_encI, cond_true, splice4, encNs_set, encI_length]
      rw [ble_ok (by simp; omega), cond_true, ble_ok (by simp; omega), cond_true, show (i.beq i) = true from Nat.beq_refl i]
      refine ⟨true, true, (t.flat 0).set i { n with kids := n.kids ++ [w] }, q1 + 1 + 1, rfl, hb.set ⟨by simp; omega, fun e he => ?_, hnb.1.fine⟩⟩
      rcases List.mem_append.1 he with he | he
      · exact hnb.1.ints e he
      · rw [List.mem_singleton.1 he]; omega
    | false =>
      rw [cond_false]
      cases c2 : ((s.g q1 % 12 : Nat) : Int) == 2 with
      | true =>
        simp only [cond_true, idx_nat, Int.toNat_natCast, get_encNs, hn, Option.map_some, some_bind, cOwn4, flat_encI, splice4, encNs_set, hset, encI_length]
        cases hk : n.kids with
        | nil =>
          refine ⟨true, true, t.flat 0, q1 + 1, ?_, hb⟩
          have e0 : (t.flat 0).set i { n with kids := [] } = t.flat 0 := by rw [← hk]; exact hset
          rfl
        | cons x xs =>
          have e0 : (t.flat 0).set i { n with kids := x :: xs } = t.flat 0 := by rw [← hk]; exact hset
          obtain ⟨j, q2, f3, _, _, j0, j1⟩ := below_any h (q1 + 1) ((i : Int) + 1) (by omega)
          have w1 : IntKind.i64.wrap ((i : Int) + 1) = (i : Int) + 1 := wrap_ok (by omega) (by omega)
          have w2 : IntKind.i64.wrap (j - 1) = j - 1 := wrap_ok (by omega) (by omega)
          have hx0 : idx (encI (x :: xs)) 0 = some [D.int .i64 x] := rfl
          have hx1 : (encI (x :: xs))[0]? = some [D.int .i64 x] := rfl
          have hx2 : (encI (x :: xs)).set 0 (splice [D.int .i64 x] 0 [D.int .i64 (j - 1)]) = encI ((j - 1) :: xs) := rfl
          rw [decide_eq_true (by simp), cond_true]
          simp only [w1, f3, some_bind, w2, e0, hn, get_encNs, Option.map_some, hk, hx0, hx1, hx2, flat_encI, cond_true, cOwn4, splice4, encNs_set, hset]
          refine ⟨true, true, (t.flat 0).set i { n with kids := (j - 1) :: xs }, q2, rfl, hb.set ⟨?_, fun e he => ?_, hnb.1.fine⟩⟩
          · have := hnb.2
            rw [hk] at this
            simp only [List.length_cons] at this ⊢
            omega
          · rcases List.mem_cons.1 he with rfl | he
            · omega
            · exact hnb.1.ints e (by rw [hk]; exact List.mem_cons_of_mem _ he)
      | false =>
        rw [cond_false]
        cases c3 : ((s.g q1 % 12 : Nat) : Int) == 3 with
        | true =>
          rw [cond_true, ble_ok (by omega), ble_ok (by omega)]
          refine ⟨false, false, t.flat 0 ++ t.flat 0, q1 + 1, ?_, ?_, fun m hm => ?_⟩
          · rw [Bool.and_true, cond_true, fz_encNs, encNs_append]
          · rw [List.length_append, t.flat_length]; omega
          · rcases List.mem_append.1 hm with hm | hm <;> exact hb.all m hm
        | false => exact ⟨true, true, t.flat 0, q1 + 1, rfl, hb⟩
theorem where_ok (p : Nat) : ∃ (l : List Nd) (k : Int) (q : Nat), M.spec_l6Where (cS s p).1 (cS s p).2.1 (cS s p).2.2 = some (false, encNs false l, k, cS s q) ∧ Bt l ∧ -1 ≤ k ∧ k ≤ l.length := by
  obtain ⟨b, o, l, q, f, hb⟩ := bent_ok h p
  have hl := hb.len
  obtain ⟨j, q2, f3, _, _, j0, j1⟩ := below_any h q ((l.length : Int) + 2) (by omega)
  have w1 : IntKind.i64.wrap ((l.length : Int) + 2) = (l.length : Int) + 2 := wrap_ok (by omega) (by omega)
  refine ⟨l, j - 1, q2, ?_, hb, by omega, by omega⟩
  simp only [M.spec_l6Where, M.spec_l6Where_C, f, some_bind, fz_encNs, encNs_length, w1, f3]
  rw [wrap_ok (by omega) (by omega)]
end
theorem cu_new {c : List UInt8} (hc : c.length ≤ 1048576) (h : Int) : CuOk ⟨c, 0, h⟩ := ⟨Nat.zero_le _, hc⟩
theorem drawPath_ok (c : List UInt8) (hc : c.length ≤ 1048576) : ∃ (l : List Nd) (k : Int), M.spec_DrawPathOf (c.map byteRow) = some (false, encNs false l, k) ∧ Bt l ∧ -1 ≤ k ∧ k ≤ l.length := by
  obtain ⟨h, e⟩ := new_ok c hc
  obtain ⟨l, k, q, f, hb, hk⟩ := where_ok (cu_new hc h) 0
  have f' : M.spec_l6Where (c.map byteRow) 0 h = _ := f
  refine ⟨l, k, ?_, hb, hk⟩
  simp only [M.spec_DrawPathOf, M.spec_DrawPathOf_C, e, some_bind, f', fz_encNs]
theorem drawApart_ok (c : List UInt8) (hc : c.length ≤ 1048576) : ∃ (l m : List Nd) (o : Bool), M.spec_DrawFirstApart (c.map byteRow) = some (false, encNs false l, true, encNs o m) ∧ Bt l ∧ Few m := by
  obtain ⟨h, e⟩ := new_ok c hc
  have hc' := cu_new hc h
  obtain ⟨b, o, l, q, f, hb⟩ := bent_ok hc' 0
  have f' : M.spec_l6Bent (c.map byteRow) 0 h = _ := f
  have hl := hb.len
  have hcp := copy_ok l false (by omega) (fun n hn => by
    have := (hb.all n hn).kids
    exact ⟨by omega, fun x hx => by have := (hb.all n hn).ints x hx; constructor <;> omega⟩)
  simp only [M.spec_DrawFirstApart, M.spec_DrawFirstApart_C, e, some_bind, f', fz_encNs, hcp, encNs_length]
  by_cases h0 : 0 < l.length
  · rw [decide_eq_true (by omega), cond_true]
    have eo := once_at hc' q 3 (by omega) (by omega)
    rw [show ((3 : Nat) : Int) = 3 from rfl] at eo
    rw [eo, some_bind]
    simp only
    cases (Cu.g ⟨c, 0, h⟩ q % 3 == 0) with
    | true => exact ⟨l, l, true, rfl, hb, hb.few⟩
    | false =>
      simp only [Bool.not_false, cond_true]
      obtain ⟨k, q1, f2, _, _, k0, k1⟩ := below_any hc' (q + 1) (l.length : Int) (by omega)
      obtain ⟨i, rfl⟩ := Int.eq_ofNat_of_zero_le k0
      have hil : i < l.length := by omega
      obtain ⟨n, hn⟩ : ∃ n, l[i]? = some n := ⟨l[i], by simp [hil]⟩
      have eo2 := once_at hc' q1 3 (by omega) (by omega)
      rw [show ((3 : Nat) : Int) = 3 from rfl] at eo2
      have hnb := hb.all n (List.mem_of_getElem? hn)
      have hsh : n.text.length ≤ 100 := hnb.fine.2.2.1
      rw [f2, some_bind]
      simp only [idx_nat, Int.toNat_natCast, get_encNs, hn, Option.map_some, some_bind, cN2]
      rw [ble_ok (by omega), cond_true]
      simp only [eo2, some_bind]
      cases (Cu.g ⟨c, 0, h⟩ q1 % 3 == 0) with
      | true =>
        obtain ⟨t, q3, f3, z3, i3⟩ := any_ok hc' (q1 + 1)
        rw [cond_true, f3, some_bind]
        exact ⟨l, t.flat 0, true, rfl, hb, (tree_bt z3 i3).few⟩
      | false =>
        rw [cond_false, splice2, encNs_set]
        refine ⟨l, l.set i { n with text := n.text ++ [113] }, true, rfl, hb, by rw [List.length_set]; exact hl, fun m hm => ?_⟩
        rcases List.mem_or_eq_of_mem_set hm with hm | rfl
        · exact (hb.all m hm).kids
        · exact hnb.kids
  · rw [decide_eq_false (by omega), cond_false]
    exact ⟨l, l, true, rfl, hb, hb.few⟩
end Go.Proofs.Ytghbceiigeialaa
