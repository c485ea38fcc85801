import Derived.Test.YtghbceiigeialaaP1Law
namespace Go.Proofs.Ytghbceiigeialaa
set_option linter.unusedVariables false
set_option linter.unusedSimpArgs false
open Go Go.Vm
theorem pathOf_off {l : List Nd} {i : Int} (h : lshape l = false ∨ i < 0 ∨ (l.length : Int) ≤ i) : pathOf l i = [] := by
  unfold pathOf
  rw [if_neg]
  intro hc
  simp only [Bool.and_eq_true, decide_eq_true_eq] at hc
  rcases h with h | h | h
  · rw [hc.1] at h; cases h
  · omega
  · omega
theorem tail_ok (a b : List Nd) (o : Bool) (ha : Few a) (hb : Few b) :
    ((M.impl_FirstApart (encNs false a) (encNs false b)).bind fun r377 =>
      ((M.spec_NodeBy (encNs false a) r377).bind fun r394 =>
       ((M.spec_NodeBy (encNs false b) r377).bind fun r395 =>
        (bif decide (r394 < 0) then
         ((M.spec_ShapeOk (encNs false a)).bind fun r396 =>
          (bif !r396 then (some true) else ((M.spec_ShapeOk (encNs false b)).bind fun r397 => (some !r397)))) else
         (bif decide (r395 < 0) then
          ((M.spec_ShapeOk (encNs false a)).bind fun r398 =>
           (bif !r398 then (some true) else ((M.spec_ShapeOk (encNs false b)).bind fun r399 => (some !r399)))) else
          ((M.spec_Part (encNs false a) r394).bind fun r412 =>
           ((M.spec_Part (encNs false b) r395).bind fun r413 =>
            ((M.spec_SameTree (fzRows r412) (fzRows r413)).bind fun r447 =>
             ((M.spec_SameTree (encNs false a) (encNs false b)).bind fun r448 =>
              (bif r447 == r448 then
               ((M.spec_FirstApart (encNs false a) (encNs false b)).bind fun r473 => ((M.laws_sameInts r377 r473).bind fun r482 => (some r482))) else (some false)))))))))))
    = some true := by
  have hpl := firstApart_len a b
  have hps : (firstApart a b).length ≤ 1048576 := by omega
  rw [impl_FirstApart_ok a b false false ha.l ha.k hb.l hb.k, some_bind, spec_NodeBy_ok ha.l ha.k hps, some_bind, spec_NodeBy_ok hb.l hb.k hps, some_bind,
    spec_ShapeOk_ok a false ha.l ha.k, spec_ShapeOk_ok b false hb.l hb.k]
  simp only [some_bind]
  cases hsa : lshape a with
  | false =>
    have : nodeBy a (firstApart a b) = -1 := by rw [nodeBy, if_neg (by rw [hsa]; decide)]
    rw [this]
    rfl
  | true =>
    have la := shape_len hsa
    cases hsb : lshape b with
    | false =>
      have e1 : firstApart a b = [] := by rw [firstApart, hsb, Bool.and_false, if_neg (by decide)]
      have e2 : nodeBy b (firstApart a b) = -1 := by rw [nodeBy, if_neg (by rw [hsb]; decide)]
      rw [e2, e1, nodeBy_nil a hsa, decide_eq_false (by omega), cond_false]
      rfl
    | true =>
      have lb := shape_len hsb
      rcases apart_cases hsa hsb with ⟨h1, h2⟩ | ⟨hne, x, y, h1, h2, h3, h4, h5⟩
      · obtain ⟨u, e, hu1, hu2, hu3, hu4, hu5⟩ := part_at (o := false) hsa (i := a.length - 1) (by omega) ha.k
        obtain ⟨v, e', hv1, hv2, hv3, hv4, hv5⟩ := part_at (o := false) hsb (i := b.length - 1) (by omega) hb.k
        obtain ⟨z, hz, _⟩ := same_ok a b false false ha.l ha.k
        rw [h1, h2, decide_eq_false (by omega), cond_false, decide_eq_false (by omega), cond_false, show (a.length : Int) - 1 = ((a.length - 1 : Nat) : Int) by omega, show (b.length : Int) - 1 = ((b.length - 1 : Nat) : Int) by omega,
          hu1, some_bind, hv1, some_bind, hu5 rfl, hv5 rfl, fz_encNs, fz_encNs, hz, some_bind, some_bind, show (z == z) = true from by simp, cond_true,
          spec_FirstApart_ok a b false false ha.l ha.k hb.l hb.k, some_bind, lsame_ok _ hps, some_bind]
      · obtain ⟨u, e, hu1, hu2, hu3, hu4, hu5⟩ := part_at (o := false) hsa h3 ha.k
        obtain ⟨v, e', hv1, hv2, hv3, hv4, hv5⟩ := part_at (o := false) hsb h4 hb.k
        obtain ⟨z, hz, hz'⟩ := same_ok a b false false ha.l ha.k
        obtain ⟨w, hw, hw'⟩ := same_ok (u.flat 0) (v.flat 0) false false (by rw [u.flat_length]; omega) (fun n hn => by have := (flat_kids u 0 n hn).1; omega)
        have z0 : z = false := by
          cases z with
          | false => rfl
          | true => exact absurd (hz'.1 rfl) hne
        have w0 : w = false := by
          cases w with
          | false => rfl
          | true =>
            rw [part_differ hu3 hv3 hu4 hv4 (hw'.1 rfl)] at h5
            cases h5
        rw [h1, h2, decide_eq_false (by omega), cond_false, decide_eq_false (by omega), cond_false, hu1, some_bind, hv1, some_bind, fz_encNs, fz_encNs, hw, some_bind, hz, some_bind, z0, w0, show (false == false) = true from rfl, cond_true,
          spec_FirstApart_ok a b false false ha.l ha.k hb.l hb.k, some_bind, lsame_ok _ hps, some_bind]
theorem law_FnPaths (c : List UInt8) : M.laws_FnPaths (c.map byteRow) = some true := by
  simp only [M.laws_FnPaths, M.laws_FnPaths_C, M.laws_big, M.laws_big_C, some_bind, List.length_map]
  by_cases hc : c.length ≤ 1048576
  · rw [decide_eq_false (by omega), cond_false]
    obtain ⟨l, k, h1, hl, hk1, hk2⟩ := drawPath_ok c hc
    have hf := hl.few
    obtain ⟨a, b, o, h2, ha, hb⟩ := apart_law c hc
    have ht := tail_ok a b o ha hb
    rw [h1, some_bind]
    simp only [fz_encNs]
    have hpl := pathOf_len l k
    rw [impl_PathOf_ok l false hf.l hf.k k, some_bind, spec_ShapeOk_ok l false hf.l hf.k, some_bind, encI_length]
    cases hs : lshape l with
    | false =>
      rw [pathOf_off (.inl hs)]
      rfl
    | true =>
      rw [Bool.not_true, cond_false]
      by_cases k0 : k < 0
      · rw [decide_eq_true k0, cond_true, pathOf_off (.inr (.inl k0))]
        rfl
      · rw [decide_eq_false k0, cond_false, encNs_length]
        by_cases k9 : (l.length : Int) ≤ k
        · rw [decide_eq_true (by omega), cond_true, pathOf_off (.inr (.inr k9))]
          rfl
        · rw [decide_eq_false (by omega), cond_false]
          obtain ⟨i, rfl⟩ := Int.eq_ofNat_of_zero_le (a := k) (by omega)
          obtain ⟨b1, b2⟩ := path_back hs (i := i) (by omega)
          obtain ⟨p1, ⟨t, p2⟩, p3⟩ := pre_facts hs
          have ll := shape_len hs
          have hx0 : idx (encI (preAll l)) 0 = some [D.int .i64 ((l.length : Int) - 1)] := by rw [p2]; rfl
          have hx1 : (encI (preAll l))[0]? = some [D.int .i64 ((l.length : Int) - 1)] := by rw [p2]; rfl
          have w1 : IntKind.i64.wrap ((l.length : Int) - 1) = (l.length : Int) - 1 := wrap_ok (by omega) (by omega)
          rw [impl_Preorder_ok l false hf.l hf.k, some_bind, impl_NodeBy_ok hf.l hf.k (by omega), some_bind, b1, show (((i : Nat) : Int) != ((i : Nat) : Int)) = false from by simp, cond_false, encI_length, p1,
            show ((l.length : Int) != (l.length : Int)) = false from by simp, cond_false, hx0, some_bind, hx1, some_bind, cI0, some_bind, w1, show (((l.length : Int) - 1) != ((l.length : Int) - 1)) = false from by simp, cond_false,
            spec_DepthOf_ok l false hf.l hf.k, some_bind, decide_eq_false (by omega), cond_false]
          have hloop := loopM_run (b := M.laws_FnPaths_l11_b (c.map byteRow) (encNs false l) (encI (preAll l))) (t := .inr (l.length : Int)) (fun i => (i : Int)) l.length
            (by
              intro j hj
              simp only [M.laws_FnPaths_l11_b, M.laws_FnPaths_l11_C, encNs_length, has_ok (preAll l) j (by omega) (p3 j hj), some_bind]
              rw [decide_eq_true (by omega), cond_true, Bool.not_true, cond_false, wrap_ok (by omega) (by omega)]
              rfl)
            (by
              simp only [M.laws_FnPaths_l11_b, M.laws_FnPaths_l11_C, encNs_length]
              rw [decide_eq_false (by omega), cond_false]) 0 (Nat.zero_le _)
          have e : M.laws_FnPaths_l11 (c.map byteRow) (encNs false l) (encI (preAll l)) 0 = _ := hloop
          rw [e, some_bind]
          simp only [sumE, letE, h2, some_bind, fz_encNs]
          exact ht
  · rw [decide_eq_true (by omega), cond_true]
end Go.Proofs.Ytghbceiigeialaa
