import Derived.Test.YtodbelembghegaaGreatDoorCompE
namespace Go.Proofs.YtodbelembghegaaGreatDoor
set_option linter.unusedVariables false
set_option linter.unusedSimpArgs false
open Go Go.Proofs Go.RowKit Go.Shelf Go.Lib Go.Sort
open Go.Vm (Ed)
theorem cE_len : ∀ x : Ed, (cE x).length = 2 := fun _ => rfl
theorem HoldsE.cells {w : World} {blk off : Nat} {d : Array Ed} (h : HoldsK cE 2 w blk off d) {i : Nat} (hi : i < d.size) :
    w.cell? ⟨blk, off + i * 2, none⟩ = some (.string ⟨⟨d[i]!.1⟩⟩) ∧ w.cell? ⟨blk, off + i * 2 + 1, none⟩ = some (.string ⟨⟨d[i]!.2⟩⟩) ∧ w.frozen? ⟨blk, off + i * 2, none⟩ = false ∧ w.frozen? ⟨blk, off + i * 2 + 1, none⟩ = false :=
  ⟨(h.cell hi (show 0 < 2 by omega)).1, (h.cell hi (show 1 < 2 by omega)).1, (h.cell hi (show 0 < 2 by omega)).2, (h.cell hi (show 1 < 2 by omega)).2⟩
set_option maxHeartbeats 4000000 in
set_option maxRecDepth 1000000 in
theorem slices_Compact_edge (blk off cap : Nat) (d : Array Ed) (w : World) (hH : HoldsK cE 2 w blk off d) (hsz : d.size ≤ 4611686018427387904) (hcap : d.size ≤ cap) :
    Calls Tryz.prog 66 #[.slice (some ⟨blk, off, none⟩) d.size cap] w fun e w' => e = .returned (.slice (some ⟨blk, off, none⟩) (compactUpTo d d.size).length cap) ∧ ∃ q, w' = putRowK cE 2 (Sort.ahead w q) blk off (compactUpTo d d.size ++ List.replicate (d.size - (compactUpTo d d.size).length) (([], []) : Ed)).toArray := by
  have same : ∀ q, (∀ j, j < d.size → keeps d j = true) → (compactUpTo d d.size).length = d.size ∧ w.drewN q = putRowK cE 2 (Sort.ahead w q) blk off (compactUpTo d d.size ++ List.replicate (d.size - (compactUpTo d d.size).length) (([], []) : Ed)).toArray := by
    intro q hall
    have e : compactUpTo d d.size = d.toList := by rw [compactUpTo_all d _ hall, range_map_get]
    rw [e]
    refine ⟨by simp, ?_⟩
    simp only [Array.length_toList, Nat.sub_self, List.replicate_zero, List.append_nil, Array.toArray_toList]
    exact (putRowK_self cE 2 (Sort.ahead w q) blk off d (holdsK_ahead cE 2 w q blk off d hH)).symm
  have HS : Aside (∀ q, (∀ j, j < d.size → keeps d j = true) → (compactUpTo d d.size).length = d.size ∧ w.drewN q = putRowK cE 2 (Sort.ahead w q) blk off (compactUpTo d d.size ++ List.replicate (d.size - (compactUpTo d d.size).length) (([], []) : Ed)).toArray) := same
  clear same
  by_cases h2 : d.size < 2
  · have HH : Aside (HoldsK cE 2 w blk off d) := hH
    clear hH
    go_enter Tryz.func66, Tryz.ntmps66
    go_wp2
    go_ret
    obtain ⟨e1, e2⟩ := HS.out 0 (fun j hj => keeps_lt_one d j (by omega))
    exact ⟨by rw [e1]; rfl, 0, e2⟩
  · go_enter Tryz.func66, Tryz.ntmps66
    go_wp2
    go_loopg [3] d.size (fun g s3 wr => ∃ k q : Nat, 1 ≤ k ∧ k ≤ d.size ∧ d.size - k ≤ g ∧ s3 = .int .i64 k ∧ wr = w.drewN q ∧ ∀ j, j < k → keeps d j = true)
    case atStart => exact ⟨1, 0, Nat.le_refl _, by omega, by omega, rfl, rfl, keeps_lt_one d⟩
    case round =>
      obtain ⟨k, q, hk1, hk, hg, rfl, rfl, hall⟩ := hrel
      by_cases hlt : k < d.size
      · obtain ⟨c1, c1b, _, _⟩ := HoldsE.cells hH hlt
        obtain ⟨c0, c0b, _, _⟩ := HoldsE.cells hH (show k - 1 < d.size by omega)
        have A : Aside (∀ j, j < k → keeps d j = true) := hall
        have HH : Aside (HoldsK cE 2 w blk off d) := hH
        clear hall hH
        generalize hx : d[k]! = x at c1 c1b
        generalize hy : d[k - 1]! = y at c0 c0b
        have B : Aside (d[k]! = x ∧ d[k - 1]! = y) := ⟨hx, hy⟩
        clear hx hy
        obtain ⟨a1, a2⟩ := x
        obtain ⟨b1, b2⟩ := y
        by_cases hdup : ((a1, a2) : Ed) = (b1, b2)
        · have hq : ∀ W, (Op.equalIn 10000 73 (.agg #[.string ⟨⟨a1⟩⟩, .string ⟨⟨a2⟩⟩]) (.agg #[.string ⟨⟨b1⟩⟩, .string ⟨⟨b2⟩⟩])).run Tryz.prog W = .ok true W := fun W => by rw [equalEd, decide_eq_true hdup]
          go_wp2_with fail
          go_region
          go_wp2
          clear c0 c1 c0b c1b hq
          go_loopg [3, 5] d.size (fun g s3 s5 wr => ∃ (kk k2 q2 : Nat) (dk : Array Ed), s3 = .int .i64 kk ∧ s5 = .int .i64 k2 ∧ 1 ≤ k2 ∧ k + k2 ≤ d.size ∧ d.size - (k + k2) ≤ g ∧ wr = putRowK cE 2 (Sort.ahead w q2) blk off dk ∧ CompInv d (k + k2) kk dk)
          case atStart => exact ⟨k, 1, q + 1, d, rfl, rfl, Nat.le_refl _, by omega, by omega, (putRowK_self cE 2 (Sort.ahead w (q + 1)) blk off d (holdsK_ahead cE 2 w (q + 1) blk off d HH.out)).symm, CompInv.start A.out (keeps_neg (by omega) (by rw [B.out.1, B.out.2, hdup]))⟩
          case round =>
            obtain ⟨kk, k2, q2, dk, rfl, rfl, h1, hle, hg2, hwr, hI⟩ := hrel
            have hkk := hI.lt
            have hds := hI.size
            have hHk : HoldsK cE 2 wr blk off dk := by rw [hwr]; exact holdsK_putRowK cE 2 _ blk off d dk (holdsK_ahead cE 2 w q2 blk off d HH.out) hds
            have W2 : Aside (wr = putRowK cE 2 (Sort.ahead w q2) blk off dk) := hwr
            have I2 : Aside (CompInv d (k + k2) kk dk) := hI
            clear hwr
            by_cases hlt2 : k + k2 < d.size
            · obtain ⟨cm, cmb, _, _⟩ := HoldsE.cells hHk (show k + k2 < dk.size by omega)
              obtain ⟨cp, cpb, _, _⟩ := HoldsE.cells hHk (show k + k2 - 1 < dk.size by omega)
              obtain ⟨ck, ckb, fk, fkb⟩ := HoldsE.cells hHk (show kk < dk.size by omega)
              rw [hI.high (k + k2) (by omega), show off + (k + k2) * 2 = off + k * 2 + k2 * 2 by omega] at cm cmb
              rw [hI.high (k + k2 - 1) (by omega), show off + (k + k2 - 1) * 2 = off + k * 2 + (k2 - 1) * 2 by omega] at cp cpb
              clear hHk hI
              generalize hu : d[k + k2]! = u at cm cmb
              generalize hv : d[k + k2 - 1]! = v at cp cpb
              generalize dk[kk]!.1 = old1 at ck
              generalize dk[kk]!.2 = old2 at ckb
              have C : Aside (d[k + k2]! = u ∧ d[k + k2 - 1]! = v) := ⟨hu, hv⟩
              clear hu hv
              obtain ⟨u1, u2⟩ := u
              obtain ⟨v1, v2⟩ := v
              by_cases huv : ((u1, u2) : Ed) = (v1, v2)
              · have hq : ∀ W, (Op.equalIn 10000 73 (.agg #[.string ⟨⟨u1⟩⟩, .string ⟨⟨u2⟩⟩]) (.agg #[.string ⟨⟨v1⟩⟩, .string ⟨⟨v2⟩⟩])).run Tryz.prog W = .ok true W := fun W => by rw [equalEd, decide_eq_true huv]
                go_wp2_with fail
                go_region
                go_wp2
                go_roundg (d.size - (k + (k2 + 1)))
                case measure => omega
                case rel => exact ⟨kk, k2 + 1, q2 + 1, dk, rfl, by go_num, by omega, by omega, Nat.le_refl _, by rw [W2.out]; rfl, I2.out.skip (keeps_neg (by omega) (by rw [C.out.1, C.out.2, huv]))⟩
              · have hq : ∀ W, (Op.equalIn 10000 73 (.agg #[.string ⟨⟨u1⟩⟩, .string ⟨⟨u2⟩⟩]) (.agg #[.string ⟨⟨v1⟩⟩, .string ⟨⟨v2⟩⟩])).run Tryz.prog W = .ok false W := fun W => by rw [equalEd, decide_eq_false huv]
                go_wp2_with fail
                go_region
                go_wp2
                go_roundg (d.size - (k + (k2 + 1)))
                case measure => omega
                case rel => exact ⟨kk + 1, k2 + 1, q2 + 1, dk.setIfInBounds kk (u1, u2), by go_num, by go_num, by omega, by omega, Nat.le_refl _, store_worldK cE 2 cE_len (by omega) W2.out (u1, u2) 1, by have := I2.out.keep hlt2 (keeps_pos (by rw [C.out.1, C.out.2]; exact huv)); rwa [C.out.1] at this⟩
            · have hend : k + k2 = d.size := by omega
              have hcl : ∀ ty, (Builtin.clear_ #[35] ty #[.slice (some ⟨blk, off + kk * 2, none⟩) (d.size - kk) (cap - kk)]).run Tryz.prog wr = .ok (.tuple #[]) (wr.setCells blk (off + kk * 2) ((List.replicate (d.size - kk) (([], []) : Ed)).flatMap cE)) := by
                intro ty
                refine run_clear_ed wr ty blk _ _ _ (by omega) (fun j hj => ?_) (fun j hj => ?_)
                · obtain ⟨x1, x2⟩ := hHk (kk * 2 + j) (by rw [size_flatK]; omega)
                  rw [show off + kk * 2 + j = off + (kk * 2 + j) by omega, x1]; rfl
                · obtain ⟨x1, x2⟩ := hHk (kk * 2 + j) (by rw [size_flatK]; omega)
                  rw [show off + kk * 2 + j = off + (kk * 2 + j) by omega, x2]
              clear hHk hI
              go_wp2
              go_ret
              have hI := I2.out
              rw [hend] at hI
              refine ⟨by rw [hI.len]; rfl, q2, ?_⟩
              rw [hI.len, ← hI.done (([], []) : Ed), ← putRowK_lay cE 2 cE_len _ blk off _ dk kk (by simp; omega), ← W2.out]
        · have hq : ∀ W, (Op.equalIn 10000 73 (.agg #[.string ⟨⟨a1⟩⟩, .string ⟨⟨a2⟩⟩]) (.agg #[.string ⟨⟨b1⟩⟩, .string ⟨⟨b2⟩⟩])).run Tryz.prog W = .ok false W := fun W => by rw [equalEd, decide_eq_false hdup]
          go_wp2_with fail
          go_region
          go_wp2
          go_roundg (d.size - (k + 1))
          case measure => omega
          case rel =>
            refine ⟨k + 1, q + 1, by omega, by omega, Nat.le_refl _, by go_num, rfl, fun j hj => ?_⟩
            by_cases e : j = k
            · subst e
              exact keeps_pos (by rw [B.out.1, B.out.2]; exact hdup)
            · exact A.out j (by omega)
      · have : k = d.size := by omega
        subst this
        have HH : Aside (HoldsK cE 2 w blk off d) := hH
        clear hH
        go_wp2
        go_ret
        obtain ⟨e1, e2⟩ := HS.out q hall
        exact ⟨by rw [e1]; rfl, q, e2⟩
end Go.Proofs.YtodbelembghegaaGreatDoor
