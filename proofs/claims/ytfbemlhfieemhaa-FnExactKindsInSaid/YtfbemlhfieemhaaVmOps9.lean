/-
  The machine's operations are Go's: indices of strings, lengths, made slices, slices of slices.
-/
import Derived.Test.YtfbemlhfieemhaaVmOps8
namespace Go.Vm
open Go

section
variable {base : Nat} {U : Nat → Prop} {M0 : List Nat} {w0 w w' : World} {m m' : Mem} {G G' : GS} {P : Program}

theorem str_toList (s : List UInt8) : (ByteArray.mk ⟨s⟩).data.toList = s := rfl

theorem indexV_ok (hA : At base U M0 w0 w m G) {t : TypeId} {x i : V} {gx gi : Value} (hx : simV G.μ m (Gh U w G) x gx) (hi : simV G.μ m (Gh U w G) i gi) {v : V} {l l' : Log} (h : (indexV P t x i).run m l = some (v, m', l')) :
    OpR base U M0 w0 w m G P (Instr.index t gx gi) v m' := by
  unfold indexV at h
  cases hu : P.underlying t with
  | none => rw [hu] at h; exact (run_fail h).elim
  | some d =>
    rw [hu] at h
    cases d <;> try exact (run_fail h).elim
    cases x <;> try exact (run_fail h).elim
    rename_i y
    cases y <;> try exact (run_fail h).elim
    rename_i s
    cases i <;> try exact (run_fail h).elim
    rename_i y
    cases y <;> try exact (run_fail h).elim
    rename_i k n
    simp only [simV, ro] at hx hi
    subst hx hi
    dsimp only at h
    cases hb : idx s n with
    | none => rw [hb] at h; simp [Acc.run] at h
    | some b =>
      rw [hb] at h
      change some (_, _, _) = _ at h
      simp only [Option.some.injEq, Prod.mk.injEq] at h
      obtain ⟨rfl, rfl, _⟩ := h
      obtain ⟨h0, hlt, hget⟩ := idx_some hb
      refine OpR.same hA (g := .int .u8 b.toNat) ?_ (by simp [simV, ro])
      have hg : (ByteArray.mk ⟨s⟩)[n.toNat]? = some b := by
        have hsz : n.toNat < (ByteArray.mk ⟨s⟩).size := hlt
        rw [getElem?_pos (ByteArray.mk ⟨s⟩) n.toNat hsz]
        have : s[n.toNat] = b := by
          have := List.getElem?_eq_getElem hlt
          rw [this] at hget
          exact Option.some.inj hget
        exact congrArg some this
      simp [Instr.index, asIntOf, run_underlying hu, h0, hg]

theorem lenV_ok (hA : At base U M0 w0 w m G) {t ty : TypeId} {x : V} {gx : Value} (hx : simV G.μ m (Gh U w G) x gx)
    (hk : ∀ s, x = .d (.str s) → P.underlying t = some .string) (hk' : (∀ s, x ≠ .d (.str s)) → ∃ e, P.underlying t = some (.slice e)) {v : V} {l l' : Log} (h : (lenV x).run m l = some (v, m', l')) :
    OpR base U M0 w0 w m G P (Builtin.len_ #[t] ty #[gx]) v m' := by
  have slice : ∀ (a : Option Addr) (n c : Nat), (∃ e, P.underlying t = some (.slice e)) → OpR base U M0 w0 w m G P (Builtin.len_ #[t] ty #[.slice a n c]) (.d (.int .i64 n)) m := by
    intro a n c ⟨e, he⟩
    refine OpR.same hA (g := .int .i64 n) ?_ (by simp [simV, ro])
    simp [Builtin.len_, run_underlying he, goInt]
  cases x with
  | d y =>
    cases y with
    | str s =>
      change some (_, _, _) = _ at h
      simp only [Option.some.injEq, Prod.mk.injEq] at h
      obtain ⟨rfl, rfl, _⟩ := h
      simp only [simV, ro] at hx
      subst hx
      refine OpR.same hA (g := .int .i64 s.length) ?_ (by simp [simV, ro])
      have hsz : (ByteArray.mk ⟨s⟩).size = s.length := rfl
      simp [Builtin.len_, run_underlying (hk s rfl), goInt, hsz]
    | sl o s rows =>
      change some (_, _, _) = _ at h
      simp only [Option.some.injEq, Prod.mk.injEq] at h
      obtain ⟨rfl, rfl, _⟩ := h
      simp only [simV, ro] at hx
      obtain ⟨a, cap, rfl, _⟩ := hx
      exact slice a rows.length cap (hk' (by simp))
    | int _ _ => exact (run_fail h).elim
    | bool _ => exact (run_fail h).elim
    | nilf => exact (run_fail h).elim
  | nil s =>
    change some (_, _, _) = _ at h
    simp only [Option.some.injEq, Prod.mk.injEq] at h
    obtain ⟨rfl, rfl, _⟩ := h
    simp only [simV] at hx
    subst hx
    exact slice none 0 0 (hk' (by simp))
  | own r ver =>
    simp only [lenV] at h
    replace h := run_bind_some h; obtain ⟨c, m2, l2, h2, h⟩ := h
    rw [run_rd] at h2
    cases h2
    cases hc : get r m with
    | none => rw [hc] at h; exact (run_fail h).elim
    | some c =>
      rw [hc] at h
      cases c with
      | box _ _ => exact (run_fail h).elim
      | dead => exact (run_fail h).elim
      | arr fz fl ver' s rows =>
        simp only at h
        replace h := run_bind_some h; obtain ⟨_, m2, l2, h2, h⟩ := h
        obtain ⟨hb, rfl, rfl⟩ := run_ck' h2
        have hb := Nat.eq_of_beq_eq_true hb
        subst hb
        simp only [run_pure, Option.some.injEq, Prod.mk.injEq] at h
        obtain ⟨rfl, rfl, _⟩ := h
        have hro := hA.ok.look hc (by rw [hA.out]; simp) false
        simp only [simV, hc] at hx
        rw [← hx.2.2 trivial] at hro
        simp only [ro] at hro
        obtain ⟨a, cap, rfl, _⟩ := hro
        exact slice a rows.length cap (hk' (by simp))
  | ptr _ _ => exact (run_fail h).elim
  | eptr _ _ _ _ => exact (run_fail h).elim
  | rptr _ _ => exact (run_fail h).elim
  | clo _ _ _ => exact (run_fail h).elim
  | agg _ => exact (run_fail h).elim
  | tup _ => exact (run_fail h).elim
  | undef => exact (run_fail h).elim

/-! ### made slices -/
theorem toD_cv {H : Heap} {h : View} {c : CT} {g : Value} {x : D} {l l' : Log} (hr : (toD (cvCell c g)).run m l = some (x, m', l')) : m' = m ∧ ow H h x g [] := by
  unfold cvCell at hr
  split at hr
  all_goals first
    | exact (run_fail hr).elim
    | (simp only [toD, roD, run_pure, Option.some.injEq, Prod.mk.injEq] at hr
       obtain ⟨rfl, rfl, _⟩ := hr
       exact ⟨rfl, by simp [ow]⟩)
theorem toRow_cv {H : Heap} {h : View} : ∀ {cs : List CT} {gs : List Value} {xs : Row} {m m' : Mem} {l l' : Log}, (toRow (cvCells cs gs)).run m l = some (xs, m', l') → m' = m ∧ owRow H h xs gs [] ∧ xs.length = gs.length
  | c :: cs, g :: gs, xs, m, m', l, l', hr => by
    simp only [cvCells, toRow] at hr
    replace hr := run_bind_some hr; obtain ⟨x, m1, l1, h1, hr⟩ := hr
    replace hr := run_bind_some hr; obtain ⟨ys, m2, l2, h2, hr⟩ := hr
    simp only [run_pure, Option.some.injEq, Prod.mk.injEq] at hr
    obtain ⟨rfl, rfl, _⟩ := hr
    obtain ⟨rfl, q1⟩ := toD_cv (H := H) (h := h) h1
    obtain ⟨rfl, q2, q3⟩ := toRow_cv (H := H) (h := h) h2
    exact ⟨rfl, by simp only [owRow]; exact ⟨g, gs, [], [], rfl, rfl, q1, q2⟩, by simp [q3]⟩
  | [], g :: gs, xs, m, m', l, l', hr => by
    simp only [cvCells, toRow] at hr
    replace hr := run_bind_some hr; obtain ⟨x, m1, l1, h1, hr⟩ := hr
    exact (run_fail h1).elim
  | c :: cs, [], xs, m, m', l, l', hr => by
    simp only [cvCells, toRow, run_pure, Option.some.injEq, Prod.mk.injEq] at hr
    obtain ⟨rfl, rfl, _⟩ := hr
    exact ⟨rfl, by simp [owRow], rfl⟩
  | [], [], xs, m, m', l, l', hr => by
    simp only [cvCells, toRow, run_pure, Option.some.injEq, Prod.mk.injEq] at hr
    obtain ⟨rfl, rfl, _⟩ := hr
    exact ⟨rfl, by simp [owRow], rfl⟩

theorem made_rows {H : Heap} {h : View} {row : Row} {z L : List Value} {cap : Nat} (hz : z.length = row.length) (hL : L.length = cap * row.length) (hj : ∀ i j, i < cap → j < row.length → L[i * row.length + j]? = z[j]?) (hq : owRow H h row z []) :
    ∀ (n i : Nat), i + n ≤ cap → owRows H h row.length (List.replicate n row) (L.drop (i * row.length)) []
  | 0, i, _ => by simp [owRows]
  | n + 1, i, hi => by
    rw [List.replicate_succ]
    simp only [owRows]
    refine ⟨trivial, [], [], rfl, ?_, ?_⟩
    · refine owRow_take ?_ hq
      apply List.ext_getElem?
      intro j
      by_cases hjl : j < row.length
      · rw [List.getElem?_take_of_lt hjl, List.getElem?_take_of_lt hjl, List.getElem?_drop, hj i j (by omega) hjl]
      · rw [List.getElem?_eq_none (by rw [List.length_take]; omega), List.getElem?_eq_none (by rw [List.length_take]; omega)]
    · rw [List.drop_drop]
      have := made_rows hz hL hj hq n (i + 1) (by omega)
      rwa [Nat.add_mul, Nat.one_mul] at this

theorem makeSliceV_ok (hA : At base U M0 w0 w m G) {dst : Nat} {t : TypeId} {x y : V} {gx gy : Value} (hx : simV G.μ m (Gh U w G) x gx) (hy : simV G.μ m (Gh U w G) y gy) {v : V} {l l' : Log} (h : (makeSliceV P dst t x y).run m l = some (v, m', l')) :
    OpR base U M0 w0 w m G P (Instr.makeSlice t gx gy) v m' := by
  simp only [makeSliceV, zeroRowD] at h
  replace h := run_bind_some h; obtain ⟨e, m1, l1, h1, h⟩ := h
  obtain ⟨he, rfl, rfl⟩ := run_op' h1
  have he := elT_some he
  replace h := run_bind_some h; obtain ⟨_, m1, l1, h1, h⟩ := h
  obtain ⟨hs, rfl, rfl⟩ := run_ck' h1
  have hs := Nat.le_of_ble_eq_true hs
  replace h := run_bind_some h; obtain ⟨row, m1, l1, h1, h⟩ := h
  replace h1 := run_bind_some h1; obtain ⟨z, m2, l2, h2, h1⟩ := h1
  obtain ⟨hz, rfl, rfl⟩ := run_op' h2
  unfold zeroRow at hz
  cases hi : P.info? e with
  | none => simp [hi] at hz
  | some i =>
    simp only [hi] at hz
    cases hzz : i.zero with
    | none => simp [hzz] at hz
    | some zv =>
      simp only [hzz, Option.some.injEq] at hz
      subst hz
      obtain ⟨rfl, hrow, hlen⟩ := toRow_cv (H := heapOf w) (h := Gh U w G) h1
      replace h := run_bind_some h; obtain ⟨_, m2, l2, h2, h⟩ := h
      obtain ⟨hlr, rfl, rfl⟩ := run_ck' h2
      have hlr := Nat.eq_of_beq_eq_true hlr
      have hsz := szT_eq hi
      have hzs : zv.cells.size = i.size := by
        have : zv.cells.toList.length = zv.cells.size := by simp
        omega
      split at h
      next k1 n1 k2 n2 =>
        replace h := run_bind_some h; obtain ⟨_, m3, l3, h3, h⟩ := h
        obtain ⟨hck, rfl, rfl⟩ := run_ck' h3
        simp only [Bool.and_eq_true, decide_eq_true_eq] at hck
        obtain ⟨⟨⟨h0, hle⟩, hby⟩, hc⟩ := hck
        replace h := run_bind_some h; obtain ⟨u, m4, l4, h4, h⟩ := h
        simp only [run_pure, Option.some.injEq, Prod.mk.injEq] at h
        obtain ⟨rfl, rfl, _⟩ := h
        simp only [simV, ro] at hx hy
        subst hx hy
        have hbt : bytesT P e = i.bytes := by simp [bytesT, hi]
        rw [hbt] at hby
        have hroom : (roomB : Int) = 140737488355328 := rfl
        rw [hroom] at hby hc
        have hrun := run_make (P := P) w t e i zv he hi hzz k1 k2 n1 n2 h0 hle (by rw [Int.mul_comm]; omega) (by omega)
        have hE := hA.E
        have hrl : row.length = i.size := by omega
        have hq : owRows (heapOf w) (Gh U w G) (szT P e) (List.replicate n1.toNat row) (madeCells zv.cells (n2.toNat * i.size)).toList [] := by
          rw [hsz, ← hrl]
          have := made_rows (H := heapOf w) (h := Gh U w G) (row := row) (z := zv.cells.toList) (L := (madeCells zv.cells (n2.toNat * i.size)).toList) (cap := n2.toNat) hlen.symm (by simp [size_madeCells, hrl]) ?_ hrow n1.toNat 0 (by omega)
          · simpa [hrl] using this
          · intro a b ha hb
            have hlt : a * row.length + b < n2.toNat * i.size := by
              rw [hrl] at hb ⊢
              calc a * i.size + b < a * i.size + i.size := by omega
                _ = (a + 1) * i.size := by rw [Nat.add_mul, Nat.one_mul]
                _ ≤ n2.toNat * i.size := Nat.mul_le_mul_right _ ha
            have hbz : b < zv.cells.size := by omega
            have hmod : (a * row.length + b) % zv.cells.size = b := by
              rw [hzs, ← hrl, Nat.mul_comm, Nat.mul_add_mod]
              exact Nat.mod_eq_of_lt hb
            simp only [madeCells, Array.toList_map, Array.toList_range, List.getElem?_map]
            rw [List.getElem?_range hlt]
            simp [hmod, hbz]
        have hqS : rowsS (heapOf w) (Gh U w G) (flatT P e) (szT P e) (List.replicate n1.toNat row) (madeCells zv.cells (n2.toNat * i.size)).toList G.E := by
          unfold rowsS
          rw [hE]
          split
          · exact ⟨owRows_seen (View.le_refl _) _ _ _ [] (by intro b hb; simp at hb) hq, rfl⟩
          · exact hq
        obtain ⟨G', hnx, hsim⟩ := newRowsS_ok hA.ok hA.out hA.fr (w1 := w) rfl (Keep.refl _ _) (cap := n2.toNat) (T := e) hqS (by simp; omega) (by simp [size_madeCells, hsz]) h4
        refine ⟨_, _, G', hrun, hnx, ?_⟩
        simpa using hsim
      next => exact (run_fail h).elim
end
end Go.Vm
