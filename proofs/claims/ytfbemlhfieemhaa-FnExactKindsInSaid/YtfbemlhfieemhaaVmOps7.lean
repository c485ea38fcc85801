/-
  The machine's operations are Go's: append, make.
-/
import Derived.Test.YtfbemlhfieemhaaVmOps6
namespace Go.Vm
open Go

section
variable {base : Nat} {U : Nat → Prop} {M0 : List Nat} {w0 w w' : World} {m m' : Mem} {G G' : GS} {P : Program}

theorem run_ck' {b : Bool} {l : Log} {x : Unit} {l' : Log} (h : (ck b).run m l = some (x, m', l')) : b = true ∧ m = m' ∧ l = l' := by
  obtain ⟨h1, h2, h3⟩ := run_ck h
  exact ⟨h1, h2.symm, h3.symm⟩
theorem roomB_le {a : Nat} (h : Nat.ble a roomB = true) : a ≤ 140737488355328 := Nat.le_of_ble_eq_true h
theorem keep_mono {M M' : List Nat} (h : Keep M w w') (hs : ∀ b, b ∈ M → b ∈ M') : Keep M' w w' := ⟨h.os, h.tape, h.output, h.size, fun b hb hn => h.block b hb (fun hx => hn (hs b hx))⟩
theorem keep_fresh {w1 : World} {o : Obj} (h : Keep [] w w1) : Keep [] w (w1.alloc o) := h.trans (keep_alloc (M := [])) (by simp)

/-- a new array out of rows in hand, whatever may be written in them -/
theorem newRowsS_ok (hg : Gok base U w m G) (ho : G.out = []) (hfr : Fr M0 w0 w G) {w1 : World} (hw1 : w1.heap = w.heap) (hk1 : Keep [] w w1) {k : Nat} {fl : Bool} {s cap : Nat} {rows : List Row} {arr : Array Value} {T : TypeId} (hq : rowsS (heapOf w) (Gh U w G) fl s rows arr.toList G.E)
    (hcap : rows.length ≤ cap) (hsz : arr.size = cap * s) {u : Unit} {l l' : Log} (h : (new k (.arr false fl 0 s rows)).run m l = some (u, m', l')) :
    ∃ G', Nx base U M0 w0 w m G (w1.alloc (.cells arr T)) m' G' ∧ simV G'.μ m' (Gh U (w1.alloc (.cells arr T)) G') (.own k 0) (.slice (some ⟨w.heap.size, 0, none⟩) rows.length cap) := by
  obtain ⟨hn, rfl⟩ := run_new h
  have hsize : (w1.alloc (.cells arr T)).heap.size = w.heap.size + 1 := by rw [World.size_alloc, hw1]
  have hkeep : Keep [] w (w1.alloc (.cells arr T)) := keep_fresh hk1
  have hnE : w.heap.size ∉ G.E := fun hE => by have := (hg.lt _ (.inl hE)).1; omega
  refine ⟨_, hg.fresh ho hfr (gv := .slice (some ⟨w.heap.size, 0, none⟩) rows.length cap) (N := w.heap.size :: G.E) hn hkeep (List.nodup_cons.2 ⟨hnE, hg.ndE⟩) ?_ ?_, ?_⟩
  · intro b hb
    simp only [List.mem_cons] at hb
    rcases hb with rfl | hb
    · exact ⟨.inr (Nat.le_refl _), by rw [hsize]; omega⟩
    · exact ⟨.inl hb, by rw [hsize]; have := (hg.lt b (.inl hb)).1; omega⟩
  · intro h' hv hml hvis
    simp only [simCell, upM_same]
    refine .inr ⟨w.heap.size, cap, arr, T, G.E, rfl, hcap, heap_new hw1, hsz, ?_, rfl⟩
    have := rowsS_mono (H' := heapOf (w1.alloc (.cells arr T))) hv (fun b hb => hkeep.block b (hg.lt b (.inl hb)).1 (by simp)) hq
    cases fl with
    | true => exact this
    | false => exact this
  · simp [simV, get_put_same, isSl]

theorem size_zeros {z : Value} {n s : Nat} (h : z.cells.size = s) : (Builtin.zeroCells z.cells n).size = n * s := by simp [Builtin.zeroCells, h]

theorem appendV_ok (hA : At base U M0 w0 w m G) {dst : Nat} {t ty ry : TypeId} {x y : V} {gx gy : Value} (hx : simV G.μ m (Gh U w G) x gx) (hy : simV G.μ m (Gh U w G) y gy) {v : V} {l l' : Log} (h : (appendV P dst t ty x y).run m l = some (v, m', l')) :
    OpR base U M0 w0 w m G P (Builtin.append_ #[t, ty] ry #[gx, gy]) v m' := by
  simp only [appendV] at h
  replace h := run_bind_some h; obtain ⟨e, m1, l1, h1, h⟩ := h
  obtain ⟨he, rfl, rfl⟩ := run_op' h1
  replace h := run_bind_some h; obtain ⟨_, m1, l1, h1, h⟩ := h
  obtain ⟨hs1, rfl, rfl⟩ := run_ck h1
  replace h := run_bind_some h; obtain ⟨_, m1, l1, h1, h⟩ := h
  obtain ⟨hty, rfl, rfl⟩ := run_ck h1
  replace h := run_bind_some h; obtain ⟨z, m1, l1, h1, h⟩ := h
  obtain ⟨hz, rfl, rfl⟩ := run_op' h1
  replace h := run_bind_some h; obtain ⟨_, m1, l1, h1, h⟩ := h
  obtain ⟨hzs, rfl, rfl⟩ := run_ck h1
  replace h := run_bind_some h; obtain ⟨ys, m2, l2, h2, h⟩ := h
  have hs1 := Nat.le_of_ble_eq_true hs1
  have hu := elT_some he
  have hty' : (∃ e', P.underlying ty = some (.slice e')) ∨ P.underlying ty = some .string := by
    cases hq : P.underlying ty with
    | none => simp [hq] at hty
    | some d => rw [hq] at hty; cases d <;> simp at hty <;> simp
  obtain ⟨G1, news, t1, t2, t3, t4, hsrc, hrows, hold⟩ := (tail_ok hA hy hs1 h2).ex
  have hfr1 : Fr M0 w0 w G1 := hA.fr.less t2.ex
  have ho1 : G1.out = [] := t3.trans hA.out
  obtain ⟨inf, zv, hi, hzv, hzsim⟩ := zeroRow_ok (m := m1) (μ := G.μ) (h := Gh U w G) hz
  have hzs : zv.cells.size = szT P e := by rw [← Nat.eq_of_beq_eq_true hzs, ← simVs_length hzsim, Array.length_toList]
  have hsz : szT P e = inf.size := szT_eq hi
  have hby : bytesT P e = inf.bytes := by simp [bytesT, hi]
  rw [hsz] at hsrc
  cases x with
  | nil s0 =>
    simp only at h
    replace h := run_bind_some h; obtain ⟨_, m3, l3, h3, h⟩ := h
    obtain ⟨hb1, rfl, rfl⟩ := run_ck h3
    replace h := run_bind_some h; obtain ⟨_, m3, l3, h3, h⟩ := h
    obtain ⟨hb2, rfl, rfl⟩ := run_ck h3
    replace h := run_bind_some h; obtain ⟨_, m3, l3, h3, h⟩ := h
    simp only [run_pure, Option.some.injEq, Prod.mk.injEq] at h
    obtain ⟨rfl, rfl, _⟩ := h
    simp only [simV] at hx
    subst hx
    have hb1 := roomB_le hb1
    have hb2 := roomB_le hb2
    rw [hby] at hb1
    by_cases hy0 : ys = []
    · subst hy0
      obtain ⟨hn, rfl⟩ := run_new h3
      refine ⟨_, w, _, run_append_zero hu hty' hi hsrc, Nx.after t2 (t1.fresh ho1 hfr1 (gv := .slice none 0 0) (N := []) hn (Keep.refl _ _) (by simp) (by simp) (fun h' hv hml _ => ?_)), ?_⟩
      · simp only [simCell, upM_same]; exact .inl ⟨rfl, rfl, rfl⟩
      · simp [simV, get_put_same, isSl]
    · have hm : ys.length ≠ 0 := by simpa using hy0
      obtain ⟨cap, hcap, hrun⟩ := run_append_none (w := w) (ty := ry) hu hty' hi hzv hsrc hm hb2 hb1
      obtain ⟨G2, hnx, hsim⟩ := newRowsS_ok (w1 := w.drew) (cap := cap) (arr := news.toArray ++ Builtin.zeroCells zv.cells (cap - ys.length)) (T := e) t1 ho1 hfr1 rfl keep_drew (k := dst) (fl := flatT P e) (s := szT P e) (rows := ys)
        (rowsS_take (by
          have hnl : news.length = ys.length * szT P e := by rw [hsz]; exact hsrc.n
          simp only [Array.toList_append]
          rw [List.take_append_of_le_length (by omega)]) hrows) hcap (by
          rw [Array.size_append, size_zeros hzs, hsz]
          have hnl : news.toArray.size = ys.length * inf.size := by simpa using hsrc.n
          rw [hnl, ← Nat.add_mul]; congr 1; omega) h3
      exact ⟨_, _, G2, hrun, Nx.after t2 hnx, hsim⟩
  | own r ver =>
    simp only at h
    replace h := run_bind_some h; obtain ⟨c, m3, l3, h3, h⟩ := h
    rw [run_rd] at h3
    cases h3
    replace hx := t2.simV hx
    cases hc : get r m2 with
    | none => rw [hc] at h; exact (run_fail h).elim
    | some c =>
    rw [hc] at h
    cases c with
    | box _ _ => exact (run_fail h).elim
    | dead => exact (run_fail h).elim
    | arr fz fl ver' s rows =>
    cases fz with
    | true => exact (run_fail h).elim
    | false =>
    simp only at h
    replace h := run_bind_some h; obtain ⟨_, m4, l4, h4, h⟩ := h
    obtain ⟨hb, rfl, rfl⟩ := run_ck' h4
    have hb := Nat.eq_of_beq_eq_true hb
    subst hb
    replace h := run_bind_some h; obtain ⟨_, m4, l4, h4, h⟩ := h
    obtain ⟨hs, rfl, rfl⟩ := run_ck' h4
    have hs := Nat.eq_of_beq_eq_true hs
    subst hs
    replace h := run_bind_some h; obtain ⟨_, m4, l4, h4, h⟩ := h
    obtain ⟨hfl, rfl, rfl⟩ := run_ck' h4
    have hfl : fl = flatT P e := by cases fl <;> cases hq : flatT P e <;> simp_all
    rw [← hfl] at hrows
    replace h := run_bind_some h; obtain ⟨_, m4, l4, h4, h⟩ := h
    obtain ⟨hb1, rfl, rfl⟩ := run_ck' h4
    have hb1 := roomB_le hb1
    rw [hby] at hb1
    replace h := run_bind_some h; obtain ⟨_, m4, l4, h4, h⟩ := h
    obtain ⟨hb2, rfl, rfl⟩ := run_ck' h4
    have hb2 := roomB_le hb2
    replace h := run_bind_some h; obtain ⟨_, m4, l4, h4, h⟩ := h
    rw [run_wr] at h4
    cases h4
    simp only [run_pure, Option.some.injEq, Prod.mk.injEq] at h
    obtain ⟨rfl, rfl, _⟩ := h
    simp only [simV, hc] at hx
    have hx := hx.2.2 trivial
    subst hx
    have hcell := t1.cell r _ hc (by rw [ho1]; simp)
    have hnl : news.length = ys.length * szT P e := by rw [hsz]; exact hsrc.n
    have hver : ¬ ver = ver + 1 := by omega
    have hEd : ∀ b, b ∈ G1.F r → b ∉ G1.E := fun b => t1.djE r b
    -- the header turns, the rest of the frame stands
    have fin : ∀ (w' : World) (g : Value) (N : List Nat), Keep (G1.F r) w w' → N.Nodup → (∀ b, b ∈ N → (b ∈ G1.F r ∨ b ∈ G1.E ∨ w.heap.size ≤ b) ∧ b < w'.heap.size) →
        (∀ h' : View, (Gh U w G1).le h' → arrS (heapOf w') h' fl (szT P e) (rows ++ ys) g N) → (Builtin.append_ #[t, ty] ry #[G1.μ r, gy]).run P w = .ok g w' → isSl g →
        OpR base U M0 w0 w m1 G P (Builtin.append_ #[t, ty] ry #[G1.μ r, gy]) (.own r (ver + 1)) (put r (.arr false fl (ver + 1) (szT P e) (rows ++ ys)) m2) := by
      intro w' g N hk hN hNs hsim hrun hone
      refine ⟨g, w', _, hrun, Nx.after t2 (t1.rewrite ho1 hfr1 (μ' := upM G1.μ r g) (N := N) hc hk hN hNs (fun k hk => upM_other g hk) ⟨by omega, rfl, fun e => absurd e hver⟩ (fun h' hv hml _ => ?_)), ?_⟩
      · simp only [simCell, upM_same]; exact hsim h' hv
      · simp [simV, get_put_same, hone]
    simp only [simCell] at hcell
    rcases hcell with ⟨rfl, hμ, hF⟩ | ⟨b, cap, cs, T, N', k1, k2, k3, k4, k5, k6⟩
    · -- nothing was there
      by_cases hy0 : ys = []
      · subst hy0
        refine fin w (.slice none 0 0) [] (Keep.refl _ _) (by simp) (by simp) (fun h' hv => .inl ⟨rfl, rfl, rfl⟩) ?_ ⟨_, _, _, rfl⟩
        rw [hμ]
        exact run_append_zero hu hty' hi hsrc
      · have hm : ys.length ≠ 0 := by simpa using hy0
        obtain ⟨cap, hcap, hrun⟩ := run_append_none (w := w) (ty := ry) hu hty' hi hzv hsrc hm (by simpa using hb2) (by simpa using hb1)
        have hkeep : Keep [] w (w.drew.alloc (.cells (news.toArray ++ Builtin.zeroCells zv.cells (cap - ys.length)) e)) := keep_fresh keep_drew
        have hsize : (w.drew.alloc (.cells (news.toArray ++ Builtin.zeroCells zv.cells (cap - ys.length)) e)).heap.size = w.heap.size + 1 := by rw [World.size_alloc]; rfl
        have hnE : w.heap.size ∉ G1.E := fun hE => by have := (t1.lt _ (.inl hE)).1; omega
        refine fin _ _ (w.heap.size :: G1.E) (keep_mono hkeep (by simp)) (List.nodup_cons.2 ⟨hnE, t1.ndE⟩) ?_ ?_ (by rw [hμ]; exact hrun) ⟨_, _, _, rfl⟩
        · intro k hk
          simp only [List.mem_cons] at hk
          rcases hk with rfl | hk
          · exact ⟨.inr (.inr (Nat.le_refl _)), by rw [hsize]; omega⟩
          · exact ⟨.inr (.inl hk), by rw [hsize]; have := (t1.lt k (.inl hk)).1; omega⟩
        · intro h' hv
          refine .inr ⟨w.heap.size, cap, _, e, G1.E, rfl, by simpa using hcap, heap_new rfl, ?_, ?_, rfl⟩
          · rw [Array.size_append, size_zeros hzs, hsz]
            have hnl : news.toArray.size = ys.length * inf.size := by simpa using hsrc.n
            rw [hnl, ← Nat.add_mul]; congr 1; omega
          · have h1 := rowsS_mono hv (fun b hb => hkeep.block b (t1.lt b (.inl hb)).1 (by simp)) hrows
            have h2 := rowsS_take (cs' := (news.toArray ++ Builtin.zeroCells zv.cells (cap - ys.length)).toList) (by simp only [Array.toList_append]; rw [List.take_append_of_le_length (by omega)]) h1
            rw [List.nil_append]
            cases fl with
            | true => exact h2
            | false => exact h2
    · have hbF : b ∈ G1.F r := by rw [k6]; simp
      have hndF := t1.nd r
      rw [k6] at hndF
      have hN'F : ∀ k, k ∈ N' → k ∈ G1.F r := fun k hk => by rw [k6]; simp [hk]
      have hndNE : (N' ++ G1.E).Nodup := List.nodup_append.2 ⟨(List.nodup_cons.1 hndF).2, t1.ndE, fun a ha c hc e => hEd a (hN'F a ha) (e ▸ hc)⟩
      have hcl : cs.toList.length = cap * szT P e := by simpa using k4
      have hrl : rows.length * szT P e ≤ cs.toList.length := by rw [hcl]; exact Nat.mul_le_mul_right _ k2
      have k5' : rowsS (heapOf w) (Gh U w G1) fl (szT P e) rows cs.toList N' := by
        cases fl with
        | true => exact k5
        | false => exact k5
      by_cases hroom : rows.length + ys.length ≤ cap
      · -- there is room
        have hrun := run_append_fits (ty := ry) hu hty' hi hsrc k3 hroom (by rw [k4, hsz])
        rw [← hsz] at hrun
        have hh := setRow_heap w b cs (splice cs.toList (rows.length * szT P e) news).toArray T (0, 0) k3
        have hfit : rows.length * szT P e + news.length ≤ cs.toList.length := by
          rw [hnl, hcl, ← Nat.add_mul]; exact Nat.mul_le_mul_right _ hroom
        have hoth : ∀ k, k ≠ b → heapOf (w.setRow b (splice cs.toList (rows.length * szT P e) news).toArray) k = heapOf w k := fun k hk => setRow_other w b k _ hk
        have hsz2 : (w.setRow b (splice cs.toList (rows.length * szT P e) news).toArray).heap.size = w.heap.size := by simp [World.setRow]
        have hbN : b ∉ N' ++ G1.E := by
          intro hx
          simp only [List.mem_append] at hx
          rcases hx with hx | hx
          · exact (List.nodup_cons.1 hndF).1 hx
          · exact hEd b hbF hx
        refine fin _ (.slice (some ⟨b, 0, none⟩) (rows.length + ys.length) cap) (b :: (N' ++ G1.E)) (keep_setRow hbF) (List.nodup_cons.2 ⟨hbN, hndNE⟩) ?_ ?_ (by rw [k1]; exact hrun) ⟨_, _, _, rfl⟩
        · intro k hk
          rw [hsz2]
          simp only [List.mem_cons, List.mem_append] at hk
          rcases hk with rfl | hk | hk
          · exact ⟨.inl hbF, (t1.lt _ (.inr ⟨r, hbF⟩)).1⟩
          · exact ⟨.inl (hN'F k hk), (t1.lt _ (.inr ⟨r, hN'F k hk⟩)).1⟩
          · exact ⟨.inr (.inl hk), (t1.lt _ (.inl hk)).1⟩
        · intro h' hv
          refine .inr ⟨b, cap, _, T, N' ++ G1.E, by simp, by simpa using hroom, hh, ?_, ?_, rfl⟩
          · have := splice_length (l := cs.toList) (xs := news) (o := rows.length * szT P e) hfit
            simp only [List.size_toArray]
            rw [this, hcl]
          · have h1 := rowsS_mono (H' := heapOf (w.setRow b (splice cs.toList (rows.length * szT P e) news).toArray)) hv (fun k hk => hoth k (fun e => hbN (by rw [← e]; simp [hk]))) k5'
            have h2 := rowsS_mono (H' := heapOf (w.setRow b (splice cs.toList (rows.length * szT P e) news).toArray)) hv (fun k hk => hoth k (fun e => hbN (by rw [← e]; simp [hk]))) hrows
            have h3 := rowsS_append (rowsS_take (cs' := splice cs.toList (rows.length * szT P e) news) (by
              simp only [splice, List.append_assoc]
              rw [List.take_append_of_le_length (by simp; omega), List.take_take, Nat.min_self]) h1) (rowsS_take (cs' := (splice cs.toList (rows.length * szT P e) news).drop (rows.length * szT P e)) (by
              simp only [splice, List.append_assoc]
              rw [List.drop_append_of_le_length (by simp; omega)]
              have : (cs.toList.take (rows.length * szT P e)).drop (rows.length * szT P e) = [] := by simp
              rw [this, List.nil_append, List.take_append_of_le_length (by omega)]) h2)
            cases fl with
            | true => simpa [rowsS] using h3
            | false => simpa [rowsS] using h3
      · -- a new array
        have hlt : cap < rows.length + ys.length := by omega
        obtain ⟨cap', hcap', hrun⟩ := run_append_more (ty := ry) (olds := cs.toList.take (rows.length * szT P e)) hu hty' hi hzv hsrc (by rw [List.length_take, ← hsz]; omega) (fun j u hj => by
          rw [List.getElem?_take] at hj
          split at hj
          · have := full_cell (w := w) k3 (0 + j)
            rw [Nat.zero_add] at this ⊢
            rw [hj] at this
            exact this
          · cases hj) hlt hb2 hb1
        have hkeep : Keep [] w (w.drew.alloc (.cells ((cs.toList.take (rows.length * szT P e) ++ news).toArray ++ Builtin.zeroCells zv.cells (cap' - (rows.length + ys.length))) e)) := keep_fresh keep_drew
        have hsize : (w.drew.alloc (.cells ((cs.toList.take (rows.length * szT P e) ++ news).toArray ++ Builtin.zeroCells zv.cells (cap' - (rows.length + ys.length))) e)).heap.size = w.heap.size + 1 := by rw [World.size_alloc]; rfl
        have hnNE : w.heap.size ∉ N' ++ G1.E := fun hE => by
          simp only [List.mem_append] at hE
          rcases hE with hE | hE
          · have := (t1.lt _ (.inr ⟨r, hN'F _ hE⟩)).1; omega
          · have := (t1.lt _ (.inl hE)).1; omega
        refine fin _ (.slice (some ⟨w.heap.size, 0, none⟩) (rows.length + ys.length) cap') (w.heap.size :: (N' ++ G1.E)) (keep_mono hkeep (by simp)) (List.nodup_cons.2 ⟨hnNE, hndNE⟩) ?_ ?_ (by rw [k1]; exact hrun) ⟨_, _, _, rfl⟩
        · intro k hk
          rw [hsize]
          simp only [List.mem_cons, List.mem_append] at hk
          rcases hk with rfl | hk | hk
          · exact ⟨.inr (.inr (Nat.le_refl _)), by omega⟩
          · exact ⟨.inl (hN'F k hk), by have := (t1.lt _ (.inr ⟨r, hN'F k hk⟩)).1; omega⟩
          · exact ⟨.inr (.inl hk), by have := (t1.lt _ (.inl hk)).1; omega⟩
        · intro h' hv
          refine .inr ⟨w.heap.size, cap', _, e, N' ++ G1.E, by simp, by simpa using hcap', heap_new rfl, ?_, ?_, rfl⟩
          · rw [Array.size_append, size_zeros hzs]
            simp only [List.size_toArray, List.length_append, List.length_take, hnl]
            rw [Nat.min_eq_left hrl, ← Nat.add_mul, ← Nat.add_mul]; congr 1; omega
          · have h1 := rowsS_mono hv (fun b hb => hkeep.block b (t1.lt b (.inr ⟨r, hN'F b hb⟩)).1 (by simp)) k5'
            have h2 := rowsS_mono hv (fun b hb => hkeep.block b (t1.lt b (.inl hb)).1 (by simp)) hrows
            have l1 : (cs.toList.take (rows.length * szT P e)).length = rows.length * szT P e := by rw [List.length_take]; omega
            have h3 := rowsS_append (rowsS_take (cs' := ((cs.toList.take (rows.length * szT P e) ++ news).toArray ++ Builtin.zeroCells zv.cells (cap' - (rows.length + ys.length))).toList) (by
              simp only [Array.toList_append, List.append_assoc]
              rw [List.take_append_of_le_length (by omega), List.take_take, Nat.min_self]) h1) (rowsS_take (cs' := (((cs.toList.take (rows.length * szT P e) ++ news).toArray ++ Builtin.zeroCells zv.cells (cap' - (rows.length + ys.length))).toList).drop (rows.length * szT P e)) (by
              simp only [Array.toList_append, List.append_assoc]
              rw [List.drop_append_of_le_length (by omega), List.drop_eq_nil_of_le (by omega), List.nil_append, List.take_append_of_le_length (by omega)]) h2)
            cases fl with
            | true => exact h3
            | false => exact h3
  | d _ => exact (run_fail h).elim
  | ptr _ _ => exact (run_fail h).elim
  | eptr _ _ _ _ => exact (run_fail h).elim
  | rptr _ _ => exact (run_fail h).elim
  | clo _ _ _ => exact (run_fail h).elim
  | agg _ => exact (run_fail h).elim
  | tup _ => exact (run_fail h).elim
  | undef => exact (run_fail h).elim
end
end Go.Vm
