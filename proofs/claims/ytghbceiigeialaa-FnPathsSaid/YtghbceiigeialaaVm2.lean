import Derived.Test.YtghbceiigeialaaVm1
import Derived.Laws.Append
import Derived.Laws.AppendOwn
import Derived.Laws.CopyRow
import Derived.Laws.Slices
import Derived.Laws.MakeOwn
import Derived.Laws.BytesString
import Derived.Great.BuildSlice
set_option linter.unusedVariables false
set_option linter.unusedSimpArgs false

namespace Go.Vm
open Go
section
variable {base : Nat} {U : Nat → Prop} {w w' : World} {m : Mem} {G : GS}
theorem drop_cons {α : Type} {l : List α} {i : Nat} {a : α} {r : List α} (h : l.drop i = a :: r) : l[i]? = some a ∧ l.drop (i + 1) = r := by
  refine ⟨?_, by rw [← List.drop_drop, h]; rfl⟩
  have : (l.drop i)[0]? = some a := by rw [h]; rfl
  rwa [List.getElem?_drop, Nat.add_zero] at this
theorem map_vD (xs : List D) : (xs.map V.d).map vD = xs := by
  induction xs with
  | nil => rfl
  | cons x xs ih => simp [vD, ih]
theorem kinds_grow {m m' : Mem} (h : ∀ k c, get k m = some c → get k m' = some c) : ∀ {rs : List Nat} {cs : List Cell}, kinds m rs cs → kinds m' rs cs
  | [], _, q => q
  | r :: rs, _, ⟨c, c', cs', h1, h2, h3, h4⟩ => ⟨c, c', cs', h1, h r c h2, h3, kinds_grow h h4⟩
theorem kinds_put {m : Mem} {r : Nat} {c0 : Cell} : ∀ {rs : List Nat} {cs : List Cell}, r ∉ rs → kinds m rs cs → kinds (put r c0 m) rs cs
  | [], _, _, q => q
  | k :: rs, _, hr, ⟨c, c', cs', h1, h2, h3, h4⟩ => by
    simp only [List.mem_cons, not_or] at hr
    exact ⟨c, c', cs', h1, by rw [get_put_other (Ne.symm hr.1)]; exact h2, h3, kinds_put hr.2 h4⟩
structure Came (base : Nat) (U : Nat → Prop) (w : World) (m : Mem) (G : GS) (m' : Mem) (G' : GS) (E : List Nat) : Prop where
  ok : Gok base U w m' G'
  le : GLe m G m' G'
  E : G'.E = E
  out : G'.out = []
theorem cellsB_grow {H : Heap} {h h' : View} (hl : h.le h') {cs : List Cell} {gs : List Value} {N : List Nat} (q : cellsB H h cs gs N) : cellsB H h' cs gs N := cellsB_mono hl (fun _ _ => rfl) q
theorem reAll_ok {X : Ctx} {dst : Nat} {outs : List Cell} : ∀ {rs : List Nat} {i : Nat} {m : Mem} {G : GS} {N E : List Nat} (_ : Gok base U w m G) (_ : rs.Nodup) (_ : G.out = rs) (_ : kinds m rs (outs.drop i))
    (_ : (N ++ E).Perm G.E) (_ : cellsB (heapOf w) (Gh U w G) (outs.drop i) (rs.map G.μ) N) {x : Unit} {m' : Mem} {l l' : Log} (_ : (reAll X dst outs i rs).run m l = some (x, m', l')),
    ∃ G', Came base U w m G m' G' E
  | [], i, m, G, N, E, hg, hn, ho, hk, hE, hq, x, m', l, l', h => by
    simp only [reAll, run_pure, Option.some.injEq, Prod.mk.injEq] at h
    obtain ⟨_, rfl, rfl⟩ := h
    obtain ⟨d1, d2, _⟩ := hg.dropN hE
    exact ⟨_, d1, d2, rfl, ho⟩
  | r :: rs, i, m, G, N, E, hg, hn, ho, hk, hE, hq, x, m', l, l', h => by
    obtain ⟨c, c', cs', e1, hc, hsk, hk'⟩ := hk
    have hnr := List.nodup_cons.1 hn
    obtain ⟨hi, hdrop⟩ := drop_cons e1
    rw [e1] at hq
    obtain ⟨g, gs', N1, N2, eg, rfl, q1, q2⟩ := hq
    simp only [List.map_cons, List.cons.injEq] at eg
    obtain ⟨rfl, rfl⟩ := eg
    have hout : ∀ k, k ∈ G.out → ∃ c, get k m = some c := by
      intro k hkm
      rw [ho] at hkm
      simp only [List.mem_cons] at hkm
      rcases hkm with rfl | hkm
      · exact ⟨c, hc⟩
      · obtain ⟨j, hj⟩ := List.getElem?_of_mem hkm
        obtain ⟨c2, _, h2, _⟩ := kinds_at hk' hj
        exact ⟨c2, h2⟩
    simp only [reAll] at h
    replace h := run_bind_some h; obtain ⟨c0, m1, l1, h1, h⟩ := h
    rw [run_rd] at h1
    cases h1
    rw [hc] at h
    cases c with
    | dead => exact hsk.elim
    | que _ _ _ => exact hsk.elim
    | kbox _ _ => exact hsk.elim
    | loan _ _ _ _ _ => exact hsk.elim
    | box t cs =>
      cases c' with
      | dead => exact hsk.elim
      | que _ _ _ => exact hsk.elim
      | kbox _ _ => exact hsk.elim
      | loan _ _ _ _ _ => exact hsk.elim
      | arr _ _ _ _ _ => exact hsk.elim
      | box t' vs =>
        obtain rfl : t = t' := hsk
        obtain ⟨b, a, xs, N', hμ, hH, hvs, hxl, hrow, rfl⟩ := q1
        simp only at h
        replace h := run_bind_some h; obtain ⟨_, m2, l2, h2, h⟩ := h
        obtain ⟨hbl, rfl, rfl⟩ := run_ck h2
        replace h := run_bind_some h; obtain ⟨vs', m3, l3, h3, h⟩ := h
        replace h := run_bind_some h; obtain ⟨_, m4, l4, h4, h⟩ := h
        rw [run_wr] at h4
        cases h4
        have hbx : bxRow outs i = xs := by simp only [bxRow, hi, hvs]; exact map_vD xs
        have hbl : xs.length = (ctsOf X.P t).length := by
          simp only [boxLen, hi] at hbl
          have := Nat.eq_of_beq_eq_true hbl
          rw [hvs, List.length_map] at this
          exact this
        rw [hbx] at h3
        obtain ⟨G1, t1, s1⟩ := reCells_ok hg hout (N := N') (E := b :: (N2 ++ E)) (List.Perm.trans (by
          have : (N' ++ b :: (N2 ++ E)).Perm (b :: (N' ++ (N2 ++ E))) := List.perm_middle
          refine this.trans ?_
          simp [List.append_assoc]) hE) (by simpa using hrow) (by simpa using hbl) (by rw [← hxl]; exact hbl) h3
        have hc1 := t1.old r _ hc
        have hndE := t1.ok.ndE
        rw [t1.E] at hndE
        have hset := t1.ok.set r (.box t vs') G1.μ [b] (N2 ++ E) rs (by simpa using hndE) (fun k hk => .inr (by rw [t1.E]; simpa using hk))
          (memLe_put (fun _ _ => rfl) (fun c h => by rw [hc1] at h; cases h; exact ⟨rfl, rfl⟩)) (fun _ _ => rfl)
          (fun k hne => by rw [t1.out, ho]; simp [hne]) (fun hr => absurd hr hnr.1)
          (fun hv _ => ⟨b, a, by rw [t1.μ r _ hc]; exact hμ, hH, simVs_mono (memLe_put (fun _ _ => rfl) (fun c h => by rw [hc1] at h; cases h; exact ⟨rfl, rfl⟩)) hv _ _ s1, rfl⟩)
        obtain ⟨k1, k2⟩ := hset
        obtain ⟨G2, f1, f2, f3, f4⟩ := reAll_ok k1 hnr.2 rfl (kinds_put hnr.1 (kinds_grow t1.old (by rw [hdrop]; exact hk'))) (N := N2) (E := E) (List.Perm.refl _)
          (by
            rw [hdrop]
            have hmap : rs.map G1.μ = rs.map G.μ := List.map_congr_left fun k hk => by
              obtain ⟨c2, h2⟩ := hout k (by rw [ho]; simp [hk])
              exact t1.μ k c2 h2
            simp only [hmap]
            exact cellsB_grow (t1.le.view.trans' k2.view) q2) h
        exact ⟨G2, f1, (t1.le.trans k2).trans f2, f3, f4⟩
    | arr fz fl ver s rows =>
      cases c' with
      | dead => exact hsk.elim
      | que _ _ _ => exact hsk.elim
      | kbox _ _ => exact hsk.elim
      | loan _ _ _ _ _ => exact hsk.elim
      | box _ _ => exact hsk.elim
      | arr fz' fl' ver' s' rows' =>
        obtain ⟨rfl, rfl, rfl, rfl⟩ := hsk
        obtain ⟨rfl, _, hrow⟩ := q1
        simp only at h
        replace h := run_bind_some h; obtain ⟨rows2, m2, l2, h2, h⟩ := h
        obtain ⟨har, rfl, rfl⟩ := run_op' h2
        replace h := run_bind_some h; obtain ⟨_, m4, l4, h4, h⟩ := h
        rw [run_wr] at h4
        cases h4
        have hrr : rows2 = rows' := by
          simp [arRows, hi] at har
          exact har.symm
        subst hrr
        have hndE := hE.nodup_iff.2 hg.ndE
        have hset := hg.set r (.arr false fl 0 s rows2) G.μ N1 (N2 ++ E) rs (by rwa [List.append_assoc] at hndE) (fun k hk => .inr (hE.mem_iff.1 (by rw [List.append_assoc]; exact hk)))
          (memLe_put (fun _ _ => rfl) (fun c h => by rw [hc] at h; cases h; exact ⟨Nat.le_refl _, rfl, fun _ => ⟨rfl, rfl⟩⟩)) (fun _ _ => rfl)
          (fun k hne => by rw [ho]; simp [hne]) (fun hr => absurd hr hnr.1)
          (fun hv _ => arrS_mono hv (fun _ _ => rfl) hrow)
        obtain ⟨k1, k2⟩ := hset
        obtain ⟨G2, f1, f2, f3, f4⟩ := reAll_ok k1 hnr.2 rfl (kinds_put hnr.1 (by rw [hdrop]; exact hk')) (N := N2) (E := E) (List.Perm.refl _)
          (by rw [hdrop]; exact cellsB_grow k2.view q2) h
        exact ⟨G2, f1, k2.trans f2, f3, f4⟩
theorem str_seen {h : View} (s : List UInt8) : ∀ (cs : List Value), cs = s.map (fun b => Value.int .u8 b.toNat) → seenRows h 1 (s.map byteRow) cs := by
  induction s with
  | nil => intro cs _; simp [seenRows]
  | cons b s ih =>
    intro cs e
    subst e
    simp only [List.map_cons, seenRows, byteRow]
    exact ⟨rfl, by simp [seenRow, ro], ih _ rfl⟩
end
end Go.Vm

namespace Go.Vm
open Go
theorem add_at (b o j : Nat) : (⟨b, o, none⟩ : Addr).add j = ⟨b, o + j, none⟩ := by
  unfold Addr.add
  split
  · rename_i h; subst h; rfl
  · rfl
theorem okT_some {P : Program} {t : TypeId} (h : okT P t = true) : ∃ d, P.underlying t = some d := by
  unfold okT at h
  cases hu : P.underlying t with
  | none => simp [hu] at h
  | some d => exact ⟨d, rfl⟩
theorem info_some {P : Program} {t : TypeId} {d : TypeDesc} (h : P.underlying t = some d) : ∃ i, P.info? t = some i := by
  unfold Program.underlying at h
  cases hi : P.info? t with
  | none => simp [hi] at h
  | some i => exact ⟨i, rfl⟩
theorem szT_eq {P : Program} {t : TypeId} {i : TypeInfo} (h : P.info? t = some i) : szT P t = i.size := by simp [szT, h]
section
variable {P : Program} {w : World}
theorem run_isAgg {t : TypeId} {d : TypeDesc} (h : P.underlying t = some d) (w : World) : (isAgg t).run P w = .ok (aggT P t) w := by
  unfold isAgg aggT
  rw [Sem.run_bind, run_underlying h w, h]
  cases d <;> rfl
theorem run_loadAt {t : TypeId} {b off : Nat} {cs : List Value} {g : Value} (hok : okT P t = true) (hlen : cs.length = szT P t) (hc : ∀ j v, cs[j]? = some v → w.cell? ⟨b, off + j, none⟩ = some v) (hg : valOf P t cs g) :
    (Instr.loadAt t (.pointer (some ⟨b, off, none⟩))).run P w = .ok g w := by
  obtain ⟨d, hd⟩ := okT_some hok
  obtain ⟨i, hi⟩ := info_some hd
  have hsz : i.size = cs.length := by rw [hlen, szT_eq hi]
  unfold Instr.loadAt Instr.sureAddr
  simp only [Sem.run_bind, Sem.run_pure, Result.andThen_ok, loadVar, run_isAgg hd]
  unfold valOf at hg
  cases ha : aggT P t with
  | true =>
    simp only [ha, if_true] at hg
    subst hg
    have hl := run_loadCells_list (P := P) w ⟨b, off, none⟩ cs (fun j v hv => by rw [add_at]; exact hc j v hv)
    simp [sizeOf, typeInfo, hi, hsz, hl]
  | false =>
    simp only [ha, Bool.false_eq_true, if_false] at hg
    subst hg
    have := hc 0 g rfl
    simp only [Nat.add_zero] at this
    simp [this]
theorem run_storeAt {t T : TypeId} {b off : Nat} {cur : Array Value} {g : Value} (hok : okT P t = true) (hH : w.heap[b]? = some (.cells cur T (0, 0))) (hlen : g.cells.size = szT P t) (hfit : off + g.cells.size ≤ cur.size) (h1 : ∀ v ∈ g.cells.toList, v.oneCell' = true) :
    (Instr.storeAt t (.pointer (some ⟨b, off, none⟩)) g).run P w = .ok () (w.setRow b (splice cur.toList off g.cells.toList).toArray) := by
  obtain ⟨d, hd⟩ := okT_some hok
  obtain ⟨i, hi⟩ := info_some hd
  have hsz : g.cells.size = i.size := by rw [hlen, szT_eq hi]
  have hst := run_storeCells_at P b off T g.cells.toList 0 cur w hH (by simpa using hfit) h1
  simp only [Nat.add_zero] at hst
  unfold Instr.storeAt Instr.sureAddr
  simp only [Sem.run_bind, Sem.run_pure, Result.andThen_ok, storeVar, sizeOf, typeInfo, run_program, hi]
  simp [hsz, hst, splice]
theorem run_fieldAt {T : TypeId} {f b off o n : Nat} {t : TypeId} (hf : fieldOf P T f = some (o, n, t)) (hn : 1 ≤ n) :
    (Instr.fieldAt T (.pointer (some ⟨b, off, none⟩)) f).run P w = .ok (.pointer (some ⟨b, off + o, none⟩)) w := by
  unfold fieldOf at hf
  cases hu : P.underlying T with
  | none => simp [hu] at hf
  | some d =>
    rw [hu] at hf
    cases d with
    | struct fs =>
      simp only at hf
      cases hfd : fs[f]? with
      | none => simp [hfd] at hf
      | some fd =>
        simp only [hfd, Option.some.injEq, Prod.mk.injEq] at hf
        obtain ⟨rfl, rfl, rfl⟩ := hf
        cases hi : P.info? fd.type with
        | none => simp [szT, hi] at hn
        | some i =>
          have hne : i.size ≠ 0 := by rw [szT_eq hi] at hn; omega
          unfold Instr.fieldAt
          simp [run_underlying hu, hfd, Instr.sureAddr, fieldPlace, sizeOf, typeInfo, hi, hne, add_at]
    | _ => simp at hf
theorem elT_some {t e : TypeId} (h : elT P t = some e) : P.underlying t = some (.slice e) := by
  unfold elT at h
  cases hu : P.underlying t with
  | none => simp [hu] at h
  | some d => rw [hu] at h; cases d <;> simp at h; rw [h]
theorem run_indexAt {t e : TypeId} {k : IntKind} {i : Int} {b o n cap : Nat} (he : elT P t = some e) {inf : TypeInfo} (hi : P.info? e = some inf) (h0 : 0 ≤ i) (hn : i < n) :
    (Instr.indexAt t (.slice (some ⟨b, o, none⟩) n cap) (.int k i)).run P w = .ok (.pointer (some ⟨b, o + i.toNat * inf.size, none⟩)) w := by
  have hu := elT_some he
  have hc : 0 ≤ i ∧ i < (n : Int) := ⟨h0, hn⟩
  unfold Instr.indexAt
  simp [asIntOf, run_underlying hu, hc, sizeOf, typeInfo, hi, add_at]
structure Src (P : Program) (size : Nat) (w : World) (y : Value) (m : Nat) (news : List Value) : Prop where
  len : (Builtin.lenOf y).run P w = .ok m w
  get : (Builtin.firstCells size m y).run P w = .ok news.toArray w
  lend : (Builtin.lenOf y).run P w.drew = .ok m w.drew
  getd : (Builtin.firstCells size m y).run P w.drew = .ok news.toArray w.drew
  n : news.length = m * size
  one : ∀ u ∈ news, u.oneCell' = true
theorem Src.slice {size : Nat} {a : Option Addr} {m c : Nat} {news : List Value} (hl : news.length = m * size) (h1 : ∀ u ∈ news, u.oneCell' = true)
    (h : m ≠ 0 → ∃ b o, a = some ⟨b, o, none⟩ ∧ ∀ j v, news[j]? = some v → w.cell? ⟨b, o + j, none⟩ = some v) : Src P size w (.slice a m c) m news := by
  have key : ∀ w' : World, (∀ x, w'.cell? x = w.cell? x) → (Builtin.firstCells size m (.slice a m c)).run P w' = .ok news.toArray w' := by
    intro w' hw
    by_cases hm : m = 0
    · subst hm
      have : news = [] := List.eq_nil_of_length_eq_zero (by simpa using hl)
      subst this
      cases a with
      | none => simp [Builtin.firstCells]
      | some a => simp [Builtin.firstCells, loadCells, loadCellsFrom]
    · obtain ⟨b, o, rfl, hc⟩ := h hm
      exact run_firstCells_some (P := P) w' size m ⟨b, o, none⟩ m c news hl (fun j v hv => by rw [add_at, hw]; exact hc j v hv)
  exact ⟨by simp [Builtin.lenOf], key w (fun _ => rfl), by simp [Builtin.lenOf], key w.drew (fun x => rfl), hl, h1⟩
theorem Src.string {s : List UInt8} : Src P 1 w (.string ⟨⟨s⟩⟩) s.length (s.map fun b => Value.int .u8 b.toNat) := by
  have hsz : (⟨⟨s⟩⟩ : ByteArray).size = s.length := rfl
  have hex : ((⟨⟨s⟩⟩ : ByteArray).extract 0 s.length) = ⟨⟨s⟩⟩ := by
    rw [← hsz]
    apply ByteArray.ext
    simp [ByteArray.data_extract]
  have hm : (Array.map (fun b : UInt8 => Value.int .u8 (b.toNat : Int)) ⟨s⟩) = (s.map fun b => Value.int .u8 (b.toNat : Int)).toArray := by
    apply Array.ext'
    simp
  refine ⟨by simp [Builtin.lenOf, hsz], by simp [Builtin.firstCells, hex, hm], by simp [Builtin.lenOf, hsz], by simp [Builtin.firstCells, hex, hm], by simp, ?_⟩
  intro u hu
  simp only [List.mem_map] at hu
  obtain ⟨b, _, rfl⟩ := hu
  rfl
theorem run_append_none {t ty y e : TypeId} {inf : TypeInfo} {z gy : Value} {m : Nat} {news : List Value} (he : P.underlying t = some (.slice e)) (hty : (∃ e', P.underlying y = some (.slice e')) ∨ P.underlying y = some .string)
    (hi : P.info? e = some inf) (hz : inf.zero = some z) (hs : Src P inf.size w gy m news) (hm : m ≠ 0) (h63 : m ≤ 140737488355328) (hb : m * inf.bytes ≤ 140737488355328) :
    ∃ cap, m ≤ cap ∧ (Builtin.append_ #[t, y] ty #[.slice none 0 0, gy]).run P w = .ok (.slice (some ⟨w.heap.size, 0, none⟩) m cap) (w.drew.alloc (.cells (news.toArray ++ Builtin.zeroCells z.cells (cap - m)) e)) := by
  have h63' : ¬ (9223372036854775807 < (m : Int)) := by omega
  have h48' : ¬ (281474976710656 < Builtin.nextslicecap m 0 * inf.bytes) := by rw [nextslicecap_zero (by omega)]; omega
  refine ⟨grownCap w m 0 e, grownCap_ge w m 0 e, ?_⟩
  rcases hty with ⟨e', hd⟩ | hd <;> simp [Builtin.append_, run_underlying he, run_underlying hd, sizeOf, typeInfo, zeroValue, hi, hz, hs.len, hm, h63', h48', Question.forced, run_firstCells_none, hs.getd, newRow, grownCap]
theorem run_append_zero {t ty y e : TypeId} {inf : TypeInfo} {gy : Value} {news : List Value} (he : P.underlying t = some (.slice e)) (hty : (∃ e', P.underlying y = some (.slice e')) ∨ P.underlying y = some .string)
    (hi : P.info? e = some inf) (hs : Src P inf.size w gy 0 news) :
    (Builtin.append_ #[t, y] ty #[.slice none 0 0, gy]).run P w = .ok (.slice none 0 0) w := by
  rcases hty with ⟨e', hd⟩ | hd <;> simp [Builtin.append_, run_underlying he, run_underlying hd, sizeOf, typeInfo, hi, hs.len, hs.get]
theorem run_append_fits {t ty y e T : TypeId} {inf : TypeInfo} {gy : Value} {b n m cap : Nat} {cur : Array Value} {news : List Value} (he : P.underlying t = some (.slice e)) (hty : (∃ e', P.underlying y = some (.slice e')) ∨ P.underlying y = some .string)
    (hi : P.info? e = some inf) (hs : Src P inf.size w gy m news) (hH : w.heap[b]? = some (.cells cur T (0, 0))) (hroom : n + m ≤ cap) (hc : cur.size = cap * inf.size) :
    (Builtin.append_ #[t, y] ty #[.slice (some ⟨b, 0, none⟩) n cap, gy]).run P w = .ok (.slice (some ⟨b, 0, none⟩) (n + m) cap) (w.setRow b (splice cur.toList (n * inf.size) news).toArray) := by
  have hfit : n * inf.size + 0 + news.length ≤ cur.size := by
    rw [hs.n, hc, Nat.add_zero, ← Nat.add_mul]
    exact Nat.mul_le_mul_right _ hroom
  have hst := run_storeCells_at P b (n * inf.size) T news 0 cur w hH hfit hs.one
  simp only [Nat.add_zero] at hst
  rcases hty with ⟨e', hd⟩ | hd <;> simp [Builtin.append_, run_underlying he, run_underlying hd, sizeOf, typeInfo, hi, hs.len, hroom, hs.get, add_at, hst, splice]
theorem run_append_more {t ty y e : TypeId} {inf : TypeInfo} {z gy : Value} {b n m cap : Nat} {olds news : List Value} (he : P.underlying t = some (.slice e)) (hty : (∃ e', P.underlying y = some (.slice e')) ∨ P.underlying y = some .string)
    (hi : P.info? e = some inf) (hz : inf.zero = some z) (hs : Src P inf.size w gy m news) (hl : olds.length = n * inf.size) (ho : ∀ j v, olds[j]? = some v → w.cell? ⟨b, 0 + j, none⟩ = some v) (hroom : cap < n + m) (h63 : n + m ≤ 140737488355328) (hb : (n + m) * inf.bytes ≤ 140737488355328) :
    ∃ cap', n + m ≤ cap' ∧ (Builtin.append_ #[t, y] ty #[.slice (some ⟨b, 0, none⟩) n cap, gy]).run P w = .ok (.slice (some ⟨w.heap.size, 0, none⟩) (n + m) cap') (w.drew.alloc (.cells ((olds ++ news).toArray ++ Builtin.zeroCells z.cells (cap' - (n + m))) e)) := by
  have hn : ¬ (n + m ≤ cap) := by omega
  have h63' : ¬ (9223372036854775807 < ((n : Int) + (m : Int))) := by omega
  have h48' : ¬ (281474976710656 < Builtin.nextslicecap (n + m) cap * inf.bytes) := by
    have := growslice_fits hroom hb
    omega
  have hfo := run_firstCells_some (P := P) w.drew inf.size n ⟨b, 0, none⟩ n cap olds hl (fun j v hv => by rw [add_at]; exact ho j v hv)
  refine ⟨grownCap w (n + m) cap e, grownCap_ge w (n + m) cap e, ?_⟩
  rcases hty with ⟨e', hd⟩ | hd <;> simp [Builtin.append_, run_underlying he, run_underlying hd, sizeOf, typeInfo, zeroValue, hi, hz, hs.len, hn, h63', h48', Question.forced, hfo, hs.getd, newRow, grownCap] <;>
    (congr 2; apply Array.ext'; simp [List.append_assoc])
theorem run_append_fits_at {t ty y e T : TypeId} {inf : TypeInfo} {gy : Value} {b o n m cap : Nat} {cur : Array Value} {news : List Value} (he : P.underlying t = some (.slice e)) (hty : (∃ e', P.underlying y = some (.slice e')) ∨ P.underlying y = some .string)
    (hi : P.info? e = some inf) (hs : Src P inf.size w gy m news) (hH : w.heap[b]? = some (.cells cur T (0, 0))) (hroom : n + m ≤ cap) (hc : o + cap * inf.size ≤ cur.size) :
    (Builtin.append_ #[t, y] ty #[.slice (some ⟨b, o, none⟩) n cap, gy]).run P w = .ok (.slice (some ⟨b, o, none⟩) (n + m) cap) (w.setRow b (splice cur.toList (o + n * inf.size) news).toArray) := by
  have hfit : (o + n * inf.size) + 0 + news.length ≤ cur.size := by
    have := Nat.mul_le_mul_right inf.size hroom
    rw [Nat.add_mul] at this
    rw [hs.n]
    omega
  have hst := run_storeCells_at P b (o + n * inf.size) T news 0 cur w hH hfit hs.one
  simp only [Nat.add_zero] at hst
  rcases hty with ⟨e', hd⟩ | hd <;> simp [Builtin.append_, run_underlying he, run_underlying hd, sizeOf, typeInfo, hi, hs.len, hroom, hs.get, add_at, hst, splice]
theorem run_append_more_at {t ty y e : TypeId} {inf : TypeInfo} {z gy : Value} {b o n m cap : Nat} {olds news : List Value} (he : P.underlying t = some (.slice e)) (hty : (∃ e', P.underlying y = some (.slice e')) ∨ P.underlying y = some .string)
    (hi : P.info? e = some inf) (hz : inf.zero = some z) (hs : Src P inf.size w gy m news) (hl : olds.length = n * inf.size) (ho : ∀ j v, olds[j]? = some v → w.cell? ⟨b, o + j, none⟩ = some v) (hroom : cap < n + m) (h63 : n + m ≤ 140737488355328) (hb : (n + m) * inf.bytes ≤ 140737488355328) :
    ∃ cap', n + m ≤ cap' ∧ (Builtin.append_ #[t, y] ty #[.slice (some ⟨b, o, none⟩) n cap, gy]).run P w = .ok (.slice (some ⟨w.heap.size, 0, none⟩) (n + m) cap') (w.drew.alloc (.cells ((olds ++ news).toArray ++ Builtin.zeroCells z.cells (cap' - (n + m))) e)) := by
  have hn : ¬ (n + m ≤ cap) := by omega
  have h63' : ¬ (9223372036854775807 < ((n : Int) + (m : Int))) := by omega
  have h48' : ¬ (281474976710656 < Builtin.nextslicecap (n + m) cap * inf.bytes) := by
    have := growslice_fits hroom hb
    omega
  have hfo := run_firstCells_some (P := P) w.drew inf.size n ⟨b, o, none⟩ n cap olds hl (fun j v hv => by rw [add_at]; exact ho j v hv)
  refine ⟨grownCap w (n + m) cap e, grownCap_ge w (n + m) cap e, ?_⟩
  rcases hty with ⟨e', hd⟩ | hd <;> simp [Builtin.append_, run_underlying he, run_underlying hd, sizeOf, typeInfo, zeroValue, hi, hz, hs.len, hn, h63', h48', Question.forced, hfo, hs.getd, newRow, grownCap] <;>
    (congr 2; apply Array.ext'; simp [List.append_assoc])
end
end Go.Vm

namespace Go.Vm
open Go
structure Fr (M0 : List Nat) (w0 w : World) (G : GS) : Prop where
  keep : Keep M0 w0 w
  fr : ∀ b, excl G.F G.E b → b ∈ M0 ∨ w0.heap.size ≤ b
structure Nx (base : Nat) (U : Nat → Prop) (M0 : List Nat) (w0 w : World) (m : Mem) (G : GS) (w' : World) (m' : Mem) (G' : GS) : Prop where
  ok : Gok base U w' m' G'
  E : G'.E = []
  out : G'.out = []
  mem : memLe G.μ m G'.μ m'
  view : (Gh U w G).le (Gh U w' G')
  fr : Fr M0 w0 w' G'
structure At (base : Nat) (U : Nat → Prop) (M0 : List Nat) (w0 w : World) (m : Mem) (G : GS) : Prop where
  ok : Gok base U w m G
  E : G.E = []
  out : G.out = []
  fr : Fr M0 w0 w G
theorem wp_value {P : Program} {o : Oper} {a : Act} {w w' : World} {K : Act → World → Prop} {Q : Exit → Act → World → Prop} {g : Value} (h : (execOp a.eval o).run P w = .ok (.value g) w') (hn : K (a.put o.dst g) w') : o.wp P a w K Q := by
  unfold Oper.wp
  rw [h]
  exact hn
theorem wp_skip {P : Program} {o : Oper} {a : Act} {w w' : World} {K : Act → World → Prop} {Q : Exit → Act → World → Prop} (h : (execOp a.eval o).run P w = .ok .skip w') (hn : K (a.put o.dst undef) w') : o.wp P a w K Q := by
  unfold Oper.wp
  rw [h]
  exact hn
section
variable {base : Nat} {U : Nat → Prop} {M0 : List Nat} {w0 w w' : World} {m m' : Mem} {G G' : GS} {P : Program}
theorem At.nx (h : At base U M0 w0 w m G) : Nx base U M0 w0 w m G w m G := ⟨h.ok, h.E, h.out, memLe_refl _ _, View.le_refl _, h.fr⟩
theorem Nx.at_ (h : Nx base U M0 w0 w m G w' m' G') : At base U M0 w0 w' m' G' := ⟨h.ok, h.E, h.out, h.fr⟩
theorem Nx.trans {w2 : World} {m2 : Mem} {G2 : GS} (h : Nx base U M0 w0 w m G w' m' G') (k : Nx base U M0 w0 w' m' G' w2 m2 G2) : Nx base U M0 w0 w m G w2 m2 G2 :=
  ⟨k.ok, k.E, k.out, memLe_trans h.mem k.mem, h.view.trans' k.view, k.fr⟩
theorem Nx.simV (h : Nx base U M0 w0 w m G w' m' G') {v : V} {g : Value} (q : simV G.μ m (Gh U w G) v g) : simV G'.μ m' (Gh U w' G') v g := simV_mono h.mem h.view v g q
theorem Nx.simVs (h : Nx base U M0 w0 w m G w' m' G') {v : List V} {g : List Value} (q : simVs G.μ m (Gh U w G) v g) : simVs G'.μ m' (Gh U w' G') v g := simVs_mono h.mem h.view v g q
theorem Fr.less (h : Fr M0 w0 w G) (hx : ∀ b, excl G'.F G'.E b → excl G.F G.E b) : Fr M0 w0 w G' := ⟨h.keep, fun b hb => h.fr b (hx b hb)⟩
theorem At.still (h : At base U M0 w0 w m G) (hg : Gok base U w m' G') (hl : GLe m G m' G') (ho : G'.out = []) :
    Nx base U M0 w0 w m G w m' { G' with E := [] } := by
  obtain ⟨k1, k2⟩ := hg.less [] (by simp) (by simp)
  have := hl.trans k2
  exact ⟨k1, rfl, ho, this.mem, this.view, h.fr.less this.ex⟩
theorem simVs_append {μ : Nat → Value} {h : View} : ∀ {a b : List V} {g k : List Value}, simVs μ m h a g → simVs μ m h b k → simVs μ m h (a ++ b) (g ++ k)
  | [], b, g, k, ha, hb => by simp only [simVs] at ha; subst ha; simpa using hb
  | v :: a, b, g, k, ha, hb => by
    obtain ⟨g0, g', rfl, h1, h2⟩ := simVs_cons ha
    simp only [List.cons_append, simVs]
    exact ⟨g0, g' ++ k, rfl, h1, simVs_append h2 hb⟩
theorem simVs_drop {μ : Nat → Value} {h : View} : ∀ {a : List V} {g : List Value} (n : Nat), simVs μ m h a g → simVs μ m h (a.drop n) (g.drop n)
  | a, g, 0, ha => by simpa using ha
  | [], g, n + 1, ha => by simp only [simVs] at ha; subst ha; simp [simVs]
  | v :: a, g, n + 1, ha => by
    obtain ⟨g0, g', rfl, h1, h2⟩ := simVs_cons ha
    simpa using simVs_drop n h2
theorem simVs_take {μ : Nat → Value} {h : View} : ∀ {a : List V} {g : List Value} (n : Nat), simVs μ m h a g → simVs μ m h (a.take n) (g.take n)
  | a, g, 0, ha => by simp [simVs]
  | [], g, n + 1, ha => by simp only [simVs] at ha; subst ha; simp [simVs]
  | v :: a, g, n + 1, ha => by
    obtain ⟨g0, g', rfl, h1, h2⟩ := simVs_cons ha
    simp only [List.take_succ_cons, simVs]
    exact ⟨g0, g'.take n, rfl, h1, simVs_take n h2⟩
theorem simVs_part {μ : Nat → Value} {h : View} {a : List V} {g : List Value} (o n : Nat) (q : simVs μ m h a g) : simVs μ m h (part a o n) ((g.drop o).take n) := simVs_take n (simVs_drop o q)
theorem simVs_splice {μ : Nat → Value} {h : View} {a b : List V} {g k : List Value} (o : Nat) (q : simVs μ m h a g) (q' : simVs μ m h b k) : simVs μ m h (splice a o b) (splice g o k) := by
  have hl : k.length = b.length := simVs_length q'
  unfold splice
  rw [hl]
  exact simVs_append (simVs_append (simVs_take o q) q') (simVs_drop _ q)
theorem simVs_get {μ : Nat → Value} {h : View} : ∀ {a : List V} {g : List Value} {i : Nat} {v : V}, simVs μ m h a g → a[i]? = some v → ∃ x, g[i]? = some x ∧ simV μ m h v x
  | [], g, i, v, ha, hi => by simp at hi
  | v0 :: a, g, i, v, ha, hi => by
    obtain ⟨g0, g', rfl, h1, h2⟩ := simVs_cons ha
    cases i with
    | zero => simp at hi; subst hi; exact ⟨g0, rfl, h1⟩
    | succ i => simpa using simVs_get h2 (by simpa using hi)
theorem mkVal {t : TypeId} {vs : List V} {v : V} (h : ofCells P t vs = some v) {μ : Nat → Value} {hh : View} {cs : List Value} (hq : simVs μ m hh vs cs) : ∃ g, valOf P t cs g := by
  unfold ofCells at h
  unfold valOf
  cases ha : aggT P t with
  | true => exact ⟨_, by simp; rfl⟩
  | false =>
    simp only [ha, cond_false] at h
    split at h
    · obtain ⟨g', gs', e, q1, q2⟩ := simVs_cons hq
      simp only [simVs] at q2
      subst q2
      exact ⟨g', by simpa using e⟩
    · cases h
theorem oneCell_of_ro {h : View} {x : D} {g : Value} (q : ro h x g) : g.oneCell' = true := by
  cases x with
  | sl o s rows => simp only [ro] at q; obtain ⟨a, cap, rfl, _⟩ := q; rfl
  | _ => simp only [ro] at q; subst q; rfl
theorem nth_get {row : Row} {j : Nat} {x : D} (h : nth row j = x) (hx : x ≠ .nilf) : row[j]? = some x := by
  unfold nth at h
  cases hr : row[j]? with
  | none => rw [hr] at h; exact absurd h.symm hx
  | some y => rw [hr] at h; exact congrArg some h
theorem asRo_some {s : Nat} {x : D} {rows : List Row} (h : asRo s x = some rows) : ∃ o, x = .sl o s rows ∧ (o = false ∨ rows = []) := by
  cases x <;> simp [asRo] at h
  rename_i o s' rows'
  by_cases e : s' = s
  · subst e
    simp at h
    cases o with
    | false => simp at h; subst h; exact ⟨false, rfl, .inl rfl⟩
    | true =>
      cases rows' with
      | nil => simp at h; subst h; exact ⟨true, rfl, .inr rfl⟩
      | cons _ _ => simp at h
  · rw [beq_no e] at h; simp at h
theorem nCells_ok {strict : Bool} {row : Row} {μ : Nat → Value} {h : View} (cell : Nat → Option Value) (Rel : D → Value → Prop) (hrow : ∀ k x, row[k]? = some x → ∃ g, cell k = some g ∧ Rel x g)
    (hint : ∀ k n g, Rel (.int k n) g → g = .int k n) (hbool : ∀ b g, Rel (.bool b) g → g = .bool b) (hstr : ∀ s g, Rel (.str s) g → g = .string ⟨⟨s⟩⟩)
    (hsl : ∀ o s rs g, Rel (.sl o s rs) g → (strict = true → o = false ∨ rs = []) → ro h (.sl false s rs) g) :
    ∀ (cts : List CT) (j : Nat) (c : List V → Acc V) (m0 : Mem) (l : Log) (r : V × Mem × Log), (nCells strict cts row j c).run m0 l = some r →
      ∃ vs cs, (c vs).run m0 l = some r ∧ cs.length = cts.length ∧ simVs μ m h vs cs ∧ ∀ i g, cs[i]? = some g → cell (j + i) = some g
  | [], j, c, m0, l, r, hr => ⟨[], [], hr, rfl, by simp [simVs], by simp⟩
  | ct :: cts, j, c, m0, l, r, hr => by
    have go : ∀ (x : D) (y : V), nth row j = x → x ≠ .nilf → (∀ g, Rel x g → simV μ m h y g) → (nCells strict cts row (j + 1) fun vs => c (y :: vs)).run m0 l = some r →
        ∃ vs cs, (c vs).run m0 l = some r ∧ cs.length = (ct :: cts).length ∧ simVs μ m h vs cs ∧ ∀ i g, cs[i]? = some g → cell (j + i) = some g := by
      intro x y hx hxn hs hr
      obtain ⟨g, hg, hrel⟩ := hrow j x (nth_get hx hxn)
      obtain ⟨vs, cs, h1, h2, h3, h4⟩ := nCells_ok cell Rel hrow hint hbool hstr hsl cts (j + 1) _ m0 l r hr
      refine ⟨y :: vs, g :: cs, h1, by simp [h2], by simp only [simVs]; exact ⟨g, cs, rfl, hs g hrel, h3⟩, ?_⟩
      intro i g' hi
      cases i with
      | zero => simp at hi; subst hi; exact hg
      | succ i =>
        have := h4 i g' (by simpa using hi)
        rw [show j + (i + 1) = j + 1 + i from by omega]
        exact this
    cases ct with
    | int k =>
      simp only [nCells, Acc.run, cInt] at hr
      cases ha : asInt k (nth row j) with
      | none => simp [ha, Acc.run] at hr
      | some n =>
        simp only [ha, Acc.run] at hr
        exact go _ _ (asInt_some ha) (by simp) (fun g hg => by rw [hint _ _ g hg]; simp [simV, ro]) hr
    | bool =>
      simp only [nCells, Acc.run, cBool] at hr
      cases ha : asBool (nth row j) with
      | none => simp [ha, Acc.run] at hr
      | some n =>
        simp only [ha, Acc.run] at hr
        exact go _ _ (asBool_some ha) (by simp) (fun g hg => by rw [hbool _ g hg]; simp [simV, ro]) hr
    | str =>
      simp only [nCells, Acc.run, cStr] at hr
      cases ha : asStr (nth row j) with
      | none => simp [ha, Acc.run] at hr
      | some n =>
        simp only [ha, Acc.run] at hr
        exact go _ _ (asStr_some ha) (by simp) (fun g hg => by rw [hstr _ g hg]; simp [simV, ro]) hr
    | other => simp [nCells, Acc.run] at hr
    | sl s =>
      simp only [nCells, Acc.run, cRo, cSl] at hr
      cases strict with
      | true =>
        simp only [cond_true] at hr
        cases ha : asRo s (nth row j) with
        | none => simp [ha, Acc.run] at hr
        | some n =>
          simp only [ha, Acc.run] at hr
          obtain ⟨o, hx, ho⟩ := asRo_some ha
          exact go _ _ hx (by simp) (fun g hg => by simp only [simV]; exact hsl _ _ _ g hg (fun _ => ho)) hr
      | false =>
        simp only [cond_false] at hr
        cases ha : asSl s (nth row j) with
        | none => simp [ha, Acc.run] at hr
        | some n =>
          simp only [ha, Acc.run] at hr
          obtain ⟨o, hx⟩ := asSl_some ha
          exact go _ _ hx (by simp) (fun g hg => by simp only [simV]; exact hsl _ _ _ g hg (fun h => by cases h)) hr
theorem roRow_get {h : View} {b : Nat} : ∀ {r : Row} {o k : Nat} {x : D}, roRow h r b o → r[k]? = some x → ∃ g, h b (o + k) = some g ∧ ro h x g
  | [], _, _, _, _, hk => by simp at hk
  | y :: r, o, 0, x, q, hk => by
    simp only [roRow] at q
    simp at hk; subst hk
    simpa using q.1
  | y :: r, o, k + 1, x, q, hk => by
    simp only [roRow] at q
    have := roRow_get q.2 (by simpa using hk)
    rwa [show o + (k + 1) = o + 1 + k from by omega]
theorem seenRow_get {h : View} : ∀ {r : Row} {cs : List Value} {k : Nat} {x : D}, seenRow h r cs → r[k]? = some x → ∃ g, cs[k]? = some g ∧ ro h x g
  | [], _, _, _, _, hk => by simp at hk
  | y :: r, cs, 0, x, ⟨v, cs', e, h1, h2⟩, hk => by simp at hk; subst hk; subst e; exact ⟨v, rfl, h1⟩
  | y :: r, cs, k + 1, x, ⟨v, cs', e, h1, h2⟩, hk => by subst e; simpa using seenRow_get h2 (by simpa using hk)
theorem owRow_get {H : Heap} {h : View} : ∀ {r : Row} {cs : List Value} {N : List Nat} {k : Nat} {x : D}, owRow H h r cs N → r[k]? = some x → ∃ g N1, cs[k]? = some g ∧ ow H h x g N1
  | [], _, _, _, _, _, hk => by simp at hk
  | y :: r, cs, N, 0, x, q, hk => by
    obtain ⟨v, cs', N1, N2, rfl, rfl, h1, h2⟩ := owRow_cons q
    simp at hk; subst hk; exact ⟨v, N1, rfl, h1⟩
  | y :: r, cs, N, k + 1, x, q, hk => by
    obtain ⟨v, cs', N1, N2, rfl, rfl, h1, h2⟩ := owRow_cons q
    simpa using owRow_get h2 (by simpa using hk)
theorem roRows_get {h : View} {s b : Nat} : ∀ {rs : List Row} {o k : Nat} {r : Row}, roRows h s rs b o → rs[k]? = some r → r.length = s ∧ roRow h r b (o + k * s)
  | [], _, _, _, _, hk => by simp at hk
  | y :: rs, o, 0, x, q, hk => by
    simp only [roRows] at q
    simp at hk; subst hk
    simpa using ⟨q.1, q.2.1⟩
  | y :: rs, o, k + 1, x, q, hk => by
    simp only [roRows] at q
    have := roRows_get q.2.2 (by simpa using hk)
    rwa [show o + (k + 1) * s = o + s + k * s from by rw [Nat.add_mul]; omega]
theorem seenRows_get {h : View} {s : Nat} : ∀ {rs : List Row} {cs : List Value} {k : Nat} {r : Row}, seenRows h s rs cs → rs[k]? = some r → r.length = s ∧ seenRow h r (cs.drop (k * s))
  | [], _, _, _, _, hk => by simp at hk
  | y :: rs, cs, 0, x, q, hk => by
    simp at hk; subst hk
    simpa using ⟨q.1, q.2.1⟩
  | y :: rs, cs, k + 1, x, q, hk => by
    have := seenRows_get q.2.2 (by simpa using hk)
    rw [List.drop_drop] at this
    rwa [show (k + 1) * s = s + k * s from by rw [Nat.add_mul]; omega]
theorem owRows_get {H : Heap} {h : View} {s : Nat} : ∀ {rs : List Row} {cs : List Value} {N : List Nat} {k : Nat} {r : Row}, owRows H h s rs cs N → rs[k]? = some r → r.length = s ∧ ∃ N1, owRow H h r (cs.drop (k * s)) N1
  | [], _, _, _, _, _, hk => by simp at hk
  | y :: rs, cs, N, 0, x, q, hk => by
    simp only [owRows] at q
    obtain ⟨h1, N1, N2, rfl, h2, h3⟩ := q
    simp at hk; subst hk
    exact ⟨h1, N1, by simpa using h2⟩
  | y :: rs, cs, N, k + 1, x, q, hk => by
    simp only [owRows] at q
    obtain ⟨h1, N1, N2, rfl, h2, h3⟩ := q
    have := owRows_get h3 (by simpa using hk)
    rw [List.drop_drop] at this
    rwa [show (k + 1) * s = s + k * s from by rw [Nat.add_mul]; omega]
theorem arr_row {h : View} {fz fl : Bool} {ver s : Nat} {rows : List Row} {r i : Nat} {row : Row} {N : List Nat} (hq : simCell G.μ m (heapOf w) h r (.arr fz fl ver s rows) N) (hl : h.le (full w)) (hi : rows[i]? = some row) :
    ∃ b o cap, G.μ r = .slice (some ⟨b, o, none⟩) rows.length cap ∧ (fz = false → o = 0) ∧ row.length = s ∧
      ∃ Rel : D → Value → Prop, (∀ k x, row[k]? = some x → ∃ g, full w b (o + i * s + k) = some g ∧ Rel x g) ∧
      (∀ k n g, Rel (.int k n) g → g = .int k n) ∧ (∀ b g, Rel (.bool b) g → g = .bool b) ∧ (∀ s g, Rel (.str s) g → g = .string ⟨⟨s⟩⟩) ∧
      (∀ o s rs g, Rel (.sl o s rs) g → (o = false ∨ rs = []) → ro h (.sl false s rs) g) := by
  have hne : rows ≠ [] := by intro e; subst e; simp at hi
  cases fz with
  | true =>
    obtain ⟨h1, _⟩ := hq
    simp only [ro] at h1
    obtain ⟨a, cap, h2, h3, h4⟩ := h1
    obtain ⟨b, o, rfl, h5⟩ := h4 hne
    obtain ⟨h6, h7⟩ := roRows_get h5 hi
    refine ⟨b, o, cap, h2, by simp, h6, ro h, fun k x hk => ?_, ?_, ?_, ?_, ?_⟩
    · obtain ⟨g, hg1, hg2⟩ := roRow_get h7 hk
      exact ⟨g, hl _ _ _ hg1, hg2⟩
    · intro k n g hg; simpa [ro] using hg
    · intro b g hg; simpa [ro] using hg
    · intro s g hg; simpa [ro] using hg
    · intro o s rs g hg _; exact ro_own hg
  | false =>
    simp only [simCell] at hq
    rcases hq with ⟨rfl, _, _⟩ | ⟨b, cap, cs, t, N', h1, h2, h3, h4, h5, _⟩
    · exact absurd rfl hne
    · have hfull : ∀ k g, (cs.toList.drop (i * s))[k]? = some g → full w b (0 + i * s + k) = some g := by
        intro k g hg
        rw [List.getElem?_drop] at hg
        rw [full_cell h3, Nat.zero_add]
        exact hg
      cases fl with
      | true =>
        obtain ⟨h6, h7⟩ := seenRows_get h5.1 hi
        refine ⟨b, 0, cap, h1, by simp, h6, ro h, fun k x hk => ?_, ?_, ?_, ?_, ?_⟩
        · obtain ⟨g, hg1, hg2⟩ := seenRow_get h7 hk
          exact ⟨g, hfull k g hg1, hg2⟩
        · intro k n g hg; simpa [ro] using hg
        · intro b g hg; simpa [ro] using hg
        · intro s g hg; simpa [ro] using hg
        · intro o s rs g hg _; exact ro_own hg
      | false =>
        obtain ⟨h6, N1, h7⟩ := owRows_get h5 hi
        refine ⟨b, 0, cap, h1, by simp, h6, fun x g => ∃ N, ow (heapOf w) h x g N, fun k x hk => ?_, ?_, ?_, ?_, ?_⟩
        · obtain ⟨g, N2, hg1, hg2⟩ := owRow_get h7 hk
          exact ⟨g, hfull k g hg1, N2, hg2⟩
        · rintro k n g ⟨N, hg⟩; simp only [ow] at hg; exact hg.1
        · rintro b g ⟨N, hg⟩; simp only [ow] at hg; exact hg.1
        · rintro s g ⟨N, hg⟩; simp only [ow] at hg; exact hg.1
        · rintro o s rs g ⟨N, hg⟩ ho
          cases o with
          | false => simp only [ow] at hg; exact hg.2
          | true =>
            rcases ho with ho | rfl
            · cases ho
            · simp only [ow] at hg
              rcases hg with ⟨_, rfl, _⟩ | ⟨b, cap, cs, t, N', e1, e2, _⟩
              · simp [ro]
              · simp only [ro]; exact ⟨_, cap, e1, by simp, fun e => absurd rfl e⟩
theorem que_row {h : View} {s : Nat} {rows : List Row} {g : Value} {i : Nat} {row : Row} {N : List Nat} (hq : queS (heapOf w) h s rows g N) (hi : rows[i]? = some row) :
    ∃ b o cap, g = .slice (some ⟨b, o, none⟩) rows.length cap ∧ row.length = s ∧ ∀ k x, row[k]? = some x → ∃ v, full w b (o + i * s + k) = some v ∧ ro h x v := by
  rcases hq with ⟨rfl, _, _⟩ | ⟨b, o, cap, cs, t, h1, h2, h3, h4, h5, _⟩
  · simp at hi
  · obtain ⟨h6, h7⟩ := seenRows_get h5 hi
    refine ⟨b, o, cap, h1, h6, fun k x hk => ?_⟩
    obtain ⟨v, hv1, hv2⟩ := seenRow_get h7 hk
    refine ⟨v, ?_, hv2⟩
    rw [full_cell (w := w) h3]
    rw [List.getElem?_drop, List.getElem?_drop, ← Nat.add_assoc] at hv1
    exact hv1
theorem load_one {t : TypeId} {b : Nat} {x : Value} {v : V} (hok : okT P t = true) (hc : (Nat.beq (szT P t) 1 && !(aggT P t)) = true) (hx : full w b 0 = some x) (hs : simV G.μ m (Gh U w G) v x) :
    ∃ g, (Instr.loadAt t (.pointer (some ⟨b, 0, none⟩))).run P w = .ok g w ∧ simV G.μ m (Gh U w G) v g := by
  simp only [Bool.and_eq_true, Bool.not_eq_true'] at hc
  have hsz := Nat.eq_of_beq_eq_true hc.1
  have hv : ofCells P t [v] = some v := by simp [ofCells, hc.2]
  have hp : simVs G.μ m (Gh U w G) [v] [x] := by simp only [simVs]; exact ⟨x, [], rfl, hs, rfl⟩
  obtain ⟨g, hg⟩ := mkVal hv hp
  refine ⟨g, run_loadAt hok (by simp; omega) ?_ hg, ofCells_ok hv hp hg⟩
  intro j y hj
  cases j with
  | zero => simp at hj; subst hj; exact hx
  | succ j => simp at hj
theorem loadV_ok (hA : At base U M0 w0 w m G) {t : TypeId} {a : V} {ga : Value} (ha : simV G.μ m (Gh U w G) a ga) {v : V} {l l' : Log} (h : (loadV P t a).run m l = some (v, m', l')) :
    ∃ g, (Instr.loadAt t ga).run P w = .ok g w ∧ m' = m ∧ simV G.μ m (Gh U w G) v g := by
  simp only [loadV] at h
  replace h := run_bind_some h; obtain ⟨_, m1, l1, h1, h⟩ := h
  obtain ⟨hok, rfl, rfl⟩ := run_ck h1
  simp only [Bool.and_eq_true] at hok
  obtain ⟨hok, hsz⟩ := hok
  have hsz := Nat.eq_of_beq_eq_true hsz
  cases a with
  | ptr r off =>
    simp only at h
    replace h := run_bind_some h; obtain ⟨c, m2, l2, h2, h⟩ := h
    rw [run_rd] at h2
    cases h2
    cases hc : get r m1 with
    | none => rw [hc] at h; exact (run_fail h).elim
    | some c =>
      rw [hc] at h
      cases c with
      | loan _ _ _ _ _ => exact (run_fail h).elim
      | arr _ _ _ _ _ => exact (run_fail h).elim
      | dead => exact (run_fail h).elim
      | que _ _ _ => exact (run_fail h).elim
      | kbox T x =>
        simp only at h
        replace h := run_bind_some h; obtain ⟨_, m2, l2, h2, h⟩ := h
        obtain ⟨hfit, rfl, rfl⟩ := run_ck h2
        simp only [run_pure, Option.some.injEq, Prod.mk.injEq] at h
        obtain ⟨rfl, rfl, rfl⟩ := h
        simp only [Bool.and_eq_true] at hfit
        have h0 := Nat.eq_of_beq_eq_true hfit.1
        subst h0
        simp only [simV, hc] at ha
        obtain ⟨_, b, hμ, rfl⟩ := ha
        obtain ⟨_, b', y, e1, e2, e3⟩ := hA.ok.cell r _ hc (by rw [hA.out]; simp)
        rw [hμ] at e1
        cases e1
        obtain ⟨g, hg1, hg2⟩ := load_one (P := P) hok (by rw [Bool.and_eq_true]; exact hfit.2) (view_le_full _ _ _ _ _ _ e2) e3
        exact ⟨g, hg1, rfl, hg2⟩
      | box T cs =>
        simp only at h
        replace h := run_bind_some h; obtain ⟨_, m2, l2, h2, h⟩ := h
        obtain ⟨hfit, rfl, rfl⟩ := run_ck h2
        obtain ⟨hv, rfl, rfl⟩ := run_op' h
        simp only [simV, hc] at ha
        obtain ⟨_, b, hμ, rfl⟩ := ha
        obtain ⟨b', arr, e1, e2, e3, e4⟩ := hA.ok.cell r _ hc (by rw [hA.out]; simp)
        rw [hμ] at e1
        cases e1
        have hp := simVs_part off (szT P t) e3
        have hlen : arr.size = cs.length := by simpa using simVs_length e3
        have hfit := Nat.le_of_ble_eq_true hfit
        obtain ⟨g, hg⟩ := mkVal hv hp
        refine ⟨g, run_loadAt hok (by simp; omega) ?_ hg, rfl, ofCells_ok hv hp hg⟩
        intro j x hj
        have hj' : j < szT P t := by
          have := (List.getElem?_eq_some_iff.1 hj).1
          simp at this
          omega
        rw [List.getElem?_take, if_pos hj', List.getElem?_drop] at hj
        have := full_cell (w := w) e2 (off + j)
        rw [hj] at this
        exact this
  | kptr x =>
    simp only at h
    replace h := run_bind_some h; obtain ⟨_, m2, l2, h2, h⟩ := h
    obtain ⟨hfit, rfl, rfl⟩ := run_ck h2
    simp only [run_pure, Option.some.injEq, Prod.mk.injEq] at h
    obtain ⟨rfl, rfl, rfl⟩ := h
    simp only [simV] at ha
    obtain ⟨b, y, rfl, e2, e3⟩ := ha
    obtain ⟨g, hg1, hg2⟩ := load_one (P := P) hok hfit (view_le_full _ _ _ _ _ _ e2) e3
    exact ⟨g, hg1, rfl, hg2⟩
  | rptr row off =>
    simp only at h
    simp only [simV] at ha
    obtain ⟨b, o, rfl, hrow⟩ := ha
    obtain ⟨vs, cs, h2, h3, h4, h5⟩ := nCells_ok (m := m1) (μ := G.μ) (h := Gh U w G) (fun k => Gh U w G b (o + k)) (ro (Gh U w G)) (fun k x hk => roRow_get hrow hk)
      (fun k n g hg => by simpa [ro] using hg) (fun b g hg => by simpa [ro] using hg) (fun s g hg => by simpa [ro] using hg) (fun _ s rs g hg _ => ro_own hg) _ _ _ _ _ _ h
    obtain ⟨hv, rfl, rfl⟩ := run_op' h2
    obtain ⟨g, hg⟩ := mkVal hv h4
    refine ⟨g, run_loadAt hok (by rw [h3, hsz]) ?_ hg, rfl, ofCells_ok hv h4 hg⟩
    intro j x hj
    have := h5 j x hj
    rw [Nat.add_assoc]
    exact view_le_full _ _ _ _ _ _ this
  | eptr r ver i off =>
    simp only at h
    replace h := run_bind_some h; obtain ⟨c, m2, l2, h2, h⟩ := h
    rw [run_rd] at h2
    cases h2
    cases hc : get r m1 with
    | none => rw [hc] at h; exact (run_fail h).elim
    | some c =>
      rw [hc] at h
      cases c with
      | box _ _ => exact (run_fail h).elim
      | kbox _ _ => exact (run_fail h).elim
      | loan _ _ _ _ _ => exact (run_fail h).elim
      | dead => exact (run_fail h).elim
      | que ver' s rows =>
        simp only at h
        replace h := run_bind_some h; obtain ⟨_, m2, l2, h2, h⟩ := h
        obtain ⟨hb, rfl, rfl⟩ := run_ck h2
        have hb := Nat.eq_of_beq_eq_true hb
        subst hb
        replace h := run_bind_some h; obtain ⟨row, m2, l2, h2, h⟩ := h
        obtain ⟨hrow, rfl, rfl⟩ := run_op' h2
        simp only [simV, hc] at ha
        obtain ⟨b, o, n, cap, hμ, rfl⟩ := ha.2.2 trivial
        have hcell := hA.ok.cell r _ hc (by rw [hA.out]; simp)
        obtain ⟨b', o', cap', e1, e3, q1⟩ := que_row hcell hrow
        rw [hμ] at e1
        simp only [Value.slice.injEq, Option.some.injEq, Addr.mk.injEq] at e1
        obtain ⟨⟨rfl, rfl, _⟩, _, _⟩ := e1
        obtain ⟨vs, cs, h2, h3, h4, h5⟩ := nCells_ok (m := _) (μ := G.μ) (h := Gh U w G) (fun k => full w b (o + i * s + k)) (ro (Gh U w G)) q1
          (fun k n g hg => by simpa [ro] using hg) (fun b g hg => by simpa [ro] using hg) (fun s g hg => by simpa [ro] using hg) (fun _ s rs g hg _ => ro_own hg) _ _ _ _ _ _ h
        obtain ⟨hv, rfl, rfl⟩ := run_op' h2
        obtain ⟨g, hg⟩ := mkVal hv h4
        refine ⟨g, run_loadAt hok (by rw [h3, hsz]) ?_ hg, rfl, ofCells_ok hv h4 hg⟩
        intro j x hj
        have := h5 j x hj
        rw [show o + (i * s + off) + j = o + i * s + (off + j) from by omega]
        exact this
      | arr fz fl ver' s rows =>
        simp only at h
        replace h := run_bind_some h; obtain ⟨_, m2, l2, h2, h⟩ := h
        obtain ⟨hb, rfl, rfl⟩ := run_ck h2
        have hb := Nat.eq_of_beq_eq_true hb
        subst hb
        replace h := run_bind_some h; obtain ⟨row, m2, l2, h2, h⟩ := h
        obtain ⟨hrow, rfl, rfl⟩ := run_op' h2
        simp only [simV, hc] at ha
        obtain ⟨b, n, cap, hμ, rfl⟩ := ha.2.2 trivial
        have hcell := hA.ok.cell r _ hc (by rw [hA.out]; simp)
        obtain ⟨b', o, cap', e1, e2, e3, Rel, q1, q2, q3, q4, q5⟩ := arr_row hcell (view_le_full _ _ _) hrow
        rw [hμ] at e1
        simp only [Value.slice.injEq, Option.some.injEq, Addr.mk.injEq] at e1
        obtain ⟨⟨rfl, ho, _⟩, _, _⟩ := e1
        subst ho
        obtain ⟨vs, cs, h2, h3, h4, h5⟩ := nCells_ok (m := _) (μ := G.μ) (h := Gh U w G) (fun k => full w b (0 + i * s + k)) Rel q1 q2 q3 q4 (fun o s rs g hg hs => q5 o s rs g hg (hs rfl)) _ _ _ _ _ _ h
        obtain ⟨hv, rfl, rfl⟩ := run_op' h2
        obtain ⟨g, hg⟩ := mkVal hv h4
        refine ⟨g, run_loadAt hok (by rw [h3, hsz]) ?_ hg, rfl, ofCells_ok hv h4 hg⟩
        intro j x hj
        have := h5 j x hj
        rw [show i * s + off + j = 0 + i * s + (off + j) from by omega]
        exact this
  | d _ => exact (run_fail h).elim
  | nil _ => exact (run_fail h).elim
  | own _ _ => exact (run_fail h).elim
  | clo _ _ _ => exact (run_fail h).elim
  | agg _ => exact (run_fail h).elim
  | tup _ => exact (run_fail h).elim
  | undef => exact (run_fail h).elim
end
end Go.Vm

namespace Go.Vm
open Go
section
variable {base : Nat} {U : Nat → Prop} {M0 : List Nat} {w0 w w' : World} {m m' : Mem} {G G' : GS} {P : Program}
theorem oneCell_of_sim {μ : Nat → Value} {h : View} {v : V} {g : Value} (h1 : one v = true) (q : simV μ m h v g) : g.oneCell' = true := by
  cases v with
  | d x => simp only [simV] at q; exact oneCell_of_ro q
  | nil s => simp only [simV] at q; subst q; rfl
  | own _ _ => simp only [simV] at q; obtain ⟨⟨a, n, c, rfl⟩, _⟩ := q; rfl
  | ptr _ _ => simp only [simV] at q; obtain ⟨⟨b, o, rfl⟩, _⟩ := q; rfl
  | eptr _ _ _ _ => simp only [simV] at q; obtain ⟨⟨b, o, rfl⟩, _⟩ := q; rfl
  | rptr _ _ => simp only [simV] at q; obtain ⟨b, o, rfl, _⟩ := q; rfl
  | kptr _ => simp only [simV] at q; obtain ⟨b, x, rfl, _⟩ := q; rfl
  | clo _ _ _ => simp only [simV] at q; obtain ⟨a, c, rfl, _⟩ := q; rfl
  | agg _ => simp [one] at h1
  | tup _ => simp [one] at h1
  | undef => simp [one] at h1
theorem cells_one {g : Value} (h : g.oneCell' = true) : g.cells = #[g] := by cases g <;> first | rfl | simp [Value.oneCell'] at h
theorem simVs_one {μ : Nat → Value} {h : View} : ∀ {vs : List V} {gs : List Value}, vs.all one = true → simVs μ m h vs gs → ∀ x ∈ gs, x.oneCell' = true
  | [], gs, _, q => by simp only [simVs] at q; subst q; simp
  | v :: vs, gs, h1, q => by
    obtain ⟨g, gs', rfl, q1, q2⟩ := simVs_cons q
    simp only [List.all_cons, Bool.and_eq_true] at h1
    intro x hx
    simp only [List.mem_cons] at hx
    rcases hx with rfl | hx
    · exact oneCell_of_sim h1.1 q1
    · exact simVs_one h1.2 q2 x hx
theorem cells_ok {μ : Nat → Value} {h : View} {v : V} {g : Value} (h1 : v.cells.all one = true) (q : simV μ m h v g) : simVs μ m h v.cells g.cells.toList ∧ ∀ x ∈ g.cells.toList, x.oneCell' = true := by
  have single : one v = true → v.cells = [v] → simVs μ m h v.cells g.cells.toList ∧ ∀ x ∈ g.cells.toList, x.oneCell' = true := by
    intro ho hv
    have := oneCell_of_sim ho q
    rw [cells_one this, hv]
    exact ⟨by simp only [simVs]; exact ⟨g, [], rfl, q, rfl⟩, by simpa using this⟩
  cases v with
  | agg cs =>
    simp only [simV] at q
    obtain ⟨a, rfl, q⟩ := q
    exact ⟨q, simVs_one h1 q⟩
  | tup _ => simp [V.cells, one] at h1
  | undef => simp [V.cells, one] at h1
  | _ => exact single rfl rfl
theorem cvCell_ok {μ : Nat → Value} {h : View} (c : CT) (g : Value) : simV μ m h (cvCell c g) g := by
  unfold cvCell
  split <;> simp [simV, ro]
theorem cvCells_ok {μ : Nat → Value} {h : View} : ∀ (cs : List CT) (gs : List Value), simVs μ m h (cvCells cs gs) gs
  | [], [] => by simp [cvCells, simVs]
  | _ :: _, [] => by simp [cvCells, simVs]
  | [], g :: gs => by simp only [cvCells, simVs]; exact ⟨g, gs, rfl, by simp [simV], cvCells_ok [] gs⟩
  | c :: cs, g :: gs => by simp only [cvCells, simVs]; exact ⟨g, gs, rfl, cvCell_ok c g, cvCells_ok cs gs⟩
theorem cv_ok {μ : Nat → Value} {h : View} (t : TypeId) (g : Value) : simV μ m h (cv P t g) g := by
  unfold cv
  split
  · simp only [simV]; exact ⟨_, rfl, cvCells_ok _ _⟩
  · split
    · exact cvCell_ok _ _
    · simp [simV]
def simT (μ : Nat → Value) (m : Mem) (h : View) (tm : Tmps) (a : Act) : Prop := ∀ t v, get t tm = some v → t < a.tmps.size ∧ simV μ m h v (a.tmps.getD t undef)
theorem ev_ok {μ : Nat → Value} {h : View} {tm : Tmps} {a : Act} (hT : simT μ m h tm a) (t : TypeId) (x : Operand) : simV μ m h (ev P tm t x) (a.eval x) := by
  cases x with
  | tmp i =>
    simp only [ev, getT]
    cases hg : get i tm with
    | none => simp [simV]
    | some v => exact (hT i v hg).2
  | const v => exact cv_ok t v
  | global g => simp [ev, simV]
  | func f => simp only [ev, simV]; exact ⟨#[], #[], rfl, by simp [simVs], by simp [simVs]⟩
theorem evArgs_ok {μ : Nat → Value} {h : View} {tm : Tmps} {a : Act} (hT : simT μ m h tm a) : ∀ (xs : List Operand) (ts : List TypeId), simVs μ m h (evArgs P tm xs ts) (xs.map a.eval)
  | [], _ => by simp [evArgs, simVs]
  | x :: xs, ts => by simp only [evArgs, simVs, List.map_cons]; exact ⟨_, _, rfl, ev_ok hT _ x, evArgs_ok hT xs _⟩
theorem zeroRow_ok {μ : Nat → Value} {h : View} {t : TypeId} {z : List V} (hz : zeroRow P t = some z) : ∃ i zv, P.info? t = some i ∧ i.zero = some zv ∧ simVs μ m h z zv.cells.toList := by
  unfold zeroRow at hz
  cases hi : P.info? t with
  | none => simp [hi] at hz
  | some i =>
    simp only [hi] at hz
    cases hzv : i.zero with
    | none => simp [hzv] at hz
    | some zv =>
      simp only [hzv, Option.some.injEq] at hz
      subst hz
      exact ⟨i, zv, rfl, hzv, cvCells_ok _ _⟩
theorem Gok.rewrite (hg : Gok base U w m G) (ho : G.out = []) (hfr : Fr M0 w0 w G) {r : Nat} {c c' : Cell} {μ' : Nat → Value} {N : List Nat} (hc : get r m = some c) (hk : Keep (G.F r) w w') (hN : N.Nodup)
    (hNs : ∀ b, b ∈ N → (b ∈ G.F r ∨ b ∈ G.E ∨ w.heap.size ≤ b) ∧ b < w'.heap.size) (hμ : ∀ k, k ≠ r → μ' k = G.μ k) (hle : cellLe G.μ μ' r c c')
    (hcell : ∀ h' : View, (Gh U w G).le h' → memLe G.μ m μ' (put r c' m) → (∀ k, k ∈ G.E → k ∉ N → Sees h' (heapOf w) [k]) → simCell μ' (put r c' m) (heapOf w') h' r c' N) :
    Nx base U M0 w0 w m G w' (put r c' m) ⟨μ', upF G.F r N, [], []⟩ := by
  have hro : r ∉ G.out := by rw [ho]; simp
  obtain ⟨k1, k2⟩ := hg.goOut hc hro
  have hk' : Keep (G.E ++ G.F r) w w' := ⟨hk.os, hk.tape, hk.output, hk.size, fun b hb hn => hk.block b hb (fun h => hn (by simp [h]))⟩
  obtain ⟨q1, q2⟩ := Gok.world k1 hk' (E' := N) hN (fun b hb => by
    have := hNs b hb
    refine ⟨?_, this.2⟩
    rcases this.1 with h | h | h
    · left; simp [h]
    · left; simp [h]
    · exact .inr h)
  have hup : upF (upF G.F r []) r N = upF G.F r N := by
    funext k
    by_cases e : k = r
    · subst e; simp
    · simp [upF_other _ e]
  have hml : memLe G.μ m μ' (put r c' m) := memLe_put hμ (fun c0 h0 => by rw [hc] at h0; cases h0; exact hle)
  have hset := Gok.set (U := U) (w := w') q1 r c' μ' N [] [] (by simpa using hN) (by simp) hml hμ (fun k hkr => by simp [ho, hkr]) (by simp)
    (fun hv _ => hcell _ (k2.view.trans' (q2.trans' hv)) hml (fun k hkE hkN b hb cs t fr hH o v hv => by
      simp only [List.mem_singleton] at hb
      subst hb
      have hbF : ∀ j, b ∉ G.F j := fun j hj => hg.djE j b hj hkE
      have hlt := hg.lt b (.inl hkE)
      have hsame : heapOf w' b = heapOf w b := hk.block b hlt.1 (hbF r)
      refine sees_view (w := w') (N := [b]) (fun x hx => ?_) b (by simp) cs t fr (hsame.trans hH) o v hv
      simp only [List.mem_singleton] at hx
      subst hx
      refine ⟨hlt.2.2, ?_⟩
      rintro (h | ⟨j, h⟩)
      · simp at h
      · rw [hup] at h
        by_cases e : j = r
        · subst e; rw [upF_same] at h; exact hkN h
        · rw [upF_other _ e] at h; exact hbF j h))
  simp only [hup] at hset
  obtain ⟨s1, s2⟩ := hset
  refine ⟨s1, rfl, rfl, hml, k2.view.trans' (q2.trans' s2.view), ?_⟩
  refine ⟨hfr.keep.trans hk (fun x hx => hfr.fr x (.inr ⟨r, hx⟩)), ?_⟩
  rintro b (hb | ⟨k, hb⟩)
  · simp at hb
  · by_cases e : k = r
    · subst e
      simp only [upF_same] at hb
      rcases (hNs b hb).1 with h | h | h
      · exact hfr.fr b (.inr ⟨_, h⟩)
      · exact hfr.fr b (.inl h)
      · exact .inr (Nat.le_trans hfr.keep.size h)
    · simp only [upF_other _ e] at hb
      exact hfr.fr b (.inr ⟨k, hb⟩)
theorem At.rewrite (hA : At base U M0 w0 w m G) {r : Nat} {c c' : Cell} {μ' : Nat → Value} {N : List Nat} (hc : get r m = some c) (hk : Keep (G.F r) w w') (hN : N.Nodup)
    (hNs : ∀ b, b ∈ N → (b ∈ G.F r ∨ w.heap.size ≤ b) ∧ b < w'.heap.size) (hμ : ∀ k, k ≠ r → μ' k = G.μ k) (hle : cellLe G.μ μ' r c c')
    (hcell : ∀ h' : View, (Gh U w G).le h' → memLe G.μ m μ' (put r c' m) → simCell μ' (put r c' m) (heapOf w') h' r c' N) :
    Nx base U M0 w0 w m G w' (put r c' m) ⟨μ', upF G.F r N, [], []⟩ :=
  hA.ok.rewrite hA.out hA.fr hc hk hN (fun b hb => ⟨(hNs b hb).1.imp id .inr, (hNs b hb).2⟩) hμ hle (fun h' h1 h2 _ => hcell h' h1 h2)
theorem Nx.after {G1 : GS} {m1 : Mem} (hl : GLe m G m1 G1) (h : Nx base U M0 w0 w m1 G1 w' m' G') : Nx base U M0 w0 w m G w' m' G' :=
  ⟨h.ok, h.E, h.out, memLe_trans hl.mem h.mem, hl.view.trans' h.view, h.fr⟩
theorem keep_setRow {b : Nat} {cs : Array Value} {M : List Nat} (hb : b ∈ M) : Keep M w (w.setRow b cs) :=
  ⟨rfl, rfl, rfl, by simp [World.setRow], fun k _ hk => setRow_other w b k cs (fun e => hk (e ▸ hb))⟩
theorem keep_alloc {o : Obj} {M : List Nat} : Keep M w (w.alloc o) := ⟨rfl, rfl, rfl, by simp, fun k hk _ => heap_alloc_old w o k hk⟩
theorem keep_drew {M : List Nat} : Keep M w w.drew := ⟨rfl, rfl, rfl, Nat.le_refl _, fun _ _ _ => rfl⟩
theorem owRow_take {H : Heap} {h : View} : ∀ {r : Row} {cs cs' : List Value} {N : List Nat}, cs.take r.length = cs'.take r.length → owRow H h r cs N → owRow H h r cs' N
  | [], _, _, _, _, q => by simpa [owRow] using q
  | x :: r, cs, cs', N, e, q => by
    obtain ⟨v, cs1, N1, N2, rfl, rfl, h1, h2⟩ := owRow_cons q
    cases cs' with
    | nil => simp at e
    | cons v' cs1' =>
      simp only [List.length_cons, List.take_succ_cons, List.cons.injEq] at e
      obtain ⟨rfl, e⟩ := e
      simp only [owRow]
      exact ⟨v, cs1', N1, N2, rfl, rfl, h1, owRow_take e h2⟩
theorem owRow_append {H : Heap} {h : View} : ∀ {a b : Row} {cs : List Value} {N : List Nat}, owRow H h (a ++ b) cs N ↔ ∃ N1 N2, N = N1 ++ N2 ∧ owRow H h a cs N1 ∧ owRow H h b (cs.drop a.length) N2
  | [], b, cs, N => by
    simp only [List.nil_append, owRow, List.length_nil, List.drop_zero]
    constructor
    · intro q; exact ⟨[], N, rfl, rfl, q⟩
    · rintro ⟨N1, N2, rfl, rfl, q⟩; simpa using q
  | x :: a, b, cs, N => by
    simp only [List.cons_append, owRow]
    constructor
    · rintro ⟨v, cs', N1, N2, rfl, rfl, h1, h2⟩
      obtain ⟨N3, N4, rfl, h3, h4⟩ := owRow_append.1 h2
      exact ⟨N1 ++ N3, N4, by simp, ⟨v, cs', N1, N3, rfl, rfl, h1, h3⟩, by simpa using h4⟩
    · rintro ⟨N1, N2, rfl, ⟨v, cs', N3, N4, rfl, rfl, h1, h3⟩, h4⟩
      exact ⟨v, cs', N3, N4 ++ N2, rfl, by simp, h1, owRow_append.2 ⟨N4, N2, rfl, h3, by simpa using h4⟩⟩
theorem owRow_le {H : Heap} {h : View} : ∀ {r : Row} {cs : List Value} {N : List Nat}, owRow H h r cs N → r.length ≤ cs.length
  | [], _, _, _ => by simp
  | x :: r, cs, N, q => by
    obtain ⟨v, cs', N1, N2, rfl, rfl, _, h2⟩ := owRow_cons q
    have := owRow_le h2
    simp; omega
theorem splice_length {α : Type} {l xs : List α} {o : Nat} (h : o + xs.length ≤ l.length) : (splice l o xs).length = l.length := by
  simp [splice]; omega
theorem owRow_splice {H : Heap} {h : View} {row xs : Row} {cs gs : List Value} {N N1 : List Nat} {o : Nat} (q : owRow H h row cs N) (q1 : owRow H h xs gs N1) (hl : xs.length = gs.length) (ho : o + xs.length ≤ row.length) :
    ∃ N' Dr, owRow H h (splice row o xs) (splice cs o gs) N' ∧ (N' ++ Dr).Perm (N ++ N1) := by
  have hrow : row = row.take o ++ ((row.drop o).take xs.length ++ row.drop (o + xs.length)) := by
    rw [← List.drop_drop, List.take_append_drop, List.take_append_drop]
  have hcl := owRow_le q
  rw [hrow] at q
  obtain ⟨Na, Nb, rfl, qa, qb⟩ := owRow_append.1 q
  obtain ⟨Nc, Nd, rfl, qc, qd⟩ := owRow_append.1 qb
  have l1 : (row.take o).length = o := by simp; omega
  have l2 : ((row.drop o).take xs.length).length = xs.length := by simp; omega
  rw [l1, List.drop_drop, l2] at qd
  refine ⟨Na ++ (N1 ++ Nd), Nc, ?_, ?_⟩
  · have e : splice row o xs = row.take o ++ (xs ++ row.drop (o + xs.length)) := by simp [splice]
    rw [e]
    refine owRow_append.2 ⟨Na, N1 ++ Nd, rfl, ?_, ?_⟩
    · refine owRow_take ?_ qa
      rw [l1]
      simp only [splice, List.append_assoc]
      rw [List.take_append_of_le_length (by simp; omega)]
      rw [List.take_take]; congr 1; omega
    · rw [l1]
      have hd : (splice cs o gs).drop o = gs ++ cs.drop (o + gs.length) := by
        simp only [splice, List.append_assoc]
        rw [List.drop_append_of_le_length (by simp; omega)]
        have : (cs.take o).drop o = [] := by simp
        rw [this]; rfl
      rw [hd]
      refine owRow_append.2 ⟨N1, Nd, rfl, ?_, ?_⟩
      · refine owRow_take ?_ q1
        rw [hl]; simp
      · rw [hl]; rw [hl] at qd; simpa using qd
  · simp only [List.append_assoc]
    refine List.Perm.append_left Na ?_
    have h1 : (N1 ++ (Nd ++ Nc)).Perm ((Nd ++ Nc) ++ N1) := List.perm_append_comm
    have h2 : ((Nd ++ Nc) ++ N1).Perm ((Nc ++ Nd) ++ N1) := List.Perm.append_right N1 List.perm_append_comm
    simpa using h1.trans h2
theorem owRows_take {H : Heap} {h : View} {s : Nat} : ∀ {rs : List Row} {cs cs' : List Value} {N : List Nat}, cs.take (rs.length * s) = cs'.take (rs.length * s) → owRows H h s rs cs N → owRows H h s rs cs' N
  | [], _, _, _, _, q => by simpa [owRows] using q
  | r :: rs, cs, cs', N, e, q => by
    simp only [owRows] at q ⊢
    obtain ⟨h1, N1, N2, rfl, h2, h3⟩ := q
    have hs : (r :: rs).length * s = s + rs.length * s := by simp [Nat.add_mul]; omega
    rw [hs] at e
    refine ⟨h1, N1, N2, rfl, owRow_take ?_ h2, owRows_take ?_ h3⟩
    · rw [h1]
      have := congrArg (List.take s) e
      simpa [List.take_take, Nat.min_eq_left] using this
    · have := congrArg (List.drop s) e
      simpa [List.drop_take] using this
theorem owRows_append {H : Heap} {h : View} {s : Nat} : ∀ {a b : List Row} {cs : List Value} {N : List Nat}, owRows H h s (a ++ b) cs N ↔ ∃ N1 N2, N = N1 ++ N2 ∧ owRows H h s a cs N1 ∧ owRows H h s b (cs.drop (a.length * s)) N2
  | [], b, cs, N => by
    simp only [List.nil_append, owRows, List.length_nil, Nat.zero_mul, List.drop_zero]
    constructor
    · intro q; exact ⟨[], N, rfl, rfl, q⟩
    · rintro ⟨N1, N2, rfl, rfl, q⟩; simpa using q
  | x :: a, b, cs, N => by
    have hs : (x :: a).length * s = s + a.length * s := by simp [Nat.add_mul]; omega
    simp only [List.cons_append, owRows, hs]
    constructor
    · rintro ⟨h0, N1, N2, rfl, h1, h2⟩
      obtain ⟨N3, N4, rfl, h3, h4⟩ := owRows_append.1 h2
      exact ⟨N1 ++ N3, N4, by simp, ⟨h0, N1, N3, rfl, h1, h3⟩, by simpa using h4⟩
    · rintro ⟨N1, N2, rfl, ⟨h0, N3, N4, rfl, h1, h3⟩, h4⟩
      exact ⟨h0, N3, N4 ++ N2, by simp, h1, owRows_append.2 ⟨N4, N2, rfl, h3, by simpa using h4⟩⟩
theorem seenRow_take {h : View} : ∀ {r : Row} {cs cs' : List Value}, cs.take r.length = cs'.take r.length → seenRow h r cs → seenRow h r cs'
  | [], _, _, _, _ => trivial
  | x :: r, cs, cs', e, ⟨v, cs1, e1, h1, h2⟩ => by
    subst e1
    cases cs' with
    | nil => simp at e
    | cons v' cs1' =>
      simp only [List.length_cons, List.take_succ_cons, List.cons.injEq] at e
      obtain ⟨rfl, e⟩ := e
      exact ⟨v, cs1', rfl, h1, seenRow_take e h2⟩
theorem seenRow_append {h : View} : ∀ {a b : Row} {cs : List Value}, seenRow h (a ++ b) cs ↔ seenRow h a cs ∧ seenRow h b (cs.drop a.length)
  | [], b, cs => by simp [seenRow]
  | x :: a, b, cs => by
    simp only [List.cons_append, seenRow]
    constructor
    · rintro ⟨v, cs', rfl, h1, h2⟩
      obtain ⟨h3, h4⟩ := seenRow_append.1 h2
      exact ⟨⟨v, cs', rfl, h1, h3⟩, by simpa using h4⟩
    · rintro ⟨⟨v, cs', rfl, h1, h3⟩, h4⟩
      exact ⟨v, cs', rfl, h1, seenRow_append.2 ⟨h3, by simpa using h4⟩⟩
theorem seenRow_le {h : View} : ∀ {r : Row} {cs : List Value}, seenRow h r cs → r.length ≤ cs.length
  | [], _, _ => by simp
  | x :: r, cs, ⟨v, cs', e, _, h2⟩ => by subst e; have := seenRow_le h2; simp; omega
theorem seenRow_splice {h : View} {row xs : Row} {cs gs : List Value} {o : Nat} (q : seenRow h row cs) (q1 : seenRow h xs gs) (hl : xs.length = gs.length) (ho : o + xs.length ≤ row.length) : seenRow h (splice row o xs) (splice cs o gs) := by
  have hrow : row = row.take o ++ ((row.drop o).take xs.length ++ row.drop (o + xs.length)) := by
    rw [← List.drop_drop, List.take_append_drop, List.take_append_drop]
  have hcl := seenRow_le q
  rw [hrow] at q
  obtain ⟨qa, qb⟩ := seenRow_append.1 q
  obtain ⟨qc, qd⟩ := seenRow_append.1 qb
  have l1 : (row.take o).length = o := by simp; omega
  have l2 : ((row.drop o).take xs.length).length = xs.length := by simp; omega
  rw [l1, List.drop_drop, l2] at qd
  have e : splice row o xs = row.take o ++ (xs ++ row.drop (o + xs.length)) := by simp [splice]
  rw [e]
  refine seenRow_append.2 ⟨?_, ?_⟩
  · refine seenRow_take ?_ qa
    rw [l1]
    simp only [splice, List.append_assoc]
    rw [List.take_append_of_le_length (by simp; omega)]
    rw [List.take_take]; congr 1; omega
  · rw [l1]
    have hd : (splice cs o gs).drop o = gs ++ cs.drop (o + gs.length) := by
      simp only [splice, List.append_assoc]
      rw [List.drop_append_of_le_length (by simp; omega)]
      have : (cs.take o).drop o = [] := by simp
      rw [this]; rfl
    rw [hd]
    refine seenRow_append.2 ⟨seenRow_take (by rw [hl]; simp) q1, ?_⟩
    rw [hl]; rw [hl] at qd; simpa using qd
theorem seenRows_take {h : View} {s : Nat} : ∀ {rs : List Row} {cs cs' : List Value}, cs.take (rs.length * s) = cs'.take (rs.length * s) → seenRows h s rs cs → seenRows h s rs cs'
  | [], _, _, _, _ => trivial
  | r :: rs, cs, cs', e, ⟨h1, h2, h3⟩ => by
    have hs : (r :: rs).length * s = s + rs.length * s := by simp [Nat.add_mul]; omega
    rw [hs] at e
    refine ⟨h1, seenRow_take ?_ h2, seenRows_take ?_ h3⟩
    · rw [h1]
      have := congrArg (List.take s) e
      simpa [List.take_take, Nat.min_eq_left] using this
    · have := congrArg (List.drop s) e
      simpa [List.drop_take] using this
theorem seenRows_append {h : View} {s : Nat} : ∀ {a b : List Row} {cs : List Value}, seenRows h s (a ++ b) cs ↔ seenRows h s a cs ∧ seenRows h s b (cs.drop (a.length * s))
  | [], b, cs => by simp [seenRows]
  | x :: a, b, cs => by
    have hs : (x :: a).length * s = s + a.length * s := by simp [Nat.add_mul]; omega
    simp only [List.cons_append, seenRows, hs]
    rw [seenRows_append, List.drop_drop]
    constructor
    · rintro ⟨h0, h1, h2, h3⟩; exact ⟨⟨h0, h1, h2⟩, h3⟩
    · rintro ⟨⟨h0, h1, h2⟩, h3⟩; exact ⟨h0, h1, h2, h3⟩
end
end Go.Vm

namespace Go.Vm
open Go
section
variable {base : Nat} {U : Nat → Prop} {M0 : List Nat} {w0 w w' : World} {m m' : Mem} {G G' : GS} {P : Program}
theorem set_eq_take {α : Type} {l : List α} {i : Nat} {a b : α} (h : l[i]? = some a) : l.set i b = l.take i ++ (b :: l.drop (i + 1)) ∧ l = l.take i ++ (a :: l.drop (i + 1)) := by
  have hi := (List.getElem?_eq_some_iff.1 h).1
  have ha := (List.getElem?_eq_some_iff.1 h).2
  refine ⟨?_, ?_⟩
  · rw [List.set_eq_take_append_cons_drop, if_pos hi]
  · rw [← ha, List.getElem_cons_drop, List.take_append_drop]
theorem owRows_set {H : Heap} {h : View} {s i o : Nat} {rows : List Row} {row xs : Row} {cs gs : List Value} {N N1 : List Nat} (q : owRows H h s rows cs N) (hi : rows[i]? = some row) (q1 : owRow H h xs gs N1) (hl : xs.length = gs.length) (ho : o + xs.length ≤ s) :
    ∃ N' Dr, owRows H h s (rows.set i (splice row o xs)) (splice cs (i * s + o) gs) N' ∧ (N' ++ Dr).Perm (N ++ N1) := by
  obtain ⟨e1, e2⟩ := set_eq_take (b := splice row o xs) hi
  have hil := (List.getElem?_eq_some_iff.1 hi).1
  rw [e2] at q
  obtain ⟨Na, Nb, rfl, qa, qb⟩ := owRows_append.1 q
  have l1 : (rows.take i).length = i := by simp; omega
  rw [l1] at qb
  simp only [owRows] at qb
  obtain ⟨h0, Nc, Nd, rfl, qc, qd⟩ := qb
  have hcl := owRow_le qc
  simp only [List.length_drop] at hcl
  obtain ⟨N', Dr, qe, hp⟩ := owRow_splice (o := o) qc q1 hl (by omega)
  have hsplen : (splice row o xs).length = s := by rw [splice_length (l := row) (xs := xs) (o := o) (by omega)]; exact h0
  have his : i * s ≤ cs.length := by
    rcases Nat.eq_zero_or_pos s with e | e
    · rw [e]; simp
    · omega
  refine ⟨Na ++ (N' ++ Nd), Dr, ?_, ?_⟩
  · rw [e1]
    refine owRows_append.2 ⟨Na, N' ++ Nd, rfl, ?_, ?_⟩
    · refine owRows_take ?_ qa
      rw [l1]
      simp only [splice, List.append_assoc]
      rw [List.take_append_of_le_length (by simp; omega), List.take_take]
      congr 1; omega
    · rw [l1]
      have hd : (splice cs (i * s + o) gs).drop (i * s) = splice (cs.drop (i * s)) o gs := by
        simp only [splice]
        rw [List.append_assoc, List.drop_append_of_le_length (by simp; omega), List.drop_take, List.drop_drop]
        rw [show i * s + o - i * s = o from by omega, List.append_assoc, Nat.add_assoc]
      simp only [owRows, hd]
      refine ⟨hsplen, N', Nd, rfl, qe, ?_⟩
      have hd2 : (splice (cs.drop (i * s)) o gs).drop s = (cs.drop (i * s)).drop s := by
        simp only [splice]
        rw [List.drop_append, List.drop_eq_nil_of_le (by simp; omega)]
        simp only [List.nil_append, List.drop_drop, List.length_append, List.length_take, List.length_drop]
        congr 1
        omega
      rw [hd2]
      exact qd
  · simp only [List.append_assoc]
    refine List.Perm.append_left Na ?_
    have h1 : (N' ++ (Nd ++ Dr)).Perm (N' ++ (Dr ++ Nd)) := List.Perm.append_left N' List.perm_append_comm
    have h2 : ((N' ++ Dr) ++ Nd).Perm ((Nc ++ N1) ++ Nd) := List.Perm.append_right Nd hp
    have h3 : (Nc ++ (N1 ++ Nd)).Perm (Nc ++ (Nd ++ N1)) := List.Perm.append_left Nc List.perm_append_comm
    have h2' : (N' ++ (Dr ++ Nd)).Perm (Nc ++ (N1 ++ Nd)) := by simpa using h2
    exact h1.trans (h2'.trans h3)
theorem seenRows_set {h : View} {s i o : Nat} {rows : List Row} {row xs : Row} {cs gs : List Value} (q : seenRows h s rows cs) (hi : rows[i]? = some row) (q1 : seenRow h xs gs) (hl : xs.length = gs.length) (ho : o + xs.length ≤ s) :
    seenRows h s (rows.set i (splice row o xs)) (splice cs (i * s + o) gs) := by
  obtain ⟨e1, e2⟩ := set_eq_take (b := splice row o xs) hi
  have hil := (List.getElem?_eq_some_iff.1 hi).1
  rw [e2] at q
  obtain ⟨qa, qb⟩ := seenRows_append.1 q
  have l1 : (rows.take i).length = i := by simp; omega
  rw [l1] at qb
  obtain ⟨h0, qc, qd⟩ := qb
  have hcl := seenRow_le qc
  simp only [List.length_drop] at hcl
  have qe := seenRow_splice (o := o) qc q1 hl (by omega)
  have hsplen : (splice row o xs).length = s := by rw [splice_length (l := row) (xs := xs) (o := o) (by omega)]; exact h0
  have his : i * s ≤ cs.length := by
    rcases Nat.eq_zero_or_pos s with e | e
    · rw [e]; simp
    · omega
  rw [e1]
  refine seenRows_append.2 ⟨?_, ?_⟩
  · refine seenRows_take ?_ qa
    rw [l1]
    simp only [splice, List.append_assoc]
    rw [List.take_append_of_le_length (by simp; omega), List.take_take]
    congr 1; omega
  · rw [l1]
    have hd : (splice cs (i * s + o) gs).drop (i * s) = splice (cs.drop (i * s)) o gs := by
      simp only [splice]
      rw [List.append_assoc, List.drop_append_of_le_length (by simp; omega), List.drop_take, List.drop_drop]
      rw [show i * s + o - i * s = o from by omega, List.append_assoc, Nat.add_assoc]
    rw [hd]
    refine ⟨hsplen, qe, ?_⟩
    have hd2 : (splice (cs.drop (i * s)) o gs).drop s = (cs.drop (i * s)).drop s := by
      simp only [splice]
      rw [List.drop_append, List.drop_eq_nil_of_le (by simp; omega)]
      simp only [List.nil_append, List.drop_drop, List.length_append, List.length_take, List.length_drop]
      congr 1
      omega
    rw [hd2]
    exact qd
theorem At.took (hA : At base U M0 w0 w m G) {N : List Nat} (ht : Took base U w m G m' G' N) : G'.E = N ∧ G'.out = [] ∧ Fr M0 w0 w G' :=
  ⟨by rw [ht.E, hA.E]; rfl, ht.out.trans hA.out, hA.fr.less ht.le.ex⟩
theorem put_put (k : Nat) (c c' : Cell) : ∀ m : Mem, put k c (put k c' m) = put k c m
  | [] => by simp [put]
  | (j, y) :: m => by
    have hk : Nat.beq k k = true := Nat.beq_refl k
    by_cases h : k = j
    · subst h; simp [put]
    · have hb : Nat.beq k j = false := beq_no h
      cases hl : Nat.blt k j with
      | true => simp [put, hb, hl]
      | false => simp [put, hb, hl, put_put k c c' m]
theorem At.settle (hA : At base U M0 w0 w m G) {r : Nat} {T : TypeId} {x : V} (hc : get r m = some (.box T [x])) : ∃ G', Nx base U M0 w0 w m G w (put r (.kbox T x) m) G' := by
  have hro : r ∉ G.out := by rw [hA.out]; simp
  have hle : memLe G.μ m G.μ (put r (.kbox T x) m) := memLe_put (fun _ _ => rfl) (fun c h => by rw [hc] at h; cases h; exact rfl)
  obtain ⟨b, a, e1, e2, e3, e4⟩ := hA.ok.cell r _ hc hro
  have hb : b ∈ G.F r := by rw [e4]; simp
  obtain ⟨y, ys, ea, e5, e6⟩ := simVs_cons e3
  have h1 := hA.ok.set r (.kbox T x) G.μ [] G.E G.out (by simpa using hA.ok.ndE) (by simp; exact fun b hb => .inr hb) hle (fun _ _ => rfl) (fun _ _ => Iff.rfl) (fun _ => rfl)
    (fun hv _ => by
      refine ⟨rfl, b, y, e1, ?_, simV_mono hle hv _ _ e5⟩
      refine sees_view (w := w) (N := [b]) (fun b' hb' => ?_) b (by simp) a T (0, 0) e2 0 y (by rw [ea]; rfl)
      simp only [List.mem_singleton] at hb'
      subst hb'
      refine ⟨(hA.ok.lt _ (.inr ⟨r, hb⟩)).2.2, ?_⟩
      rintro (hE | ⟨k, hk⟩)
      · exact hA.ok.djE r _ hb hE
      · by_cases e : k = r
        · subst e; simp at hk
        · rw [upF_other _ e] at hk; exact hA.ok.dj r k (Ne.symm e) _ hb hk)
  exact ⟨_, hA.still h1.1 h1.2 hA.out⟩
theorem kept_iff {off : Nat} {cs : List V} {x : V} (h : kept off cs x = true) : off = 0 ∧ cs = [.undef] ∧ ∃ r o, x = .ptr r o := by
  unfold kept at h
  split at h
  · exact ⟨rfl, rfl, _, _, rfl⟩
  · cases h
theorem storeV_ok (hA : At base U M0 w0 w m G) {t : TypeId} {a x : V} {ga gx : Value} (ha : simV G.μ m (Gh U w G) a ga) (hx : simV G.μ m (Gh U w G) x gx) {u : Unit} {l l' : Log} (h : (storeV P t a x).run m l = some (u, m', l')) :
    ∃ w' G', (Instr.storeAt t ga gx).run P w = .ok () w' ∧ Nx base U M0 w0 w m G w' m' G' := by
  simp only [storeV] at h
  replace h := run_bind_some h; obtain ⟨_, m1, l1, h1, h⟩ := h
  obtain ⟨hok, rfl, rfl⟩ := run_ck h1
  replace h := run_bind_some h; obtain ⟨_, m1, l1, h1, h⟩ := h
  obtain ⟨hlen, rfl, rfl⟩ := run_ck h1
  replace h := run_bind_some h; obtain ⟨_, m1, l1, h1, h⟩ := h
  obtain ⟨hone, rfl, rfl⟩ := run_ck h1
  have hlen := Nat.eq_of_beq_eq_true hlen
  obtain ⟨hxs, hx1⟩ := cells_ok hone hx
  have hgl : gx.cells.size = szT P t := by rw [← hlen, ← simVs_length hxs, Array.length_toList]
  cases a with
  | ptr r off =>
    simp only at h
    replace h := run_bind_some h; obtain ⟨c, m2, l2, h2, h⟩ := h
    rw [run_rd] at h2
    cases h2
    cases hc : get r m1 with
    | none => rw [hc] at h; exact (run_fail h).elim
    | some c =>
      rw [hc] at h
      cases c with
      | arr _ _ _ _ _ => exact (run_fail h).elim
      | dead => exact (run_fail h).elim
      | que _ _ _ => exact (run_fail h).elim
      | kbox _ _ => exact (run_fail h).elim
      | loan _ _ _ _ _ => exact (run_fail h).elim
      | box T cs =>
        simp only at h
        replace h := run_bind_some h; obtain ⟨_, m2, l2, h2, h⟩ := h
        obtain ⟨hfit, rfl, rfl⟩ := run_ck h2
        simp only [simV, hc] at ha
        obtain ⟨_, b, hμ, rfl⟩ := ha
        obtain ⟨b', arr, e1, e2, e3, e4⟩ := hA.ok.cell r _ hc (by rw [hA.out]; simp)
        rw [hμ] at e1
        cases e1
        have hal : arr.size = cs.length := by simpa using simVs_length e3
        have hfit := Nat.le_of_ble_eq_true hfit
        have hrun := run_storeAt (P := P) hok e2 hgl (off := off) (by omega) hx1
        have hb : b ∈ G.F r := by rw [e4]; simp
        have hnx := hA.rewrite (c' := .box T (splice cs off x.cells)) (w' := w.setRow b (splice arr.toList off gx.cells.toList).toArray) (μ' := G.μ) (N := [b]) hc (keep_setRow hb) (by simp) (fun k hk => by
          simp at hk; subst hk
          refine ⟨.inl hb, ?_⟩
          have := (hA.ok.lt _ (.inr ⟨r, hb⟩)).1
          simpa [World.setRow] using this) (fun _ _ => rfl) ⟨rfl, rfl⟩ (fun h' hv hml => by
          refine ⟨b, _, hμ, setRow_heap w b arr _ T (0, 0) e2, ?_, rfl⟩
          have := simVs_splice off e3 hxs
          simpa using simVs_mono hml hv _ _ this)
        cases hkp : kept off cs x with
        | false =>
          rw [hkp] at h
          simp only [run_wr, Option.some.injEq, Prod.mk.injEq] at h
          obtain ⟨_, rfl, _⟩ := h
          exact ⟨_, _, hrun, hnx⟩
        | true =>
          rw [hkp] at h
          simp only [run_wr, Option.some.injEq, Prod.mk.injEq] at h
          obtain ⟨_, rfl, _⟩ := h
          obtain ⟨rfl, rfl, r', o', rfl⟩ := kept_iff hkp
          have hsp : splice [V.undef] 0 (V.ptr r' o').cells = [V.ptr r' o'] := rfl
          rw [hsp] at hnx
          obtain ⟨G', hnx2⟩ := hnx.at_.settle (r := r) (T := T) (x := .ptr r' o') (get_put_same _ _ _)
          rw [put_put] at hnx2
          exact ⟨_, _, hrun, hnx.trans hnx2⟩
  | eptr r ver i off =>
    simp only at h
    replace h := run_bind_some h; obtain ⟨xs, m2, l2, h2, h⟩ := h
    obtain ⟨G1, N1, t1, hrow, hxl⟩ := toRow_ok hA.ok hxs hA.out h2
    obtain ⟨hE1, ho1, hfr1⟩ := hA.took t1
    replace h := run_bind_some h; obtain ⟨c, m3, l3, h3, h⟩ := h
    rw [run_rd] at h3
    cases h3
    replace ha := t1.le.simV ha
    cases hc : get r m2 with
    | none => rw [hc] at h; exact (run_fail h).elim
    | some c =>
      rw [hc] at h
      cases c with
      | box _ _ => exact (run_fail h).elim
      | dead => exact (run_fail h).elim
      | que _ _ _ => exact (run_fail h).elim
      | kbox _ _ => exact (run_fail h).elim
      | loan ver' s rows i' off' =>
        simp only at h
        replace h := run_bind_some h; obtain ⟨_, m4, l4, h4, h⟩ := h
        obtain ⟨hb, rfl, rfl⟩ := run_ck h4
        simp only [Bool.and_eq_true] at hb
        obtain ⟨hb1, hb2, hb3, hb4⟩ := hb
        have hb1 := Nat.eq_of_beq_eq_true hb1
        have hb2 := Nat.eq_of_beq_eq_true hb2
        have hb3 := Nat.eq_of_beq_eq_true hb3
        subst hb1 hb2 hb3
        obtain ⟨x1, rfl⟩ := List.length_eq_one_iff.1 (Nat.eq_of_beq_eq_true hb4)
        replace h := run_bind_some h; obtain ⟨row, m4, l4, h4, h⟩ := h
        obtain ⟨hrw, rfl, rfl⟩ := run_op' h4
        simp only [run_wr, Option.some.injEq, Prod.mk.injEq] at h
        obtain ⟨_, rfl, _⟩ := h
        simp only [simV, hc] at ha
        obtain ⟨b, n, cap, hμ, rfl⟩ := ha.2.2 trivial
        obtain ⟨b', cap', cs, T, g0, row', Na, Nb, k1, k2, k3, k4, k5, k6, k7, k8, k9, k10⟩ := t1.ok.cell r _ hc (by rw [ho1]; simp)
        rw [hμ] at k1
        simp only [Value.slice.injEq, Option.some.injEq, Addr.mk.injEq] at k1
        obtain ⟨⟨rfl, _⟩, rfl, rfl⟩ := k1
        rw [hrw] at k6
        cases k6
        have hbF : b ∈ G1.F r := by rw [k10]; simp
        obtain ⟨g1, gs, P1, P2, hgs, hN, hq1, hq2⟩ := owRow_cons hrow
        simp only [owRow] at hq2
        subst hq2
        have hg1 : gx.cells.toList = [g1] := by
          have hl0 : gx.cells.toList.length = 1 := by rw [simVs_length hxs, ← hxl]; rfl
          rw [hgs] at hl0 ⊢
          cases gs with
          | nil => rfl
          | cons _ _ => simp at hl0
        rw [List.append_nil] at hN
        subst hN
        have hlt : i * s + off < cs.size := by simpa using (List.getElem?_eq_some_iff.1 k5).1
        have hsz : i * s + off + gx.cells.size ≤ cs.size := by
          have : gx.cells.size = 1 := by rw [← Array.length_toList, hg1]; rfl
          omega
        have hrun := run_storeAt (P := P) hok k3 hgl (off := i * s + off) hsz hx1
        have hh := setRow_heap w b cs (splice cs.toList (i * s + off) gx.cells.toList).toArray T (0, 0) k3
        have hsp : splice cs.toList (i * s + off) gx.cells.toList = cs.toList.set (i * s + off) g1 := by
          rw [hg1, splice, List.set_eq_take_append_cons_drop, if_pos (by simpa using hlt)]
          simp
        have hoth : ∀ k, k ≠ b → heapOf (w.setRow b (splice cs.toList (i * s + off) gx.cells.toList).toArray) k = heapOf w k := fun k hk => setRow_other w b k _ hk
        have hnd := t1.ok.nd r
        rw [k10] at hnd
        have hE : ∀ k, k ∈ N1 → k ∈ G1.E := fun k hk => by rw [hE1]; exact hk
        have hnP : N1.Nodup := by have := t1.ok.ndE; rwa [hE1] at this
        have hdis : ∀ k, k ∈ N1 → k ≠ b ∧ k ∉ Na ∧ k ∉ Nb := fun k hk => by
          have h1 := fun hx => t1.ok.djE r k hx (hE k hk)
          rw [k10] at h1
          simp only [List.mem_cons, List.mem_append] at h1
          exact ⟨fun e => h1 (.inl e), fun e => h1 (.inr (.inl e)), fun e => h1 (.inr (.inr e))⟩
        refine ⟨_, _, hrun, Nx.after t1.le (t1.ok.rewrite ho1 hfr1 (μ' := G1.μ) (N := b :: (Na ++ N1 ++ Nb)) hc (keep_setRow hbF) ?_ ?_ (fun _ _ => rfl) ⟨rfl, Nat.le_refl _, fun _ => ⟨rfl, rfl⟩⟩ ?_)⟩
        · have h2 := List.nodup_cons.1 hnd
          have h3 := List.nodup_append.1 h2.2
          refine List.nodup_cons.2 ⟨?_, List.nodup_append.2 ⟨List.nodup_append.2 ⟨h3.1, hnP, fun x hx y hy e => (hdis y hy).2.1 (e ▸ hx)⟩, h3.2.1, fun x hx y hy e => ?_⟩⟩
          · simp only [List.mem_append, not_or] at h2 ⊢
            exact ⟨⟨h2.1.1, fun hx => (hdis b hx).1 rfl⟩, h2.1.2⟩
          · rcases List.mem_append.1 hx with hx | hx
            · exact h3.2.2 x hx y hy e
            · exact (hdis x hx).2.2 (e ▸ hy)
        · intro k hk
          have hsz' : (w.setRow b (splice cs.toList (i * s + off) gx.cells.toList).toArray).heap.size = w.heap.size := by simp [World.setRow]
          rw [hsz']
          by_cases hkP : k ∈ N1
          · exact ⟨.inr (.inl (hE k hkP)), (t1.ok.lt _ (.inl (hE k hkP))).1⟩
          · have : k ∈ G1.F r := by
              rw [k10]
              simp only [List.mem_cons, List.mem_append] at hk ⊢
              rcases hk with h | (h | h) | h
              · exact .inl h
              · exact .inr (.inl h)
              · exact absurd h hkP
              · exact .inr (.inr h)
            exact ⟨.inl this, (t1.ok.lt _ (.inr ⟨r, this⟩)).1⟩
        · intro h' hv hml _
          have hbn := (List.nodup_cons.1 hnd).1
          have ho := k8 (heapOf (w.setRow b (splice cs.toList (i * s + off) gx.cells.toList).toArray)) h' x1 g1 N1 hv (fun k hk => hoth k (fun e => hbn (e ▸ hk)))
            (ow_mono hv _ _ _ (fun k hk => hoth k (hdis k hk).1) hq1)
          refine .inr ⟨b, cap, _, T, Na ++ N1 ++ Nb, ?_, ?_, hh, ?_, ?_, rfl⟩
          · rw [hμ]; simp
          · simpa using k2
          · rw [hsp]; simpa using k4
          · rw [hsp] at ho ⊢; exact ho
      | arr fz fl ver' s rows =>
        cases fz with
        | true => exact (run_fail h).elim
        | false =>
        simp only at h
        replace h := run_bind_some h; obtain ⟨_, m4, l4, h4, h⟩ := h
        obtain ⟨hb, rfl, rfl⟩ := run_ck h4
        have hb := Nat.eq_of_beq_eq_true hb
        subst hb
        replace h := run_bind_some h; obtain ⟨_, m4, l4, h4, h⟩ := h
        obtain ⟨hfit, rfl, rfl⟩ := run_ck h4
        have hfit := Nat.le_of_ble_eq_true hfit
        replace h := run_bind_some h; obtain ⟨row, m4, l4, h4, h⟩ := h
        obtain ⟨hrw, rfl, rfl⟩ := run_op' h4
        simp only [run_wr, Option.some.injEq, Prod.mk.injEq] at h
        obtain ⟨_, rfl, _⟩ := h
        simp only [simV, hc] at ha
        obtain ⟨b, n, cap, hμ, rfl⟩ := ha.2.2 trivial
        have hcell := t1.ok.cell r _ hc (by rw [ho1]; simp)
        have hne : rows ≠ [] := by intro e; subst e; simp at hrw
        have hil := (List.getElem?_eq_some_iff.1 hrw).1
        simp only [simCell] at hcell
        rcases hcell with ⟨e, _, _⟩ | ⟨b', cap', cs, T, N', k1, k2, k3, k4, k5, k6⟩
        · exact absurd e hne
        rw [hμ] at k1
        simp only [Value.slice.injEq, Option.some.injEq, Addr.mk.injEq] at k1
        obtain ⟨⟨rfl, _⟩, rfl, rfl⟩ := k1
        have hbF : b ∈ G1.F r := by rw [k6]; simp
        have hxlen : xs.length = gx.cells.toList.length := by rw [hxl, simVs_length hxs]
        have hsz : i * s + off + gx.cells.size ≤ cs.size := by
          rw [k4, hgl]
          have : (i + 1) * s ≤ cap * s := Nat.mul_le_mul_right s (by omega)
          rw [Nat.add_mul] at this
          omega
        have hrun := run_storeAt (P := P) hok k3 hgl (off := i * s + off) hsz hx1
        have hh := setRow_heap w b cs (splice cs.toList (i * s + off) gx.cells.toList).toArray T (0, 0) k3
        have hxs2 : off + xs.length ≤ s := by rw [hxlen, Array.length_toList, hgl]; exact hfit
        have hspl : (splice cs.toList (i * s + off) gx.cells.toList).length = cs.size := by rw [splice_length (by simpa using hsz)]; simp
        have key : ∃ N2, N2.Nodup ∧ (fl = true → N2 = []) ∧ (∀ k, k ∈ N2 → k ∈ G1.F r ∨ k ∈ G1.E) ∧ ∀ h' : View, (Gh U w G1).le h' → (fl = true → Sees h' (heapOf w) N1) → arrS (heapOf (w.setRow b (splice cs.toList (i * s + off) gx.cells.toList).toArray)) h' fl s (rows.set i (splice row off xs)) (G1.μ r) (b :: N2) ∧ b ∉ N2 := by
          have hoth : ∀ k, k ≠ b → heapOf (w.setRow b (splice cs.toList (i * s + off) gx.cells.toList).toArray) k = heapOf w k := fun k hk => setRow_other w b k _ hk
          cases fl with
          | true =>
            refine ⟨[], by simp, fun _ => rfl, by simp, fun h' hv hs => ⟨.inr ⟨b, cap, _, T, [], ?_, ?_, hh, ?_, ⟨?_, rfl⟩, rfl⟩, by simp⟩⟩
            · rw [hμ]; simp
            · simpa using k2
            · simpa [hspl] using k4
            · have q1 : seenRow h' xs gx.cells.toList := owRow_seen hv xs _ N1 (hs rfl) hrow
              simpa using seenRows_set (seenRows_mono hv s rows _ k5.1) hrw q1 hxlen hxs2
          | false =>
            obtain ⟨N2, Dr, q1, hp⟩ := owRows_set k5 hrw hrow hxlen hxs2
            have hnd0 : (N' ++ N1).Nodup := by
              have h1 := t1.ok.nd r
              rw [k6] at h1
              have h2 := t1.ok.ndE
              rw [hE1] at h2
              exact List.nodup_append.2 ⟨(List.nodup_cons.1 h1).2, h2, fun x hx y hy e => t1.ok.djE r x (by rw [k6]; simp [hx]) (by rw [hE1, e]; exact hy)⟩
            have hnd := List.nodup_append.1 (hp.nodup_iff.2 hnd0)
            have hmem : ∀ k, k ∈ N2 → k ∈ N' ∨ k ∈ N1 := fun k hk => by simpa using hp.mem_iff.1 (List.mem_append_left Dr hk)
            have hbn : b ∉ N2 := by
              intro hb2
              rcases hmem b hb2 with h | h
              · have := t1.ok.nd r; rw [k6] at this; exact (List.nodup_cons.1 this).1 h
              · exact t1.ok.djE r b hbF (by rw [hE1]; exact h)
            refine ⟨N2, hnd.1, (fun e => by cases e), fun k hk => ?_, fun h' hv _ => ⟨.inr ⟨b, cap, _, T, N2, ?_, ?_, hh, ?_, ?_, rfl⟩, hbn⟩⟩
            · rcases hmem k hk with h | h
              · left; rw [k6]; simp [h]
              · right; rw [hE1]; exact h
            · rw [hμ]; simp
            · simpa using k2
            · simpa [hspl] using k4
            · have := owRows_mono hv s _ _ N2 (fun k hk => hoth k (fun e => hbn (e ▸ hk))) q1
              simpa using this
        obtain ⟨N2, hN2, hfl2, hN2s, hsim⟩ := key
        refine ⟨_, _, hrun, Nx.after t1.le (t1.ok.rewrite ho1 hfr1 (μ' := G1.μ) (N := b :: N2) hc (keep_setRow hbF) ?_ ?_ (fun _ _ => rfl) ⟨Nat.le_refl _, rfl, fun _ => ⟨rfl, rfl⟩⟩ ?_)⟩
        · exact List.nodup_cons.2 ⟨(hsim (full w) (view_le_full _ _ _) (fun _ => sees_full)).2, hN2⟩
        · intro k hk
          have hsz' : (w.setRow b (splice cs.toList (i * s + off) gx.cells.toList).toArray).heap.size = w.heap.size := by simp [World.setRow]
          rw [hsz']
          simp only [List.mem_cons] at hk
          rcases hk with rfl | hk
          · exact ⟨.inl hbF, (t1.ok.lt _ (.inr ⟨r, hbF⟩)).1⟩
          · rcases hN2s k hk with h | h
            · exact ⟨.inl h, (t1.ok.lt _ (.inr ⟨r, h⟩)).1⟩
            · exact ⟨.inr (.inl h), (t1.ok.lt _ (.inl h)).1⟩
        · intro h' hv hml hvis
          refine (hsim h' hv (fun hfl => ?_)).1
          intro k hk
          have hkE : k ∈ G1.E := by rw [hE1]; exact hk
          refine hvis k hkE ?_ k (by simp)
          rw [hfl2 hfl]
          simp only [List.mem_singleton]
          intro e
          subst e
          exact t1.ok.djE r _ hbF hkE
  | d _ => exact (run_fail h).elim
  | nil _ => exact (run_fail h).elim
  | own _ _ => exact (run_fail h).elim
  | rptr _ _ => exact (run_fail h).elim
  | kptr _ => exact (run_fail h).elim
  | clo _ _ _ => exact (run_fail h).elim
  | agg _ => exact (run_fail h).elim
  | tup _ => exact (run_fail h).elim
  | undef => exact (run_fail h).elim
end
end Go.Vm

namespace Go.Vm
open Go
section
variable {base : Nat} {U : Nat → Prop} {M0 : List Nat} {w0 w w' : World} {m m' : Mem} {G G' : GS} {P : Program}
theorem Gok.fresh (hg : Gok base U w m G) (ho : G.out = []) (hfr : Fr M0 w0 w G) {k : Nat} {c' : Cell} {gv : Value} {N : List Nat} (hn : get k m = none) (hk : Keep [] w w') (hN : N.Nodup)
    (hNs : ∀ b, b ∈ N → (b ∈ G.E ∨ w.heap.size ≤ b) ∧ b < w'.heap.size)
    (hcell : ∀ h' : View, (Gh U w G).le h' → memLe G.μ m (upM G.μ k gv) (put k c' m) → (∀ j, j ∈ G.E → j ∉ N → Sees h' (heapOf w) [j]) → simCell (upM G.μ k gv) (put k c' m) (heapOf w') h' k c' N) :
    Nx base U M0 w0 w m G w' (put k c' m) ⟨upM G.μ k gv, upF G.F k N, [], []⟩ := by
  have hk' : Keep G.E w w' := ⟨hk.os, hk.tape, hk.output, hk.size, fun b hb _ => hk.block b hb (by simp)⟩
  obtain ⟨q1, q2⟩ := Gok.world hg hk' (E' := N) hN hNs
  have hμ : ∀ j, j ≠ k → upM G.μ k gv j = G.μ j := fun j e => upM_other gv e
  have hml : memLe G.μ m (upM G.μ k gv) (put k c' m) := memLe_put hμ (fun c0 h0 => by rw [hn] at h0; cases h0)
  have hFk : G.F k = [] := hg.none_ k hn
  have hset := Gok.set (U := U) (w := w') q1 k c' (upM G.μ k gv) N [] [] (by simpa using hN) (by simp; exact fun b hb => .inr hb) hml hμ (fun j hj => by simp [ho]) (by simp)
    (fun hv _ => hcell _ (q2.trans' hv) hml (fun j hjE hjN b hb cs t fr hH o v hv => by
      have hb := List.mem_singleton.1 hb
      rw [← hb] at hjE hjN
      have hlt := hg.lt b (.inl hjE)
      have hsame : heapOf w' b = heapOf w b := hk.block b hlt.1 (by simp)
      refine sees_view (w := w') (N := [b]) (fun x hx => ?_) b (by simp) cs t fr (hsame.trans hH) o v hv
      rw [List.mem_singleton.1 hx]
      refine ⟨hlt.2.2, ?_⟩
      rintro (h | ⟨i, h⟩)
      · simp at h
      · by_cases e : i = k
        · subst e; rw [upF_same] at h; exact hjN h
        · rw [upF_other _ e] at h; exact hg.djE i b h hjE))
  obtain ⟨s1, s2⟩ := hset
  refine ⟨s1, rfl, rfl, hml, q2.trans' s2.view, ?_⟩
  refine ⟨hfr.keep.trans hk (by simp), ?_⟩
  rintro b (hb | ⟨i, hb⟩)
  · simp at hb
  · by_cases e : i = k
    · subst e
      simp only [upF_same] at hb
      rcases (hNs b hb).1 with h | h
      · exact hfr.fr b (.inl h)
      · exact .inr (Nat.le_trans hfr.keep.size h)
    · simp only [upF_other _ e] at hb
      exact hfr.fr b (.inr ⟨i, hb⟩)
theorem heap_new {w1 : World} {o : Obj} (h : w1.heap = w.heap) : heapOf (w1.alloc o) w.heap.size = some o := by
  have := heap_alloc_new w1 o
  rw [h] at this
  exact this
theorem newBox_ok (hA : At base U M0 w0 w m G) {k : Nat} {T : TypeId} {cs : List V} {arr : Array Value} (hs : simVs G.μ m (Gh U w G) cs arr.toList) {u : Unit} {l l' : Log} (h : (new k (.box T cs)).run m l = some (u, m', l')) :
    ∃ G', Nx base U M0 w0 w m G (w.alloc (.cells arr T)) m' G' ∧ simV G'.μ m' (Gh U (w.alloc (.cells arr T)) G') (.ptr k 0) (.pointer (some ⟨w.heap.size, 0, none⟩)) := by
  obtain ⟨hn, rfl⟩ := run_new h
  refine ⟨_, hA.ok.fresh hA.out hA.fr (gv := .pointer (some ⟨w.heap.size, 0, none⟩)) (N := [w.heap.size]) hn keep_alloc (by simp) (fun b hb => by simp at hb; subst hb; simp) (fun h' hv hml _ => ?_), ?_⟩
  · exact ⟨w.heap.size, arr, by simp, heap_new rfl, simVs_mono hml hv _ _ hs, rfl⟩
  · simp [simV, get_put_same, isSl, isPt]
theorem newRows_ok (hg : Gok base U w m G) (ho : G.out = []) (hfr : Fr M0 w0 w G) {w1 : World} (hw1 : w1.heap = w.heap) (hk1 : Keep [] w w1) {k : Nat} {fl : Bool} {s cap : Nat} {rows : List Row} {arr : Array Value} {T : TypeId} (hq : owRows (heapOf w) (Gh U w G) s rows arr.toList G.E)
    (hcap : rows.length ≤ cap) (hsz : arr.size = cap * s) {u : Unit} {l l' : Log} (h : (new k (.arr false fl 0 s rows)).run m l = some (u, m', l')) :
    ∃ G', Nx base U M0 w0 w m G (w1.alloc (.cells arr T)) m' G' ∧ simV G'.μ m' (Gh U (w1.alloc (.cells arr T)) G') (.own k 0) (.slice (some ⟨w.heap.size, 0, none⟩) rows.length cap) := by
  obtain ⟨hn, rfl⟩ := run_new h
  have hsize : (w1.alloc (.cells arr T)).heap.size = w.heap.size + 1 := by rw [World.size_alloc, hw1]
  have hkeep : Keep [] w (w1.alloc (.cells arr T)) := hk1.trans (keep_alloc (M := [])) (by simp)
  have hnE : w.heap.size ∉ G.E := fun hE => by have := (hg.lt _ (.inl hE)).1; omega
  have hnew : heapOf (w1.alloc (.cells arr T)) w.heap.size = some (.cells arr T (0, 0)) := heap_new hw1
  refine ⟨_, hg.fresh ho hfr (gv := .slice (some ⟨w.heap.size, 0, none⟩) rows.length cap) (N := w.heap.size :: (match fl with | true => [] | false => G.E)) hn hkeep ?_ ?_ ?_, ?_⟩
  · cases fl with
    | true => simp
    | false => exact List.nodup_cons.2 ⟨hnE, hg.ndE⟩
  · intro b hb
    simp only [List.mem_cons] at hb
    rcases hb with rfl | hb
    · exact ⟨.inr (Nat.le_refl _), by rw [hsize]; omega⟩
    · cases fl with
      | true => simp at hb
      | false => exact ⟨.inl hb, by rw [hsize]; have := (hg.lt b (.inl hb)).1; omega⟩
  · intro h' hv hml hvis
    simp only [simCell, upM_same]
    refine .inr ⟨w.heap.size, cap, arr, T, _, rfl, hcap, hnew, hsz, ?_, rfl⟩
    cases fl with
    | true =>
      refine ⟨owRows_seen hv s rows _ _ (fun b hb => ?_) hq, rfl⟩
      refine hvis b hb ?_ b (by simp)
      simp only [List.mem_singleton]
      intro e
      exact hnE (e ▸ hb)
    | false => exact owRows_mono hv s rows _ _ (fun b hb => hkeep.block b (hg.lt b (.inl hb)).1 (by simp)) hq
  · simp [simV, get_put_same, isSl, isPt]
theorem foldl_splice (off : Nat) : ∀ (xs : List Value) (k : Nat) (cells : Array Value), off + k + xs.length ≤ cells.size →
    ((xs.zipIdx k).foldl (fun cs (c, j) => cs.setIfInBounds (off + j) c) cells).toList = splice cells.toList (off + k) xs
  | [], k, cells, h => by simp [splice]
  | x :: xs, k, cells, h => by
    simp only [List.length_cons] at h
    simp only [List.zipIdx_cons, List.foldl_cons]
    rw [foldl_splice off xs (k + 1) _ (by simp; omega)]
    have e := list_seg_step cells.toList (off + k) x xs (by simp; omega)
    simpa [splice, Array.toList_setIfInBounds, Nat.add_assoc] using e
end
end Go.Vm

namespace Go.Vm
open Go
section
variable {base : Nat} {U : Nat → Prop} {M0 : List Nat} {w0 w w' : World} {m m' : Mem} {G G' : GS} {P : Program}
def OpR (base : Nat) (U : Nat → Prop) (M0 : List Nat) (w0 w : World) (m : Mem) (G : GS) (P : Program) (s : Sem Value) (v : V) (m' : Mem) : Prop :=
  ∃ g w' G', s.run P w = .ok g w' ∧ Nx base U M0 w0 w m G w' m' G' ∧ simV G'.μ m' (Gh U w' G') v g
theorem OpR.same (hA : At base U M0 w0 w m G) {s : Sem Value} {g : Value} {v : V} (h : s.run P w = .ok g w) (hv : simV G.μ m (Gh U w G) v g) : OpR base U M0 w0 w m G P s v m := ⟨g, w, G, h, hA.nx, hv⟩
theorem alloc_ok (hA : At base U M0 w0 w m G) {T k : Nat} {z : List V} (hz : zeroRow P T = some z) {u : Unit} {l l' : Log} (h : (new k (.box T z)).run m l = some (u, m', l')) :
    OpR base U M0 w0 w m G P (Instr.alloc T true (.tuple #[])) (.ptr k 0) m' := by
  obtain ⟨i, zv, hi, hzv, hs⟩ := zeroRow_ok (m := m) (μ := G.μ) (h := Gh U w G) hz
  obtain ⟨G', hnx, hsim⟩ := newBox_ok hA hs h
  refine ⟨_, _, G', ?_, hnx, hsim⟩
  simp [Instr.alloc, zeroValue, typeInfo, hi, hzv, newVar, newRow]
theorem box_ok (hA : At base U M0 w0 w m G) {T k : Nat} {v : V} {g : Value} (hv : simV G.μ m (Gh U w G) v g) (h1 : v.cells.all one = true) {u : Unit} {l l' : Log} (h : (new k (.box T v.cells)).run m l = some (u, m', l')) :
    OpR base U M0 w0 w m G P (Instr.box T g) (.ptr k 0) m' := by
  obtain ⟨hs, _⟩ := cells_ok h1 hv
  obtain ⟨G', hnx, hsim⟩ := newBox_ok hA hs h
  refine ⟨_, _, G', ?_, hnx, hsim⟩
  simp [Instr.box, newVar, newRow]
theorem places_some : ∀ (fs : List Field), (fs.all fun f => match P.info? f.type with | some _ => true | none => false) = true →
    ∃ places, fs.mapM (fun f => (P.info? f.type).map fun i => (f.offset, i.size)) = some places ∧ ∀ (j : Nat) f, fs[j]? = some f → places[j]? = some (f.offset, szT P f.type)
  | [], _ => ⟨[], by simp, by simp⟩
  | f :: fs, h => by
    simp only [List.all_cons, Bool.and_eq_true] at h
    obtain ⟨places, h1, h2⟩ := places_some fs h.2
    cases hi : P.info? f.type with
    | none => simp [hi] at h
    | some i =>
      refine ⟨(f.offset, i.size) :: places, by simp [List.mapM_cons, hi, h1], ?_⟩
      intro j g hj
      cases j with
      | zero => simp at hj; subst hj; simp [szT, hi]
      | succ j => simpa using h2 j g (by simpa using hj)
theorem buildParts_ok {T : TypeId} {fs : Array Field} (hu : P.underlying T = some (.struct fs)) {place : Nat → Option (Nat × Nat)} (hp : ∀ (j : Nat) f, fs[j]? = some f → place j = some (f.offset, szT P f.type)) {tm : Tmps} {a : Act}
    {μ : Nat → Value} {h : View} : ∀ (ps : List (Nat × Operand)) {m : Mem} (_ : simT μ m h tm a) {cs : List V} {cells : Array Value} (_ : simVs μ m h cs cells.toList) {out : List V} {m' : Mem} {l l' : Log}
    (_ : (buildParts P T tm ps cs).run m l = some (out, m', l')), m' = m ∧ ∃ r, Instr.fill place cells (ps.map fun x => (x.1, a.eval x.2)) = some r ∧ simVs μ m h out r.toList
  | [], m, hT, cs, cells, hs, out, m', l, l', hr => by
    simp only [buildParts, run_pure, Option.some.injEq, Prod.mk.injEq] at hr
    obtain ⟨rfl, rfl, _⟩ := hr
    exact ⟨rfl, cells, rfl, hs⟩
  | (f, x) :: ps, m, hT, cs, cells, hs, out, m', l, l', hr => by
    simp only [buildParts] at hr
    replace hr := run_bind_some hr; obtain ⟨⟨o, n, t⟩, m1, l1, h1, hr⟩ := hr
    obtain ⟨hf, rfl, rfl⟩ := run_op' h1
    simp only at hr
    replace hr := run_bind_some hr; obtain ⟨_, m2, l2, h2, hr⟩ := hr
    obtain ⟨hlen, rfl, rfl⟩ := run_ck h2
    replace hr := run_bind_some hr; obtain ⟨_, m2, l2, h2, hr⟩ := hr
    obtain ⟨hone, rfl, rfl⟩ := run_ck h2
    replace hr := run_bind_some hr; obtain ⟨_, m2, l2, h2, hr⟩ := hr
    obtain ⟨hfit, rfl, rfl⟩ := run_ck h2
    have hlen := Nat.eq_of_beq_eq_true hlen
    have hfit := Nat.le_of_ble_eq_true hfit
    obtain ⟨hv, hv1⟩ := cells_ok hone (ev_ok hT t x)
    have hgl : (a.eval x).cells.size = n := by rw [← hlen, ← simVs_length hv, Array.length_toList]
    have hcl : cells.size = cs.length := by rw [← simVs_length hs, Array.length_toList]
    have hpl : place f = some (o, n) := by
      unfold fieldOf at hf
      rw [hu] at hf
      simp only at hf
      cases hfd : fs[f]? with
      | none => simp [hfd] at hf
      | some fd =>
        simp only [hfd, Option.some.injEq, Prod.mk.injEq] at hf
        obtain ⟨rfl, rfl, rfl⟩ := hf
        exact hp f fd hfd
    have hsp := foldl_splice o (a.eval x).cells.toList 0 cells (by simp; omega)
    have hz : (a.eval x).cells.zipIdx.foldl (fun cs (c, j) => cs.setIfInBounds (o + j) c) cells = (splice cells.toList o (a.eval x).cells.toList).toArray := by
      apply Array.ext'
      rw [← Array.foldl_toList]
      simpa using hsp
    obtain ⟨hm, r, hr1, hr2⟩ := buildParts_ok hu hp ps hT (cells := (splice cells.toList o (a.eval x).cells.toList).toArray) (by simpa using simVs_splice o hs hv) hr
    refine ⟨hm, r, ?_, hr2⟩
    simp only [List.map_cons, Instr.fill, hpl]
    rw [if_neg (by simp [hgl]; omega), hz]
    exact hr1
theorem buildS_ok (hA : At base U M0 w0 w m G) {tm : Tmps} {a : Act} (hT : simT G.μ m (Gh U w G) tm a) {T : TypeId} {ps : Array (Nat × Operand)} {v : V} {l l' : Log} (h : (buildS P T tm ps.toList).run m l = some (v, m', l')) :
    OpR base U M0 w0 w m G P (Instr.build T (ps.map fun x => (x.1, a.eval x.2))) v m' := by
  simp only [buildS] at h
  replace h := run_bind_some h; obtain ⟨_, m1, l1, h1, h⟩ := h
  obtain ⟨hok, rfl, rfl⟩ := run_ck h1
  replace h := run_bind_some h; obtain ⟨z, m1, l1, h1, h⟩ := h
  obtain ⟨hz, rfl, rfl⟩ := run_op' h1
  replace h := run_bind_some h; obtain ⟨cs, m2, l2, h2, h⟩ := h
  simp only [run_pure, Option.some.injEq, Prod.mk.injEq] at h
  obtain ⟨rfl, rfl, _⟩ := h
  obtain ⟨i, zv, hi, hzv, hs⟩ := zeroRow_ok (m := m1) (μ := G.μ) (h := Gh U w G) hz
  unfold fieldsOk at hok
  cases hu : P.underlying T with
  | none => simp [hu] at hok
  | some d =>
    rw [hu] at hok
    cases d with
    | struct fs =>
      simp only at hok
      obtain ⟨places, hpl, hpg⟩ := places_some fs.toList hok
      obtain ⟨hm, r, hr1, hr2⟩ := buildParts_ok (place := (places.toArray[·]?)) hu (fun j f hj => by simpa using hpg j f (by simpa using hj)) ps.toList hT hs h2
      subst hm
      refine OpR.same hA (g := .agg r) ?_ (by simp only [simV]; exact ⟨r, rfl, hr2⟩)
      refine run_build w T _ r ?_
      unfold Program.built
      simp only [hi, hu, hzv, hpl]
      simpa [Array.toList_map] using hr1
    | _ => simp at hok
theorem buildPartsA_ok {e : TypeId} {size : Nat} (hsz : szT P e = size) {tm : Tmps} {a : Act}
    {μ : Nat → Value} {h : View} : ∀ (ps : List (Nat × Operand)) {m : Mem} (_ : simT μ m h tm a) {cs : List V} {cells : Array Value} (_ : simVs μ m h cs cells.toList) {out : List V} {m' : Mem} {l l' : Log}
    (_ : (buildPartsA P e tm ps cs).run m l = some (out, m', l')), m' = m ∧ ∃ r, Instr.fill (fun i => some (i * size, size)) cells (ps.map fun x => (x.1, a.eval x.2)) = some r ∧ simVs μ m h out r.toList
  | [], m, hT, cs, cells, hs, out, m', l, l', hr => by
    simp only [buildPartsA, run_pure, Option.some.injEq, Prod.mk.injEq] at hr
    obtain ⟨rfl, rfl, _⟩ := hr
    exact ⟨rfl, cells, rfl, hs⟩
  | (i, x) :: ps, m, hT, cs, cells, hs, out, m', l, l', hr => by
    simp only [buildPartsA] at hr
    replace hr := run_bind_some hr; obtain ⟨_, m2, l2, h2, hr⟩ := hr
    obtain ⟨hlen, rfl, rfl⟩ := run_ck h2
    replace hr := run_bind_some hr; obtain ⟨_, m2, l2, h2, hr⟩ := hr
    obtain ⟨hone, rfl, rfl⟩ := run_ck h2
    replace hr := run_bind_some hr; obtain ⟨_, m2, l2, h2, hr⟩ := hr
    obtain ⟨hfit, rfl, rfl⟩ := run_ck h2
    have hlen := Nat.eq_of_beq_eq_true hlen
    have hfit := Nat.le_of_ble_eq_true hfit
    rw [hsz] at hlen hfit hr
    obtain ⟨hv, hv1⟩ := cells_ok hone (ev_ok hT e x)
    have hgl : (a.eval x).cells.size = size := by rw [← hlen, ← simVs_length hv, Array.length_toList]
    have hcl : cells.size = cs.length := by rw [← simVs_length hs, Array.length_toList]
    have hsp := foldl_splice (i * size) (a.eval x).cells.toList 0 cells (by simp; omega)
    have hz : (a.eval x).cells.zipIdx.foldl (fun cs (c, j) => cs.setIfInBounds (i * size + j) c) cells = (splice cells.toList (i * size) (a.eval x).cells.toList).toArray := by
      apply Array.ext'
      rw [← Array.foldl_toList]
      simpa using hsp
    obtain ⟨hm, r, hr1, hr2⟩ := buildPartsA_ok hsz ps hT (cells := (splice cells.toList (i * size) (a.eval x).cells.toList).toArray) (by simpa using simVs_splice (i * size) hs hv) hr
    refine ⟨hm, r, ?_, hr2⟩
    simp only [List.map_cons, Instr.fill]
    rw [if_neg (by simp [hgl]; omega), hz]
    exact hr1
theorem buildV_ok (hA : At base U M0 w0 w m G) {tm : Tmps} {a : Act} (hT : simT G.μ m (Gh U w G) tm a) {T : TypeId} {ps : Array (Nat × Operand)} {v : V} {l l' : Log} (h : (buildV P T tm ps.toList).run m l = some (v, m', l')) :
    OpR base U M0 w0 w m G P (Instr.build T (ps.map fun x => (x.1, a.eval x.2))) v m' := by
  unfold buildV at h
  split at h
  · rename_i n e har
    unfold arT at har
    cases hu : P.underlying T with
    | none => simp [hu] at har
    | some d =>
      rw [hu] at har
      cases d <;> simp at har
      obtain ⟨rfl, rfl⟩ := har
      simp only [buildA] at h
      replace h := run_bind_some h; obtain ⟨_, m1, l1, h1, h⟩ := h
      obtain ⟨hok, rfl, rfl⟩ := run_ck h1
      replace h := run_bind_some h; obtain ⟨z, m1, l1, h1, h⟩ := h
      obtain ⟨hz, rfl, rfl⟩ := run_op' h1
      replace h := run_bind_some h; obtain ⟨cs, m2, l2, h2, h⟩ := h
      simp only [run_pure, Option.some.injEq, Prod.mk.injEq] at h
      obtain ⟨rfl, rfl, _⟩ := h
      obtain ⟨i, zv, hi, hzv, hs⟩ := zeroRow_ok (m := m1) (μ := G.μ) (h := Gh U w G) hz
      obtain ⟨d', hd'⟩ := okT_some hok
      obtain ⟨inf, hinf⟩ := info_some hd'
      obtain ⟨hm, r, hr1, hr2⟩ := buildPartsA_ok (szT_eq hinf) ps.toList hT hs h2
      subst hm
      refine OpR.same hA (g := .agg r) ?_ (by simp only [simV]; exact ⟨r, rfl, hr2⟩)
      refine run_build w T _ r ?_
      unfold Program.built
      simp only [hi, hu, hzv, hinf]
      simpa [Array.toList_map] using hr1
  · exact buildS_ok hA hT h
theorem sliceParts_ok {e : TypeId} {tm : Tmps} {a : Act} : ∀ (ps : List (Nat × Operand)) {m : Mem} {G : GS} {k : Nat} (_ : Gok base U w m G) (_ : G.out = []) (_ : simT G.μ m (Gh U w G) tm a) {rows : List Row} {m' : Mem} {l l' : Log}
    (_ : (sliceParts P e tm k ps).run m l = some (rows, m', l')), ∃ G' N, Took base U w m G m' G' N ∧ owRows (heapOf w) (Gh U w G') (szT P e) rows ((ps.map fun x => a.eval x.2).flatMap fun v => v.cells.toList) N ∧ rows.length = ps.length ∧
      (∀ v ∈ ps.map (fun x => a.eval x.2), v.cells.size = szT P e) ∧ ps.map (fun x => (x.1, a.eval x.2)) = ((ps.map fun x => a.eval x.2).zipIdx k).map fun x => (x.2, x.1)
  | [], m, G, k, hg, ho, hT, rows, m', l, l', h => by
    simp only [sliceParts, run_pure, Option.some.injEq, Prod.mk.injEq] at h
    obtain ⟨rfl, rfl, _⟩ := h
    exact ⟨G, [], Took.same hg, by simp [owRows], rfl, by simp, by simp⟩
  | (i, x) :: ps, m, G, k, hg, ho, hT, rows, m', l, l', h => by
    simp only [sliceParts] at h
    replace h := run_bind_some h; obtain ⟨_, m1, l1, h1, h⟩ := h
    obtain ⟨hik, rfl, rfl⟩ := run_ck h1
    have hik := Nat.eq_of_beq_eq_true hik
    subst hik
    replace h := run_bind_some h; obtain ⟨_, m1, l1, h1, h⟩ := h
    obtain ⟨hlen, rfl, rfl⟩ := run_ck h1
    have hlen := Nat.eq_of_beq_eq_true hlen
    replace h := run_bind_some h; obtain ⟨row, m2, l2, h2, h⟩ := h
    replace h := run_bind_some h; obtain ⟨rows', m3, l3, h3, h⟩ := h
    simp only [run_pure, Option.some.injEq, Prod.mk.injEq] at h
    obtain ⟨rfl, rfl, _⟩ := h
    have hev := ev_ok (P := P) hT e x
    have hcells : ∃ gs, simVs G.μ m1 (Gh U w G) (ev P tm e x).cells gs ∧ (a.eval x).cells.toList = gs := by
      generalize ev P tm e x = v at hev h2 hlen
      cases v with
      | agg cs =>
        simp only [simV] at hev
        obtain ⟨arr, he, hq⟩ := hev
        exact ⟨arr.toList, hq, by rw [he]; rfl⟩
      | d y =>
        have h1 : (a.eval x).oneCell' = true := oneCell_of_sim (v := .d y) rfl hev
        exact ⟨[a.eval x], by simp only [V.cells, simVs]; exact ⟨_, [], rfl, hev, rfl⟩, by rw [cells_one h1]⟩
      | nil s =>
        have h1 : (a.eval x).oneCell' = true := oneCell_of_sim (v := .nil s) rfl hev
        exact ⟨[a.eval x], by simp only [V.cells, simVs]; exact ⟨_, [], rfl, hev, rfl⟩, by rw [cells_one h1]⟩
      | own r ver =>
        have h1 : (a.eval x).oneCell' = true := oneCell_of_sim (v := .own r ver) rfl hev
        exact ⟨[a.eval x], by simp only [V.cells, simVs]; exact ⟨_, [], rfl, hev, rfl⟩, by rw [cells_one h1]⟩
      | ptr r o =>
        have h1 : (a.eval x).oneCell' = true := oneCell_of_sim (v := .ptr r o) rfl hev
        exact ⟨[a.eval x], by simp only [V.cells, simVs]; exact ⟨_, [], rfl, hev, rfl⟩, by rw [cells_one h1]⟩
      | eptr r v i o =>
        have h1 : (a.eval x).oneCell' = true := oneCell_of_sim (v := .eptr r v i o) rfl hev
        exact ⟨[a.eval x], by simp only [V.cells, simVs]; exact ⟨_, [], rfl, hev, rfl⟩, by rw [cells_one h1]⟩
      | rptr r o =>
        have h1 : (a.eval x).oneCell' = true := oneCell_of_sim (v := .rptr r o) rfl hev
        exact ⟨[a.eval x], by simp only [V.cells, simVs]; exact ⟨_, [], rfl, hev, rfl⟩, by rw [cells_one h1]⟩
      | kptr q =>
        have h1 : (a.eval x).oneCell' = true := oneCell_of_sim (v := .kptr q) rfl hev
        exact ⟨[a.eval x], by simp only [V.cells, simVs]; exact ⟨_, [], rfl, hev, rfl⟩, by rw [cells_one h1]⟩
      | clo f p q =>
        have h1 : (a.eval x).oneCell' = true := oneCell_of_sim (v := .clo f p q) rfl hev
        exact ⟨[a.eval x], by simp only [V.cells, simVs]; exact ⟨_, [], rfl, hev, rfl⟩, by rw [cells_one h1]⟩
      | tup vs => simp only [V.cells, toRow, toD] at h2; replace h2 := run_bind_some h2; obtain ⟨_, _, _, h4, _⟩ := h2; exact (run_fail h4).elim
      | undef => simp only [V.cells, toRow, toD] at h2; replace h2 := run_bind_some h2; obtain ⟨_, _, _, h4, _⟩ := h2; exact (run_fail h4).elim
    obtain ⟨gs, hgs, hge⟩ := hcells
    obtain ⟨G1, N1, t1, q1, hrl⟩ := toRow_ok hg hgs ho h2
    have hT1 : simT G1.μ m2 (Gh U w G1) tm a := fun t v hv => ⟨(hT t v hv).1, t1.le.simV (hT t v hv).2⟩
    obtain ⟨G2, N2, t2, q2, hl2, hs2, hz2⟩ := sliceParts_ok ps t1.ok (t1.out.trans ho) hT1 h3
    have hgl : gs.length = szT P e := by rw [simVs_length hgs, hlen]
    refine ⟨G2, N1 ++ N2, t1.trans t2, ?_, by simp [hl2], ?_, ?_⟩
    · simp only [owRows, List.map_cons, List.flatMap_cons, hge]
      refine ⟨by rw [hrl, hlen], N1, N2, rfl, owRow_take (by rw [hrl, ← simVs_length hgs]; simp) (owRow_keep t2.le.view q1), ?_⟩
      rw [List.drop_append_of_le_length (by omega), List.drop_eq_nil_of_le (by omega)]
      exact q2
    · intro v hv
      simp only [List.map_cons, List.mem_cons] at hv
      rcases hv with rfl | hv
      · rw [← Array.length_toList, hge, hgl]
      · exact hs2 v hv
    · simp only [List.map_cons, List.zipIdx_cons, hz2]
theorem buildSliceV_ok (hA : At base U M0 w0 w m G) {tm : Tmps} {a : Act} (hT : simT G.μ m (Gh U w G) tm a) {t : TypeId} {n k : Nat} {ps : Array (Nat × Operand)} {v : V} {l l' : Log} (h : (buildSliceV P k t n tm ps.toList).run m l = some (v, m', l')) :
    OpR base U M0 w0 w m G P (Instr.buildSlice t n (ps.map fun x => (x.1, a.eval x.2))) v m' := by
  simp only [buildSliceV] at h
  replace h := run_bind_some h; obtain ⟨e, m1, l1, h1, h⟩ := h
  obtain ⟨he, rfl, rfl⟩ := run_op' h1
  replace h := run_bind_some h; obtain ⟨_, m1, l1, h1, h⟩ := h
  obtain ⟨hs1, rfl, rfl⟩ := run_ck h1
  replace h := run_bind_some h; obtain ⟨_, m1, l1, h1, h⟩ := h
  obtain ⟨hn, rfl, rfl⟩ := run_ck h1
  replace h := run_bind_some h; obtain ⟨_, m1, l1, h1, h⟩ := h
  obtain ⟨hb, rfl, rfl⟩ := run_ck h1
  replace h := run_bind_some h; obtain ⟨z, m1, l1, h1, h⟩ := h
  obtain ⟨hz, rfl, rfl⟩ := run_op' h1
  obtain ⟨inf, zv, hi, hzv, _⟩ := zeroRow_ok (m := m1) (μ := G.μ) (h := Gh U w G) hz
  replace h := run_bind_some h; obtain ⟨rows, m2, l2, h2, h⟩ := h
  replace h := run_bind_some h; obtain ⟨_, m3, l3, h3, h⟩ := h
  simp only [run_pure, Option.some.injEq, Prod.mk.injEq] at h
  obtain ⟨rfl, rfl, _⟩ := h
  have hs1 := Nat.le_of_ble_eq_true hs1
  have hn := Nat.eq_of_beq_eq_true hn
  have hb := Nat.le_of_ble_eq_true hb
  have hu := elT_some he
  obtain ⟨G1, N1, t1, q1, hrl, hsz, hzip⟩ := sliceParts_ok (e := e) ps.toList hA.ok hA.out hT h2
  obtain ⟨hE1, ho1, hfr1⟩ := hA.took t1
  have hsz' : szT P e = inf.size := szT_eq hi
  have hrn : rows.length = n := by rw [hrl, hn]
  by_cases hn0 : n = 0
  · subst hn0
    have hps : ps.toList = [] := List.eq_nil_of_length_eq_zero hn
    have hrows : rows = [] := List.eq_nil_of_length_eq_zero hrn
    subst hrows
    have hpa : ps = #[] := by cases ps; simp_all
    subst hpa
    simp only [owRows] at q1
    obtain ⟨G2, hnx, hsim⟩ := newRows_ok (w1 := w) (cap := 0) (arr := #[]) (T := e) t1.ok ho1 hfr1 rfl (Keep.refl _ _) (k := k) (fl := flatT P e) (s := szT P e) (rows := []) (by rw [hE1, q1]; simp [owRows]) (by simp) (by simp) h3
    refine ⟨_, _, G2, ?_, Nx.after t1.le hnx, hsim⟩
    simp [Instr.buildSlice, run_underlying hu, sizeOf, typeInfo, hi, Instr.fill, newRow, Array.range_zero']
  · have hpos : ¬ n * inf.size = 0 := by
      rw [← hsz']
      intro e0
      rcases Nat.mul_eq_zero.1 e0 with e1 | e1 <;> omega
    have hsmall : ¬ n * inf.size > 2 ^ 24 := by rw [← hsz']; omega
    have hfill := Go.Great.fill_whole (s := szT P e) (by omega) (ps.toList.map fun x => a.eval x.2) ((Array.range (n * inf.size)).map (zv.cells[· % zv.cells.size]!)) hsz (by simp [← hsz']; rw [← hn]; simp)
    rw [← hzip] at hfill
    have hrun := run_buildSlice w t e n (ps.map fun x => (x.1, a.eval x.2)) _ inf zv hu hi hzv hsmall hpos (by rw [← hsz']; rw [← hsz'] at hfill; simpa [Array.toList_map] using hfill)
    have hcl : ((ps.toList.map fun x => a.eval x.2).flatMap fun v => v.cells.toList).length = n * szT P e := by
      have : ∀ (l : List Value), (∀ v ∈ l, v.cells.size = szT P e) → (l.flatMap fun v => v.cells.toList).length = l.length * szT P e := by
        intro l
        induction l with
        | nil => simp
        | cons v l ih =>
          intro hv
          simp only [List.flatMap_cons, List.length_append, List.length_cons, Nat.add_mul, Array.length_toList]
          rw [ih (fun u hu => hv u (by simp [hu])), hv v (by simp)]
          omega
      rw [this _ hsz]
      simp [← hn]
    obtain ⟨G2, hnx, hsim⟩ := newRows_ok (w1 := w) (cap := n) (arr := ((ps.toList.map fun x => a.eval x.2).flatMap fun v => v.cells.toList).toArray) (T := e) t1.ok ho1 hfr1 rfl (Keep.refl _ _) (k := k) (fl := flatT P e) (s := szT P e) (rows := rows) (by rw [hE1]; simpa using q1) (by omega) (by simp [hcl]) h3
    rw [hrn] at hsim
    exact ⟨_, _, G2, hrun, Nx.after t1.le hnx, hsim⟩
end
end Go.Vm

namespace Go.Vm
open Go
section
variable {base : Nat} {U : Nat → Prop} {M0 : List Nat} {w0 w w' : World} {m m' : Mem} {G G' : GS} {P : Program}
theorem roRow_cells {h : View} {b : Nat} : ∀ (r : Row) (o : Nat), roRow h r b o → ∃ cs : List Value, cs.length = r.length ∧ (∀ j v, cs[j]? = some v → h b (o + j) = some v) ∧ seenRow h r cs
  | [], _, _ => ⟨[], rfl, by simp, trivial⟩
  | x :: r, o, q => by
    simp only [roRow] at q
    obtain ⟨⟨v, h1, h2⟩, h3⟩ := q
    obtain ⟨cs, e1, e2, e3⟩ := roRow_cells r (o + 1) h3
    refine ⟨v :: cs, by simp [e1], ?_, ⟨v, cs, rfl, h2, e3⟩⟩
    intro j u hj
    cases j with
    | zero => simp at hj; subst hj; exact h1
    | succ j =>
      have := e2 j u (by simpa using hj)
      rwa [show o + (j + 1) = o + 1 + j from by omega]
theorem roRows_cells {h : View} {s b : Nat} : ∀ (rs : List Row) (o : Nat), roRows h s rs b o → ∃ cs : List Value, cs.length = rs.length * s ∧ (∀ j v, cs[j]? = some v → h b (o + j) = some v) ∧ seenRows h s rs cs
  | [], _, _ => ⟨[], by simp, by simp, trivial⟩
  | r :: rs, o, q => by
    simp only [roRows] at q
    obtain ⟨h1, h2, h3⟩ := q
    obtain ⟨cs1, a1, a2, a3⟩ := roRow_cells r o h2
    obtain ⟨cs2, b1, b2, b3⟩ := roRows_cells rs (o + s) h3
    have hl : cs1.length = s := by rw [a1, h1]
    refine ⟨cs1 ++ cs2, by simp [hl, b1, Nat.add_mul]; omega, ?_, h1, ?_, ?_⟩
    · intro j u hj
      by_cases hlt : j < s
      · rw [List.getElem?_append_left (by omega)] at hj
        exact a2 j u hj
      · rw [List.getElem?_append_right (by omega), hl] at hj
        have := b2 (j - s) u hj
        rwa [show o + j = o + s + (j - s) from by omega]
    · refine seenRow_take ?_ a3
      rw [List.take_append_of_le_length (by omega)]
    · rw [List.drop_append_of_le_length (by omega), List.drop_eq_nil_of_le (by omega)]
      exact b3
theorem seenRow_one {h : View} : ∀ {r : Row} {cs : List Value}, seenRow h r cs → ∀ u ∈ cs.take r.length, u.oneCell' = true
  | [], _, _ => by simp
  | x :: r, cs, ⟨v, cs', e, h1, h2⟩ => by
    subst e
    intro u hu
    simp only [List.length_cons, List.take_succ_cons, List.mem_cons] at hu
    rcases hu with rfl | hu
    · exact oneCell_of_ro h1
    · exact seenRow_one h2 u hu
theorem seenRows_one {h : View} {s : Nat} : ∀ {rs : List Row} {cs : List Value}, seenRows h s rs cs → ∀ u ∈ cs.take (rs.length * s), u.oneCell' = true
  | [], _, _ => by simp
  | r :: rs, cs, ⟨h1, h2, h3⟩ => by
    intro u hu
    have hs : (r :: rs).length * s = s + rs.length * s := by simp [Nat.add_mul]; omega
    rw [hs, List.take_add] at hu
    simp only [List.mem_append] at hu
    rcases hu with hu | hu
    · exact seenRow_one h2 u (by rw [h1]; exact hu)
    · exact seenRows_one h3 u hu
theorem oneCell_of_ow {H : Heap} {h : View} {x : D} {g : Value} {N : List Nat} (q : ow H h x g N) : g.oneCell' = true := by
  cases x with
  | sl o s rows =>
    cases o with
    | false => simp only [ow] at q; exact oneCell_of_ro q.2
    | true =>
      simp only [ow] at q
      rcases q with ⟨_, rfl, _⟩ | ⟨b, cap, cs, t, N', rfl, _⟩ <;> rfl
  | _ => simp only [ow] at q; rw [q.1]; rfl
theorem owRow_one {H : Heap} {h : View} : ∀ {r : Row} {cs : List Value} {N : List Nat}, owRow H h r cs N → ∀ u ∈ cs.take r.length, u.oneCell' = true
  | [], _, _, _ => by simp
  | x :: r, cs, N, q => by
    obtain ⟨v, cs', N1, N2, rfl, rfl, h1, h2⟩ := owRow_cons q
    intro u hu
    simp only [List.length_cons, List.take_succ_cons, List.mem_cons] at hu
    rcases hu with rfl | hu
    · exact oneCell_of_ow h1
    · exact owRow_one h2 u hu
theorem owRows_one {H : Heap} {h : View} {s : Nat} : ∀ {rs : List Row} {cs : List Value} {N : List Nat}, owRows H h s rs cs N → ∀ u ∈ cs.take (rs.length * s), u.oneCell' = true
  | [], _, _, _ => by simp
  | r :: rs, cs, N, q => by
    simp only [owRows] at q
    obtain ⟨h1, N1, N2, rfl, h2, h3⟩ := q
    intro u hu
    have hs : (r :: rs).length * s = s + rs.length * s := by simp [Nat.add_mul]; omega
    rw [hs, List.take_add] at hu
    simp only [List.mem_append] at hu
    rcases hu with hu | hu
    · exact owRow_one h2 u (by rw [h1]; exact hu)
    · exact owRows_one h3 u hu
def rowsS (H : Heap) (h : View) (fl : Bool) (s : Nat) (rows : List Row) (cs : List Value) (N : List Nat) : Prop := match fl with
  | true => seenRows h s rows cs ∧ N = []
  | false => owRows H h s rows cs N
theorem rowsS_take {H : Heap} {h : View} {fl : Bool} {s : Nat} {rows : List Row} {cs cs' : List Value} {N : List Nat} (e : cs.take (rows.length * s) = cs'.take (rows.length * s)) (q : rowsS H h fl s rows cs N) : rowsS H h fl s rows cs' N := by
  cases fl with
  | true => exact ⟨seenRows_take e q.1, q.2⟩
  | false => exact owRows_take e q
theorem rowsS_append {H : Heap} {h : View} {fl : Bool} {s : Nat} {a b : List Row} {cs : List Value} {N N' : List Nat} (q : rowsS H h fl s a cs N) (q' : rowsS H h fl s b (cs.drop (a.length * s)) N') : rowsS H h fl s (a ++ b) cs (N ++ N') := by
  cases fl with
  | true => exact ⟨seenRows_append.2 ⟨q.1, q'.1⟩, by rw [q.2, q'.2]; rfl⟩
  | false => exact owRows_append.2 ⟨N, N', rfl, q, q'⟩
theorem rowsS_mono {H H' : Heap} {h h' : View} (hl : h.le h') {fl : Bool} {s : Nat} {rows : List Row} {cs : List Value} {N : List Nat} (hb : ∀ b, b ∈ N → H' b = H b) (q : rowsS H h fl s rows cs N) : rowsS H' h' fl s rows cs N := by
  cases fl with
  | true => exact ⟨seenRows_mono hl s rows _ q.1, q.2⟩
  | false => exact owRows_mono hl s rows _ N hb q
mutual
theorem ow_of_fz {H : Heap} {h : View} : ∀ (x : D) (v : Value), ro h x.fz v → ow H h x.fz v []
  | .int _ _, _, q => by simpa [D.fz, ow, ro] using q
  | .bool _, _, q => by simpa [D.fz, ow, ro] using q
  | .str _, _, q => by simpa [D.fz, ow, ro] using q
  | .nilf, _, q => by simpa [D.fz, ow, ro] using q
  | .sl _ s rows, v, q => by simp only [D.fz, ow, true_and] at q ⊢; exact q
end
theorem owRow_of_fz {H : Heap} {h : View} : ∀ (r : Row) (cs : List Value), seenRow h (fzRow r) cs → owRow H h (fzRow r) cs []
  | [], _, _ => by simp [fzRow, owRow]
  | x :: r, cs, q => by
    simp only [fzRow, seenRow] at q
    obtain ⟨v, cs', e, h1, h2⟩ := q
    simp only [fzRow, owRow]
    exact ⟨v, cs', [], [], e, rfl, ow_of_fz x v h1, owRow_of_fz r cs' h2⟩
theorem owRows_of_fz {H : Heap} {h : View} {s : Nat} : ∀ (rs : List Row) (cs : List Value), seenRows h s (fzRows rs) cs → owRows H h s (fzRows rs) cs []
  | [], _, _ => by simp [fzRows, owRows]
  | r :: rs, cs, q => by
    simp only [fzRows, seenRows] at q
    obtain ⟨h1, h2, h3⟩ := q
    simp only [fzRows, owRows]
    exact ⟨h1, [], [], rfl, owRow_of_fz r cs h2, owRows_of_fz rs _ h3⟩
theorem seenRow_fz {h : View} : ∀ {r : Row} {cs : List Value}, seenRow h r cs → seenRow h (fzRow r) cs
  | [], _, _ => by simp [fzRow, seenRow]
  | x :: r, cs, ⟨v, cs', e, h1, h2⟩ => by simp only [fzRow, seenRow]; exact ⟨v, cs', e, ro_fz x v h1, seenRow_fz h2⟩
theorem seenRows_fz {h : View} {s : Nat} : ∀ {rs : List Row} {cs : List Value}, seenRows h s rs cs → seenRows h s (fzRows rs) cs
  | [], _, _ => by simp [fzRows, seenRows]
  | r :: rs, cs, ⟨h1, h2, h3⟩ => by simp only [fzRows, seenRows]; exact ⟨by rw [fzRow_length]; exact h1, seenRow_fz h2, seenRows_fz h3⟩
structure Tail (P : Program) (base : Nat) (U : Nat → Prop) (w : World) (m : Mem) (G : GS) (size : Nat) (fl : Bool) (gy : Value) (ys : List Row) (m' : Mem) : Prop where
  ex : ∃ G' news, Gok base U w m' G' ∧ GLe m G m' G' ∧ G'.out = G.out ∧ G'.μ = G.μ ∧ Src P size w gy ys.length news ∧ rowsS (heapOf w) (Gh U w G') fl size ys news G'.E ∧ ∀ r c, get r m = some c → get r m' = some c ∨ get r m' = some .dead
theorem tail_ok (hA : At base U M0 w0 w m G) {e : TypeId} {y : V} {gy : Value} (hy : simV G.μ m (Gh U w G) y gy) (hsz : 1 ≤ szT P e) {ys : List Row} {l l' : Log} (h : (tail P e y).run m l = some (ys, m', l')) :
    Tail P base U w m G (szT P e) (flatT P e) gy ys m' := by
  have plain : ∀ (ys : List Row) (news : List Value), Src P (szT P e) w gy ys.length news → (flatT P e = true → seenRows (Gh U w G) (szT P e) ys news) → (flatT P e = false → owRows (heapOf w) (Gh U w G) (szT P e) ys news []) →
      Tail P base U w m G (szT P e) (flatT P e) gy ys m := by
    intro ys news h1 h2 h3
    refine ⟨G, news, hA.ok, GLe.refl _ _, rfl, rfl, h1, ?_, fun r c h => .inl h⟩
    rw [hA.E]
    cases hf : flatT P e with
    | true => exact ⟨h2 hf, rfl⟩
    | false => exact h3 hf
  have seen : ∀ (rows : List Row) (o : Bool), ro (Gh U w G) (.sl o (szT P e) rows) gy → Tail P base U w m G (szT P e) (flatT P e) gy (vw (flatT P e) rows) m := by
    intro rows o hq
    simp only [ro] at hq
    obtain ⟨a, cap, rfl, hcap, hne⟩ := hq
    have hvl : (vw (flatT P e) rows).length = rows.length := by unfold vw; cases flatT P e <;> simp [fzRows_length]
    by_cases hr : rows = []
    · subst hr
      have hv : vw (flatT P e) [] = [] := by unfold vw; cases flatT P e <;> simp [fzRows]
      rw [hv]
      exact plain [] [] (Src.slice (by simp) (by simp) (by simp)) (fun _ => trivial) (fun _ => by simp [owRows])
    · obtain ⟨b, o', rfl, hrows⟩ := hne hr
      obtain ⟨cs, c1, c2, c3⟩ := roRows_cells rows o' hrows
      refine plain _ cs ?_ (fun hf => ?_) (fun hf => ?_)
      · rw [hvl]
        refine Src.slice c1 (fun u hu => ?_) (fun _ => ⟨b, o', rfl, fun j v hj => view_le_full _ _ _ _ _ _ (c2 j v hj)⟩)
        exact seenRows_one c3 u (by rw [← c1, List.take_length]; exact hu)
      · rw [hf]; exact c3
      · rw [hf]; simp only [vw, cond_false]; exact owRows_of_fz rows cs (seenRows_fz c3)
  cases y with
  | d x =>
    cases x with
    | str s =>
      simp only [Vm.tail] at h
      replace h := run_bind_some h; obtain ⟨_, m1, l1, h1, h⟩ := h
      obtain ⟨hs, rfl, rfl⟩ := run_ck h1
      simp only [run_pure, Option.some.injEq, Prod.mk.injEq] at h
      obtain ⟨rfl, rfl, _⟩ := h
      have hs := Nat.eq_of_beq_eq_true hs
      simp only [simV, ro] at hy
      subst hy
      have hseen := str_seen (h := Gh U w G) s _ rfl
      refine plain _ _ (by rw [hs]; simpa using Src.string) (fun _ => by rw [hs]; exact hseen) (fun _ => ?_)
      rw [hs]
      refine owRows_flat 1 _ _ ?_ hseen
      simp [flatRows, byteRow, D.flat]
    | sl o s rows =>
      simp only [Vm.tail] at h
      replace h := run_bind_some h; obtain ⟨_, m1, l1, h1, h⟩ := h
      obtain ⟨hs, rfl, rfl⟩ := run_ck h1
      simp only [run_pure, Option.some.injEq, Prod.mk.injEq] at h
      obtain ⟨rfl, rfl, _⟩ := h
      have hs := Nat.eq_of_beq_eq_true hs
      subst hs
      simp only [simV] at hy
      exact seen rows o hy
    | int _ _ => exact (run_fail h).elim
    | bool _ => exact (run_fail h).elim
    | nilf => exact (run_fail h).elim
  | nil s =>
    simp only [Vm.tail, run_pure, Option.some.injEq, Prod.mk.injEq] at h
    obtain ⟨rfl, rfl, _⟩ := h
    simp only [simV] at hy
    subst hy
    exact plain [] [] (Src.slice (by simp) (by simp) (by simp)) (fun _ => trivial) (fun _ => by simp [owRows])
  | own r ver =>
    simp only [Vm.tail] at h
    replace h := run_bind_some h; obtain ⟨c, m1, l1, h1, h⟩ := h
    rw [run_rd] at h1
    cases h1
    cases hc : get r m with
    | none => rw [hc] at h; exact (run_fail h).elim
    | some c =>
      rw [hc] at h
      cases c with
      | box _ _ => exact (run_fail h).elim
      | dead => exact (run_fail h).elim
      | que _ _ _ => exact (run_fail h).elim
      | kbox _ _ => exact (run_fail h).elim
      | loan _ _ _ _ _ => exact (run_fail h).elim
      | arr fz fl ver' s rows =>
        simp only at h
        replace h := run_bind_some h; obtain ⟨_, m1, l1, h1, h⟩ := h
        obtain ⟨hb, rfl, rfl⟩ := run_ck h1
        have hb := Nat.eq_of_beq_eq_true hb
        subst hb
        replace h := run_bind_some h; obtain ⟨_, m1, l1, h1, h⟩ := h
        obtain ⟨hs, rfl, rfl⟩ := run_ck h1
        have hs := Nat.eq_of_beq_eq_true hs
        subst hs
        simp only [simV, hc] at hy
        have hy := hy.2.2 trivial
        subst hy
        have hro : r ∉ G.out := by rw [hA.out]; simp
        have hcell := hA.ok.cell r _ hc hro
        cases hf : flatT P e with
        | true =>
          rw [hf] at h
          simp only at h
          replace h := run_bind_some h; obtain ⟨_, m1, l1, h1, h⟩ := h
          obtain ⟨hff, rfl, rfl⟩ := run_ck h1
          simp only [run_pure, Option.some.injEq, Prod.mk.injEq] at h
          obtain ⟨rfl, rfl, _⟩ := h
          cases fz with
          | true =>
            have := seen rows true hcell.1
            rw [hf] at this
            simpa [vw] using this
          | false =>
            have hfl : fl = true := by simpa using hff
            subst hfl
            rw [hf] at plain
            simp only [simCell] at hcell
            rcases hcell with ⟨rfl, hμ, _⟩ | ⟨b, cap, cs, T, N', h1, h2, h3, h4, h5, _⟩
            · rw [hμ] at plain ⊢
              exact plain [] [] (Src.slice (by simp) (by simp) (by simp)) (fun _ => trivial) (fun e => by cases e)
            · rw [h1] at plain ⊢
              have hle : rows.length * szT P e ≤ cs.toList.length := by
                have hcl : cs.toList.length = cap * szT P e := by simpa using h4
                rw [hcl]; exact Nat.mul_le_mul_right _ h2
              refine plain rows (cs.toList.take (rows.length * szT P e)) (Src.slice (by rw [List.length_take]; omega) (fun u hu => seenRows_one h5.1 u hu) (fun _ => ⟨b, 0, rfl, fun j v hj => ?_⟩)) (fun _ => seenRows_take (by rw [List.take_take, Nat.min_self]) h5.1) (fun e => by cases e)
              rw [List.getElem?_take] at hj
              split at hj
              · have := full_cell (w := w) h3 (0 + j)
                rw [Nat.zero_add] at this ⊢
                rw [hj] at this
                exact this
              · cases hj
        | false =>
          rw [hf] at h
          simp only at h
          replace h := run_bind_some h; obtain ⟨_, m1, l1, h1, h⟩ := h
          obtain ⟨hff, rfl, rfl⟩ := run_ck h1
          have hfl : fl = false := by simpa using hff
          subst hfl
          cases fz with
          | true =>
            simp only [run_pure, Option.some.injEq, Prod.mk.injEq] at h
            obtain ⟨rfl, rfl, _⟩ := h
            have := seen rows true hcell.1
            rw [hf] at this
            simpa [vw] using this
          | false =>
            simp only at h
            replace h := run_bind_some h; obtain ⟨_, m1, l1, h1, h⟩ := h
            rw [run_wr] at h1
            cases h1
            simp only [run_pure, Option.some.injEq, Prod.mk.injEq] at h
            obtain ⟨rfl, rfl, _⟩ := h
            obtain ⟨k1, k2, k3⟩ := hA.ok.kill hc hro
            have hold : ∀ j c, get j m1 = some c → get j (put r .dead m1) = some c ∨ get j (put r .dead m1) = some .dead := by
              intro j c hj
              by_cases e : j = r
              · subst e; right; exact get_put_same _ _ _
              · left; rw [get_put_other e]; exact hj
            rcases k3 with ⟨rfl, hμ, hF⟩ | ⟨b, cap, cs, T, N', h1, h2, h3, h4, h5, hF⟩
            · refine ⟨_, [], k1, k2, rfl, rfl, ?_, ?_, hold⟩
              · rw [hμ]; exact Src.slice (by simp) (by simp) (by simp)
              · rw [hA.E, hF]; simp [rowsS, owRows]
            · have hnd : (b :: N').Nodup := by rw [← hF]; exact hA.ok.nd r
              obtain ⟨q1, q2⟩ := k1.less N' (List.nodup_cons.1 hnd).2 (fun x hx => by rw [hA.E, hF]; simp [hx])
              have hle : rows.length * szT P e ≤ cs.toList.length := by
                have hcl : cs.toList.length = cap * szT P e := by simpa using h4
                rw [hcl]; exact Nat.mul_le_mul_right _ h2
              refine ⟨_, cs.toList.take (rows.length * szT P e), q1, k2.trans q2, rfl, rfl, ?_, ?_, hold⟩
              · rw [h1]
                refine Src.slice (by rw [List.length_take]; omega) (fun u hu => owRows_one h5 u hu) (fun _ => ⟨b, 0, rfl, fun j v hj => ?_⟩)
                rw [List.getElem?_take] at hj
                split at hj
                · have := full_cell (w := w) h3 (0 + j)
                  rw [Nat.zero_add] at this ⊢
                  rw [hj] at this
                  exact this
                · cases hj
              · exact owRows_take (by rw [List.take_take, Nat.min_self]) (owRows_keep (k2.view.trans' q2.view) h5)
  | ptr _ _ => exact (run_fail h).elim
  | eptr _ _ _ _ => exact (run_fail h).elim
  | rptr _ _ => exact (run_fail h).elim
  | kptr _ => exact (run_fail h).elim
  | clo _ _ _ => exact (run_fail h).elim
  | agg _ => exact (run_fail h).elim
  | tup _ => exact (run_fail h).elim
  | undef => exact (run_fail h).elim
end
end Go.Vm

namespace Go.Vm
open Go
section
variable {base : Nat} {U : Nat → Prop} {M0 : List Nat} {w0 w w' : World} {m m' : Mem} {G G' G1 : GS} {P : Program}
theorem run_ck' {b : Bool} {l : Log} {x : Unit} {l' : Log} (h : (ck b).run m l = some (x, m', l')) : b = true ∧ m = m' ∧ l = l' := by
  obtain ⟨h1, h2, h3⟩ := run_ck h
  exact ⟨h1, h2.symm, h3.symm⟩
theorem roomB_le {a : Nat} (h : Nat.ble a roomB = true) : a ≤ 140737488355328 := Nat.le_of_ble_eq_true h
theorem keep_mono {M M' : List Nat} (h : Keep M w w') (hs : ∀ b, b ∈ M → b ∈ M') : Keep M' w w' := ⟨h.os, h.tape, h.output, h.size, fun b hb hn => h.block b hb (fun hx => hn (hs b hx))⟩
theorem keep_fresh {w1 : World} {o : Obj} (h : Keep [] w w1) : Keep [] w (w1.alloc o) := h.trans (keep_alloc (M := [])) (by simp)
theorem newRowsS_ok (hg : Gok base U w m G) (ho : G.out = []) (hfr : Fr M0 w0 w G) {w1 : World} (hw1 : w1.heap = w.heap) (hk1 : Keep [] w w1) {k : Nat} {fl : Bool} {s cap : Nat} {rows : List Row} {arr : Array Value} {T : TypeId} (hq : rowsS (heapOf w) (Gh U w G) fl s rows arr.toList G.E)
    (hcap : rows.length ≤ cap) (hsz : arr.size = cap * s) {u : Unit} {l l' : Log} (h : (new k (.arr false fl 0 s rows)).run m l = some (u, m', l')) :
    ∃ G', Nx base U M0 w0 w m G (w1.alloc (.cells arr T)) m' G' ∧ simV G'.μ m' (Gh U (w1.alloc (.cells arr T)) G') (.own k 0) (.slice (some ⟨w.heap.size, 0, none⟩) rows.length cap) := by
  obtain ⟨hn, rfl⟩ := run_new h
  have hsize : (w1.alloc (.cells arr T)).heap.size = w.heap.size + 1 := by rw [World.size_alloc, hw1]
  have hkeep : Keep [] w (w1.alloc (.cells arr T)) := keep_fresh hk1
  have hnE : w.heap.size ∉ G.E := fun hE => by have := (hg.lt _ (.inl hE)).1; omega
  refine ⟨_, hg.fresh ho hfr (gv := .slice (some ⟨w.heap.size, 0, none⟩) rows.length cap) (N := w.heap.size :: G.E) hn hkeep (List.nodup_cons.2 ⟨hnE, hg.ndE⟩) ?_ ?_, ?_⟩
  · intro b hb
    simp only [List.mem_cons] at hb
    rcases hb with rfl | hb
    · exact ⟨.inr (Nat.le_refl _), by rw [hsize]; omega⟩
    · exact ⟨.inl hb, by rw [hsize]; have := (hg.lt b (.inl hb)).1; omega⟩
  · intro h' hv hml hvis
    simp only [simCell, upM_same]
    refine .inr ⟨w.heap.size, cap, arr, T, G.E, rfl, hcap, heap_new hw1, hsz, ?_, rfl⟩
    have := rowsS_mono (H' := heapOf (w1.alloc (.cells arr T))) hv (fun b hb => hkeep.block b (hg.lt b (.inl hb)).1 (by simp)) hq
    cases fl with
    | true => exact this
    | false => exact this
  · simp [simV, get_put_same, isSl]
theorem size_zeros {z : Value} {n s : Nat} (h : z.cells.size = s) : (Builtin.zeroCells z.cells n).size = n * s := by simp [Builtin.zeroCells, h]
theorem opR_que (t1 : Gok base U w m G1) {m0 : Mem} (t2 : GLe m0 G m G1) (ho1 : G1.out = []) (hfr1 : Fr M0 w0 w G1) {r ver s : Nat} {rows ys : List Row} (hc : get r m = some (.que ver s rows)) {t ty ry e : TypeId} {inf : TypeInfo} {zv gy : Value} {news : List Value}
    (hu : P.underlying t = some (.slice e)) (hty' : (∃ e', P.underlying ty = some (.slice e')) ∨ P.underlying ty = some .string) (hi : P.info? e = some inf) (hzv : inf.zero = some zv) (hsz : s = inf.size) (hzs : zv.cells.size = s) (hsrc : Src P inf.size w gy ys.length news)
    (hrows : rowsS (heapOf w) (Gh U w G1) true s ys news G1.E) (hb1 : (rows.length + ys.length) * inf.bytes ≤ 140737488355328) (hb2 : rows.length + ys.length ≤ 140737488355328) (hcell : queS (heapOf w) (Gh U w G1) s rows (G1.μ r) (G1.F r)) :
    OpR base U M0 w0 w m0 G P (Builtin.append_ #[t, ty] ry #[G1.μ r, gy]) (.own r (ver + 1)) (put r (.que (ver + 1) s (rows ++ ys)) m) := by
  have hnl : news.length = ys.length * s := by rw [hsz]; exact hsrc.n
  have hver : ¬ ver = ver + 1 := by omega
  have hE : G1.E = [] := hrows.2
  have hsn : seenRows (Gh U w G1) s ys news := hrows.1
  have fin : ∀ (w' : World) (g : Value) (N : List Nat), Keep (G1.F r) w w' → N.Nodup → (∀ b, b ∈ N → (b ∈ G1.F r ∨ b ∈ G1.E ∨ w.heap.size ≤ b) ∧ b < w'.heap.size) →
      (∀ h' : View, (Gh U w G1).le h' → queS (heapOf w') h' s (rows ++ ys) g N) → (Builtin.append_ #[t, ty] ry #[G1.μ r, gy]).run P w = .ok g w' → isSl g →
      OpR base U M0 w0 w m0 G P (Builtin.append_ #[t, ty] ry #[G1.μ r, gy]) (.own r (ver + 1)) (put r (.que (ver + 1) s (rows ++ ys)) m) := by
    intro w' g N hk hN hNs hsim hrun hone
    refine ⟨g, w', _, hrun, Nx.after t2 (t1.rewrite ho1 hfr1 (μ' := upM G1.μ r g) (N := N) hc hk hN hNs (fun k hk => upM_other g hk) ⟨by omega, fun e => absurd e hver⟩ (fun h' hv hml _ => ?_)), ?_⟩
    · simp only [simCell, upM_same]; exact hsim h' hv
    · simp [simV, get_put_same, hone]
  have fresh : ∀ (olds : List Value) (cap : Nat) , olds.length = rows.length * s → (∀ h' : View, (Gh U w G1).le h' → seenRows h' s rows olds) → rows.length + ys.length ≤ cap →
      (Builtin.append_ #[t, ty] ry #[G1.μ r, gy]).run P w = .ok (.slice (some ⟨w.heap.size, 0, none⟩) (rows.length + ys.length) cap) (w.drew.alloc (.cells ((olds ++ news).toArray ++ Builtin.zeroCells zv.cells (cap - (rows.length + ys.length))) e)) →
      OpR base U M0 w0 w m0 G P (Builtin.append_ #[t, ty] ry #[G1.μ r, gy]) (.own r (ver + 1)) (put r (.que (ver + 1) s (rows ++ ys)) m) := by
    intro olds cap hol hos hcap hrun
    have hkeep : Keep [] w (w.drew.alloc (.cells ((olds ++ news).toArray ++ Builtin.zeroCells zv.cells (cap - (rows.length + ys.length))) e)) := keep_fresh keep_drew
    have hsize : (w.drew.alloc (.cells ((olds ++ news).toArray ++ Builtin.zeroCells zv.cells (cap - (rows.length + ys.length))) e)).heap.size = w.heap.size + 1 := by rw [World.size_alloc]; rfl
    refine fin _ _ [w.heap.size] (keep_mono hkeep (by simp)) (by simp) ?_ ?_ hrun ⟨_, _, _, rfl⟩
    · intro k hk
      simp only [List.mem_singleton] at hk
      subst hk
      exact ⟨.inr (.inr (Nat.le_refl _)), by rw [hsize]; omega⟩
    · intro h' hv
      refine .inr ⟨w.heap.size, 0, cap, _, e, by simp, by simpa using hcap, heap_new rfl, ?_, ?_, rfl⟩
      · rw [Array.size_append, size_zeros hzs]
        simp only [List.size_toArray, List.length_append, hol, hnl]
        rw [← Nat.add_mul, ← Nat.add_mul, Nat.zero_add]
        exact Nat.mul_le_mul_right _ (by omega)
      · rw [List.drop_zero, Array.toList_append]
        refine seenRows_append.2 ⟨seenRows_take (cs := olds) ?_ (hos h' hv), seenRows_take (cs := news) ?_ (seenRows_mono hv _ _ _ hsn)⟩
        · simp only [List.append_assoc]
          rw [List.take_append_of_le_length (by omega)]
        · simp only [List.append_assoc]
          rw [← hol, List.drop_left, List.take_append_of_le_length (by omega)]
  rcases hcell with ⟨rfl, hμ, hF⟩ | ⟨b, o, cap, cs, T, k1, k2, k3, k4, k5, k6⟩
  · by_cases hy0 : ys = []
    · subst hy0
      refine fin w (.slice none 0 0) [] (Keep.refl _ _) (by simp) (by simp) (fun h' hv => .inl ⟨rfl, rfl, rfl⟩) ?_ ⟨_, _, _, rfl⟩
      rw [hμ]
      exact run_append_zero hu hty' hi hsrc
    · have hm : ys.length ≠ 0 := by simpa using hy0
      obtain ⟨cap, hcap, hrun⟩ := run_append_none (w := w) (ty := ry) hu hty' hi hzv hsrc hm (by simpa using hb2) (by simpa using hb1)
      refine fresh [] cap (by simp) (fun _ _ => trivial) (by simpa using hcap) ?_
      rw [hμ]
      simpa using hrun
  · have hbF : b ∈ G1.F r := by rw [k6]; simp
    have hcl : o + cap * s ≤ cs.toList.length := by simpa using k4
    have hrl : rows.length * s ≤ cap * s := Nat.mul_le_mul_right _ k2
    by_cases hroom : rows.length + ys.length ≤ cap
    · have hrun := run_append_fits_at (ty := ry) (o := o) hu hty' hi hsrc k3 hroom (by rw [← hsz]; exact k4)
      rw [← hsz] at hrun
      have hh := setRow_heap w b cs (splice cs.toList (o + rows.length * s) news).toArray T (0, 0) k3
      have hfit : o + rows.length * s + news.length ≤ cs.toList.length := by
        have := Nat.mul_le_mul_right s hroom
        rw [Nat.add_mul] at this
        rw [hnl]
        omega
      have hsz2 : (w.setRow b (splice cs.toList (o + rows.length * s) news).toArray).heap.size = w.heap.size := by simp [World.setRow]
      refine fin _ (.slice (some ⟨b, o, none⟩) (rows.length + ys.length) cap) [b] (keep_setRow hbF) (by simp) ?_ ?_ (by rw [k1]; exact hrun) ⟨_, _, _, rfl⟩
      · intro k hk
        simp only [List.mem_singleton] at hk
        subst hk
        rw [hsz2]
        exact ⟨.inl hbF, (t1.lt _ (.inr ⟨r, hbF⟩)).1⟩
      · intro h' hv
        refine .inr ⟨b, o, cap, _, T, by simp, by simpa using hroom, hh, ?_, ?_, rfl⟩
        · have := splice_length (l := cs.toList) (xs := news) (o := o + rows.length * s) hfit
          simp only [List.size_toArray]
          rw [this]
          exact hcl
        · have e1 : (splice cs.toList (o + rows.length * s) news).drop o = (cs.toList.drop o).take (rows.length * s) ++ (news ++ cs.toList.drop (o + rows.length * s + news.length)) := by
            simp only [splice, List.append_assoc]
            rw [List.drop_append_of_le_length (by rw [List.length_take]; omega), List.drop_take]
            congr 2
            omega
          have l1 : ((cs.toList.drop o).take (rows.length * s)).length = rows.length * s := by rw [List.length_take, List.length_drop]; omega
          rw [e1]
          refine seenRows_append.2 ⟨seenRows_take (cs := cs.toList.drop o) ?_ (seenRows_mono hv _ _ _ k5), seenRows_take (cs := news) ?_ (seenRows_mono hv _ _ _ hsn)⟩
          · rw [List.take_append_of_le_length (by omega), List.take_take, Nat.min_self]
          · rw [List.drop_append_of_le_length (by omega), List.drop_eq_nil_of_le (by omega), List.nil_append, List.take_append_of_le_length (by omega)]
    · have hlt : cap < rows.length + ys.length := by omega
      obtain ⟨cap', hcap', hrun⟩ := run_append_more_at (ty := ry) (o := o) (olds := (cs.toList.drop o).take (rows.length * s)) hu hty' hi hzv hsrc (by rw [List.length_take, List.length_drop, ← hsz]; omega) (fun j u hj => by
        rw [List.getElem?_take] at hj
        split at hj
        · rw [List.getElem?_drop] at hj
          have := full_cell (w := w) k3 (o + j)
          rw [hj] at this
          exact this
        · cases hj) hlt hb2 hb1
      refine fresh ((cs.toList.drop o).take (rows.length * s)) cap' (by rw [List.length_take, List.length_drop]; omega) (fun h' hv => seenRows_take (cs := cs.toList.drop o) (by rw [List.take_take, Nat.min_self]) (seenRows_mono hv _ _ _ k5)) hcap' ?_
      rw [k1]
      exact hrun
theorem appendV_ok (hA : At base U M0 w0 w m G) {dst : Nat} {t ty ry : TypeId} {x y : V} {gx gy : Value} (hx : simV G.μ m (Gh U w G) x gx) (hy : simV G.μ m (Gh U w G) y gy) {v : V} {l l' : Log} (h : (appendV P dst t ty x y).run m l = some (v, m', l')) :
    OpR base U M0 w0 w m G P (Builtin.append_ #[t, ty] ry #[gx, gy]) v m' := by
  simp only [appendV] at h
  replace h := run_bind_some h; obtain ⟨e, m1, l1, h1, h⟩ := h
  obtain ⟨he, rfl, rfl⟩ := run_op' h1
  replace h := run_bind_some h; obtain ⟨_, m1, l1, h1, h⟩ := h
  obtain ⟨hs1, rfl, rfl⟩ := run_ck h1
  replace h := run_bind_some h; obtain ⟨_, m1, l1, h1, h⟩ := h
  obtain ⟨hty, rfl, rfl⟩ := run_ck h1
  replace h := run_bind_some h; obtain ⟨z, m1, l1, h1, h⟩ := h
  obtain ⟨hz, rfl, rfl⟩ := run_op' h1
  replace h := run_bind_some h; obtain ⟨_, m1, l1, h1, h⟩ := h
  obtain ⟨hzs, rfl, rfl⟩ := run_ck h1
  replace h := run_bind_some h; obtain ⟨ys, m2, l2, h2, h⟩ := h
  have hs1 := Nat.le_of_ble_eq_true hs1
  have hu := elT_some he
  have hty' : (∃ e', P.underlying ty = some (.slice e')) ∨ P.underlying ty = some .string := by
    cases hq : P.underlying ty with
    | none => simp [hq] at hty
    | some d => rw [hq] at hty; cases d <;> simp at hty <;> simp
  obtain ⟨G1, news, t1, t2, t3, t4, hsrc, hrows, hold⟩ := (tail_ok hA hy hs1 h2).ex
  have hfr1 : Fr M0 w0 w G1 := hA.fr.less t2.ex
  have ho1 : G1.out = [] := t3.trans hA.out
  obtain ⟨inf, zv, hi, hzv, hzsim⟩ := zeroRow_ok (m := m1) (μ := G.μ) (h := Gh U w G) hz
  have hzs : zv.cells.size = szT P e := by rw [← Nat.eq_of_beq_eq_true hzs, ← simVs_length hzsim, Array.length_toList]
  have hsz : szT P e = inf.size := szT_eq hi
  have hby : bytesT P e = inf.bytes := by simp [bytesT, hi]
  rw [hsz] at hsrc
  cases x with
  | nil s0 =>
    simp only at h
    replace h := run_bind_some h; obtain ⟨_, m3, l3, h3, h⟩ := h
    obtain ⟨hb1, rfl, rfl⟩ := run_ck h3
    replace h := run_bind_some h; obtain ⟨_, m3, l3, h3, h⟩ := h
    obtain ⟨hb2, rfl, rfl⟩ := run_ck h3
    replace h := run_bind_some h; obtain ⟨_, m3, l3, h3, h⟩ := h
    simp only [run_pure, Option.some.injEq, Prod.mk.injEq] at h
    obtain ⟨rfl, rfl, _⟩ := h
    simp only [simV] at hx
    subst hx
    have hb1 := roomB_le hb1
    have hb2 := roomB_le hb2
    rw [hby] at hb1
    by_cases hy0 : ys = []
    · subst hy0
      obtain ⟨hn, rfl⟩ := run_new h3
      refine ⟨_, w, _, run_append_zero hu hty' hi hsrc, Nx.after t2 (t1.fresh ho1 hfr1 (gv := .slice none 0 0) (N := []) hn (Keep.refl _ _) (by simp) (by simp) (fun h' hv hml _ => ?_)), ?_⟩
      · simp only [simCell, upM_same]; exact .inl ⟨rfl, rfl, rfl⟩
      · simp [simV, get_put_same, isSl]
    · have hm : ys.length ≠ 0 := by simpa using hy0
      obtain ⟨cap, hcap, hrun⟩ := run_append_none (w := w) (ty := ry) hu hty' hi hzv hsrc hm hb2 hb1
      obtain ⟨G2, hnx, hsim⟩ := newRowsS_ok (w1 := w.drew) (cap := cap) (arr := news.toArray ++ Builtin.zeroCells zv.cells (cap - ys.length)) (T := e) t1 ho1 hfr1 rfl keep_drew (k := dst) (fl := flatT P e) (s := szT P e) (rows := ys)
        (rowsS_take (by
          have hnl : news.length = ys.length * szT P e := by rw [hsz]; exact hsrc.n
          simp only [Array.toList_append]
          rw [List.take_append_of_le_length (by omega)]) hrows) hcap (by
          rw [Array.size_append, size_zeros hzs, hsz]
          have hnl : news.toArray.size = ys.length * inf.size := by simpa using hsrc.n
          rw [hnl, ← Nat.add_mul]; congr 1; omega) h3
      exact ⟨_, _, G2, hrun, Nx.after t2 hnx, hsim⟩
  | own r ver =>
    simp only at h
    replace h := run_bind_some h; obtain ⟨c, m3, l3, h3, h⟩ := h
    rw [run_rd] at h3
    cases h3
    replace hx := t2.simV hx
    cases hc : get r m2 with
    | none => rw [hc] at h; exact (run_fail h).elim
    | some c =>
    rw [hc] at h
    cases c with
    | box _ _ => exact (run_fail h).elim
    | dead => exact (run_fail h).elim
    | kbox _ _ => exact (run_fail h).elim
    | loan _ _ _ _ _ => exact (run_fail h).elim
    | que ver' s rows =>
      simp only at h
      replace h := run_bind_some h; obtain ⟨_, m4, l4, h4, h⟩ := h
      obtain ⟨hb, rfl, rfl⟩ := run_ck' h4
      have hb := Nat.eq_of_beq_eq_true hb
      subst hb
      replace h := run_bind_some h; obtain ⟨_, m4, l4, h4, h⟩ := h
      obtain ⟨hs, rfl, rfl⟩ := run_ck' h4
      have hs := Nat.eq_of_beq_eq_true hs
      subst hs
      replace h := run_bind_some h; obtain ⟨_, m4, l4, h4, h⟩ := h
      obtain ⟨hfl, rfl, rfl⟩ := run_ck' h4
      rw [hfl] at hrows
      replace h := run_bind_some h; obtain ⟨_, m4, l4, h4, h⟩ := h
      obtain ⟨hb1, rfl, rfl⟩ := run_ck' h4
      have hb1 := roomB_le hb1
      rw [hby] at hb1
      replace h := run_bind_some h; obtain ⟨_, m4, l4, h4, h⟩ := h
      obtain ⟨hb2, rfl, rfl⟩ := run_ck' h4
      have hb2 := roomB_le hb2
      replace h := run_bind_some h; obtain ⟨_, m4, l4, h4, h⟩ := h
      rw [run_wr] at h4
      cases h4
      simp only [run_pure, Option.some.injEq, Prod.mk.injEq] at h
      obtain ⟨rfl, rfl, _⟩ := h
      simp only [simV, hc] at hx
      have hx := hx.2.2 trivial
      subst hx
      have hcell := t1.cell r _ hc (by rw [ho1]; simp)
      exact opR_que t1 t2 ho1 hfr1 hc hu hty' hi hzv hsz hzs hsrc hrows hb1 hb2 hcell
    | arr fz fl ver' s rows =>
    cases fz with
    | true => exact (run_fail h).elim
    | false =>
    simp only at h
    replace h := run_bind_some h; obtain ⟨_, m4, l4, h4, h⟩ := h
    obtain ⟨hb, rfl, rfl⟩ := run_ck' h4
    have hb := Nat.eq_of_beq_eq_true hb
    subst hb
    replace h := run_bind_some h; obtain ⟨_, m4, l4, h4, h⟩ := h
    obtain ⟨hs, rfl, rfl⟩ := run_ck' h4
    have hs := Nat.eq_of_beq_eq_true hs
    subst hs
    replace h := run_bind_some h; obtain ⟨_, m4, l4, h4, h⟩ := h
    obtain ⟨hfl, rfl, rfl⟩ := run_ck' h4
    have hfl : fl = flatT P e := by cases fl <;> cases hq : flatT P e <;> simp_all
    rw [← hfl] at hrows
    replace h := run_bind_some h; obtain ⟨_, m4, l4, h4, h⟩ := h
    obtain ⟨hb1, rfl, rfl⟩ := run_ck' h4
    have hb1 := roomB_le hb1
    rw [hby] at hb1
    replace h := run_bind_some h; obtain ⟨_, m4, l4, h4, h⟩ := h
    obtain ⟨hb2, rfl, rfl⟩ := run_ck' h4
    have hb2 := roomB_le hb2
    replace h := run_bind_some h; obtain ⟨_, m4, l4, h4, h⟩ := h
    rw [run_wr] at h4
    cases h4
    simp only [run_pure, Option.some.injEq, Prod.mk.injEq] at h
    obtain ⟨rfl, rfl, _⟩ := h
    simp only [simV, hc] at hx
    have hx := hx.2.2 trivial
    subst hx
    have hcell := t1.cell r _ hc (by rw [ho1]; simp)
    have hnl : news.length = ys.length * szT P e := by rw [hsz]; exact hsrc.n
    have hver : ¬ ver = ver + 1 := by omega
    have hEd : ∀ b, b ∈ G1.F r → b ∉ G1.E := fun b => t1.djE r b
    have fin : ∀ (w' : World) (g : Value) (N : List Nat), Keep (G1.F r) w w' → N.Nodup → (∀ b, b ∈ N → (b ∈ G1.F r ∨ b ∈ G1.E ∨ w.heap.size ≤ b) ∧ b < w'.heap.size) →
        (∀ h' : View, (Gh U w G1).le h' → arrS (heapOf w') h' fl (szT P e) (rows ++ ys) g N) → (Builtin.append_ #[t, ty] ry #[G1.μ r, gy]).run P w = .ok g w' → isSl g →
        OpR base U M0 w0 w m1 G P (Builtin.append_ #[t, ty] ry #[G1.μ r, gy]) (.own r (ver + 1)) (put r (.arr false fl (ver + 1) (szT P e) (rows ++ ys)) m2) := by
      intro w' g N hk hN hNs hsim hrun hone
      refine ⟨g, w', _, hrun, Nx.after t2 (t1.rewrite ho1 hfr1 (μ' := upM G1.μ r g) (N := N) hc hk hN hNs (fun k hk => upM_other g hk) ⟨by omega, rfl, fun e => absurd e hver⟩ (fun h' hv hml _ => ?_)), ?_⟩
      · simp only [simCell, upM_same]; exact hsim h' hv
      · simp [simV, get_put_same, hone]
    simp only [simCell] at hcell
    rcases hcell with ⟨rfl, hμ, hF⟩ | ⟨b, cap, cs, T, N', k1, k2, k3, k4, k5, k6⟩
    ·
      by_cases hy0 : ys = []
      · subst hy0
        refine fin w (.slice none 0 0) [] (Keep.refl _ _) (by simp) (by simp) (fun h' hv => .inl ⟨rfl, rfl, rfl⟩) ?_ ⟨_, _, _, rfl⟩
        rw [hμ]
        exact run_append_zero hu hty' hi hsrc
      · have hm : ys.length ≠ 0 := by simpa using hy0
        obtain ⟨cap, hcap, hrun⟩ := run_append_none (w := w) (ty := ry) hu hty' hi hzv hsrc hm (by simpa using hb2) (by simpa using hb1)
        have hkeep : Keep [] w (w.drew.alloc (.cells (news.toArray ++ Builtin.zeroCells zv.cells (cap - ys.length)) e)) := keep_fresh keep_drew
        have hsize : (w.drew.alloc (.cells (news.toArray ++ Builtin.zeroCells zv.cells (cap - ys.length)) e)).heap.size = w.heap.size + 1 := by rw [World.size_alloc]; rfl
        have hnE : w.heap.size ∉ G1.E := fun hE => by have := (t1.lt _ (.inl hE)).1; omega
        refine fin _ _ (w.heap.size :: G1.E) (keep_mono hkeep (by simp)) (List.nodup_cons.2 ⟨hnE, t1.ndE⟩) ?_ ?_ (by rw [hμ]; exact hrun) ⟨_, _, _, rfl⟩
        · intro k hk
          simp only [List.mem_cons] at hk
          rcases hk with rfl | hk
          · exact ⟨.inr (.inr (Nat.le_refl _)), by rw [hsize]; omega⟩
          · exact ⟨.inr (.inl hk), by rw [hsize]; have := (t1.lt k (.inl hk)).1; omega⟩
        · intro h' hv
          refine .inr ⟨w.heap.size, cap, _, e, G1.E, rfl, by simpa using hcap, heap_new rfl, ?_, ?_, rfl⟩
          · rw [Array.size_append, size_zeros hzs, hsz]
            have hnl : news.toArray.size = ys.length * inf.size := by simpa using hsrc.n
            rw [hnl, ← Nat.add_mul]; congr 1; omega
          · have h1 := rowsS_mono hv (fun b hb => hkeep.block b (t1.lt b (.inl hb)).1 (by simp)) hrows
            have h2 := rowsS_take (cs' := (news.toArray ++ Builtin.zeroCells zv.cells (cap - ys.length)).toList) (by simp only [Array.toList_append]; rw [List.take_append_of_le_length (by omega)]) h1
            rw [List.nil_append]
            cases fl with
            | true => exact h2
            | false => exact h2
    · have hbF : b ∈ G1.F r := by rw [k6]; simp
      have hndF := t1.nd r
      rw [k6] at hndF
      have hN'F : ∀ k, k ∈ N' → k ∈ G1.F r := fun k hk => by rw [k6]; simp [hk]
      have hndNE : (N' ++ G1.E).Nodup := List.nodup_append.2 ⟨(List.nodup_cons.1 hndF).2, t1.ndE, fun a ha c hc e => hEd a (hN'F a ha) (e ▸ hc)⟩
      have hcl : cs.toList.length = cap * szT P e := by simpa using k4
      have hrl : rows.length * szT P e ≤ cs.toList.length := by rw [hcl]; exact Nat.mul_le_mul_right _ k2
      have k5' : rowsS (heapOf w) (Gh U w G1) fl (szT P e) rows cs.toList N' := by
        cases fl with
        | true => exact k5
        | false => exact k5
      by_cases hroom : rows.length + ys.length ≤ cap
      ·
        have hrun := run_append_fits (ty := ry) hu hty' hi hsrc k3 hroom (by rw [k4, hsz])
        rw [← hsz] at hrun
        have hh := setRow_heap w b cs (splice cs.toList (rows.length * szT P e) news).toArray T (0, 0) k3
        have hfit : rows.length * szT P e + news.length ≤ cs.toList.length := by
          rw [hnl, hcl, ← Nat.add_mul]; exact Nat.mul_le_mul_right _ hroom
        have hoth : ∀ k, k ≠ b → heapOf (w.setRow b (splice cs.toList (rows.length * szT P e) news).toArray) k = heapOf w k := fun k hk => setRow_other w b k _ hk
        have hsz2 : (w.setRow b (splice cs.toList (rows.length * szT P e) news).toArray).heap.size = w.heap.size := by simp [World.setRow]
        have hbN : b ∉ N' ++ G1.E := by
          intro hx
          simp only [List.mem_append] at hx
          rcases hx with hx | hx
          · exact (List.nodup_cons.1 hndF).1 hx
          · exact hEd b hbF hx
        refine fin _ (.slice (some ⟨b, 0, none⟩) (rows.length + ys.length) cap) (b :: (N' ++ G1.E)) (keep_setRow hbF) (List.nodup_cons.2 ⟨hbN, hndNE⟩) ?_ ?_ (by rw [k1]; exact hrun) ⟨_, _, _, rfl⟩
        · intro k hk
          rw [hsz2]
          simp only [List.mem_cons, List.mem_append] at hk
          rcases hk with rfl | hk | hk
          · exact ⟨.inl hbF, (t1.lt _ (.inr ⟨r, hbF⟩)).1⟩
          · exact ⟨.inl (hN'F k hk), (t1.lt _ (.inr ⟨r, hN'F k hk⟩)).1⟩
          · exact ⟨.inr (.inl hk), (t1.lt _ (.inl hk)).1⟩
        · intro h' hv
          refine .inr ⟨b, cap, _, T, N' ++ G1.E, by simp, by simpa using hroom, hh, ?_, ?_, rfl⟩
          · have := splice_length (l := cs.toList) (xs := news) (o := rows.length * szT P e) hfit
            simp only [List.size_toArray]
            rw [this, hcl]
          · have h1 := rowsS_mono (H' := heapOf (w.setRow b (splice cs.toList (rows.length * szT P e) news).toArray)) hv (fun k hk => hoth k (fun e => hbN (by rw [← e]; simp [hk]))) k5'
            have h2 := rowsS_mono (H' := heapOf (w.setRow b (splice cs.toList (rows.length * szT P e) news).toArray)) hv (fun k hk => hoth k (fun e => hbN (by rw [← e]; simp [hk]))) hrows
            have h3 := rowsS_append (rowsS_take (cs' := splice cs.toList (rows.length * szT P e) news) (by
              simp only [splice, List.append_assoc]
              rw [List.take_append_of_le_length (by simp; omega), List.take_take, Nat.min_self]) h1) (rowsS_take (cs' := (splice cs.toList (rows.length * szT P e) news).drop (rows.length * szT P e)) (by
              simp only [splice, List.append_assoc]
              rw [List.drop_append_of_le_length (by simp; omega)]
              have : (cs.toList.take (rows.length * szT P e)).drop (rows.length * szT P e) = [] := by simp
              rw [this, List.nil_append, List.take_append_of_le_length (by omega)]) h2)
            cases fl with
            | true => simpa [rowsS] using h3
            | false => simpa [rowsS] using h3
      ·
        have hlt : cap < rows.length + ys.length := by omega
        obtain ⟨cap', hcap', hrun⟩ := run_append_more (ty := ry) (olds := cs.toList.take (rows.length * szT P e)) hu hty' hi hzv hsrc (by rw [List.length_take, ← hsz]; omega) (fun j u hj => by
          rw [List.getElem?_take] at hj
          split at hj
          · have := full_cell (w := w) k3 (0 + j)
            rw [Nat.zero_add] at this ⊢
            rw [hj] at this
            exact this
          · cases hj) hlt hb2 hb1
        have hkeep : Keep [] w (w.drew.alloc (.cells ((cs.toList.take (rows.length * szT P e) ++ news).toArray ++ Builtin.zeroCells zv.cells (cap' - (rows.length + ys.length))) e)) := keep_fresh keep_drew
        have hsize : (w.drew.alloc (.cells ((cs.toList.take (rows.length * szT P e) ++ news).toArray ++ Builtin.zeroCells zv.cells (cap' - (rows.length + ys.length))) e)).heap.size = w.heap.size + 1 := by rw [World.size_alloc]; rfl
        have hnNE : w.heap.size ∉ N' ++ G1.E := fun hE => by
          simp only [List.mem_append] at hE
          rcases hE with hE | hE
          · have := (t1.lt _ (.inr ⟨r, hN'F _ hE⟩)).1; omega
          · have := (t1.lt _ (.inl hE)).1; omega
        refine fin _ (.slice (some ⟨w.heap.size, 0, none⟩) (rows.length + ys.length) cap') (w.heap.size :: (N' ++ G1.E)) (keep_mono hkeep (by simp)) (List.nodup_cons.2 ⟨hnNE, hndNE⟩) ?_ ?_ (by rw [k1]; exact hrun) ⟨_, _, _, rfl⟩
        · intro k hk
          rw [hsize]
          simp only [List.mem_cons, List.mem_append] at hk
          rcases hk with rfl | hk | hk
          · exact ⟨.inr (.inr (Nat.le_refl _)), by omega⟩
          · exact ⟨.inl (hN'F k hk), by have := (t1.lt _ (.inr ⟨r, hN'F k hk⟩)).1; omega⟩
          · exact ⟨.inr (.inl hk), by have := (t1.lt _ (.inl hk)).1; omega⟩
        · intro h' hv
          refine .inr ⟨w.heap.size, cap', _, e, N' ++ G1.E, by simp, by simpa using hcap', heap_new rfl, ?_, ?_, rfl⟩
          · rw [Array.size_append, size_zeros hzs]
            simp only [List.size_toArray, List.length_append, List.length_take, hnl]
            rw [Nat.min_eq_left hrl, ← Nat.add_mul, ← Nat.add_mul]; congr 1; omega
          · have h1 := rowsS_mono hv (fun b hb => hkeep.block b (t1.lt b (.inr ⟨r, hN'F b hb⟩)).1 (by simp)) k5'
            have h2 := rowsS_mono hv (fun b hb => hkeep.block b (t1.lt b (.inl hb)).1 (by simp)) hrows
            have l1 : (cs.toList.take (rows.length * szT P e)).length = rows.length * szT P e := by rw [List.length_take]; omega
            have h3 := rowsS_append (rowsS_take (cs' := ((cs.toList.take (rows.length * szT P e) ++ news).toArray ++ Builtin.zeroCells zv.cells (cap' - (rows.length + ys.length))).toList) (by
              simp only [Array.toList_append, List.append_assoc]
              rw [List.take_append_of_le_length (by omega), List.take_take, Nat.min_self]) h1) (rowsS_take (cs' := (((cs.toList.take (rows.length * szT P e) ++ news).toArray ++ Builtin.zeroCells zv.cells (cap' - (rows.length + ys.length))).toList).drop (rows.length * szT P e)) (by
              simp only [Array.toList_append, List.append_assoc]
              rw [List.drop_append_of_le_length (by omega), List.drop_eq_nil_of_le (by omega), List.nil_append, List.take_append_of_le_length (by omega)]) h2)
            cases fl with
            | true => exact h3
            | false => exact h3
  | d _ => exact (run_fail h).elim
  | ptr _ _ => exact (run_fail h).elim
  | eptr _ _ _ _ => exact (run_fail h).elim
  | rptr _ _ => exact (run_fail h).elim
  | kptr _ => exact (run_fail h).elim
  | clo _ _ _ => exact (run_fail h).elim
  | agg _ => exact (run_fail h).elim
  | tup _ => exact (run_fail h).elim
  | undef => exact (run_fail h).elim
end
end Go.Vm

namespace Go.Vm
open Go
section
variable {base : Nat} {U : Nat → Prop} {M0 : List Nat} {w0 w w' : World} {m m' : Mem} {G G' : GS} {P : Program}
theorem fieldAddrV_ok (hA : At base U M0 w0 w m G) {T f : Nat} {a : V} {ga : Value} (ha : simV G.μ m (Gh U w G) a ga) {v : V} {l l' : Log} (h : (fieldAddrV P T a f).run m l = some (v, m', l')) :
    OpR base U M0 w0 w m G P (Instr.fieldAt T ga f) v m' := by
  simp only [fieldAddrV] at h
  replace h := run_bind_some h; obtain ⟨⟨o, n, t⟩, m1, l1, h1, h⟩ := h
  obtain ⟨hf, rfl, rfl⟩ := run_op' h1
  simp only at h
  replace h := run_bind_some h; obtain ⟨_, m2, l2, h2, h⟩ := h
  obtain ⟨hn, rfl, rfl⟩ := run_ck h2
  have hn := Nat.le_of_ble_eq_true hn
  cases a with
  | ptr r off =>
    simp only [run_pure, Option.some.injEq, Prod.mk.injEq] at h
    obtain ⟨rfl, rfl, _⟩ := h
    simp only [simV] at ha
    obtain ⟨⟨b, o', rfl⟩, ha⟩ := ha
    refine OpR.same hA (run_fieldAt hf hn) ?_
    simp only [simV]
    refine ⟨⟨_, _, rfl⟩, ?_⟩
    split at ha
    · obtain ⟨b1, hμ, e⟩ := ha
      simp only [Value.pointer.injEq, Option.some.injEq, Addr.mk.injEq] at e
      obtain ⟨rfl, rfl, _⟩ := e
      exact ⟨_, hμ, rfl⟩
    · obtain ⟨b1, hμ, e⟩ := ha
      simp only [Value.pointer.injEq, Option.some.injEq, Addr.mk.injEq] at e
      obtain ⟨rfl, rfl, _⟩ := e
      exact ⟨_, hμ, rfl⟩
    · trivial
    · exact ha
  | kptr _ => exact (run_fail h).elim
  | rptr row off =>
    simp only [run_pure, Option.some.injEq, Prod.mk.injEq] at h
    obtain ⟨rfl, rfl, _⟩ := h
    simp only [simV] at ha
    obtain ⟨b, o', rfl, hrow⟩ := ha
    refine OpR.same hA (run_fieldAt hf hn) ?_
    simp only [simV]
    exact ⟨b, o', by rw [Nat.add_assoc], hrow⟩
  | eptr r ver i off =>
    simp only [run_pure, Option.some.injEq, Prod.mk.injEq] at h
    obtain ⟨rfl, rfl, _⟩ := h
    simp only [simV] at ha
    obtain ⟨⟨b, o', rfl⟩, ha⟩ := ha
    refine OpR.same hA (run_fieldAt hf hn) ?_
    simp only [simV]
    refine ⟨⟨_, _, rfl⟩, ?_⟩
    split at ha
    · refine ⟨ha.1, fun e => ?_⟩
      obtain ⟨b1, n1, cap, hμ, e1⟩ := ha.2 e
      simp only [Value.pointer.injEq, Option.some.injEq, Addr.mk.injEq] at e1
      obtain ⟨rfl, rfl, _⟩ := e1
      exact ⟨_, n1, cap, hμ, by rw [Nat.add_assoc]⟩
    · trivial
    · refine ⟨ha.1, fun e => ?_⟩
      obtain ⟨b1, o1, n1, cap, hμ, e1⟩ := ha.2 e
      simp only [Value.pointer.injEq, Option.some.injEq, Addr.mk.injEq] at e1
      obtain ⟨rfl, rfl, _⟩ := e1
      exact ⟨_, o1, n1, cap, hμ, by simp only [Nat.add_assoc]⟩
    · refine ⟨ha.1, fun e => ?_⟩
      obtain ⟨b1, n1, cap, hμ, e1⟩ := ha.2 e
      simp only [Value.pointer.injEq, Option.some.injEq, Addr.mk.injEq] at e1
      obtain ⟨rfl, rfl, _⟩ := e1
      exact ⟨_, n1, cap, hμ, by rw [Nat.add_assoc]⟩
    · exact ha
  | d _ => exact (run_fail h).elim
  | nil _ => exact (run_fail h).elim
  | own _ _ => exact (run_fail h).elim
  | clo _ _ _ => exact (run_fail h).elim
  | agg _ => exact (run_fail h).elim
  | tup _ => exact (run_fail h).elim
  | undef => exact (run_fail h).elim
theorem fieldV_ok (hA : At base U M0 w0 w m G) {T f : Nat} {a : V} {ga : Value} (ha : simV G.μ m (Gh U w G) a ga) {v : V} {l l' : Log} (h : (fieldV P T a f).run m l = some (v, m', l')) :
    OpR base U M0 w0 w m G P (Instr.field T ga f) v m' := by
  simp only [fieldV] at h
  replace h := run_bind_some h; obtain ⟨⟨o, n, t⟩, m1, l1, h1, h⟩ := h
  obtain ⟨hf, rfl, rfl⟩ := run_op' h1
  simp only at h
  cases a with
  | agg cs =>
    simp only at h
    replace h := run_bind_some h; obtain ⟨_, m2, l2, h2, h⟩ := h
    obtain ⟨hfit, rfl, rfl⟩ := run_ck h2
    replace h := run_bind_some h; obtain ⟨_, m2, l2, h2, h⟩ := h
    obtain ⟨hok, rfl, rfl⟩ := run_ck h2
    obtain ⟨hv, rfl, rfl⟩ := run_op' h
    simp only [simV] at ha
    obtain ⟨arr, rfl, hs⟩ := ha
    have hfit := Nat.le_of_ble_eq_true hfit
    have hp := simVs_part o n hs
    have hal : arr.size = cs.length := by simpa using simVs_length hs
    obtain ⟨g, hg⟩ := mkVal hv hp
    refine OpR.same hA (g := g) ?_ (ofCells_ok hv hp hg)
    unfold fieldOf at hf
    cases hu : P.underlying T with
    | none => simp [hu] at hf
    | some d =>
      rw [hu] at hf
      cases d with
      | struct fs =>
        simp only at hf
        cases hfd : fs[f]? with
        | none => simp [hfd] at hf
        | some fd =>
          simp only [hfd, Option.some.injEq, Prod.mk.injEq] at hf
          obtain ⟨rfl, rfl, rfl⟩ := hf
          obtain ⟨d', hd'⟩ := okT_some hok
          obtain ⟨i, hi⟩ := info_some hd'
          unfold Instr.field
          simp only [Sem.run_bind, run_underlying hu, Result.andThen_ok, hfd]
          unfold Go.part
          simp only [Sem.run_bind, asAgg, Sem.run_pure, Result.andThen_ok, run_isAgg hd']
          unfold valOf at hg
          cases hag : aggT P fd.type with
          | true =>
            simp only [hag, if_true] at hg
            subst hg
            rw [szT_eq hi]
            have hex : arr.extract fd.offset (fd.offset + i.size) = (List.take i.size (List.drop fd.offset arr.toList)).toArray := by
              apply Array.ext'
              simp [Array.toList_extract, List.extract_eq_take_drop]
            simp [sizeOf, typeInfo, hi, hex]
          | false =>
            simp only [hag, Bool.false_eq_true, if_false] at hg
            have h0 : arr[fd.offset]? = some g := by
              have : (List.take (szT P fd.type) (List.drop fd.offset arr.toList))[0]? = some g := by rw [hg]; rfl
              rw [List.getElem?_take] at this
              split at this
              · rw [List.getElem?_drop, Nat.add_zero] at this
                simpa using this
              · cases this
            simp [h0]
      | _ => simp at hf
  | d _ => exact (run_fail h).elim
  | nil _ => exact (run_fail h).elim
  | own _ _ => exact (run_fail h).elim
  | ptr _ _ => exact (run_fail h).elim
  | eptr _ _ _ _ => exact (run_fail h).elim
  | rptr _ _ => exact (run_fail h).elim
  | kptr _ => exact (run_fail h).elim
  | clo _ _ _ => exact (run_fail h).elim
  | tup _ => exact (run_fail h).elim
  | undef => exact (run_fail h).elim
theorem idx_some {α : Type} {l : List α} {i : Int} {x : α} (h : idx l i = some x) : 0 ≤ i ∧ i.toNat < l.length ∧ l[i.toNat]? = some x := by
  unfold idx at h
  by_cases h0 : 0 ≤ i
  · simp only [h0, decide_true, cond_true] at h
    exact ⟨h0, (List.getElem?_eq_some_iff.1 h).1, h⟩
  · simp [h0] at h
theorem indexAddrS_ok (hA : At base U M0 w0 w m G) {t : TypeId} {x i : V} {gx gi : Value} (hx : simV G.μ m (Gh U w G) x gx) (hi : simV G.μ m (Gh U w G) i gi) {v : V} {l l' : Log} (h : (indexAddrS P t x i).run m l = some (v, m', l')) :
    OpR base U M0 w0 w m G P (Instr.indexAt t gx gi) v m' := by
  simp only [indexAddrS] at h
  replace h := run_bind_some h; obtain ⟨e, m1, l1, h1, h⟩ := h
  obtain ⟨he, rfl, rfl⟩ := run_op' h1
  cases i with
  | d xi =>
    cases xi with
    | int k n =>
      simp only at h
      simp only [simV, ro] at hi
      subst hi
      have seen : ∀ (rows : List Row) (o : Bool), ro (Gh U w G) (.sl o (szT P e) rows) gx → ∀ row, idx rows n = some row → 1 ≤ szT P e ∨ True → (∃ inf, P.info? e = some inf) → OpR base U M0 w0 w m1 G P (Instr.indexAt t gx (.int k n)) (.rptr row 0) m1 := by
        intro rows o hq row hrow _ hinf
        obtain ⟨inf, hinf⟩ := hinf
        obtain ⟨h0, hlt, hget⟩ := idx_some hrow
        simp only [ro] at hq
        obtain ⟨a, cap, rfl, hcap, hne⟩ := hq
        obtain ⟨b, o', rfl, hrows⟩ := hne (by intro e; subst e; simp at hlt)
        obtain ⟨hl, hr⟩ := roRows_get hrows hget
        refine OpR.same hA (run_indexAt he hinf h0 (by omega)) ?_
        simp only [simV]
        rw [← szT_eq hinf]
        exact ⟨b, o' + n.toNat * szT P e, rfl, hr⟩
      cases x with
      | d y =>
        cases y with
        | sl o s rows =>
          simp only at h
          replace h := run_bind_some h; obtain ⟨_, m2, l2, h2, h⟩ := h
          obtain ⟨hs, rfl, rfl⟩ := run_ck h2
          replace h := run_bind_some h; obtain ⟨_, m2, l2, h2, h⟩ := h
          obtain ⟨hok, rfl, rfl⟩ := run_ck h2
          replace h := run_bind_some h; obtain ⟨row, m2, l2, h2, h⟩ := h
          obtain ⟨hrow, rfl, rfl⟩ := run_op' h2
          simp only [run_pure, Option.some.injEq, Prod.mk.injEq] at h
          obtain ⟨rfl, rfl, _⟩ := h
          have hs := Nat.eq_of_beq_eq_true hs
          subst hs
          simp only [simV] at hx
          obtain ⟨d', hd'⟩ := okT_some hok
          exact seen rows o hx row hrow (.inr trivial) (info_some hd')
        | int _ _ => exact (run_fail h).elim
        | bool _ => exact (run_fail h).elim
        | str _ => exact (run_fail h).elim
        | nilf => exact (run_fail h).elim
      | own r ver =>
        simp only at h
        replace h := run_bind_some h; obtain ⟨c, m2, l2, h2, h⟩ := h
        rw [run_rd] at h2
        cases h2
        cases hc : get r m1 with
        | none => rw [hc] at h; exact (run_fail h).elim
        | some c =>
          rw [hc] at h
          cases c with
          | box _ _ => exact (run_fail h).elim
          | dead => exact (run_fail h).elim
          | kbox _ _ => exact (run_fail h).elim
          | loan ver' s rows i0 o0 =>
            simp only at h
            replace h := run_bind_some h; obtain ⟨_, m2, l2, h2, h⟩ := h
            obtain ⟨hb, rfl, rfl⟩ := run_ck' h2
            have hb := Nat.eq_of_beq_eq_true hb
            subst hb
            replace h := run_bind_some h; obtain ⟨_, m2, l2, h2, h⟩ := h
            obtain ⟨hs, rfl, rfl⟩ := run_ck' h2
            have hs := Nat.eq_of_beq_eq_true hs
            subst hs
            replace h := run_bind_some h; obtain ⟨_, m2, l2, h2, h⟩ := h
            obtain ⟨hok, rfl, rfl⟩ := run_ck' h2
            obtain ⟨d', hd'⟩ := okT_some hok
            obtain ⟨inf, hinf⟩ := info_some hd'
            simp only [simV, hc] at hx
            have hx := hx.2.2 trivial
            subst hx
            obtain ⟨b, cap, _, _, _, _, _, _, hμ, hl, _⟩ := hA.ok.cell r _ hc (by rw [hA.out]; simp)
            replace h := run_bind_some h; obtain ⟨row, m2, l2, h2, h⟩ := h
            obtain ⟨hrow, rfl, rfl⟩ := run_op' h2
            simp only [run_pure, Option.some.injEq, Prod.mk.injEq] at h
            obtain ⟨rfl, rfl, _⟩ := h
            obtain ⟨h0, hlt, hget⟩ := idx_some hrow
            rw [hμ]
            refine OpR.same hA (run_indexAt he hinf h0 (by omega)) ?_
            simp only [simV, hc, hμ]
            exact ⟨⟨_, _, rfl⟩, Nat.le_refl _, fun _ => ⟨b, _, _, rfl, by rw [szT_eq hinf]; simp⟩⟩
          | que ver' s rows =>
            simp only at h
            replace h := run_bind_some h; obtain ⟨_, m2, l2, h2, h⟩ := h
            obtain ⟨hb, rfl, rfl⟩ := run_ck' h2
            have hb := Nat.eq_of_beq_eq_true hb
            subst hb
            replace h := run_bind_some h; obtain ⟨_, m2, l2, h2, h⟩ := h
            obtain ⟨hs, rfl, rfl⟩ := run_ck' h2
            have hs := Nat.eq_of_beq_eq_true hs
            subst hs
            replace h := run_bind_some h; obtain ⟨_, m2, l2, h2, h⟩ := h
            obtain ⟨hok, rfl, rfl⟩ := run_ck' h2
            obtain ⟨d', hd'⟩ := okT_some hok
            obtain ⟨inf, hinf⟩ := info_some hd'
            simp only [simV, hc] at hx
            have hx := hx.2.2 trivial
            subst hx
            have hcell := hA.ok.cell r _ hc (by rw [hA.out]; simp)
            replace h := run_bind_some h; obtain ⟨row, m2, l2, h2, h⟩ := h
            obtain ⟨hrow, rfl, rfl⟩ := run_op' h2
            simp only [run_pure, Option.some.injEq, Prod.mk.injEq] at h
            obtain ⟨rfl, rfl, _⟩ := h
            obtain ⟨h0, hlt, hget⟩ := idx_some hrow
            obtain ⟨b, o, cap, hμ, hl, _⟩ := que_row hcell hget
            rw [hμ]
            refine OpR.same hA (run_indexAt he hinf h0 (by omega)) ?_
            simp only [simV, hc, hμ]
            exact ⟨⟨_, _, rfl⟩, Nat.le_refl _, fun _ => ⟨b, o, _, _, rfl, by rw [szT_eq hinf]; simp⟩⟩
          | arr fz fl ver' s rows =>
            simp only at h
            replace h := run_bind_some h; obtain ⟨_, m2, l2, h2, h⟩ := h
            obtain ⟨hb, rfl, rfl⟩ := run_ck' h2
            have hb := Nat.eq_of_beq_eq_true hb
            subst hb
            replace h := run_bind_some h; obtain ⟨_, m2, l2, h2, h⟩ := h
            obtain ⟨hs, rfl, rfl⟩ := run_ck' h2
            have hs := Nat.eq_of_beq_eq_true hs
            subst hs
            replace h := run_bind_some h; obtain ⟨_, m2, l2, h2, h⟩ := h
            obtain ⟨hok, rfl, rfl⟩ := run_ck' h2
            obtain ⟨d', hd'⟩ := okT_some hok
            obtain ⟨inf, hinf⟩ := info_some hd'
            simp only [simV, hc] at hx
            have hx := hx.2.2 trivial
            subst hx
            have hcell := hA.ok.cell r _ hc (by rw [hA.out]; simp)
            cases fz with
            | true =>
              simp only at h
              replace h := run_bind_some h; obtain ⟨row, m2, l2, h2, h⟩ := h
              obtain ⟨hrow, rfl, rfl⟩ := run_op' h2
              simp only [run_pure, Option.some.injEq, Prod.mk.injEq] at h
              obtain ⟨rfl, rfl, _⟩ := h
              exact seen (vw fl rows) false (ro_vw hcell.1) row hrow (.inr trivial) ⟨inf, hinf⟩
            | false =>
              simp only at h
              replace h := run_bind_some h; obtain ⟨row, m2, l2, h2, h⟩ := h
              obtain ⟨hrow, rfl, rfl⟩ := run_op' h2
              simp only [run_pure, Option.some.injEq, Prod.mk.injEq] at h
              obtain ⟨rfl, rfl, _⟩ := h
              obtain ⟨h0, hlt, hget⟩ := idx_some hrow
              obtain ⟨b, o, cap, hμ, ho, hl, _⟩ := arr_row hcell (view_le_full _ _ _) hget
              have ho := ho rfl
              subst ho
              rw [hμ]
              refine OpR.same hA (run_indexAt he hinf h0 (by omega)) ?_
              simp only [simV, hc, hμ]
              exact ⟨⟨_, _, rfl⟩, Nat.le_refl _, fun _ => ⟨b, _, _, rfl, by rw [szT_eq hinf]; simp⟩⟩
      | nil _ => exact (run_fail h).elim
      | ptr _ _ => exact (run_fail h).elim
      | eptr _ _ _ _ => exact (run_fail h).elim
      | rptr _ _ => exact (run_fail h).elim
      | kptr _ => exact (run_fail h).elim
      | clo _ _ _ => exact (run_fail h).elim
      | agg _ => exact (run_fail h).elim
      | tup _ => exact (run_fail h).elim
      | undef => exact (run_fail h).elim
    | bool _ => exact (run_fail h).elim
    | str _ => exact (run_fail h).elim
    | nilf => exact (run_fail h).elim
    | sl _ _ _ => exact (run_fail h).elim
  | nil _ => exact (run_fail h).elim
  | own _ _ => exact (run_fail h).elim
  | ptr _ _ => exact (run_fail h).elim
  | eptr _ _ _ _ => exact (run_fail h).elim
  | rptr _ _ => exact (run_fail h).elim
  | kptr _ => exact (run_fail h).elim
  | clo _ _ _ => exact (run_fail h).elim
  | agg _ => exact (run_fail h).elim
  | tup _ => exact (run_fail h).elim
  | undef => exact (run_fail h).elim
theorem arT_some {t e : TypeId} {n : Nat} (h : arT P t = some (n, e)) : P.underlying t = some (.array n e) := by
  unfold arT at h
  cases hu : P.underlying t with
  | none => simp [hu] at h
  | some d =>
    rw [hu] at h
    cases d <;> simp at h
    obtain ⟨rfl, rfl⟩ := h
    rfl
theorem run_indexArr {t e : TypeId} {k : IntKind} {i : Int} {b o n : Nat} (hu : P.underlying t = some (.array n e)) {inf : TypeInfo} (hi : P.info? e = some inf) (h0 : 0 ≤ i) (hn : i < n) :
    (Instr.indexAt t (.pointer (some ⟨b, o, none⟩)) (.int k i)).run P w = .ok (.pointer (some ⟨b, o + i.toNat * inf.size, none⟩)) w := by
  have hc : 0 ≤ i ∧ i < (n : Int) := ⟨h0, hn⟩
  unfold Instr.indexAt
  simp [asIntOf, run_underlying hu, hc, sizeOf, typeInfo, hi, add_at, Instr.sureAddr]
theorem indexAddrV_ok (hA : At base U M0 w0 w m G) {t : TypeId} {x i : V} {gx gi : Value} (hx : simV G.μ m (Gh U w G) x gx) (hi : simV G.μ m (Gh U w G) i gi) {v : V} {l l' : Log} (h : (indexAddrV P t x i).run m l = some (v, m', l')) :
    OpR base U M0 w0 w m G P (Instr.indexAt t gx gi) v m' := by
  unfold indexAddrV at h
  cases ha : arT P t with
  | none =>
    rw [ha] at h
    exact indexAddrS_ok hA hx hi h
  | some q =>
    obtain ⟨n, e⟩ := q
    rw [ha] at h
    have hu := arT_some ha
    cases i <;> try exact (run_fail h).elim
    rename_i y
    cases y <;> try exact (run_fail h).elim
    rename_i k j
    simp only [simV, ro] at hi
    subst hi
    simp only [indexArr] at h
    replace h := run_bind_some h; obtain ⟨_, m1, l1, h1, h⟩ := h
    obtain ⟨hok, rfl, rfl⟩ := run_ck h1
    replace h := run_bind_some h; obtain ⟨_, m1, l1, h1, h⟩ := h
    obtain ⟨hj, rfl, rfl⟩ := run_ck h1
    simp only [Bool.and_eq_true, decide_eq_true_eq] at hj
    obtain ⟨d', hd'⟩ := okT_some hok
    obtain ⟨inf, hinf⟩ := info_some hd'
    have hsz := szT_eq hinf
    cases x <;> try exact (run_fail h).elim
    · rename_i r off
      simp only [run_pure, Option.some.injEq, Prod.mk.injEq] at h
      obtain ⟨rfl, rfl, _⟩ := h
      simp only [simV] at hx
      obtain ⟨⟨b, o, rfl⟩, hx⟩ := hx
      refine OpR.same hA (run_indexArr hu hinf hj.1 hj.2) ?_
      simp only [simV]
      refine ⟨⟨b, _, rfl⟩, ?_⟩
      cases hc : get r m1 with
      | none => rw [hc] at hx; exact hx.elim
      | some c =>
        rw [hc] at hx
        cases c with
        | loan _ _ _ _ _ => exact hx.elim
        | box T cs =>
          obtain ⟨b', h1, h2⟩ := hx
          simp only [Value.pointer.injEq, Option.some.injEq, Addr.mk.injEq] at h2
          obtain ⟨rfl, rfl, _⟩ := h2
          exact ⟨b, h1, by rw [hsz]⟩
        | kbox T cs =>
          obtain ⟨b', h1, h2⟩ := hx
          simp only [Value.pointer.injEq, Option.some.injEq, Addr.mk.injEq] at h2
          obtain ⟨rfl, rfl, _⟩ := h2
          exact ⟨b, h1, by rw [hsz]⟩
        | arr _ _ _ _ _ => exact hx.elim
        | dead => trivial
        | que _ _ _ => exact hx.elim
    · rename_i row off
      simp only [run_pure, Option.some.injEq, Prod.mk.injEq] at h
      obtain ⟨rfl, rfl, _⟩ := h
      simp only [simV] at hx
      obtain ⟨b, o, rfl, hr⟩ := hx
      refine OpR.same hA (run_indexArr hu hinf hj.1 hj.2) ?_
      simp only [simV]
      exact ⟨b, o, by rw [hsz, Nat.add_assoc], hr⟩
theorem asRow_get {μ : Nat → Value} {mm : Mem} {hh : View} : ∀ {cs : List V} {row : Row} {gs : List Value}, asRow cs = some row → simVs μ mm hh cs gs → ∀ i : Nat, i < cs.length → ∃ g, gs[i]? = some g ∧ ro hh (nth row i) g
  | [], row, gs, h, q, i, hi => by simp at hi
  | v :: cs, row, gs, h, q, i, hi => by
    simp only [simVs] at q
    obtain ⟨g, gs', rfl, q1, q2⟩ := q
    cases v <;> simp only [asRow] at h <;> try cases h
    rename_i x
    cases hr : asRow cs with
    | none => rw [hr] at h; cases h
    | some r =>
      rw [hr] at h
      cases h
      cases i with
      | zero => exact ⟨g, rfl, by simpa [nth, simV] using q1⟩
      | succ i =>
        obtain ⟨g', h1, h2⟩ := asRow_get hr q2 i (by simpa using hi)
        exact ⟨g', by simpa using h1, by simpa [nth] using h2⟩
theorem indexArrV_ok (hA : At base U M0 w0 w m G) {t e : TypeId} {n : Nat} {k : IntKind} {j : Int} {cs : List V} {gx : Value} (hu : P.underlying t = some (.array n e)) (hx : simV G.μ m (Gh U w G) (.agg cs) gx) {v : V} {l l' : Log} (h : (do
    ck (Nat.beq (szT P e) 1 && (Nat.beq cs.length n && (okT P e && !(aggT P e))))
    ck (decide (0 ≤ j) && decide (j < (n : Int)))
    let row ← op' (asRow cs)
    pickCell (match ctsOf P e with | [c] => c | _ => .other) row j.toNat : Acc V).run m l = some (v, m', l')) :
    OpR base U M0 w0 w m G P (Instr.index t gx (.int k j)) v m' := by
  replace h := run_bind_some h; obtain ⟨_, m1, l1, h1, h⟩ := h
  obtain ⟨hk, rfl, rfl⟩ := run_ck h1
  simp only [Bool.and_eq_true, Bool.not_eq_true', Nat.beq_eq] at hk
  obtain ⟨hsz, hlen, hok, hagg⟩ := hk
  replace h := run_bind_some h; obtain ⟨_, m1, l1, h1, h⟩ := h
  obtain ⟨hj, rfl, rfl⟩ := run_ck h1
  simp only [Bool.and_eq_true, decide_eq_true_eq] at hj
  replace h := run_bind_some h; obtain ⟨row, m1, l1, h1, h⟩ := h
  obtain ⟨hrow, rfl, rfl⟩ := run_op' h1
  simp only [simV] at hx
  obtain ⟨arr, rfl, hs⟩ := hx
  obtain ⟨g, hg, hr⟩ := asRow_get hrow hs j.toNat (by omega)
  obtain ⟨d', hd'⟩ := okT_some hok
  obtain ⟨inf, hinf⟩ := info_some hd'
  have hone := szT_eq hinf
  have hrun : (Instr.index t (.agg arr) (.int k j)).run P w = .ok g w := by
    unfold Instr.index
    have hg' : arr[j.toNat * inf.size]? = some g := by
      rw [← hone, hsz, Nat.mul_one]
      simpa using hg
    simp [asIntOf, run_underlying hu, hj.1, hj.2, sizeOf, typeInfo, hinf]
    unfold Go.part
    simp [run_isAgg hd', hagg, hg']
  have fin : v = .d (nth row j.toNat) ∧ m' = m1 := by
    generalize (match ctsOf P e with | [c] => c | _ => CT.other) = c at h
    cases hx : nth row j.toNat <;> cases c <;> simp [pickCell, cInt, cBool, cStr, hx, asInt, asBool, asStr, Acc.run] at h
    · rename_i k1 n1 k2
      by_cases e : k1 = k2
      · subst e
        simp [Acc.run] at h
        exact ⟨h.1.symm, h.2.1.symm⟩
      · simp [e, Acc.run] at h
    · exact ⟨h.1.symm, h.2.1.symm⟩
    · exact ⟨h.1.symm, h.2.1.symm⟩
  obtain ⟨rfl, rfl⟩ := fin
  exact OpR.same hA hrun (by simpa [simV] using hr)
end
end Go.Vm

namespace Go.Vm
open Go
section
variable {base : Nat} {U : Nat → Prop} {M0 : List Nat} {w0 w w' : World} {m m' : Mem} {G G' : GS} {P : Program}
theorem indexV_ok (hA : At base U M0 w0 w m G) {t : TypeId} {x i : V} {gx gi : Value} (hx : simV G.μ m (Gh U w G) x gx) (hi : simV G.μ m (Gh U w G) i gi) {v : V} {l l' : Log} (h : (indexV P t x i).run m l = some (v, m', l')) :
    OpR base U M0 w0 w m G P (Instr.index t gx gi) v m' := by
  unfold indexV at h
  cases hu : P.underlying t with
  | none => rw [hu] at h; exact (run_fail h).elim
  | some d =>
    rw [hu] at h
    by_cases harr : ∃ n e, d = .array n e
    · obtain ⟨n, e, rfl⟩ := harr
      cases x <;> try exact (run_fail h).elim
      cases i <;> try exact (run_fail h).elim
      rename_i y
      cases y <;> try exact (run_fail h).elim
      simp only [simV, ro] at hi
      subst hi
      exact indexArrV_ok hA hu hx h
    cases d <;> first | exact (run_fail h).elim | exact (harr ⟨_, _, rfl⟩).elim | skip
    cases x <;> try exact (run_fail h).elim
    rename_i y
    cases y <;> try exact (run_fail h).elim
    rename_i s
    cases i <;> try exact (run_fail h).elim
    rename_i y
    cases y <;> try exact (run_fail h).elim
    rename_i k n
    simp only [simV, ro] at hx hi
    subst hx hi
    dsimp only at h
    cases hb : idx s n with
    | none => rw [hb] at h; simp [Acc.run] at h
    | some b =>
      rw [hb] at h
      change some (_, _, _) = _ at h
      simp only [Option.some.injEq, Prod.mk.injEq] at h
      obtain ⟨rfl, rfl, _⟩ := h
      obtain ⟨h0, hlt, hget⟩ := idx_some hb
      refine OpR.same hA (g := .int .u8 b.toNat) ?_ (by simp [simV, ro])
      have hg : (ByteArray.mk ⟨s⟩)[n.toNat]? = some b := by
        have hsz : n.toNat < (ByteArray.mk ⟨s⟩).size := hlt
        rw [getElem?_pos (ByteArray.mk ⟨s⟩) n.toNat hsz]
        have : s[n.toNat] = b := by
          have := List.getElem?_eq_getElem hlt
          rw [this] at hget
          exact Option.some.inj hget
        exact congrArg some this
      simp [Instr.index, asIntOf, run_underlying hu, h0, hg]
theorem lenV_ok (hA : At base U M0 w0 w m G) {t ty : TypeId} {x : V} {gx : Value} (hx : simV G.μ m (Gh U w G) x gx)
    (hk : ∀ s, x = .d (.str s) → P.underlying t = some .string) (hk' : (∀ s, x ≠ .d (.str s)) → ∃ e, P.underlying t = some (.slice e)) {v : V} {l l' : Log} (h : (lenV x).run m l = some (v, m', l')) :
    OpR base U M0 w0 w m G P (Builtin.len_ #[t] ty #[gx]) v m' := by
  have slice : ∀ (a : Option Addr) (n c : Nat), (∃ e, P.underlying t = some (.slice e)) → OpR base U M0 w0 w m G P (Builtin.len_ #[t] ty #[.slice a n c]) (.d (.int .i64 n)) m := by
    intro a n c ⟨e, he⟩
    refine OpR.same hA (g := .int .i64 n) ?_ (by simp [simV, ro])
    simp [Builtin.len_, run_underlying he, goInt]
  cases x with
  | d y =>
    cases y with
    | str s =>
      change some (_, _, _) = _ at h
      simp only [Option.some.injEq, Prod.mk.injEq] at h
      obtain ⟨rfl, rfl, _⟩ := h
      simp only [simV, ro] at hx
      subst hx
      refine OpR.same hA (g := .int .i64 s.length) ?_ (by simp [simV, ro])
      have hsz : (ByteArray.mk ⟨s⟩).size = s.length := rfl
      simp [Builtin.len_, run_underlying (hk s rfl), goInt, hsz]
    | sl o s rows =>
      change some (_, _, _) = _ at h
      simp only [Option.some.injEq, Prod.mk.injEq] at h
      obtain ⟨rfl, rfl, _⟩ := h
      simp only [simV, ro] at hx
      obtain ⟨a, cap, rfl, _⟩ := hx
      exact slice a rows.length cap (hk' (by simp))
    | int _ _ => exact (run_fail h).elim
    | bool _ => exact (run_fail h).elim
    | nilf => exact (run_fail h).elim
  | nil s =>
    change some (_, _, _) = _ at h
    simp only [Option.some.injEq, Prod.mk.injEq] at h
    obtain ⟨rfl, rfl, _⟩ := h
    simp only [simV] at hx
    subst hx
    exact slice none 0 0 (hk' (by simp))
  | own r ver =>
    simp only [lenV] at h
    replace h := run_bind_some h; obtain ⟨c, m2, l2, h2, h⟩ := h
    rw [run_rd] at h2
    cases h2
    cases hc : get r m with
    | none => rw [hc] at h; exact (run_fail h).elim
    | some c =>
      rw [hc] at h
      cases c with
      | box _ _ => exact (run_fail h).elim
      | dead => exact (run_fail h).elim
      | kbox _ _ => exact (run_fail h).elim
      | loan _ _ _ _ _ => exact (run_fail h).elim
      | que ver' s rows =>
        simp only at h
        replace h := run_bind_some h; obtain ⟨_, m2, l2, h2, h⟩ := h
        obtain ⟨hb, rfl, rfl⟩ := run_ck' h2
        have hb := Nat.eq_of_beq_eq_true hb
        subst hb
        simp only [run_pure, Option.some.injEq, Prod.mk.injEq] at h
        obtain ⟨rfl, rfl, _⟩ := h
        have hcell := hA.ok.cell r _ hc (by rw [hA.out]; simp)
        simp only [simV, hc] at hx
        have hx := hx.2.2 trivial
        subst hx
        rcases hcell with ⟨rfl, hμ, _⟩ | ⟨b, o, cap, cs, T, hμ, _⟩
        · rw [hμ]; exact slice none 0 0 (hk' (by simp))
        · rw [hμ]; exact slice _ rows.length cap (hk' (by simp))
      | arr fz fl ver' s rows =>
        simp only at h
        replace h := run_bind_some h; obtain ⟨_, m2, l2, h2, h⟩ := h
        obtain ⟨hb, rfl, rfl⟩ := run_ck' h2
        have hb := Nat.eq_of_beq_eq_true hb
        subst hb
        simp only [run_pure, Option.some.injEq, Prod.mk.injEq] at h
        obtain ⟨rfl, rfl, _⟩ := h
        have hro := hA.ok.look hc (by rw [hA.out]; simp) false
        simp only [simV, hc] at hx
        rw [← hx.2.2 trivial] at hro
        simp only [ro] at hro
        obtain ⟨a, cap, rfl, _⟩ := hro
        exact slice a rows.length cap (hk' (by simp))
  | ptr _ _ => exact (run_fail h).elim
  | eptr _ _ _ _ => exact (run_fail h).elim
  | rptr _ _ => exact (run_fail h).elim
  | kptr _ => exact (run_fail h).elim
  | clo _ _ _ => exact (run_fail h).elim
  | agg _ => exact (run_fail h).elim
  | tup _ => exact (run_fail h).elim
  | undef => exact (run_fail h).elim
theorem toD_cv {H : Heap} {h : View} {c : CT} {g : Value} {x : D} {l l' : Log} (hr : (toD (cvCell c g)).run m l = some (x, m', l')) : m' = m ∧ ow H h x g [] := by
  unfold cvCell at hr
  split at hr
  all_goals first
    | exact (run_fail hr).elim
    | (simp only [toD, roD, run_pure, Option.some.injEq, Prod.mk.injEq] at hr
       obtain ⟨rfl, rfl, _⟩ := hr
       exact ⟨rfl, by simp [ow]⟩)
theorem toRow_cv {H : Heap} {h : View} : ∀ {cs : List CT} {gs : List Value} {xs : Row} {m m' : Mem} {l l' : Log}, (toRow (cvCells cs gs)).run m l = some (xs, m', l') → m' = m ∧ owRow H h xs gs [] ∧ xs.length = gs.length
  | c :: cs, g :: gs, xs, m, m', l, l', hr => by
    simp only [cvCells, toRow] at hr
    replace hr := run_bind_some hr; obtain ⟨x, m1, l1, h1, hr⟩ := hr
    replace hr := run_bind_some hr; obtain ⟨ys, m2, l2, h2, hr⟩ := hr
    simp only [run_pure, Option.some.injEq, Prod.mk.injEq] at hr
    obtain ⟨rfl, rfl, _⟩ := hr
    obtain ⟨rfl, q1⟩ := toD_cv (H := H) (h := h) h1
    obtain ⟨rfl, q2, q3⟩ := toRow_cv (H := H) (h := h) h2
    exact ⟨rfl, by simp only [owRow]; exact ⟨g, gs, [], [], rfl, rfl, q1, q2⟩, by simp [q3]⟩
  | [], g :: gs, xs, m, m', l, l', hr => by
    simp only [cvCells, toRow] at hr
    replace hr := run_bind_some hr; obtain ⟨x, m1, l1, h1, hr⟩ := hr
    exact (run_fail h1).elim
  | c :: cs, [], xs, m, m', l, l', hr => by
    simp only [cvCells, toRow, run_pure, Option.some.injEq, Prod.mk.injEq] at hr
    obtain ⟨rfl, rfl, _⟩ := hr
    exact ⟨rfl, by simp [owRow], rfl⟩
  | [], [], xs, m, m', l, l', hr => by
    simp only [cvCells, toRow, run_pure, Option.some.injEq, Prod.mk.injEq] at hr
    obtain ⟨rfl, rfl, _⟩ := hr
    exact ⟨rfl, by simp [owRow], rfl⟩
theorem made_rows {H : Heap} {h : View} {row : Row} {z L : List Value} {cap : Nat} (hz : z.length = row.length) (hL : L.length = cap * row.length) (hj : ∀ i j, i < cap → j < row.length → L[i * row.length + j]? = z[j]?) (hq : owRow H h row z []) :
    ∀ (n i : Nat), i + n ≤ cap → owRows H h row.length (List.replicate n row) (L.drop (i * row.length)) []
  | 0, i, _ => by simp [owRows]
  | n + 1, i, hi => by
    rw [List.replicate_succ]
    simp only [owRows]
    refine ⟨trivial, [], [], rfl, ?_, ?_⟩
    · refine owRow_take ?_ hq
      apply List.ext_getElem?
      intro j
      by_cases hjl : j < row.length
      · rw [List.getElem?_take_of_lt hjl, List.getElem?_take_of_lt hjl, List.getElem?_drop, hj i j (by omega) hjl]
      · rw [List.getElem?_eq_none (by rw [List.length_take]; omega), List.getElem?_eq_none (by rw [List.length_take]; omega)]
    · rw [List.drop_drop]
      have := made_rows hz hL hj hq n (i + 1) (by omega)
      rwa [Nat.add_mul, Nat.one_mul] at this
theorem makeSliceV_ok (hA : At base U M0 w0 w m G) {dst : Nat} {t : TypeId} {x y : V} {gx gy : Value} (hx : simV G.μ m (Gh U w G) x gx) (hy : simV G.μ m (Gh U w G) y gy) {v : V} {l l' : Log} (h : (makeSliceV P dst t x y).run m l = some (v, m', l')) :
    OpR base U M0 w0 w m G P (Instr.makeSlice t gx gy) v m' := by
  simp only [makeSliceV, zeroRowD] at h
  replace h := run_bind_some h; obtain ⟨e, m1, l1, h1, h⟩ := h
  obtain ⟨he, rfl, rfl⟩ := run_op' h1
  have he := elT_some he
  replace h := run_bind_some h; obtain ⟨_, m1, l1, h1, h⟩ := h
  obtain ⟨hs, rfl, rfl⟩ := run_ck' h1
  have hs := Nat.le_of_ble_eq_true hs
  replace h := run_bind_some h; obtain ⟨row, m1, l1, h1, h⟩ := h
  replace h1 := run_bind_some h1; obtain ⟨z, m2, l2, h2, h1⟩ := h1
  obtain ⟨hz, rfl, rfl⟩ := run_op' h2
  unfold zeroRow at hz
  cases hi : P.info? e with
  | none => simp [hi] at hz
  | some i =>
    simp only [hi] at hz
    cases hzz : i.zero with
    | none => simp [hzz] at hz
    | some zv =>
      simp only [hzz, Option.some.injEq] at hz
      subst hz
      obtain ⟨rfl, hrow, hlen⟩ := toRow_cv (H := heapOf w) (h := Gh U w G) h1
      replace h := run_bind_some h; obtain ⟨_, m2, l2, h2, h⟩ := h
      obtain ⟨hlr, rfl, rfl⟩ := run_ck' h2
      have hlr := Nat.eq_of_beq_eq_true hlr
      have hsz := szT_eq hi
      have hzs : zv.cells.size = i.size := by
        have : zv.cells.toList.length = zv.cells.size := by simp
        omega
      split at h
      next k1 n1 k2 n2 =>
        replace h := run_bind_some h; obtain ⟨_, m3, l3, h3, h⟩ := h
        obtain ⟨hck, rfl, rfl⟩ := run_ck' h3
        simp only [Bool.and_eq_true, decide_eq_true_eq] at hck
        obtain ⟨⟨⟨h0, hle⟩, hby⟩, hc⟩ := hck
        replace h := run_bind_some h; obtain ⟨u, m4, l4, h4, h⟩ := h
        simp only [run_pure, Option.some.injEq, Prod.mk.injEq] at h
        obtain ⟨rfl, rfl, _⟩ := h
        simp only [simV, ro] at hx hy
        subst hx hy
        have hbt : bytesT P e = i.bytes := by simp [bytesT, hi]
        rw [hbt] at hby
        have hroom : (roomB : Int) = 140737488355328 := rfl
        rw [hroom] at hby hc
        have hrun := run_make (P := P) w t e i zv he hi hzz k1 k2 n1 n2 h0 hle (by rw [Int.mul_comm]; omega) (by omega)
        have hE := hA.E
        have hrl : row.length = i.size := by omega
        have hq : owRows (heapOf w) (Gh U w G) (szT P e) (List.replicate n1.toNat row) (madeCells zv.cells (n2.toNat * i.size)).toList [] := by
          rw [hsz, ← hrl]
          have := made_rows (H := heapOf w) (h := Gh U w G) (row := row) (z := zv.cells.toList) (L := (madeCells zv.cells (n2.toNat * i.size)).toList) (cap := n2.toNat) hlen.symm (by simp [size_madeCells, hrl]) ?_ hrow n1.toNat 0 (by omega)
          · simpa [hrl] using this
          · intro a b ha hb
            have hlt : a * row.length + b < n2.toNat * i.size := by
              rw [hrl] at hb ⊢
              calc a * i.size + b < a * i.size + i.size := by omega
                _ = (a + 1) * i.size := by rw [Nat.add_mul, Nat.one_mul]
                _ ≤ n2.toNat * i.size := Nat.mul_le_mul_right _ ha
            have hbz : b < zv.cells.size := by omega
            have hmod : (a * row.length + b) % zv.cells.size = b := by
              rw [hzs, ← hrl, Nat.mul_comm, Nat.mul_add_mod]
              exact Nat.mod_eq_of_lt hb
            simp only [madeCells, Array.toList_map, Array.toList_range, List.getElem?_map]
            rw [List.getElem?_range hlt]
            simp [hmod, hbz]
        have hqS : rowsS (heapOf w) (Gh U w G) (flatT P e) (szT P e) (List.replicate n1.toNat row) (madeCells zv.cells (n2.toNat * i.size)).toList G.E := by
          unfold rowsS
          rw [hE]
          split
          · exact ⟨owRows_seen (View.le_refl _) _ _ _ [] (by intro b hb; simp at hb) hq, rfl⟩
          · exact hq
        obtain ⟨G', hnx, hsim⟩ := newRowsS_ok hA.ok hA.out hA.fr (w1 := w) rfl (Keep.refl _ _) (cap := n2.toNat) (T := e) hqS (by simp; omega) (by simp [size_madeCells, hsz]) h4
        refine ⟨_, _, G', hrun, hnx, ?_⟩
        simpa using hsim
      next => exact (run_fail h).elim
end
end Go.Vm
