/-
  Go's operations, run at memory that is known cell by cell.
-/
import Derived.Test.YtfbemlhfieemhaaVmGhost6
import Derived.Laws.Append
import Derived.Laws.AppendOwn
import Derived.Laws.CopyRow
import Derived.Laws.Slices
import Derived.Laws.MakeOwn
import Derived.Laws.BytesString
namespace Go.Vm
open Go

theorem add_at (b o j : Nat) : (⟨b, o, none⟩ : Addr).add j = ⟨b, o + j, none⟩ := by
  unfold Addr.add
  split
  · rename_i h; subst h; rfl
  · rfl
theorem okT_some {P : Program} {t : TypeId} (h : okT P t = true) : ∃ d, P.underlying t = some d := by
  unfold okT at h
  cases hu : P.underlying t with
  | none => simp [hu] at h
  | some d => exact ⟨d, rfl⟩
theorem info_some {P : Program} {t : TypeId} {d : TypeDesc} (h : P.underlying t = some d) : ∃ i, P.info? t = some i := by
  unfold Program.underlying at h
  cases hi : P.info? t with
  | none => simp [hi] at h
  | some i => exact ⟨i, rfl⟩
theorem szT_eq {P : Program} {t : TypeId} {i : TypeInfo} (h : P.info? t = some i) : szT P t = i.size := by simp [szT, h]

section
variable {P : Program} {w : World}

theorem run_isAgg {t : TypeId} {d : TypeDesc} (h : P.underlying t = some d) (w : World) : (isAgg t).run P w = .ok (aggT P t) w := by
  unfold isAgg aggT
  rw [Sem.run_bind, run_underlying h w, h]
  cases d <;> rfl

theorem run_loadAt {t : TypeId} {b off : Nat} {cs : List Value} {g : Value} (hok : okT P t = true) (hlen : cs.length = szT P t) (hc : ∀ j v, cs[j]? = some v → w.cell? ⟨b, off + j, none⟩ = some v) (hg : valOf P t cs g) :
    (Instr.loadAt t (.pointer (some ⟨b, off, none⟩))).run P w = .ok g w := by
  obtain ⟨d, hd⟩ := okT_some hok
  obtain ⟨i, hi⟩ := info_some hd
  have hsz : i.size = cs.length := by rw [hlen, szT_eq hi]
  unfold Instr.loadAt Instr.sureAddr
  simp only [Sem.run_bind, Sem.run_pure, Result.andThen_ok, loadVar, run_isAgg hd]
  unfold valOf at hg
  cases ha : aggT P t with
  | true =>
    simp only [ha, if_true] at hg
    subst hg
    have hl := run_loadCells_list (P := P) w ⟨b, off, none⟩ cs (fun j v hv => by rw [add_at]; exact hc j v hv)
    simp [sizeOf, typeInfo, hi, hsz, hl]
  | false =>
    simp only [ha, Bool.false_eq_true, if_false] at hg
    subst hg
    have := hc 0 g rfl
    simp only [Nat.add_zero] at this
    simp [this]

theorem run_storeAt {t T : TypeId} {b off : Nat} {cur : Array Value} {g : Value} (hok : okT P t = true) (hH : w.heap[b]? = some (.cells cur T (0, 0))) (hlen : g.cells.size = szT P t) (hfit : off + g.cells.size ≤ cur.size) (h1 : ∀ v ∈ g.cells.toList, v.oneCell' = true) :
    (Instr.storeAt t (.pointer (some ⟨b, off, none⟩)) g).run P w = .ok () (w.setRow b (splice cur.toList off g.cells.toList).toArray) := by
  obtain ⟨d, hd⟩ := okT_some hok
  obtain ⟨i, hi⟩ := info_some hd
  have hsz : g.cells.size = i.size := by rw [hlen, szT_eq hi]
  have hst := run_storeCells_at P b off T g.cells.toList 0 cur w hH (by simpa using hfit) h1
  simp only [Nat.add_zero] at hst
  unfold Instr.storeAt Instr.sureAddr
  simp only [Sem.run_bind, Sem.run_pure, Result.andThen_ok, storeVar, sizeOf, typeInfo, run_program, hi]
  simp [hsz, hst, splice]

theorem run_fieldAt {T : TypeId} {f b off o n : Nat} {t : TypeId} (hf : fieldOf P T f = some (o, n, t)) (hn : 1 ≤ n) :
    (Instr.fieldAt T (.pointer (some ⟨b, off, none⟩)) f).run P w = .ok (.pointer (some ⟨b, off + o, none⟩)) w := by
  unfold fieldOf at hf
  cases hu : P.underlying T with
  | none => simp [hu] at hf
  | some d =>
    rw [hu] at hf
    cases d with
    | struct fs =>
      simp only at hf
      cases hfd : fs[f]? with
      | none => simp [hfd] at hf
      | some fd =>
        simp only [hfd, Option.some.injEq, Prod.mk.injEq] at hf
        obtain ⟨rfl, rfl, rfl⟩ := hf
        cases hi : P.info? fd.type with
        | none => simp [szT, hi] at hn
        | some i =>
          have hne : i.size ≠ 0 := by rw [szT_eq hi] at hn; omega
          unfold Instr.fieldAt
          simp [run_underlying hu, hfd, Instr.sureAddr, fieldPlace, sizeOf, typeInfo, hi, hne, add_at]
    | _ => simp at hf

theorem elT_some {t e : TypeId} (h : elT P t = some e) : P.underlying t = some (.slice e) := by
  unfold elT at h
  cases hu : P.underlying t with
  | none => simp [hu] at h
  | some d => rw [hu] at h; cases d <;> simp at h; rw [h]
theorem run_indexAt {t e : TypeId} {k : IntKind} {i : Int} {b o n cap : Nat} (he : elT P t = some e) {inf : TypeInfo} (hi : P.info? e = some inf) (h0 : 0 ≤ i) (hn : i < n) :
    (Instr.indexAt t (.slice (some ⟨b, o, none⟩) n cap) (.int k i)).run P w = .ok (.pointer (some ⟨b, o + i.toNat * inf.size, none⟩)) w := by
  have hu := elT_some he
  have hc : 0 ≤ i ∧ i < (n : Int) := ⟨h0, hn⟩
  unfold Instr.indexAt
  simp [asIntOf, run_underlying hu, hc, sizeOf, typeInfo, hi, add_at]

/-- the slice or the string that is appended -/
structure Src (P : Program) (size : Nat) (w : World) (y : Value) (m : Nat) (news : List Value) : Prop where
  len : (Builtin.lenOf y).run P w = .ok m w
  get : (Builtin.firstCells size m y).run P w = .ok news.toArray w
  lend : (Builtin.lenOf y).run P w.drew = .ok m w.drew
  getd : (Builtin.firstCells size m y).run P w.drew = .ok news.toArray w.drew
  n : news.length = m * size
  one : ∀ u ∈ news, u.oneCell' = true

theorem Src.slice {size : Nat} {a : Option Addr} {m c : Nat} {news : List Value} (hl : news.length = m * size) (h1 : ∀ u ∈ news, u.oneCell' = true)
    (h : m ≠ 0 → ∃ b o, a = some ⟨b, o, none⟩ ∧ ∀ j v, news[j]? = some v → w.cell? ⟨b, o + j, none⟩ = some v) : Src P size w (.slice a m c) m news := by
  have key : ∀ w' : World, (∀ x, w'.cell? x = w.cell? x) → (Builtin.firstCells size m (.slice a m c)).run P w' = .ok news.toArray w' := by
    intro w' hw
    by_cases hm : m = 0
    · subst hm
      have : news = [] := List.eq_nil_of_length_eq_zero (by simpa using hl)
      subst this
      cases a with
      | none => simp [Builtin.firstCells]
      | some a => simp [Builtin.firstCells, loadCells, loadCellsFrom]
    · obtain ⟨b, o, rfl, hc⟩ := h hm
      exact run_firstCells_some (P := P) w' size m ⟨b, o, none⟩ m c news hl (fun j v hv => by rw [add_at, hw]; exact hc j v hv)
  exact ⟨by simp [Builtin.lenOf], key w (fun _ => rfl), by simp [Builtin.lenOf], key w.drew (fun x => rfl), hl, h1⟩
theorem Src.string {s : List UInt8} : Src P 1 w (.string ⟨⟨s⟩⟩) s.length (s.map fun b => Value.int .u8 b.toNat) := by
  have hsz : (⟨⟨s⟩⟩ : ByteArray).size = s.length := rfl
  have hex : ((⟨⟨s⟩⟩ : ByteArray).extract 0 s.length) = ⟨⟨s⟩⟩ := by
    rw [← hsz]
    apply ByteArray.ext
    simp [ByteArray.data_extract]
  have hm : (Array.map (fun b : UInt8 => Value.int .u8 (b.toNat : Int)) ⟨s⟩) = (s.map fun b => Value.int .u8 (b.toNat : Int)).toArray := by
    apply Array.ext'
    simp
  refine ⟨by simp [Builtin.lenOf, hsz], by simp [Builtin.firstCells, hex, hm], by simp [Builtin.lenOf, hsz], by simp [Builtin.firstCells, hex, hm], by simp, ?_⟩
  intro u hu
  simp only [List.mem_map] at hu
  obtain ⟨b, _, rfl⟩ := hu
  rfl

/-- append onto nothing -/
theorem run_append_none {t ty y e : TypeId} {inf : TypeInfo} {z gy : Value} {m : Nat} {news : List Value} (he : P.underlying t = some (.slice e)) (hty : (∃ e', P.underlying y = some (.slice e')) ∨ P.underlying y = some .string)
    (hi : P.info? e = some inf) (hz : inf.zero = some z) (hs : Src P inf.size w gy m news) (hm : m ≠ 0) (h63 : m ≤ 140737488355328) (hb : m * inf.bytes ≤ 140737488355328) :
    ∃ cap, m ≤ cap ∧ (Builtin.append_ #[t, y] ty #[.slice none 0 0, gy]).run P w = .ok (.slice (some ⟨w.heap.size, 0, none⟩) m cap) (w.drew.alloc (.cells (news.toArray ++ Builtin.zeroCells z.cells (cap - m)) e)) := by
  have h63' : ¬ (9223372036854775807 < (m : Int)) := by omega
  have h48' : ¬ (281474976710656 < Builtin.nextslicecap m 0 * inf.bytes) := by rw [nextslicecap_zero (by omega)]; omega
  refine ⟨grownCap w m 0 e, grownCap_ge w m 0 e, ?_⟩
  rcases hty with ⟨e', hd⟩ | hd <;> simp [Builtin.append_, run_underlying he, run_underlying hd, sizeOf, typeInfo, zeroValue, hi, hz, hs.len, hm, h63', h48', Question.forced, run_firstCells_none, hs.getd, newRow, grownCap]
theorem run_append_zero {t ty y e : TypeId} {inf : TypeInfo} {gy : Value} {news : List Value} (he : P.underlying t = some (.slice e)) (hty : (∃ e', P.underlying y = some (.slice e')) ∨ P.underlying y = some .string)
    (hi : P.info? e = some inf) (hs : Src P inf.size w gy 0 news) :
    (Builtin.append_ #[t, y] ty #[.slice none 0 0, gy]).run P w = .ok (.slice none 0 0) w := by
  rcases hty with ⟨e', hd⟩ | hd <;> simp [Builtin.append_, run_underlying he, run_underlying hd, sizeOf, typeInfo, hi, hs.len, hs.get]
/-- append where there is room -/
theorem run_append_fits {t ty y e T : TypeId} {inf : TypeInfo} {gy : Value} {b n m cap : Nat} {cur : Array Value} {news : List Value} (he : P.underlying t = some (.slice e)) (hty : (∃ e', P.underlying y = some (.slice e')) ∨ P.underlying y = some .string)
    (hi : P.info? e = some inf) (hs : Src P inf.size w gy m news) (hH : w.heap[b]? = some (.cells cur T (0, 0))) (hroom : n + m ≤ cap) (hc : cur.size = cap * inf.size) :
    (Builtin.append_ #[t, y] ty #[.slice (some ⟨b, 0, none⟩) n cap, gy]).run P w = .ok (.slice (some ⟨b, 0, none⟩) (n + m) cap) (w.setRow b (splice cur.toList (n * inf.size) news).toArray) := by
  have hfit : n * inf.size + 0 + news.length ≤ cur.size := by
    rw [hs.n, hc, Nat.add_zero, ← Nat.add_mul]
    exact Nat.mul_le_mul_right _ hroom
  have hst := run_storeCells_at P b (n * inf.size) T news 0 cur w hH hfit hs.one
  simp only [Nat.add_zero] at hst
  rcases hty with ⟨e', hd⟩ | hd <;> simp [Builtin.append_, run_underlying he, run_underlying hd, sizeOf, typeInfo, hi, hs.len, hroom, hs.get, add_at, hst, splice]
/-- append where a new array is made -/
theorem run_append_more {t ty y e : TypeId} {inf : TypeInfo} {z gy : Value} {b n m cap : Nat} {olds news : List Value} (he : P.underlying t = some (.slice e)) (hty : (∃ e', P.underlying y = some (.slice e')) ∨ P.underlying y = some .string)
    (hi : P.info? e = some inf) (hz : inf.zero = some z) (hs : Src P inf.size w gy m news) (hl : olds.length = n * inf.size) (ho : ∀ j v, olds[j]? = some v → w.cell? ⟨b, 0 + j, none⟩ = some v) (hroom : cap < n + m) (h63 : n + m ≤ 140737488355328) (hb : (n + m) * inf.bytes ≤ 140737488355328) :
    ∃ cap', n + m ≤ cap' ∧ (Builtin.append_ #[t, y] ty #[.slice (some ⟨b, 0, none⟩) n cap, gy]).run P w = .ok (.slice (some ⟨w.heap.size, 0, none⟩) (n + m) cap') (w.drew.alloc (.cells ((olds ++ news).toArray ++ Builtin.zeroCells z.cells (cap' - (n + m))) e)) := by
  have hn : ¬ (n + m ≤ cap) := by omega
  have h63' : ¬ (9223372036854775807 < ((n : Int) + (m : Int))) := by omega
  have h48' : ¬ (281474976710656 < Builtin.nextslicecap (n + m) cap * inf.bytes) := by
    have := growslice_fits hroom hb
    omega
  have hfo := run_firstCells_some (P := P) w.drew inf.size n ⟨b, 0, none⟩ n cap olds hl (fun j v hv => by rw [add_at]; exact ho j v hv)
  refine ⟨grownCap w (n + m) cap e, grownCap_ge w (n + m) cap e, ?_⟩
  rcases hty with ⟨e', hd⟩ | hd <;> simp [Builtin.append_, run_underlying he, run_underlying hd, sizeOf, typeInfo, zeroValue, hi, hz, hs.len, hn, h63', h48', Question.forced, hfo, hs.getd, newRow, grownCap] <;>
    (congr 2; apply Array.ext'; simp [List.append_assoc])
end
end Go.Vm
