/-
  The machine's operations are Go's: what makes memory.
-/
import Derived.Test.YtfbemlhfieemhaaVmOps3
import Derived.Great.BuildSlice
namespace Go.Vm
open Go

section
variable {base : Nat} {U : Nat → Prop} {M0 : List Nat} {w0 w w' : World} {m m' : Mem} {G G' : GS} {P : Program}

/-- a new cell, what is in hand laid into it or let go -/
theorem Gok.fresh (hg : Gok base U w m G) (ho : G.out = []) (hfr : Fr M0 w0 w G) {k : Nat} {c' : Cell} {gv : Value} {N : List Nat} (hn : get k m = none) (hk : Keep [] w w') (hN : N.Nodup)
    (hNs : ∀ b, b ∈ N → (b ∈ G.E ∨ w.heap.size ≤ b) ∧ b < w'.heap.size)
    (hcell : ∀ h' : View, (Gh U w G).le h' → memLe G.μ m (upM G.μ k gv) (put k c' m) → (∀ j, j ∈ G.E → j ∉ N → Sees h' (heapOf w) [j]) → simCell (upM G.μ k gv) (put k c' m) (heapOf w') h' k c' N) :
    Nx base U M0 w0 w m G w' (put k c' m) ⟨upM G.μ k gv, upF G.F k N, [], []⟩ := by
  have hk' : Keep G.E w w' := ⟨hk.os, hk.tape, hk.output, hk.size, fun b hb _ => hk.block b hb (by simp)⟩
  obtain ⟨q1, q2⟩ := Gok.world hg hk' (E' := N) hN hNs
  have hμ : ∀ j, j ≠ k → upM G.μ k gv j = G.μ j := fun j e => upM_other gv e
  have hml : memLe G.μ m (upM G.μ k gv) (put k c' m) := memLe_put hμ (fun c0 h0 => by rw [hn] at h0; cases h0)
  have hFk : G.F k = [] := hg.none_ k hn
  have hset := Gok.set (U := U) (w := w') q1 k c' (upM G.μ k gv) N [] [] (by simpa using hN) (by simp; exact fun b hb => .inr hb) hml hμ (fun j hj => by simp [ho]) (by simp)
    (fun hv _ => hcell _ (q2.trans' hv) hml (fun j hjE hjN b hb cs t fr hH o v hv => by
      have hb := List.mem_singleton.1 hb
      rw [← hb] at hjE hjN
      have hlt := hg.lt b (.inl hjE)
      have hsame : heapOf w' b = heapOf w b := hk.block b hlt.1 (by simp)
      refine sees_view (w := w') (N := [b]) (fun x hx => ?_) b (by simp) cs t fr (hsame.trans hH) o v hv
      rw [List.mem_singleton.1 hx]
      refine ⟨hlt.2.2, ?_⟩
      rintro (h | ⟨i, h⟩)
      · simp at h
      · by_cases e : i = k
        · subst e; rw [upF_same] at h; exact hjN h
        · rw [upF_other _ e] at h; exact hg.djE i b h hjE))
  obtain ⟨s1, s2⟩ := hset
  refine ⟨s1, rfl, rfl, hml, q2.trans' s2.view, ?_⟩
  refine ⟨hfr.keep.trans hk (by simp), ?_⟩
  rintro b (hb | ⟨i, hb⟩)
  · simp at hb
  · by_cases e : i = k
    · subst e
      simp only [upF_same] at hb
      rcases (hNs b hb).1 with h | h
      · exact hfr.fr b (.inl h)
      · exact .inr (Nat.le_trans hfr.keep.size h)
    · simp only [upF_other _ e] at hb
      exact hfr.fr b (.inr ⟨i, hb⟩)

theorem heap_new {w1 : World} {o : Obj} (h : w1.heap = w.heap) : heapOf (w1.alloc o) w.heap.size = some o := by
  have := heap_alloc_new w1 o
  rw [h] at this
  exact this

/-- a new box -/
theorem newBox_ok (hA : At base U M0 w0 w m G) {k : Nat} {T : TypeId} {cs : List V} {arr : Array Value} (hs : simVs G.μ m (Gh U w G) cs arr.toList) {u : Unit} {l l' : Log} (h : (new k (.box T cs)).run m l = some (u, m', l')) :
    ∃ G', Nx base U M0 w0 w m G (w.alloc (.cells arr T)) m' G' ∧ simV G'.μ m' (Gh U (w.alloc (.cells arr T)) G') (.ptr k 0) (.pointer (some ⟨w.heap.size, 0, none⟩)) := by
  obtain ⟨hn, rfl⟩ := run_new h
  refine ⟨_, hA.ok.fresh hA.out hA.fr (gv := .pointer (some ⟨w.heap.size, 0, none⟩)) (N := [w.heap.size]) hn keep_alloc (by simp) (fun b hb => by simp at hb; subst hb; simp) (fun h' hv hml _ => ?_), ?_⟩
  · exact ⟨w.heap.size, arr, by simp, heap_new rfl, simVs_mono hml hv _ _ hs, rfl⟩
  · simp [simV, get_put_same, isSl, isPt]

/-- a new array out of rows in hand -/
theorem newRows_ok (hg : Gok base U w m G) (ho : G.out = []) (hfr : Fr M0 w0 w G) {w1 : World} (hw1 : w1.heap = w.heap) (hk1 : Keep [] w w1) {k : Nat} {fl : Bool} {s cap : Nat} {rows : List Row} {arr : Array Value} {T : TypeId} (hq : owRows (heapOf w) (Gh U w G) s rows arr.toList G.E)
    (hcap : rows.length ≤ cap) (hsz : arr.size = cap * s) {u : Unit} {l l' : Log} (h : (new k (.arr false fl 0 s rows)).run m l = some (u, m', l')) :
    ∃ G', Nx base U M0 w0 w m G (w1.alloc (.cells arr T)) m' G' ∧ simV G'.μ m' (Gh U (w1.alloc (.cells arr T)) G') (.own k 0) (.slice (some ⟨w.heap.size, 0, none⟩) rows.length cap) := by
  obtain ⟨hn, rfl⟩ := run_new h
  have hsize : (w1.alloc (.cells arr T)).heap.size = w.heap.size + 1 := by rw [World.size_alloc, hw1]
  have hkeep : Keep [] w (w1.alloc (.cells arr T)) := hk1.trans (keep_alloc (M := [])) (by simp)
  have hnE : w.heap.size ∉ G.E := fun hE => by have := (hg.lt _ (.inl hE)).1; omega
  have hnew : heapOf (w1.alloc (.cells arr T)) w.heap.size = some (.cells arr T (0, 0)) := heap_new hw1
  refine ⟨_, hg.fresh ho hfr (gv := .slice (some ⟨w.heap.size, 0, none⟩) rows.length cap) (N := w.heap.size :: (match fl with | true => [] | false => G.E)) hn hkeep ?_ ?_ ?_, ?_⟩
  · cases fl with
    | true => simp
    | false => exact List.nodup_cons.2 ⟨hnE, hg.ndE⟩
  · intro b hb
    simp only [List.mem_cons] at hb
    rcases hb with rfl | hb
    · exact ⟨.inr (Nat.le_refl _), by rw [hsize]; omega⟩
    · cases fl with
      | true => simp at hb
      | false => exact ⟨.inl hb, by rw [hsize]; have := (hg.lt b (.inl hb)).1; omega⟩
  · intro h' hv hml hvis
    simp only [simCell, upM_same]
    refine .inr ⟨w.heap.size, cap, arr, T, _, rfl, hcap, hnew, hsz, ?_, rfl⟩
    cases fl with
    | true =>
      refine ⟨owRows_seen hv s rows _ _ (fun b hb => ?_) hq, rfl⟩
      refine hvis b hb ?_ b (by simp)
      simp only [List.mem_singleton]
      intro e
      exact hnE (e ▸ hb)
    | false => exact owRows_mono hv s rows _ _ (fun b hb => hkeep.block b (hg.lt b (.inl hb)).1 (by simp)) hq
  · simp [simV, get_put_same, isSl, isPt]

/-! ### what a struct is built of -/
theorem foldl_splice (off : Nat) : ∀ (xs : List Value) (k : Nat) (cells : Array Value), off + k + xs.length ≤ cells.size →
    ((xs.zipIdx k).foldl (fun cs (c, j) => cs.setIfInBounds (off + j) c) cells).toList = splice cells.toList (off + k) xs
  | [], k, cells, h => by simp [splice]
  | x :: xs, k, cells, h => by
    simp only [List.length_cons] at h
    simp only [List.zipIdx_cons, List.foldl_cons]
    rw [foldl_splice off xs (k + 1) _ (by simp; omega)]
    have e := list_seg_step cells.toList (off + k) x xs (by simp; omega)
    simpa [splice, Array.toList_setIfInBounds, Nat.add_assoc] using e
end
end Go.Vm
