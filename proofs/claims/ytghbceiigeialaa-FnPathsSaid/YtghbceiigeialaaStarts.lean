import Derived.Test.YtghbceiigeialaaVm4
import Derived.Test.YtghbceiigeialaaBack
namespace Go.Proofs.Ytghbceiigeialaa
set_option linter.unusedVariables false
set_option linter.unusedSimpArgs false
open Go.Vm (walkKids startsL startsOk)
open Go Go.Proofs Go.RowKit Go.Shelf
attribute [local go_sem] Oper.semAt_some
structure Nk where
  kind : Int
  op : Int
  text : ByteArray
  other : ByteArray
  kids : List Int
def NodeAt (n₀ : Nat) (W : World) (b o : Nat) (n : Nk) : Prop :=
  ∃ sv, W.cell? ⟨b, o, none⟩ = some (.int .i64 n.kind) ∧ W.cell? ⟨b, o + 1, none⟩ = some (.int .i64 n.op) ∧ W.cell? ⟨b, o + 2, none⟩ = some (.string n.text) ∧ W.cell? ⟨b, o + 3, none⟩ = some (.string n.other) ∧ W.cell? ⟨b, o + 4, none⟩ = some sv ∧ IntsAt n₀ W sv n.kids
def NodesAt (n₀ : Nat) (W : World) (sv : Value) (l : List Nk) : Prop :=
  ∃ a cap, sv = .slice a l.length cap ∧ (l ≠ [] → ∃ b off, a = some ⟨b, off, none⟩ ∧ b < n₀ ∧ ∀ i n, l[i]? = some n → NodeAt n₀ W b (off + i * 5) n)
theorem within_in (F : Fence) (n : Nat) (h5 : F.fn 22) (hro : F.round = none) (x lo hi : Int) (w : World) :
    CallsIn F n Try.prog 22 #[.int .i64 x, .int .i64 lo, .int .i64 hi] w fun e w' => e = .returned (.bool (decide (lo ≤ x) && decide (x ≤ hi))) ∧ w' = w := by
  refine callsIn_of_wp Try.func22 rfl h5 ?_ hro
  simp only [Try.ntmps22, List.size_toArray, List.length_cons, List.length_nil, Nat.reduceAdd, Nat.reduceSub, Array.replicate_succ, Array.replicate_zero, List.push_toArray, List.append_toArray, List.nil_append, List.cons_append]
  gi_wp2
  all_goals go_ret
  all_goals refine ⟨?_, rfl⟩
  · rename_i h
    rw [decide_eq_true h, Bool.true_and]
    rfl
  · rename_i h
    rw [decide_eq_false (by omega), Bool.false_and]
    rfl
def okSt (st : List Int) : Prop := ∀ (j : Nat) x, st[j]? = some x → 0 ≤ x ∧ x ≤ j
theorem okSt_get {st : List Int} (h : okSt st) (j : Nat) : 0 ≤ st[j]?.getD 0 ∧ st[j]?.getD 0 ≤ j := by
  cases hj : st[j]? with
  | none => simp
  | some x => exact h j x hj
theorem walk_range {st : List Int} (h : okSt st) : ∀ (ks : List Int) (a r : Int), -1 ≤ a → a < st.length → walkKids st ks a = some r → -1 ≤ r ∧ r < st.length
  | [], a, r, h1, h2, e => by
    rw [walkKids] at e
    cases e
    exact ⟨h1, h2⟩
  | k :: ks, a, r, h1, h2, e => by
    rw [walkKids] at e
    split at e
    · cases e
    · rename_i hc
      have hk := okSt_get h k.toNat
      exact walk_range h ks _ r (by omega) (by omega) e
theorem walk_append (st : List Int) (k : List Int) : ∀ (ks : List Int) (a : Int), walkKids st (ks ++ k) a = (walkKids st ks a).bind fun r => walkKids st k r
  | [], a => rfl
  | x :: ks, a => by
    rw [List.cons_append, walkKids, walkKids]
    split
    · rfl
    · exact walk_append st k ks _
theorem starts_append : ∀ (l l' : List (List Int)) (st : List Int), startsL st (l ++ l') = (startsL st l).bind fun s => startsL s l'
  | [], l', st => rfl
  | n :: l, l', st => by
    rw [List.cons_append, startsL, startsL]
    cases walkKids st n.reverse ((st.length : Int) - 1) with
    | none => rfl
    | some a => exact starts_append l l' _
theorem starts_len : ∀ (l : List (List Int)) (st r : List Int), startsL st l = some r → r.length = st.length + l.length
  | [], st, r, h => by
    rw [startsL] at h
    cases h
    rfl
  | n :: l, st, r, h => by
    rw [startsL] at h
    split at h
    · cases h
    · have := starts_len l _ r h
      simp at this ⊢
      omega
theorem okSt_snoc {st : List Int} (h : okSt st) {a : Int} (h1 : -1 ≤ a) (h2 : a < st.length) : okSt (st ++ [a + 1]) := by
  intro j x hj
  rw [List.getElem?_append] at hj
  split at hj
  · exact h j x hj
  · rename_i hn
    have : j - st.length = 0 := by
      cases hd : j - st.length with
      | zero => rfl
      | succ d => rw [hd] at hj; simp at hj
    rw [this] at hj
    simp at hj
    omega
theorem starts_ok : ∀ (l : List (List Int)) (st r : List Int), okSt st → startsL st l = some r → okSt r
  | [], st, r, h0, h => by
    rw [startsL] at h
    cases h
    exact h0
  | n :: l, st, r, h0, h => by
    rw [startsL] at h
    split at h
    · cases h
    · rename_i a ha
      have := walk_range h0 _ _ _ (by omega) (by omega) ha
      exact starts_ok l _ r (okSt_snoc h0 this.1 this.2) h
theorem okSt_nil : okSt [] := fun j x h => by simp at h
theorem setCell_grown (W : World) (a : Addr) (u : Value) : W.grownBy (W.setCell a u) (some a.block) :=
  ⟨rfl, rfl, rfl, by simp [World.setCell], fun k _ hk => Below.heap_setCell _ _ _ k (fun e => hk (by rw [e]))⟩
def arrOf (len : Nat) (st : List Int) : Array Value := (st.map (Value.int .i64) ++ List.replicate (len - st.length) (Value.int .i64 0)).toArray
theorem arrOf_size {len : Nat} {st : List Int} (h : st.length ≤ len) : (arrOf len st).size = len := by simp [arrOf]; omega
theorem arrOf_get {len : Nat} {st : List Int} {j : Nat} (h : j < len) : (arrOf len st)[j]? = some (.int .i64 (st[j]?.getD 0)) := by
  simp only [arrOf, List.getElem?_toArray]
  rw [List.getElem?_append]
  split
  · rename_i hj
    simp at hj
    simp [hj]
  · rename_i hj
    simp at hj
    rw [List.getElem?_replicate, if_pos (by simp; omega), List.getElem?_eq_none (by omega)]
    rfl
theorem arrOf_set {len : Nat} {st : List Int} (h : st.length < len) (x : Int) : (arrOf len st).setIfInBounds st.length (.int .i64 x) = arrOf len (st ++ [x]) := by
  apply Array.ext
  · simp [arrOf]
    omega
  · intro j h1 h2
    apply Option.some.inj
    rw [← Array.getElem?_eq_getElem, ← Array.getElem?_eq_getElem]
    have hj : j < len := by
      rw [Array.size_setIfInBounds, arrOf_size (by omega)] at h1
      exact h1
    rw [arrOf_get hj, Array.getElem?_setIfInBounds]
    split
    · rename_i e
      subst e
      rw [if_pos (by rw [arrOf_size (by omega)]; exact h)]
      simp
    · rename_i e
      rw [arrOf_get hj, List.getElem?_append]
      split
      · rfl
      · rw [List.getElem?_eq_none (by omega), List.getElem?_eq_none (by simp; omega)]
structure Boxes (w : World) (len : Nat) (st : List Int) (W : World) : Prop where
  b0 : Boxed W w.heap.size 27 (.slice none 0 0)
  b1 : Boxed W (w.heap.size + 1) 4 (.bool false)
  b2 : W.heap[w.heap.size + 2]? = some (.cells (arrOf len st) 3 (0, 0))
  b3 : Boxed W (w.heap.size + 3) 27 (.slice (some ⟨w.heap.size + 2, 0, none⟩) len len)
  bel : Below w.heap.size w W
theorem Boxes.grown {w : World} {len : Nat} {st : List Int} {A B : World} (h : Boxes w len st A) {row : Option Nat} (hg : A.grownBy B row) (hr : ∀ r, row = some r → w.heap.size + 3 < r) : Boxes w len st B := by
  have ne : ∀ k, k ≤ w.heap.size + 3 → some k ≠ row := fun k hk e => by have := hr k e.symm; omega
  refine ⟨h.b0.kept hg (ne _ (by omega)), h.b1.kept hg (ne _ (by omega)), ?_, h.b3.kept hg (ne _ (by omega)), h.bel.grown hg h.bel.size fun k e => by have := hr k e; omega⟩
  rw [hg.block _ (Array.getElem?_eq_some_iff.1 h.b2).1 (ne _ (by omega))]
  exact h.b2
theorem Boxes.alloc {w : World} {len : Nat} {st : List Int} {A : World} (h : Boxes w len st A) (o : Obj) : Boxes w len st (A.alloc o) := h.grown (World.grownBy_alloc A o none) (fun r e => by cases e)
theorem Boxes.size {w : World} {len : Nat} {st : List Int} {A : World} (h : Boxes w len st A) : w.heap.size + 3 < A.heap.size := h.b3.lt
theorem Boxes.set {w : World} {len : Nat} {st : List Int} {A : World} (h : Boxes w len st A) {b : Nat} (hb : w.heap.size + 3 < b) (u : Value) : Boxes w len st (A.setCell ⟨b, 0, none⟩ u) := h.grown (setCell_grown A _ u) (fun r e => by cases e; exact hb)
theorem Boxes.fail {w : World} {len : Nat} {st : List Int} {A : World} (h : Boxes w len st A) : Boxes w len st ((A.setCell ⟨w.heap.size, 0, none⟩ (.slice none 0 0)).setCell ⟨w.heap.size + 1, 0, none⟩ (.bool false)) := by
  refine ⟨(h.b0.set _).other (by omega) _, (h.b1.other (by omega) _).set _, ?_, (h.b3.other (by omega) _).other (by omega) _, (h.bel.setCell (p := ⟨w.heap.size, 0, none⟩) (Nat.le_refl _) _).setCell (p := ⟨w.heap.size + 1, 0, none⟩) (Nat.le_succ _) _⟩
  rw [Below.heap_setCell _ _ _ _ (by simp), Below.heap_setCell _ _ _ _ (by simp)]
  exact h.b2
theorem Boxes.push {w : World} {len : Nat} {st : List Int} {A : World} (h : Boxes w len st A) (hl : st.length < len) (x : Int) : Boxes w len (st ++ [x]) (A.setCell ⟨w.heap.size + 2, st.length, none⟩ (.int .i64 x)) := by
  have hg := setCell_grown A ⟨w.heap.size + 2, st.length, none⟩ (.int .i64 x)
  have ne : ∀ k, k ≠ w.heap.size + 2 → some k ≠ some (w.heap.size + 2) := fun k hk e => hk (Option.some.inj e)
  refine ⟨h.b0.kept hg (ne _ (by omega)), h.b1.kept hg (ne _ (by omega)), ?_, h.b3.kept hg (ne _ (by omega)), h.bel.setCell (p := ⟨w.heap.size + 2, st.length, none⟩) (Nat.le_add_right _ _) _⟩
  obtain ⟨hlt, hk⟩ := Array.getElem?_eq_some_iff.1 h.b2
  show (A.heap.modify (w.heap.size + 2) _)[w.heap.size + 2]? = _
  rw [Array.getElem?_eq_getElem (by rw [Array.size_modify]; exact hlt), Array.getElem_modify_self, hk]
  show some (Obj.cells (if (none : Option _).isSome then _ else _) _ _) = _
  rw [if_neg (by simp), arrOf_set hl]
theorem Boxes.elem {w : World} {len : Nat} {st : List Int} {A : World} (h : Boxes w len st A) {j : Nat} (hj : j < len) : A.cell? ⟨w.heap.size + 2, j, none⟩ = some (.int .i64 (st[j]?.getD 0)) := by
  simp only [World.cell?, h.b2]
  simp [arrOf_get hj]
theorem Boxes.elemF {w : World} {len : Nat} {st : List Int} {A : World} (h : Boxes w len st A) (j : Nat) : A.frozen? ⟨w.heap.size + 2, j, none⟩ = false := by
  simp [World.frozen?, h.b2]
structure Marks (n : Nat) (ms : List Nat) (W : World) : Prop where
  nd : ms.Nodup
  at_ : ∀ D, D ∈ ms → n + 3 < D ∧ W.heap[D]? = some (.deferred (some []))
theorem Marks.grown {n : Nat} {ms : List Nat} {A B : World} (h : Marks n ms A) {row : Option Nat} (hg : A.grownBy B row) (hr : ∀ r, row = some r → r ∉ ms) : Marks n ms B := by
  refine ⟨h.nd, fun D hD => ⟨(h.at_ D hD).1, ?_⟩⟩
  rw [hg.block D (Array.getElem?_eq_some_iff.1 (h.at_ D hD).2).1 (fun e => hr D e.symm hD)]
  exact (h.at_ D hD).2
theorem Marks.lt {n : Nat} {ms : List Nat} {A : World} (h : Marks n ms A) : ∀ D, D ∈ ms → D < A.heap.size := fun D hD => (Array.getElem?_eq_some_iff.1 (h.at_ D hD).2).1
theorem Marks.alloc {n : Nat} {ms : List Nat} {A : World} (h : Marks n ms A) (o : Obj) : Marks n ms (A.alloc o) := h.grown (World.grownBy_alloc A o none) (fun r e => by cases e)
theorem Marks.set {n : Nat} {ms : List Nat} {A : World} (h : Marks n ms A) (a : Addr) (u : Value) {c : Array Value} {t : TypeId} {f : Nat × Nat} (ha : A.heap[a.block]? = some (.cells c t f)) : Marks n ms (A.setCell a u) :=
  h.grown (setCell_grown A a u) (fun r e hr => by
    cases e
    have := (h.at_ _ hr).2
    rw [ha] at this
    cases this)
def markOf (D : Nat) : Deferred := { target := .collected D, args := #[] }
set_option maxRecDepth 100000 in
theorem mk_ints (n : Nat) (hn : n ≤ 400) (w : World) : (Instr.makeSlice 27 (.int .i64 (n : Int)) (.int .i64 (n : Int))).run Try.prog w = .ok (.slice (some ⟨w.heap.size, 0, none⟩) n n) (w.alloc (.cells (arrOf n []) 3)) := by
  obtain ⟨i0, hi, hz0, hz1, hz2⟩ := info_parts (P := Try.prog) (e := 3) (z := .int .i64 0) (size := 1) (bytes := 8) (by kernel_rfl)
  rw [run_makeSlice w 27 3 i0 _ Try.underlying27 hi hz0 .i64 .i64 n n (by omega) (by omega) (by rw [hz1]; simp; omega) (by rw [hz2]; omega) (by omega)]
  simp only [Int.toNat_natCast]
  rw [hz1]
  congr 3
  apply Array.ext
  · simp [size_madeCells, arrOf]
  · intro j h1 h2
    simp [madeCells, arrOf, Value.cells, Nat.mod_one]
theorem leaves_marks {F : Fence} {n : Nat} {P : Program} {fn : Func} {tmps : Array Value} {R : Ending → World → Prop} {b : Nat} (K : World → Prop) (hK : ∀ W D, K W → b + 3 < D → K (W.putObj D (.deferred none)))
    (he : ∀ W, K W → LeavesIn F n P fn tmps R [] .returning W) : ∀ (ms : List Nat) (W : World), K W → Marks b ms W → LeavesInM F n P fn tmps R (ms.map markOf) .returning W
  | [], W, k, _ => he W k
  | D :: ms, W, k, h => by
    obtain ⟨h1, h2⟩ := h.at_ D List.mem_cons_self
    refine ⟨by simp, .inl ⟨D, _, rfl, run_takeDeferred h2, ?_⟩⟩
    refine leaves_marks K hK he ms _ (hK W D k h1) ?_
    have nd := List.nodup_cons.1 h.nd
    have h' : Marks b ms W := ⟨nd.2, fun d hd => h.at_ d (List.mem_cons_of_mem _ hd)⟩
    exact h'.grown (grownBy_putObj' W D _) (fun r e => by cases e; exact nd.1)
end Go.Proofs.Ytghbceiigeialaa
